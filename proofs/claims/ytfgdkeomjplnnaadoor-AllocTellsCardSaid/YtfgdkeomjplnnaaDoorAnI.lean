/- AllocApart: no two spans that meet have one home, and so on: the walk. Condition: the table is as it is laid. -/
import Derived.Test.YtfgdkeomjplnnaaDoorAnD
import Derived.Test.YtfgdkeomjplnnaaDoorAnG
namespace Go.Proofs.YtfgdkeomjplnnaaDoor
set_option linter.unusedVariables false
open Go.RowKit
attribute [local irreducible] Blk
theorem min_lit (ats : Array TypeId) (ty : TypeId) (a d : Int) : Builtin.min_ ats ty #[.int .i64 a, .int .i64 d] = pure (.int .i64 (min a d)) := by
  rw [Int.min_def]
  have h : Builtin.min_ ats ty #[.int .i64 a, .int .i64 d] = pure (.int .i64 (if d < a then d else a)) := rfl
  rw [h]
  by_cases h1 : d < a
  · rw [if_pos h1, if_neg (by omega)]
  · rw [if_neg h1, if_pos (by omega)]
def covK (sp : List Sp) (t : Int) (k : Nat) : Nat := (sp.take k).countP (covers t)
theorem covK_succ {sp : List Sp} {t : Int} {k : Nat} (h : k < sp.length) : covK sp t (k + 1) = covK sp t k + if frS sp k ≤ t ∧ t < enI sp k then 1 else 0 := by
  have hg := List.getElem?_eq_getElem h
  obtain ⟨e1, e2⟩ := enI_get hg
  unfold covK
  rw [take_snoc' hg, List.countP_append, e1, e2]
  unfold covers
  by_cases hc : sp[k].fr ≤ t ∧ t < enS sp[k]
  · simp [hc]
  · simp [hc]
theorem covK_all (sp : List Sp) (t : Int) : covK sp t sp.length = cov sp t := by
  unfold covK cov
  rw [List.take_length]
theorem covK_le (sp : List Sp) (t : Int) (k : Nat) : covK sp t k ≤ sp.length := Nat.le_trans List.countP_le_length (by simp; omega)
/-! How often each slot was seen. -/
def cntS (hs : List Hm) (i n : Nat) : Nat := (hs.take i).countP (fun h => decide (h = ⟨true, (n : Int)⟩))
def seenL (hs : List Hm) (i sl : Nat) : List Nat := (List.range sl).map (cntS hs i)
theorem seenL_len (hs : List Hm) (i sl : Nat) : (seenL hs i sl).length = sl := by simp [seenL]
theorem seenL_get {hs : List Hm} {i sl n : Nat} (h : n < sl) : gN (seenL hs i sl) n = cntS hs i n := gN_of (by simp [seenL, h])
theorem cntS_le (hs : List Hm) (i n : Nat) : cntS hs i n ≤ hs.length := Nat.le_trans List.countP_le_length (by simp; omega)
theorem seenL_slot {hs : List Hm} {i sl m : Nat} (h : hs[i]? = some ⟨true, (m : Int)⟩) (hm : m < sl) : seenL hs (i + 1) sl = (seenL hs i sl).set m (cntS hs i m + 1) := by
  apply List.ext_getElem?
  intro n
  unfold seenL
  rw [List.getElem?_set, List.getElem?_map, List.getElem?_map]
  by_cases hn : n < sl
  · rw [List.getElem?_range hn]
    simp only [Option.map_some, List.length_map, List.length_range]
    unfold cntS
    rw [take_snoc' h, List.countP_append]
    by_cases e : m = n
    · subst e
      simp [hm]
    · have : ¬ (m : Int) = (n : Int) := by omega
      simp [e, this]
  · rw [List.getElem?_eq_none (by simp; omega)]
    by_cases e : m = n
    · omega
    · simp [e]
theorem seenL_reg {hs : List Hm} {i sl : Nat} {z : Int} (h : hs[i]? = some ⟨false, z⟩) : seenL hs (i + 1) sl = seenL hs i sl := by
  unfold seenL
  congr 1
  funext n
  unfold cntS
  rw [take_snoc' h, List.countP_append]
  simp
theorem seenL_zero (hs : List Hm) (sl : Nat) : seenL hs 0 sl = List.replicate sl 0 := by
  unfold seenL cntS
  exact List.eq_replicate_iff.2 ⟨by simp, fun b hb => by
    obtain ⟨n, _, hn⟩ := List.mem_map.1 hb
    simpa using hn.symm⟩
theorem slots_le {sp : List Sp} {hs : List Hm} {rg : Int} {sl : Nat} (ha : ApartOk sp hs rg sl) : sl ≤ hs.length := by
  have hex : ∀ n : Nat, ∃ i : Nat, n < sl → hs[i]? = some ⟨true, (n : Int)⟩ := fun n => by
    by_cases h : n < sl
    · obtain ⟨i, hi⟩ := ha.all n h
      exact ⟨i, fun _ => hi⟩
    · exact ⟨0, fun h' => absurd h' h⟩
  have hspec := fun n => Classical.choose_spec (hex n)
  generalize (fun n => Classical.choose (hex n)) = f at *
  have hf : ∀ n, n < sl → hs[Classical.choose (hex n)]? = some ⟨true, (n : Int)⟩ := fun n hn => hspec n hn
  have hnd : ((List.range sl).map (fun n => Classical.choose (hex n))).Nodup := by
    rw [List.nodup_iff_pairwise_ne, List.pairwise_map]
    refine (List.nodup_iff_pairwise_ne.1 List.nodup_range).imp_of_mem fun {a b} ha' hb' hab he => hab ?_
    have h1 := hf a (List.mem_range.1 ha')
    have h2 := hf b (List.mem_range.1 hb')
    rw [he, h2] at h1
    simp only [Option.some.injEq, Hm.mk.injEq, true_and] at h1
    omega
  have := List.Nodup.length_le_of_subset (l₂ := List.range hs.length) hnd (fun x hx => by
    obtain ⟨n, hn, rfl⟩ := List.mem_map.1 hx
    exact List.mem_range.2 (List.getElem?_eq_some_iff.1 (hf n (List.mem_range.1 hn))).1)
  simpa using this
theorem seen_one {sp : List Sp} {hs : List Hm} {rg : Int} {sl : Nat} (ha : ApartOk sp hs rg sl) {n : Nat} (hn : n < sl) : cntS hs hs.length n = 1 := by
  unfold cntS
  rw [List.take_length]
  obtain ⟨i, hi⟩ := ha.all n hn
  have hil := (List.getElem?_eq_some_iff.1 hi).1
  have hsplit : hs = hs.take i ++ (⟨true, (n : Int)⟩ :: hs.drop (i + 1)) := by
    rw [← (List.getElem?_eq_some_iff.1 hi).2]
    simp
  have h0 : ∀ l : List Hm, (∀ h ∈ l, h ≠ ⟨true, (n : Int)⟩) → l.countP (fun h => decide (h = ⟨true, (n : Int)⟩)) = 0 := fun l hl => List.countP_eq_zero.2 (fun h hh he => hl h hh (by simpa using he))
  rw [hsplit, List.countP_append, List.countP_cons, h0 _ (fun h hh e => ?_), h0 _ (fun h hh e => ?_)]
  · simp
  · obtain ⟨j, hj⟩ := List.getElem?_of_mem hh
    rw [List.getElem?_drop, e] at hj
    have := ha.uniq _ i _ hj hi
    omega
  · obtain ⟨j, hj⟩ := List.getElem?_of_mem hh
    rw [List.getElem?_take] at hj
    split at hj
    · rw [e] at hj
      have := ha.uniq _ i _ hj hi
      omega
    · cases hj
theorem apartB_ok {sp : List Sp} {hs : List Hm} {rg : Int} {sl : Nat} (ha : ApartOk sp hs rg sl) (hl : hs.length = sp.length) : apartB sp hs = true := by
  unfold apartB
  refine decide_eq_true ⟨hl.symm, fun h hh => ?_, ?_⟩
  · obtain ⟨i, hi⟩ := List.getElem?_of_mem hh
    obtain ⟨s, z⟩ := h
    have hr := ha.rg
    unfold okHm
    cases s with
    | true =>
      have := ha.isslot i z hi
      simp
      omega
    | false =>
      have := ha.isreg i z hi
      simp
      omega
  · refine List.pairwise_iff_getElem.2 fun i j hi hj hij he hm => ?_
    have hi2 : i < sp.length := by simp at hi; omega
    have hj2 : j < sp.length := by simp at hj; omega
    rw [List.getElem_zip, List.getElem_zip] at he hm
    simp only at he hm
    have := ha.apart i j hi2 hj2 (by omega) (by rw [List.getElem?_eq_getElem (by omega), List.getElem?_eq_getElem (by omega), he])
    unfold ApartAt at this
    obtain ⟨a1, a2⟩ := enI_get (List.getElem?_eq_getElem hi2)
    obtain ⟨b1, b2⟩ := enI_get (List.getElem?_eq_getElem hj2)
    rw [a1, a2, b1, b2] at this
    unfold meets at hm
    omega
set_option maxRecDepth 100000 in
set_option maxHeartbeats 6400000 in
theorem allocApart_any (w : World) (A : Option Addr) (l : List P2) (c : Nat) (hr : RepP2 w A l) (hok : ∀ x ∈ l, OkP2 x) (hll : l.length ≤ 9223372036854775807) (hT : TabAt 1 Lib.deBruijn64tab w) (hW : 1 < w.heap.size) :
    Calls Tryd.prog 6 #[.slice A l.length c] w fun e w' => e = .returned (.bool true) ∧ Below w.heap.size w w' := by
  have hspl : (spansL l).length ≤ 100 := by unfold spansL; rw [spsTo_len]; omega
  have hbd : ∀ s ∈ spansL l, 0 ≤ s.fr ∧ s.fr ≤ 255 := fun s hs => by
    obtain ⟨i, hi⟩ := List.getElem?_of_mem hs
    have hil := (List.getElem?_eq_some_iff.1 hi).1
    unfold spansL at hi hil
    rw [spsTo_len] at hil
    rw [spsTo_get hil] at hi
    have : spanAt l i = s := by simpa using hi
    subst this
    have hg := List.getElem?_eq_getElem (show i < l.length by omega)
    have := hok _ (List.mem_of_getElem? hg)
    unfold spanAt
    rw [p2At_of hg]
    exact ⟨this.1, this.2.1⟩
  have HR := Lib.hid hr
  have HOK := Lib.hid hok
  have HT := Lib.hid hT
  have HWK := Lib.hid (works_any w hT hW)
  have HBD := Lib.hid hbd
  clear hr hok hT hbd
  go_enter Tryd.func6, Tryd.ntmps6
  go_wp2_with fail
  refine HWK.out.mono ?_
  rintro e w1 ⟨rfl, hb1⟩
  have HSPL := Lib.hid (spans_law w1 A l c (HR.out.far hb1) HOK.out hll)
  have HB1 := Lib.hid hb1
  clear hb1
  go_wp2_with fail
  refine HSPL.out.mono ?_
  rintro e w2 ⟨A2, c2, rfl, hrep, hb2⟩
  generalize spansL l = sp at *
  have HB2 := Lib.hid (HB1.out.trans (hb2.mono HB1.out.size))
  have HAL := Lib.hid (Alloc_any w2 A2 sp c2 hrep (by omega) (fun s hs => by have := HBD.out s hs; omega) (tab_below HT.out hW HB2.out) (by have := HB2.out.size; omega))
  have HREP := Lib.hid hrep
  clear hb2 hrep
  go_wp2_with fail
  refine HAL.out.mono ?_
  rintro e w3 ⟨order, Bh, ho, hBh, rfl, hblk, hlen, hokh, hb3⟩
  have HAP := Lib.hid (apart_law ho)
  have HBLK := Lib.hid hblk
  have HB3 := Lib.hid (HB2.out.trans (hb3.mono HB2.out.size))
  have HREP3 := Lib.hid (HREP.out.far hb3)
  have HLEN := Lib.hid hlen
  have HSO := Lib.hid hokh
  clear ho hBh hblk hlen hokh hb3 HAL HSPL HWK HR
  generalize regsF (allocF sp order).hs = rg at *
  generalize (allocF sp order).sl = sl at *
  generalize (allocF sp order).hs = hs at *
  go_wp2_with fail
  go_loopw [7, 8] (fun mv av wr => ∃ (t : Nat), av = .int .i64 (t : Int) ∧ t ≤ 520 ∧ mv = .int .i64 ((mostTo sp t : Nat) : Int) ∧ Hid (∃ m, wr = w3.drewN m)) (fun _ av _ => 520 - (intOf av).toNat)
  case atStart => exact ⟨0, rfl, Nat.zero_le _, rfl, Lib.hid ⟨0, rfl⟩⟩
  case round =>
    obtain ⟨t, rfl, ht, rfl, HM⟩ := hrel
    obtain ⟨m, rfl⟩ := HM.out
    by_cases hlt : t < 520
    · have t1 : (t : Int) < 520 := by omega
      have t0 : (0 : Int) ≤ (t : Int) := by omega
      have g1 : decide ((t : Int) < 520) = true := decide_eq_true t1
      go_wp2_with fail
      go_loopw [9, 10] (fun nv iv wr => ∃ (i : Nat), iv = .int .i64 (i : Int) ∧ i ≤ sp.length ∧ nv = .int .i64 ((covK sp t i : Nat) : Int) ∧ Hid (∃ m, wr = w3.drewN m)) (fun _ iv _ => sp.length - (intOf iv).toNat)
      case atStart => exact ⟨0, rfl, Nat.zero_le _, rfl, Lib.hid ⟨m, rfl⟩⟩
      case round =>
        obtain ⟨i, rfl, hi, rfl, HM2⟩ := hrel
        obtain ⟨m2, rfl⟩ := HM2.out
        by_cases hil : i < sp.length
        · have i0 : (0 : Int) ≤ (i : Int) := by omega
          have i1 : (i : Int) < (sp.length : Int) := by omega
          have g2 : decide ((i : Int) < (sp.length : Int)) = true := decide_eq_true i1
          obtain ⟨b, o, rfl⟩ := HREP3.out.some hil
          obtain ⟨ci1, ci2⟩ := HREP3.out.at hil
          have hbi : 0 ≤ frS sp i ∧ frS sp i ≤ 255 := by
            have := HBD.out _ (List.getElem_mem hil)
            rwa [← (enI_get (List.getElem?_eq_getElem hil)).2] at this
          obtain ⟨b1, b2⟩ := hbi
          have hmx := fun ats ty => max_lit ats ty (tlS sp i) (frS sp i + 1)
          rw [max_en hil] at hmx
          have HCL := Lib.hid (covK_le sp t i)
          have hcl : ((covK sp t i : Nat) : Int) ≤ 1000 := by have := HCL.out; omega
          have hcl0 : (0 : Int) ≤ ((covK sp t i : Nat) : Int) := by omega
          have HCS := Lib.hid (covK_succ (t := t) hil)
          by_cases u1 : frS sp i ≤ (t : Int)
          · have v1 : decide (frS sp i ≤ (t : Int)) = true := decide_eq_true u1
            by_cases u2 : (t : Int) < enI sp i
            · have v2 : decide ((t : Int) < enI sp i) = true := decide_eq_true u2
              have HC := Lib.hid (show covK sp t (i + 1) = covK sp t i + 1 from by rw [HCS.out, if_pos ⟨u1, u2⟩])
              clear u1 u2
              go_wp2_with fail
              go_quiet (fail)
              go_wp2_with fail
              exact ⟨⟨i + 1, rfl, by omega, by rw [HC.out]; simp, Lib.hid ⟨_, rfl⟩⟩, by simp [intOf]; omega⟩
            · have v2 : decide ((t : Int) < enI sp i) = false := decide_eq_false u2
              have HC := Lib.hid (show covK sp t (i + 1) = covK sp t i + 0 from by rw [HCS.out, if_neg (fun h => u2 h.2)])
              clear u1 u2
              go_wp2_with fail
              go_quiet (fail)
              go_wp2_with fail
              exact ⟨⟨i + 1, rfl, by omega, by rw [HC.out]; rfl, Lib.hid ⟨_, rfl⟩⟩, by simp [intOf]; omega⟩
          · have v1 : decide (frS sp i ≤ (t : Int)) = false := decide_eq_false u1
            have HC := Lib.hid (show covK sp t (i + 1) = covK sp t i + 0 from by rw [HCS.out, if_neg (fun h => u1 h.1)])
            clear u1
            go_wp2_with fail
            go_quiet (fail)
            go_wp2_with fail
            exact ⟨⟨i + 1, rfl, by omega, by rw [HC.out]; rfl, Lib.hid ⟨_, rfl⟩⟩, by simp [intOf]; omega⟩
        · have hie : i = sp.length := by omega
          have g2 : decide ((i : Int) < (sp.length : Int)) = false := decide_eq_false (by omega)
          have hcv : covK sp t i = cov sp t := by rw [hie, covK_all]
          rw [hcv]
          have HMT := Lib.hid (show max (mostTo sp t) (cov sp t) = mostTo sp (t + 1) from rfl)
          obtain ⟨mx, hmx⟩ : ∃ mx : Nat, mostTo sp (t + 1) = mx := ⟨_, rfl⟩
          have hmax := fun ats ty => max_lit ats ty ((mostTo sp t : Nat) : Int) ((cov sp t : Nat) : Int)
          have e : max ((mostTo sp t : Nat) : Int) ((cov sp t : Nat) : Int) = (mx : Int) := by rw [← hmx, ← HMT.out]; omega
          rw [e] at hmax
          have HMX := Lib.hid hmx
          clear e hmx hcv hie
          go_wp2_with fail
          exact ⟨⟨t + 1, rfl, by omega, by rw [HMX.out], Lib.hid ⟨m2, rfl⟩⟩, by simp [intOf]; omega⟩
    · have hte : t = 520 := by omega
      have HMF : mostTo sp t = mostF sp := mostTo_all (fun s hs => by have := HBD.out s hs; omega)
      rw [HMF]
      have g1 : decide ((t : Int) < 520) = false := decide_eq_false (by omega)
      clear HMF hte hlt ht
      have HML := Lib.hid (mostF_le sp)
      have hm0 : (0 : Int) ≤ ((mostF sp : Nat) : Int) := by omega
      have hm1 : ((mostF sp : Nat) : Int) ≤ 100 := by have := HML.out; omega
      have HB3m := Lib.hid (below_drewN (Below.refl w3.heap.size w3) m)
      have HMO := Lib.hid (Most_any (w3.drewN m) A2 sp c2 (HREP3.out.far HB3m.out) (by omega) (fun s hs => by have := HBD.out s hs; omega))
      have hmin := fun ats ty => min_lit ats ty ((mostF sp : Nat) : Int) 6
      rw [← HAP.out.rg] at hmin
      have hs12 : ((0 < sl) = True ∧ (6 < mostF sp) = True ∧ decide ((sl : Int) > 0) = true ∧ decide (((mostF sp : Nat) : Int) > 6) = true) ∨ ((0 < sl) = False ∧ (6 < mostF sp) = False ∧ decide ((sl : Int) > 0) = false ∧ decide (((mostF sp : Nat) : Int) > 6) = false) := by
        have := HAP.out.slots
        by_cases h0 : 0 < sl
        · have h1 := this.1 h0
          exact .inl ⟨eq_true h0, eq_true h1, decide_eq_true (by omega), decide_eq_true (by omega)⟩
        · have h1 : ¬ 6 < mostF sp := fun h => h0 (this.2 h)
          exact .inr ⟨eq_false h0, eq_false h1, decide_eq_false (by omega), decide_eq_false (by omega)⟩
      have hsl : sl ≤ 100 := by have := slots_le HAP.out; rw [HLEN.out] at this; omega
      have hmk := run_mk_ints sl (by omega)
      have HSL := Lib.hid hs12
      clear hs12
      have HC := Lib.hid (fun (w4 : World) (hb : Below w3.heap.size w3 w4) => by
        have h := Apart_any w4 A2 (some ⟨Bh, 0, none⟩) sp hs c2 sp.length (HREP3.out.far hb) (RepH.of_blk (HBLK.out.below hb HBLK.out.lt)) (by omega) (by rw [HLEN.out]; omega) (fun s hs => by have := HBD.out s hs; omega) (fun h hh => WalkArith.wf_i64 (by have := HSO.out h hh; omega))
        rw [HLEN.out, apartB_ok HAP.out HLEN.out] at h
        exact h)
      have hBhl : Bh < w3.heap.size := HBLK.out.lt
      rcases HSL.out with ⟨r1, r2, s1, s2⟩ | ⟨r1, r2, s1, s2⟩
      all_goals
        go_wp2_with fail
        refine HMO.out.mono ?_
        rintro e w4 ⟨rfl, hb4⟩
        have HB4 := Lib.hid (HB3m.out.trans (hb4.mono (Nat.le_refl _)))
        clear hb4
        go_wp2_with fail
        refine (HC.out w4 HB4.out).mono ?_
        rintro e w5 ⟨rfl, hb5⟩
        have HB5 := Lib.hid (HB4.out.trans (hb5.mono HB4.out.size))
        have hz5 : w3.heap.size ≤ w5.heap.size := HB5.out.size
        clear hb5
        have HBS := Lib.hid (Blk.new w5 3 (nCells (List.replicate sl 0)).toArray)
        go_wp2_with fail
        clear hmk
        generalize hw6 : w5.alloc (.cells (nCells (List.replicate sl 0)).toArray 3) = w6 at *
        have HK6 := Lib.hid (show Keep w5 w6 (fun _ => False) from by rw [← hw6]; exact (Keep.refl _ _).alloc _)
        have hz6 : w5.heap.size < w6.heap.size := HBS.out.lt
        clear hw6
        go_loopw [12] (fun iv wr => ∃ (i : Nat), iv = .int .i64 (i : Int) ∧ i ≤ sp.length ∧ Hid (Blk wr w5.heap.size 3 (nCells (seenL hs i sl)).toArray) ∧ Hid (Keep w6 wr (fun q => q = w5.heap.size))) (fun iv _ => sp.length - (intOf iv).toNat)
        case atStart => exact ⟨0, rfl, Nat.zero_le _, Lib.hid (by rw [seenL_zero]; exact HBS.out), Lib.hid (Keep.refl _ _)⟩
        case round =>
          obtain ⟨i, rfl, hi, HSB, HK⟩ := hrel
          have HBW := Lib.hid (show Below w3.heap.size w3 wr from HB5.out.trans ((HK6.out.below (B := w3.heap.size) (by omega) (fun _ _ h => h)).trans (HK.out.below (by omega) (fun q hq => by omega))))
          by_cases hil : i < sp.length
          · have i0 : (0 : Int) ≤ (i : Int) := by omega
            have i1 : (i : Int) < (sp.length : Int) := by omega
            have gi : decide ((i : Int) < (sp.length : Int)) = true := decide_eq_true i1
            have hsome := HREP3.out.some hil
            obtain ⟨b, o, rfl⟩ := hsome
            obtain ⟨x, hx⟩ : ∃ x, hs[i]? = some x := ⟨_, List.getElem?_eq_getElem (by rw [HLEN.out]; exact hil)⟩
            have HX := Lib.hid hx
            have HBLW := Lib.hid (HBLK.out.below HBW.out hBhl)
            have HRW := Lib.hid (HREP3.out.far HBW.out)
            obtain ⟨q1, q2⟩ := hmCells_get _ _ _ hx
            obtain ⟨xs, xn⟩ := x
            have cx0 := (HBLW.out.cell (i * 2)).trans (show _ = some (Value.bool xs) by simpa using q1)
            have cx1 := (HBLW.out.cell (i * 2 + 1)).trans (show _ = some (Value.int .i64 xn) by simpa using q2)
            have hbi : 0 ≤ frS sp i ∧ frS sp i ≤ 255 := by
              have := HBD.out _ (List.getElem_mem hil)
              rwa [← (enI_get (List.getElem?_eq_getElem hil)).2] at this
            obtain ⟨bi1, bi2⟩ := hbi
            have hmi := fun ats ty => max_lit ats ty (tlS sp i) (frS sp i + 1)
            rw [max_en hil] at hmi
            clear q1 q2
            cases xs with
            | true =>
              obtain ⟨z0, z1⟩ := HAP.out.isslot i xn hx
              obtain ⟨mm, rfl⟩ : ∃ mm : Nat, xn = (mm : Int) := ⟨xn.toNat, by omega⟩
              have hmm : mm < sl := by omega
              have n0 : decide ((mm : Int) < 0) = false := decide_eq_false (by omega)
              have n1 : decide ((mm : Int) ≥ (sl : Int)) = false := decide_eq_false (by omega)
              have cs := (HSB.out.cell mm).trans (show _ = some (Value.int .i64 ((cntS hs i mm : Nat) : Int)) by rw [List.getElem?_toArray, nCells_get (by rw [seenL_len]; exact hmm), seenL_get hmm])
              have hfz := HSB.out.frozen mm
              have HCL := Lib.hid (cntS_le hs i mm)
              have hcl : ((cntS hs i mm : Nat) : Int) ≤ 1000 := by have := HCL.out; rw [HLEN.out] at this; omega
              have hcl0 : (0 : Int) ≤ ((cntS hs i mm : Nat) : Int) := by omega
              have HS2 := Lib.hid (show Blk (wr.setCell ⟨w5.heap.size, mm, none⟩ (.int .i64 (((cntS hs i mm : Nat) : Int) + 1))) w5.heap.size 3 (nCells (seenL hs (i + 1) sl)).toArray from by
                have := HSB.out.set mm (.int .i64 (((cntS hs i mm : Nat) : Int) + 1))
                rw [seenL_slot hx hmm, nCells_set]
                simpa using this)
              have HK2 := Lib.hid (HK.out.setCell ⟨w5.heap.size, mm, none⟩ (fun _ => rfl) (.int .i64 (((cntS hs i mm : Nat) : Int) + 1)))
              generalize cntS hs i mm = cn at *
              clear hx
              go_wp2_with fail
              have hVB : Blk (wr.setCell ⟨w5.heap.size, mm, none⟩ (.int .i64 ((cn : Int) + 1))) Bh 30 (hmCells hs).toArray := HBLW.out.far (by show Bh ≠ w5.heap.size; omega) _
              have hVR : RepS (wr.setCell ⟨w5.heap.size, mm, none⟩ (.int .i64 ((cn : Int) + 1))) (some ⟨b, o, none⟩) sp := HREP3.out.far (HBW.out.setCell (by show w3.heap.size ≤ w5.heap.size; omega) _)
              have HVB := Lib.hid hVB
              have HVR := Lib.hid hVR
              have ex0 := (HVB.out.cell (i * 2)).trans ((HBLW.out.cell (i * 2)).symm.trans cx0)
              have ex1 := (HVB.out.cell (i * 2 + 1)).trans ((HBLW.out.cell (i * 2 + 1)).symm.trans cx1)
              obtain ⟨ci1, ci2⟩ := HVR.out.at hil
              have HVS := HS2
              have HVK := HK2
              clear cx0 cx1 hVB hVR cs hfz n0 n1
              generalize wr.setCell ⟨w5.heap.size, mm, none⟩ (.int .i64 ((cn : Int) + 1)) = V at *
              generalize (mm : Int) = xn at *
              go_loopw [13] (fun kv wq => ∃ (k : Nat), kv = .int .i64 (k : Int) ∧ k ≤ i ∧ Hid (∃ m, wq = V.drewN m)) (fun kv _ => i - (intOf kv).toNat)
              case atStart => exact ⟨0, rfl, Nat.zero_le _, Lib.hid ⟨0, rfl⟩⟩
              case round =>
                obtain ⟨k, rfl, hk, HM4⟩ := hrel
                obtain ⟨m4, rfl⟩ := HM4.out
                by_cases hki : k < i
                · have k0 : (0 : Int) ≤ (k : Int) := by omega
                  have k1 : (k : Int) < (i : Int) := by omega
                  have k2 : (k : Int) < (sp.length : Int) := by omega
                  have gk : decide ((k : Int) < (i : Int)) = true := decide_eq_true k1
                  have hkl : k < sp.length := by omega
                  obtain ⟨y, hy⟩ : ∃ y, hs[k]? = some y := ⟨_, List.getElem?_eq_getElem (by rw [HLEN.out]; exact hkl)⟩
                  obtain ⟨p1, p2⟩ := hmCells_get _ _ _ hy
                  have cy0 := (HVB.out.cell (k * 2)).trans (show _ = some (Value.bool y.isSlot) by simpa using p1)
                  have cy1 := (HVB.out.cell (k * 2 + 1)).trans (show _ = some (Value.int .i64 y.n) by simpa using p2)
                  obtain ⟨ck1, ck2⟩ := HVR.out.at hkl
                  have hbk : 0 ≤ frS sp k ∧ frS sp k ≤ 255 := by
                    have := HBD.out _ (List.getElem_mem hkl)
                    rwa [← (enI_get (List.getElem?_eq_getElem hkl)).2] at this
                  obtain ⟨bk1, bk2⟩ := hbk
                  have hmk1 := fun ats ty => max_lit ats ty (tlS sp k) (frS sp k + 1)
                  rw [max_en hkl] at hmk1
                  obtain ⟨ys, yn⟩ := y
                  simp only at cy0 cy1
                  by_cases hE : (true = ys ∧ xn = yn)
                  · obtain ⟨rfl, rfl⟩ := hE
                    have heq := fun w => (run_home_eql w true true xn xn).trans (show _ = .ok (.bool true) w by simp)
                    have hapa := HAP.out.apart i k hil hkl (by omega) (by rw [HX.out, hy])
                    unfold ApartAt at hapa
                    by_cases a1 : frS sp i < enI sp k
                    · have v1 : decide (frS sp i < enI sp k) = true := decide_eq_true a1
                      have v2 : decide (frS sp k < enI sp i) = false := decide_eq_false (by omega)
                      clear p1 p2 hy hapa a1
                      go_wp2_with fail
                      go_quiet (fail)
                      go_wp2_with fail
                      exact ⟨⟨k + 1, rfl, by omega, Lib.hid ⟨_, rfl⟩⟩, by simp [intOf]; omega⟩
                    · have v1 : decide (frS sp i < enI sp k) = false := decide_eq_false a1
                      clear p1 p2 hy hapa a1
                      go_wp2_with fail
                      go_quiet (fail)
                      go_wp2_with fail
                      exact ⟨⟨k + 1, rfl, by omega, Lib.hid ⟨_, rfl⟩⟩, by simp [intOf]; omega⟩
                  · have heq := fun w => (run_home_eql w true ys xn yn).trans (show _ = .ok (.bool false) w by
                      congr 2
                      rw [Bool.and_eq_false_iff]
                      by_cases q : true = ys
                      · right; simp only [beq_eq_false_iff_ne, ne_eq]; exact fun h => hE ⟨q, h⟩
                      · left; simp only [beq_eq_false_iff_ne, ne_eq]; exact q)
                    clear p1 p2 hy hE
                    go_wp2_with fail
                    go_quiet (fail)
                    go_wp2_with fail
                    exact ⟨⟨k + 1, rfl, by omega, Lib.hid ⟨_, rfl⟩⟩, by simp [intOf]; omega⟩
                · have gk : decide ((k : Int) < (i : Int)) = false := decide_eq_false (by omega)
                  go_wp2_with fail
                  exact ⟨⟨i + 1, rfl, by omega, Lib.hid (HVS.out.drewN m4), Lib.hid (HVK.out.drewN m4)⟩, by simp [intOf]; omega⟩
            | false =>
              obtain ⟨z0, z1⟩ := HAP.out.isreg i xn hx
              have n0 : decide (xn < 0) = false := decide_eq_false (by omega)
              have n1 : decide (xn ≥ rg) = false := decide_eq_false (by omega)
              have HVB := HBLW
              have HVR := HRW
              have HVS := Lib.hid (show Blk wr w5.heap.size 3 (nCells (seenL hs (i + 1) sl)).toArray from by rw [seenL_reg hx]; exact HSB.out)
              have HVK := HK
              obtain ⟨ci1, ci2⟩ := HVR.out.at hil
              clear hx
              generalize wr = V at *
              go_wp2_with fail
              go_loopw [13] (fun kv wq => ∃ (k : Nat), kv = .int .i64 (k : Int) ∧ k ≤ i ∧ Hid (∃ m, wq = V.drewN m)) (fun kv _ => i - (intOf kv).toNat)
              case atStart => exact ⟨0, rfl, Nat.zero_le _, Lib.hid ⟨0, rfl⟩⟩
              case round =>
                obtain ⟨k, rfl, hk, HM4⟩ := hrel
                obtain ⟨m4, rfl⟩ := HM4.out
                by_cases hki : k < i
                · have k0 : (0 : Int) ≤ (k : Int) := by omega
                  have k1 : (k : Int) < (i : Int) := by omega
                  have k2 : (k : Int) < (sp.length : Int) := by omega
                  have gk : decide ((k : Int) < (i : Int)) = true := decide_eq_true k1
                  have hkl : k < sp.length := by omega
                  obtain ⟨y, hy⟩ : ∃ y, hs[k]? = some y := ⟨_, List.getElem?_eq_getElem (by rw [HLEN.out]; exact hkl)⟩
                  obtain ⟨p1, p2⟩ := hmCells_get _ _ _ hy
                  have cy0 := (HVB.out.cell (k * 2)).trans (show _ = some (Value.bool y.isSlot) by simpa using p1)
                  have cy1 := (HVB.out.cell (k * 2 + 1)).trans (show _ = some (Value.int .i64 y.n) by simpa using p2)
                  obtain ⟨ck1, ck2⟩ := HVR.out.at hkl
                  have hbk : 0 ≤ frS sp k ∧ frS sp k ≤ 255 := by
                    have := HBD.out _ (List.getElem_mem hkl)
                    rwa [← (enI_get (List.getElem?_eq_getElem hkl)).2] at this
                  obtain ⟨bk1, bk2⟩ := hbk
                  have hmk1 := fun ats ty => max_lit ats ty (tlS sp k) (frS sp k + 1)
                  rw [max_en hkl] at hmk1
                  obtain ⟨ys, yn⟩ := y
                  simp only at cy0 cy1
                  by_cases hE : (false = ys ∧ xn = yn)
                  · obtain ⟨rfl, rfl⟩ := hE
                    have heq := fun w => (run_home_eql w false false xn xn).trans (show _ = .ok (.bool true) w by simp)
                    have hapa := HAP.out.apart i k hil hkl (by omega) (by rw [HX.out, hy])
                    unfold ApartAt at hapa
                    by_cases a1 : frS sp i < enI sp k
                    · have v1 : decide (frS sp i < enI sp k) = true := decide_eq_true a1
                      have v2 : decide (frS sp k < enI sp i) = false := decide_eq_false (by omega)
                      clear p1 p2 hy hapa a1
                      go_wp2_with fail
                      go_quiet (fail)
                      go_wp2_with fail
                      exact ⟨⟨k + 1, rfl, by omega, Lib.hid ⟨_, rfl⟩⟩, by simp [intOf]; omega⟩
                    · have v1 : decide (frS sp i < enI sp k) = false := decide_eq_false a1
                      clear p1 p2 hy hapa a1
                      go_wp2_with fail
                      go_quiet (fail)
                      go_wp2_with fail
                      exact ⟨⟨k + 1, rfl, by omega, Lib.hid ⟨_, rfl⟩⟩, by simp [intOf]; omega⟩
                  · have heq := fun w => (run_home_eql w false ys xn yn).trans (show _ = .ok (.bool false) w by
                      congr 2
                      rw [Bool.and_eq_false_iff]
                      by_cases q : false = ys
                      · right; simp only [beq_eq_false_iff_ne, ne_eq]; exact fun h => hE ⟨q, h⟩
                      · left; simp only [beq_eq_false_iff_ne, ne_eq]; exact q)
                    clear p1 p2 hy hE
                    go_wp2_with fail
                    go_quiet (fail)
                    go_wp2_with fail
                    exact ⟨⟨k + 1, rfl, by omega, Lib.hid ⟨_, rfl⟩⟩, by simp [intOf]; omega⟩
                · have gk : decide ((k : Int) < (i : Int)) = false := decide_eq_false (by omega)
                  go_wp2_with fail
                  exact ⟨⟨i + 1, rfl, by omega, Lib.hid (HVS.out.drewN m4), Lib.hid (HVK.out.drewN m4)⟩, by simp [intOf]; omega⟩
          · have hie : i = sp.length := by omega
            subst hie
            have gi : decide ((sp.length : Int) < (sp.length : Int)) = false := decide_eq_false (by omega)
            have HSE := Lib.hid (show ∀ n, n < sl → wr.cell? ⟨w5.heap.size, n, none⟩ = some (.int .i64 1) from fun n hn => (HSB.out.cell n).trans (by
              rw [List.getElem?_toArray, nCells_get (by rw [seenL_len]; exact hn), seenL_get hn, ← HLEN.out, seen_one HAP.out hn]
              rfl))
            go_wp2_with fail
            go_loopw [14] (fun nv wq => ∃ (n : Nat), nv = .int .i64 (n : Int) ∧ n ≤ sl ∧ Hid (∃ m, wq = wr.drewN m)) (fun nv _ => sl - (intOf nv).toNat)
            case atStart => exact ⟨0, rfl, Nat.zero_le _, Lib.hid ⟨0, rfl⟩⟩
            case round =>
              obtain ⟨n, rfl, hn, HM5⟩ := hrel
              obtain ⟨m5, rfl⟩ := HM5.out
              by_cases hnl : n < sl
              · have n0 : (0 : Int) ≤ (n : Int) := by omega
                have n1 : (n : Int) < (sl : Int) := by omega
                have gn : decide ((n : Int) < (sl : Int)) = true := decide_eq_true n1
                have cn := HSE.out n hnl
                have cn2 := fun q => (show (World.drewN _ q).cell? ⟨w5.heap.size, n, none⟩ = some (.int .i64 1) from cn)
                have gz : ((1 : Int) != 1) = false := rfl
                go_wp2_with fail
                exact ⟨⟨n + 1, rfl, by omega, Lib.hid ⟨m5, rfl⟩⟩, by simp [intOf]; omega⟩
              · have gn : decide ((n : Int) < (sl : Int)) = false := decide_eq_false (by omega)
                have HF := Lib.hid (HB3.out.trans (HBW.out.mono HB3.out.size))
                go_wp2_with fail
                go_ret
                exact ⟨rfl, below_drewN HF.out m5⟩
end Go.Proofs.YtfgdkeomjplnnaaDoor

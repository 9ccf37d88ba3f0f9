/- Of spans the program and the document say the same; spans made small; what AllocTells' walk keeps. Conditions: sizes; the table is as it is laid. -/
import Derived.Test.YtfgdkeomjplnnaaDoorAnN
import Derived.Test.YtfgdkeomjplnnaaDoorLvQp
import Derived.Sort.AtCall
import Derived.Deep.RegionWith
namespace Go.Proofs.YtfgdkeomjplnnaaDoor
set_option linter.unusedVariables false
open Go.RowKit
attribute [local irreducible] Blk
set_option maxRecDepth 100000 in
set_option maxHeartbeats 6400000 in
theorem alike_any (w : World) (A Bq : Option Addr) (sp : List Sp) (hm : List Hm) (c ch : Nat) (hr : RepS w A sp) (hh : RepH w Bq hm) (hn : sp.length ≤ 1000) (hn2 : hm.length ≤ 1000) (hfr : ∀ s ∈ sp, -1000000000 ≤ s.fr ∧ s.fr ≤ 1000000000)
    (hwf : ∀ h ∈ hm, (Lit.int .i64 h.n).wf = true) (hT : TabAt 1 Lib.deBruijn64tab w) (hW : 1 < w.heap.size) :
    Calls Tryd.prog 14 #[.slice A sp.length c, .slice Bq hm.length ch] w fun e w' => e = .returned (.bool true) ∧ Below w.heap.size w w' := by
  have HR := Lib.hid hr
  have HH := Lib.hid hh
  have HF := Lib.hid hfr
  have HWF := Lib.hid hwf
  have HAL := Lib.hid (Alloc_any w A sp c hr hn hfr hT hW)
  clear hr hh hfr hwf hT
  go_enter Tryd.func14, Tryd.ntmps14
  go_wp2_with fail
  refine HAL.out.mono ?_
  rintro e w1 ⟨o1, B1, ho1, hB1, rfl, hblk1, hlen1, hok1, hb1⟩
  have HRL := Lib.hid (rAlloc_any w1 A sp c (HR.out.far hb1) hn HF.out)
  have HO1 := Lib.hid ho1
  have HB1 := Lib.hid hb1
  have HK1 := Lib.hid hblk1
  have HLEN := Lib.hid hlen1
  have HSO := Lib.hid hok1
  clear ho1 hB1 hblk1 hlen1 hok1 hb1 HAL
  go_wp2_with fail
  refine HRL.out.mono ?_
  rintro e w2 ⟨o2, B2, ho2, hB2, rfl, hblk2, hlen2, hok2, hb2⟩
  obtain rfl := ho2.unique HO1.out
  have HB2 := Lib.hid (HB1.out.trans (hb2.mono HB1.out.size))
  have HK1' := Lib.hid (HK1.out.below hb2 HK1.out.lt)
  have HK2 := Lib.hid hblk2
  clear ho2 hB2 hblk2 hlen2 hok2 hb2 HO1 HRL
  generalize regsF (allocF sp o2).hs = rg at *
  generalize (allocF sp o2).sl = sl at *
  generalize (allocF sp o2).hs = hs at *
  have HHO := Lib.hid (show Calls Tryd.prog 11 #[.slice (some ⟨B1, 0, none⟩) sp.length sp.length, .slice (some ⟨B2, 0, none⟩) sp.length sp.length] w2 fun e w' => e = .returned (.bool true) ∧ ∃ m, w' = w2.drewN m from by
    have h := Homes_any w2 (some ⟨B1, 0, none⟩) (some ⟨B2, 0, none⟩) hs hs sp.length sp.length (RepH.of_blk HK1'.out) (RepH.of_blk HK2.out) (by rw [HLEN.out]; omega) (by rw [HLEN.out]; omega)
    rw [HLEN.out] at h
    simpa using h)
  have e1 : ((rg : Int) == rg) = true := by simp
  have e2 : (((sl : Nat) : Int) == ((sl : Nat) : Int)) = true := by simp
  have HA1 := Lib.hid (fun (W : World) (hb : Below w2.heap.size w2 W) => Apart_any W A Bq sp hm c ch (HR.out.far (HB2.out.trans (hb.mono HB2.out.size))) (HH.out.far (HB2.out.trans (hb.mono HB2.out.size))) hn hn2 HF.out HWF.out)
  have HA2 := Lib.hid (fun (W : World) (hb : Below w2.heap.size w2 W) => rApart_any W A Bq sp hm c ch (HR.out.far (HB2.out.trans (hb.mono HB2.out.size))) (HH.out.far (HB2.out.trans (hb.mono HB2.out.size))) hn hn2 HF.out)
  have HA3 := Lib.hid (fun (W : World) (hb : Below w2.heap.size w2 W) => show Calls Tryd.prog 17 #[.slice A sp.length c, .slice (some ⟨B2, 0, none⟩) sp.length sp.length] W fun e w' => e = .returned (.bool (apartB sp hs)) ∧ Below W.heap.size W w' from by
    have h := Apart_any W A (some ⟨B2, 0, none⟩) sp hs c sp.length (HR.out.far (HB2.out.trans (hb.mono HB2.out.size))) (RepH.of_blk (HK2.out.below hb HK2.out.lt)) hn (by rw [HLEN.out]; omega) HF.out (fun h hh => WalkArith.wf_i64 (by have := HSO.out h hh; omega))
    rwa [HLEN.out] at h)
  have HA4 := Lib.hid (fun (W : World) (hb : Below w2.heap.size w2 W) => show Calls Tryd.prog 28 #[.slice A sp.length c, .slice (some ⟨B2, 0, none⟩) sp.length sp.length] W fun e w' => e = .returned (.bool (apartB sp hs)) ∧ Below W.heap.size W w' from by
    have h := rApart_any W A (some ⟨B2, 0, none⟩) sp hs c sp.length (HR.out.far (HB2.out.trans (hb.mono HB2.out.size))) (RepH.of_blk (HK2.out.below hb HK2.out.lt)) hn (by rw [HLEN.out]; omega) HF.out
    rwa [HLEN.out] at h)
  have HA5 := Lib.hid (fun (W : World) (hb : Below w2.heap.size w2 W) => Most_any W A sp c (HR.out.far (HB2.out.trans (hb.mono HB2.out.size))) hn HF.out)
  have HA6 := Lib.hid (fun (W : World) (hb : Below w2.heap.size w2 W) => rMost_any W A sp c (HR.out.far (HB2.out.trans (hb.mono HB2.out.size))) hn HF.out)
  generalize apartB sp hm = ab1 at *
  generalize apartB sp hs = ab2 at *
  generalize mostF sp = mo at *
  have e3 : (ab1 == ab1) = true := by simp
  have e4 : (ab2 == ab2) = true := by simp
  have e5 : (((mo : Nat) : Int) == ((mo : Nat) : Int)) = true := by simp
  clear HK1 HK1' HK2 HLEN HSO HWF
  go_wp2_with fail
  refine HHO.out.mono ?_
  rintro e w3 ⟨rfl, m3, rfl⟩
  have HC := Lib.hid (below_drewN (Below.refl w2.heap.size w2) m3)
  generalize w2.drewN m3 = w3 at *
  go_wp2_with fail
  refine (HA1.out w3 HC.out).mono ?_
  rintro e w4 ⟨rfl, hb⟩
  have HC4 := Lib.hid (HC.out.trans (hb.mono HC.out.size))
  clear hb HC
  go_wp2_with fail
  refine (HA2.out w4 HC4.out).mono ?_
  rintro e w5 ⟨rfl, hb⟩
  have HC5 := Lib.hid (HC4.out.trans (hb.mono HC4.out.size))
  clear hb HC4
  go_wp2_with fail
  refine (HA3.out w5 HC5.out).mono ?_
  rintro e w6 ⟨rfl, hb⟩
  have HC6 := Lib.hid (HC5.out.trans (hb.mono HC5.out.size))
  clear hb HC5
  go_wp2_with fail
  refine (HA4.out w6 HC6.out).mono ?_
  rintro e w7 ⟨rfl, hb⟩
  have HC7 := Lib.hid (HC6.out.trans (hb.mono HC6.out.size))
  clear hb HC6
  go_wp2_with fail
  refine (HA5.out w7 HC7.out).mono ?_
  rintro e w8 ⟨rfl, hb⟩
  have HC8 := Lib.hid (HC7.out.trans (hb.mono HC7.out.size))
  clear hb HC7
  go_wp2_with fail
  refine (HA6.out w8 HC8.out).mono ?_
  rintro e w9 ⟨rfl, hb⟩
  have HC9 := Lib.hid (HC8.out.trans (hb.mono HC8.out.size))
  clear hb HC8
  go_wp2_with fail
  go_ret
  exact ⟨rfl, HB2.out.trans (HC9.out.mono HB2.out.size)⟩
/-! Spans made small. -/
def smallS (s : Sp) : Sp := ⟨s.v, s.fr.tmod 1000000, s.till.tmod 1000000⟩
def smAt (l : List Sp) (i : Nat) : Sp := smallS ((l[i]?).getD ⟨0, 0, 0⟩)
def smallL (l : List Sp) : List Sp := spsTo (smAt l) (min l.length 100)
def Wf3 (s : Sp) : Prop := (-9223372036854775808 ≤ s.v ∧ s.v ≤ 9223372036854775807) ∧ (-9223372036854775808 ≤ s.fr ∧ s.fr ≤ 9223372036854775807) ∧ (-9223372036854775808 ≤ s.till ∧ s.till ≤ 9223372036854775807)
theorem tmod_bd (a : Int) : -999999 ≤ a.tmod 1000000 ∧ a.tmod 1000000 ≤ 999999 := by
  have h1 := Int.tmod_lt_of_pos a (b := 1000000) (by omega)
  have h2 := Int.lt_tmod_of_pos a (b := 1000000) (by omega)
  omega
set_option maxRecDepth 100000 in
set_option maxHeartbeats 3200000 in
theorem small_any (w : World) (A : Option Addr) (l : List Sp) (c : Nat) (hr : RepS w A l) (hll : l.length ≤ 9223372036854775807) :
    Calls Tryd.prog 15 #[.slice A l.length c] w (SpP w (smallL l)) := by
  have HR := Lib.hid hr
  clear hr
  obtain ⟨i0, hi0, hz0, hz1, hz2⟩ := info_parts infoSp
  have HII := Lib.hid (⟨hi0, hz0, hz1, hz2⟩ : _ ∧ _ ∧ _ ∧ _)
  clear hi0 hz0 hz1 hz2
  go_enter Tryd.func15, Tryd.ntmps15
  go_wp2_with fail
  go_loopw [3, 4] (fun o ix wr => ∃ k : Nat, k ≤ l.length ∧ k ≤ 100 ∧ ix = .int .i64 (k : Int) ∧ Hid (wr.ownsRow w.heap.size 32 3 o k (spCells (spsTo (smAt l) k))) ∧ Hid (Below w.heap.size w wr)) (fun _ ix _ => 100 - (intOf ix).toNat)
  case atStart => exact ⟨0, Nat.zero_le _, Nat.zero_le _, rfl, Lib.hid (World.ownsRow_nil _ _ _ _), Lib.hid (Below.refl _ _)⟩
  case round =>
    obtain ⟨k, hk, hk2, rfl, HO, HB⟩ := hrel
    have hbs : w.heap.size ≤ wr.heap.size := HB.out.size
    by_cases hlt : k < l.length ∧ k < 100
    · obtain ⟨x, hx⟩ : ∃ x, l[k]? = some x := ⟨l[k], List.getElem?_eq_getElem hlt.1⟩
      obtain ⟨b, o, rfl, hb, hcs⟩ := HR.out (by intro h; have := hlt.1; rw [h] at this; simp at this)
      have k0 : (0 : Int) ≤ (k : Int) := by omega
      have k1 : (k : Int) < (l.length : Int) := by omega
      have k2 : (k : Int) < 100 := by omega
      have g1 : decide ((k : Int) < (l.length : Int)) = true := decide_eq_true k1
      have g2 : decide ((k : Int) < 100) = true := decide_eq_true k2
      have cc := fun j u hu => (HB.out.cell (p := ⟨b, o + k * 3 + j, none⟩) hb).trans (hcs k x hx j u hu)
      have d0 := cc 0 (.int .i64 x.v) rfl
      have d1 := cc 1 (.int .i64 x.fr) rfl
      have d2 := cc 2 (.int .i64 x.till) rfl
      rw [Nat.add_zero] at d0
      have hbw : b < wr.heap.size := by omega
      have HT := Lib.hid (show spCells (spsTo (smAt l) (k + 1)) = spCells (spsTo (smAt l) k) ++ [.int .i64 x.v, .int .i64 (x.fr.tmod 1000000), .int .i64 (x.till.tmod 1000000)] by
        rw [spsTo_succ, spCells_append]
        unfold smAt
        rw [hx]
        rfl)
      have HBF := Lib.hid (tmod_bd x.fr)
      have HBT := Lib.hid (tmod_bd x.till)
      clear cc hcs hx hlt
      obtain ⟨xv, xf, xt⟩ := x
      simp only at *
      obtain ⟨m0, m1⟩ := HBF.out
      obtain ⟨m2, m3⟩ := HBT.out
      go_wp2_with fail
      refine wp_region_any (by kernel_rfl) ?_
      refine wpAny_take (i := 0) (v := ?_) rfl (by kernel_rfl) (by kernel_rfl) (by kernel_rfl) (fun _ _ _ h => h) (Or.inl ⟨by rfl, ?_⟩) ?_
      rotate_left
      · intro w'
        go_simp
        with_reducible rfl
      refine tail_pre (C := fun w' => ∃ m, w' = wr.drewN m) 1 19 ⟨1, rfl⟩ rfl rfl (by kernel_rfl) (by rfl) (by kernel_rfl) (by kernel_rfl) (by kernel_rfl) (by kernel_rfl) ?_
      simp only [List.take_succ_cons, List.take_zero, List.drop_succ_cons, List.drop_zero, List.getElem_toArray, List.getElem_cons_zero, Act.put, List.setIfInBounds_toArray, List.set_cons_succ, List.set_cons_zero]
      repeat (go_big_quiet_step (fail))
      refine wpQuiet_nil ?_
      rintro _ ⟨m, rfl⟩
      have HO4 := Lib.hid (show (wr.drewN m).ownsRow w.heap.size 32 3 _ k _ from HO.out)
      have HB4 := Lib.hid (below_drewN HB.out m)
      have hz4 : w.heap.size ≤ (wr.drewN m).heap.size := hbs
      generalize wr.drewN m = w4 at *
      generalize xf.tmod 1000000 = tf at *
      generalize xt.tmod 1000000 = tt at *
      obtain ⟨gg, cap, w5, hrun, hown5, hgrow, hat, hlt5⟩ := run_append_lies (P := Tryd.prog) (w4.alloc (.cells #[.int .i64 xv, .int .i64 tf, .int .i64 tt] 32)) 24 24 w.heap.size 32 i0 _ 3 24 Tryd.underlying24 HII.out.1 HII.out.2.1 HII.out.2.2.1 HII.out.2.2.2 rfl (by omega) _ k _ (HO4.out.alloc _) ⟨w4.heap.size, 0, none⟩ 1 1 [.int .i64 xv, .int .i64 tf, .int .i64 tt] (by rfl) (World.news_of_block (cs := #[.int .i64 xv, .int .i64 tf, .int .i64 tt]) (t := 32) (fr := (0, 0)) (Blk.heap (Blk.new w4 _ _))) (by simp [Value.oneCell']) (by omega) (by unfold maxLen; omega) (by omega) (by simp; omega) (w4.heap.size + 1) (by simp)
      have HG := Lib.hid hgrow
      have HO5 := Lib.hid hown5
      have hrow := Lib.hid (fun j hj => (HO4.out.lt j hj).1)
      clear hgrow hown5 hat hlt5
      simp [go_sem] at hrun
      go_wp2_with fail
      refine ⟨⟨k + 1, by omega, by omega, rfl, Lib.hid ?_, Lib.hid ((HB4.out.alloc hz4 _).grown HG.out (by simp; omega) hrow.out)⟩, by simp [intOf]; omega⟩
      rw [HT.out]
      exact HO5.out
    · have hke : k = min l.length 100 := by omega
      have HE := Lib.hid (show ∃ A2 c2, _ = Value.slice A2 (smallL l).length c2 ∧ RepS wr A2 (smallL l) from by
        have := HO.out
        rw [hke, ← spsTo_len (smAt l) (min l.length 100)] at this
        exact RepS.of_row (l := spsTo (smAt l) (min l.length 100)) (by simpa [spsTo_len] using this))
      obtain ⟨A2, c2, rfl, hrep⟩ := HE.out
      have HREP := Lib.hid hrep
      clear hrep
      by_cases h1 : k < l.length
      · have g1 : decide ((k : Int) < (l.length : Int)) = true := decide_eq_true (by omega)
        have g2 : decide ((k : Int) < 100) = false := decide_eq_false (by omega)
        go_wp2_with fail
        go_ret
        exact ⟨A2, c2, rfl, HREP.out, HB.out⟩
      · have g1 : decide ((k : Int) < (l.length : Int)) = false := decide_eq_false (by omega)
        go_wp2_with fail
        go_ret
        exact ⟨A2, c2, rfl, HREP.out, HB.out⟩
theorem step_callP {P : Program} {ops : Array Oper} {o : Oper} {a : Act} {w : World} {K : Act → World → Prop} {Q : Exit → Act → World → Prop} {E : Prop} {Pd : Ending → World → Prop}
    (hw : Region.wanted o (yielded ops a.tmps) = true) (g : FuncId) (args : Array Value) (hrun : (execOp a.eval o).run P w = .ok (.enter g args) w)
    (hc : Calls P g args w Pd) (hK : ∀ e w'', Pd e w'' → ∃ v, e = .returned v ∧ K (a.put o.dst v) w'') :
    if Region.wanted o (yielded ops a.tmps) = true then Oper.wp P o a w K Q else E := by
  rw [if_pos hw]
  unfold Oper.wp
  rw [hrun, Oper.upon_enter]
  refine hc.mono fun e w'' hh => ?_
  obtain ⟨v, rfl, h⟩ := hK e w'' hh
  exact h
def SpP2 (w : World) (sp : List Sp) (e : Ending) (w' : World) : Prop := ∃ A c, e = .returned (.slice A sp.length c) ∧ RepS w' A sp ∧ (sp.length ≤ c ∧ c ≤ maxLen) ∧ Below w.heap.size w w'
theorem of_row2 {w : World} {base : Nat} {v : Value} {l : List Sp} (h : w.ownsRow base 32 3 v l.length (spCells l)) : ∃ A c, v = .slice A l.length c ∧ RepS w A l ∧ (l.length ≤ c ∧ c ≤ maxLen) := by
  obtain ⟨A, c, rfl, hr⟩ := RepS.of_row h
  refine ⟨A, c, rfl, hr, ?_⟩
  rcases h.2 with ⟨h1, h0⟩ | ⟨g, cap, cur, h1, hb, hh, h2, h3, h4, h5⟩
  · simp only [Value.slice.injEq] at h1
    exact ⟨by omega, by rw [h1.2.2]; exact Nat.zero_le _⟩
  · simp only [Value.slice.injEq] at h1
    rw [h1.2.2]
    exact ⟨h2, h3⟩
set_option maxRecDepth 100000 in
set_option maxHeartbeats 3200000 in
theorem spans_law2 (w : World) (A : Option Addr) (l : List P2) (c : Nat) (hr : RepP2 w A l) (hok : ∀ x ∈ l, OkP2 x) (hll : l.length ≤ 9223372036854775807) :
    Calls Tryd.prog 9 #[.slice A l.length c] w (SpP2 w (spansL l)) := by
  have HR := Lib.hid hr
  have HOK := Lib.hid hok
  clear hr hok
  obtain ⟨i0, hi0, hz0, hz1, hz2⟩ := info_parts infoSp
  have HII := Lib.hid (⟨hi0, hz0, hz1, hz2⟩ : _ ∧ _ ∧ _ ∧ _)
  clear hi0 hz0 hz1 hz2
  go_enter Tryd.func9, Tryd.ntmps9
  go_wp2_with fail
  go_loopw [3, 4] (fun o ix wr => ∃ k : Nat, k ≤ l.length ∧ k ≤ 100 ∧ ix = .int .i64 (k : Int) ∧ wr.ownsRow w.heap.size 32 3 o k (spCells (spsTo (spanAt l) k)) ∧ Below w.heap.size w wr) (fun _ ix _ => 100 - (intOf ix).toNat)
  case atStart => exact ⟨0, Nat.zero_le _, Nat.zero_le _, rfl, World.ownsRow_nil _ _ _ _, Below.refl _ _⟩
  case round =>
    obtain ⟨k, hk, hk2, rfl, hown, hbr⟩ := hrel
    have hbs := hbr.size
    by_cases hlt : k < l.length
    · by_cases hlt2 : k < 100
      · obtain ⟨x, hx⟩ : ∃ x, l[k]? = some x := ⟨l[k], List.getElem?_eq_getElem hlt⟩
        obtain ⟨b, o, rfl, hb, hcs⟩ := HR.out (by intro h; rw [h] at hlt; simp at hlt)
        have k0 : (0 : Int) ≤ (k : Int) := by omega
        have k1 : (k : Int) < (l.length : Int) := by omega
        have k2 : (k : Int) < 100 := by omega
        have g1 : decide ((k : Int) < (l.length : Int)) = true := decide_eq_true k1
        have g2 : decide ((k : Int) < 100) = true := decide_eq_true k2
        have cc := fun j u hu => (hbr.cell (p := ⟨b, o + k * 2 + j, none⟩) hb).trans (hcs k x hx j u hu)
        have d0 := cc 0 (.int .u8 x.a) rfl
        have d1 := cc 1 (.int .u8 x.b) rfl
        rw [Nat.add_zero] at d0
        have hbw : b < wr.heap.size := by omega
        obtain ⟨o0, o1, o2, o3⟩ := HOK.out x (List.mem_of_getElem? hx)
        have HT := Lib.hid (show spCells (spsTo (spanAt l) (k + 1)) = spCells (spsTo (spanAt l) k) ++ [.int .i64 (k : Int), .int .i64 x.a, .int .i64 (x.a + x.b)] by
          rw [spsTo_succ, spCells_append]
          unfold spanAt
          rw [p2At_of hx]
          rfl)
        clear cc hcs hx
        obtain ⟨xa, xb⟩ := x
        simp only at *
        obtain ⟨gg, cap, w3, hrun, hown3, hgrow, hat, hlt3⟩ := run_append_lies (P := Tryd.prog) (wr.alloc (.cells #[.int .i64 (k : Int), .int .i64 xa, .int .i64 (xa + xb)] 32)) 24 24 w.heap.size 32 i0 _ 3 24 Tryd.underlying24 HII.out.1 HII.out.2.1 HII.out.2.2.1 HII.out.2.2.2 rfl (by omega) _ k _ (hown.alloc _) ⟨wr.heap.size, 0, none⟩ 1 1 [.int .i64 (k : Int), .int .i64 xa, .int .i64 (xa + xb)] (by rfl) (World.news_of_block (cs := #[.int .i64 (k : Int), .int .i64 xa, .int .i64 (xa + xb)]) (t := 32) (fr := (0, 0)) (Blk.heap (Blk.new wr _ _))) (by simp [Value.oneCell']) (by omega) (by unfold maxLen; omega) (by omega) (by simp; omega) (wr.heap.size + 1) (by simp)
        have HG := Lib.hid hgrow
        have HO3 := Lib.hid hown3
        clear hgrow hown3 hat hlt3
        simp [go_sem] at hrun
        go_wp2_with fail
        have hrow := fun j hj => (hown.lt j hj).1
        refine ⟨⟨k + 1, by omega, by omega, rfl, ?_, (hbr.alloc (by omega) _).grown HG.out (by simp; omega) hrow⟩, by simp [intOf]; omega⟩
        rw [HT.out]
        exact HO3.out
      · have g1 : decide ((k : Int) < (l.length : Int)) = true := decide_eq_true (by omega)
        have g2 : decide ((k : Int) < 100) = false := decide_eq_false (by omega)
        have hke : k = min l.length 100 := by omega
        go_wp2_with fail
        go_ret
        rw [hke, ← spsTo_len (spanAt l) (min l.length 100)] at hown
        obtain ⟨A2, c2, rfl, hrep, hcap⟩ := of_row2 (l := spsTo (spanAt l) (min l.length 100)) (by simpa [spsTo_len] using hown)
        exact ⟨A2, c2, rfl, hrep, hcap, hbr⟩
    · have g1 : decide ((k : Int) < (l.length : Int)) = false := decide_eq_false (by omega)
      have hke : k = min l.length 100 := by omega
      go_wp2_with fail
      go_ret
      rw [hke] at hown
      obtain ⟨A2, c2, rfl, hrep, hcap⟩ := of_row2 (l := spsTo (spanAt l) (min l.length 100)) (by simpa [spsTo_len] using hown)
      exact ⟨A2, c2, rfl, hrep, hcap, hbr⟩
theorem RepS.cut {w : World} {A : Option Addr} {l : List Sp} (h : RepS w A l) (n : Nat) : RepS w A (l.take n) := fun hne => by
  obtain ⟨b, o, hA, hl, hall⟩ := h (fun e => hne (by rw [e]; simp))
  exact ⟨b, o, hA, hl, fun k x hx => hall k x (by
    rw [List.getElem?_take] at hx
    split at hx
    · exact hx
    · cases hx)⟩
/-- What the last region keeps. -/
structure TW (w W : World) (A0 A2 Ah : Option Addr) (Bh : Nat) (raw sp : List Sp) (hb hc : List Hm) : Prop where
  r : RepS W A0 raw
  s : RepS W A2 sp
  b : Blk W Bh 30 (hmCells hb).toArray
  h : RepH W Ah hc
  bel : Below w.heap.size w W
theorem TW.far {w W W' : World} {A0 A2 Ah : Option Addr} {Bh : Nat} {raw sp : List Sp} {hb hc : List Hm} (h : TW w W A0 A2 Ah Bh raw sp hb hc) (hbl : Below W.heap.size W W') : TW w W' A0 A2 Ah Bh raw sp hb hc :=
  ⟨h.r.far hbl, h.s.far hbl, h.b.below hbl h.b.lt, h.h.far hbl, h.bel.trans (hbl.mono h.bel.size)⟩
end Go.Proofs.YtfgdkeomjplnnaaDoor

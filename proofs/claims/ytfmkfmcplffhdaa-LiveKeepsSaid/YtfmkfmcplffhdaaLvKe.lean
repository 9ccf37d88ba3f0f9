/- ploverlaw19.LiveKeeps returns true. Conditions: the bytes are bytes. -/
import Derived.Test.YtfmkfmcplffhdaaLvOu
import Derived.Test.YtfmkfmcplffhdaaLvNa
namespace Go.Proofs.Ytfmkfmcplffhdaa
set_option linter.unusedVariables false
open Go.RowKit
attribute [local irreducible] Blk
/-- A slice of 32-bit numbers. -/
def Nums (w : World) (A : Option Addr) (l : List Int) : Prop :=
  l ≠ [] → ∃ b o, A = some ⟨b, o, none⟩ ∧ b < w.heap.size ∧ ∀ k x, l[k]? = some x → w.cell? ⟨b, o + k, none⟩ = some (.int .i32 x)
theorem Nums.far {w w' : World} {A : Option Addr} {l : List Int} (h : Nums w A l) (hb : Below w.heap.size w w') : Nums w' A l := fun hne => by
  obtain ⟨b, o, hA, hl, hall⟩ := h hne
  exact ⟨b, o, hA, Nat.lt_of_lt_of_le hl hb.size, fun k x hx => (hb.cell (p := ⟨b, _, none⟩) hl).trans (hall k x hx)⟩
theorem Nums.of_own {w : World} {base : Nat} {v : Value} {l : List Int} (h : w.ownsRow base 21 1 v l.length (l.map i32V)) : ∃ A c, v = .slice A l.length c ∧ Nums w A l := by
  rcases h.2 with ⟨rfl, h0⟩ | ⟨g, cap, cs, rfl, hb, hh, h1, h2, h3, h4⟩
  · have e : l = [] := List.length_eq_zero_iff.1 h0
    subst e
    exact ⟨none, 0, rfl, fun h => absurd rfl h⟩
  · refine ⟨some ⟨g, 0, none⟩, cap, rfl, fun hne => ⟨g, 0, rfl, (h.lt g (by rfl)).2, fun k x hx => ?_⟩⟩
    rw [Nat.zero_add, cell_of_row w g k cs _ _ hh]
    have hk := (List.getElem?_eq_some_iff.1 hx).1
    have h5 : (cs.toList.take (l.length * 1))[k]? = some (i32V x) := by rw [h4]; simp [hx]
    rw [List.getElem?_take_of_lt (by omega)] at h5
    simpa [i32V] using h5
theorem outs_len (pl : Int → Int) (first : Int) (l : List I9) : (outsL pl first l).length ≤ l.length := by
  have key : ∀ p, p ≤ l.length → (outsTo pl first l p).out.length ≤ p := fun p => by
    induction p with
    | zero => exact fun _ => Nat.zero_le _
    | succ p ih =>
      intro hp
      have h1 := ih (by omega)
      have hx : l[p]? = some l[p] := List.getElem?_eq_getElem (by omega)
      rw [outsTo_succ hx]
      unfold outStep
      split
      · exact Nat.le_succ_of_le h1
      split
      · exact Nat.le_succ_of_le h1
      split
      · exact Nat.le_succ_of_le h1
      split
      · simp only [List.length_append, List.length_cons, List.length_nil]
        omega
      · exact Nat.le_succ_of_le h1
  exact key l.length (Nat.le_refl _)
def KeepP (w : World) (e : Ending) (w' : World) : Prop := e = .returned (.bool true) ∧ Below w.heap.size w w'
set_option maxRecDepth 100000 in
set_option maxHeartbeats 6400000 in
theorem keeps_any (w : World) (A : Option Addr) (s : List StepD) (cp : Nat) (first : Int) (hf : (Lit.int .i32 first).wf = true) (hA : RepSt w A s) (hok : OkSt s) (hl : s.length ≤ 9223372036854775807) (hsm : (madeS s).l.length ≤ 1000 ∧ (madeS s).lo.length ≤ 100) :
    Calls Try.prog 4 #[.slice A s.length cp, .int .i32 first] w (KeepP w) := by
  have HM := Lib.hid (show ∀ W, RepSt W A s → Calls Try.prog 19 #[.slice A s.length cp] W (MadeP W (madeS s)) from fun W h => made_any W A s cp h hok hl)
  have HA := Lib.hid hA
  obtain ⟨hl1, hl2⟩ := hsm
  have hg := good_made s
  have hF := spanF hg
  have hSm := sm_made s
  have hwf := wf_made s
  have hops := ops_made s
  have HSP := Lib.hid (show ∀ W A c B c2, RepI W A (madeS s).l → RepLo W B (madeS s).lo → Calls Try.prog 16 #[.slice A (madeS s).l.length c, .slice B (madeS s).lo.length c2, .int .i64 2] W (SpansP W (spansL (madeS s).l (madeS s).lo 2)) from
    fun W A c B c2 h1 h2 => Spans_any W A (madeS s).l c B (madeS s).lo c2 2 (by omega) (by omega) h1 h2 hwf (fun x hx => by have := hg.frs x hx; omega))
  have hspl : (spansL (madeS s).l (madeS s).lo 2).length ≤ 10000 := spans_len s hl1 hl2
  have HSV := Lib.hid (show ∀ x ∈ spansL (madeS s).l (madeS s).lo 2, 0 ≤ x.v ∧ x.v ≤ 1000 ∧ -100000 ≤ x.fr ∧ x.fr ≤ 100000 ∧ -100000 ≤ x.till ∧ x.till ≤ 100000 from fun x hx => by
    have h1 := span_small s hl2 hx
    have h2 := hF.bounds x hx
    omega)
  have hsame := outs_same hF (h := hAt (homesL (spansL (madeS s).l (madeS s).lo 2))) (homes_law hF.sorted) hSm hops first
  have HHO := Lib.hid (show ∀ W A c, RepSp W A (spansL (madeS s).l (madeS s).lo 2) → Calls Try.prog 20 #[.slice A (spansL (madeS s).l (madeS s).lo 2).length c] W (HomesP W (spansL (madeS s).l (madeS s).lo 2)) from fun W A c h => homes_any W A _ c h hspl HSV.out)
  have hbd : ∀ n, 0 ≤ hAt (homesL (spansL (madeS s).l (madeS s).lo 2)) n ∧ hAt (homesL (spansL (madeS s).l (madeS s).lo 2)) n ≤ 100000 := fun n => by
    have := homes_bd (spansL (madeS s).l (madeS s).lo 2) (spansL (madeS s).l (madeS s).lo 2).length n
    unfold homesL
    omega
  have HO1 := Lib.hid (show ∀ W A c, RepI W A (madeS s).l → Calls Try.prog 21 #[.slice A (madeS s).l.length c, .map none, .int .i32 first] W (OutP W (outsL id first (madeS s).l)) from fun W A c h => outs_any W A (madeS s).l c (.map none) id first h (.inl ⟨rfl, rfl⟩) hl1 hSm (fun n h0 h1 => ⟨h0, by simp; omega⟩) hops hf)
  have HO2 := Lib.hid (show ∀ W A c b, RepI W A (madeS s).l → MapX W b (mapA iV (homesL (spansL (madeS s).l (madeS s).lo 2))) → Calls Try.prog 21 #[.slice A (madeS s).l.length c, .map (some b), .int .i32 first] W (OutP W (outsL id first (madeS s).l)) from fun W A c b h h2 => by
    have h3 := outs_any W A (madeS s).l c (.map (some b)) (hAt (homesL (spansL (madeS s).l (madeS s).lo 2))) first h (.inr ⟨b, _, rfl, h2, rfl, h2.lt⟩) hl1 hSm (fun n _ _ => hbd n) hops hf
    rwa [← hsame] at h3)
  have hol := outs_len id first (madeS s).l
  clear hA hok hg hF hSm hwf hops hsame hbd
  generalize outsL id first (madeS s).l = out at *
  generalize spansL (madeS s).l (madeS s).lo 2 = sp at *
  generalize madeS s = c at *
  go_enter Try.func4, Try.ntmps4
  go_wp2_with (first
    | (go_at_call 18; refine (works_any _).mono ?_; rintro e w1 ⟨rfl, hb1⟩)
    | (go_at_call 19; refine (HM.out _ (HA.out.far hb1)).mono ?_; rintro e w2 ⟨C, lv, xv, ov, rfl, hc, hC, hb2⟩))
  obtain ⟨A2, c2, rfl, hI2⟩ := RepI.of_own hc.l
  obtain ⟨B2, d2, rfl, hX2⟩ := RepLo.of_own hc.lo
  have b0 := hc.blk.cell 0
  have b1 := hc.blk.cell 1
  have hCl := hc.blk.lt
  simp at b0 b1
  have HBLK := Lib.hid hc.blk
  have HI2 := Lib.hid hI2
  have HX2 := Lib.hid hX2
  have HB2 := Lib.hid (btw hb1 hb2)
  clear hI2 hX2 hc
  go_region_held3 (fun w' => w'.cell? ⟨C, 0, none⟩ = some (.slice A2 c.l.length c2) ∧ w'.cell? ⟨C, 1, none⟩ = some (.slice B2 c.lo.length d2))
    (first
      | (go_keep; done)
      | (refine ⟨(hb3.cell (p := ⟨C, 0, none⟩) (by simp; omega)).trans ?_, (hb3.cell (p := ⟨C, 1, none⟩) (by simp; omega)).trans ?_⟩ <;> assumption))
    (first
      | (go_at_call 16; refine (HSP.out _ _ _ _ _ ?_ ?_).mono ?_; (focus (exact HI2.out.far (by first | exact Below.refl _ _ | exact (Below.refl _ _).drew))); (focus (exact HX2.out.far (by first | exact Below.refl _ _ | exact (Below.refl _ _).drew))); rintro e w3 ⟨v3, rfl, hown3, hb3⟩; obtain ⟨A3, c3, rfl, hS3⟩ := RepSp.of_own hown3))
  have hb3' : Below w2.heap.size w2 w3 := by first | exact hb3 | exact (Below.refl _ _).drew.trans hb3
  have HI3 := Lib.hid (HI2.out.far hb3')
  have HBL3 := Lib.hid (HBLK.out.below hb3' hCl)
  have HS3 := Lib.hid hS3
  have HB3 := Lib.hid (btw HB2.out hb3')
  clear hb1 hb2 hb3 hb3' hown3 hS3 b0 b1 hC HB2 HI2 HX2 HBLK hCl
  go_wp2_with (first
    | (go_at_call 20; refine (HHO.out _ _ _ HS3.out).mono ?_; rintro e w4 ⟨b4, rfl, hM4, hbl4, hb4⟩; have HI4 := Lib.hid (HI3.out.far hb4); have HBL4 := Lib.hid (HBL3.out.below hb4 HBL3.out.lt); have HB4 := Lib.hid (btw HB3.out hb4); have HM4 := Lib.hid hM4; clear hM4 hb4))
  have b0 := HBL4.out.cell 0
  simp at b0
  have hC4 := HBL4.out.lt
  have hM4l := HM4.out.lt
  go_region_held3 (fun w' => w'.cell? ⟨C, 0, none⟩ = some (.slice A2 c.l.length c2))
    (first
      | (go_keep; done)
      | (refine (hb5.cell (p := ⟨C, 0, none⟩) (by simp; omega)).trans ?_ <;> assumption)
      | exact (hb6.cell (p := ⟨C, 0, none⟩) hC5).trans f0)
    (first
      | (go_at_call 21; ((with_reducible refine (HO1.out _ _ _ ?_).mono ?_); (focus (exact HI4.out.far (by first | exact Below.refl _ _ | exact (Below.refl _ _).drew))); rintro e w5 ⟨v5, rfl, hown5, hb5⟩; obtain ⟨A5, c5, rfl, hN5⟩ := Nums.of_own hown5; have hb5' : Below w4.heap.size w4 w5 := (by first | exact hb5 | exact (Below.refl _ _).drew.trans hb5); have hs5 := hb5'.size; have hC5 : C < w5.heap.size := (by omega); have f0 := (hb5'.cell (p := ⟨C, 0, none⟩) hC4).trans b0; have HI5 := Lib.hid (HI4.out.far hb5'); have HM5 := Lib.hid (HM4.out.below hb5' hM4l)))
      | (go_at_call 21; (with_reducible refine (HO2.out _ _ _ _ ?_ ?_).mono ?_); (focus (exact HI5.out.far (by first | exact Below.refl _ _ | exact (Below.refl _ _).drew))); (focus (first | exact HM5.out | exact HM5.out.drew)); rintro e w6 ⟨v6, rfl, hown6, hb6⟩; obtain ⟨A6, c6, rfl, hN6⟩ := Nums.of_own hown6))
  have hb6' : Below w5.heap.size w5 w6 := by first | exact hb6 | exact (Below.refl _ _).drew.trans hb6
  have HN5 := Lib.hid (hN5.far hb6')
  have HN6 := Lib.hid hN6
  have HB6 := Lib.hid (btw HB4.out (btw hb5' hb6'))
  clear hb5 hb5' hb6 hb6' hN5 hN6 hown5 hown6 HI5 HM5 f0 b0 HI4 HM4 HBL4 HB4 hC4 hM4l hs5 hC5 HI3 HBL3 HB3 HS3 hbl4
  go_wp2_with fail
  go_loopw [10] (fun ix wx => ∃ j : Nat, j ≤ out.length ∧ ix = .int .i64 (j : Int) ∧ Below w6.heap.size w6 wx) (fun ix _ => out.length - (intOf ix).toNat)
  case atStart => exact ⟨0, Nat.zero_le _, rfl, Below.refl _ _⟩
  case round =>
    obtain ⟨j, hj, rfl, hbx⟩ := hrel
    have hsx := hbx.size
    by_cases hlj : j < out.length
    · obtain ⟨y, hy⟩ : ∃ y, out[j]? = some y := ⟨out[j], List.getElem?_eq_getElem hlj⟩
      obtain ⟨g5, o5, rfl, hg5, ha5⟩ := HN5.out (by intro h; rw [h] at hlj; simp at hlj)
      obtain ⟨g6, o6, rfl, hg6, ha6⟩ := HN6.out (by intro h; rw [h] at hlj; simp at hlj)
      have e5 := (hbx.cell (p := ⟨g5, o5 + j, none⟩) hg5).trans (ha5 j y hy)
      have e6 := (hbx.cell (p := ⟨g6, o6 + j, none⟩) hg6).trans (ha6 j y hy)
      have j0 : (0 : Int) ≤ (j : Int) := by omega
      have j1 : (j : Int) < (out.length : Int) := by omega
      have HBX := Lib.hid hbx
      clear ha5 ha6 hy hbx
      go_upto_region 12 with fail
      go_quiet (fail)
      go_wp2_with fail
      refine ⟨⟨j + 1, by omega, rfl, drewN_b HBX.out nq⟩, by simp [intOf]; omega⟩
    · have j1 : ¬ ((j : Int) < (out.length : Int)) := by omega
      go_wp2_with fail
      go_ret
      exact ⟨rfl, btw HB6.out hbx⟩
end Go.Proofs.Ytfmkfmcplffhdaa

/- ploverlaw19.LiveHolds returns true. Conditions: the bytes are bytes. -/
import Derived.Test.YtfmkfmcplffhdaaLvBa
import Derived.Deep.RegionHeld3
namespace Go.Proofs.Ytfmkfmcplffhdaa
set_option linter.unusedVariables false
open Go.RowKit
attribute [local irreducible] Blk

theorem steps_small (s : List StepD) : (madeS s).l.length ≤ 1000 ∧ (madeS s).lo.length ≤ 100 := by
  have h := fit_steps s (manyTo s (madeN s)) (madeN s)
  have hn : madeN s ≤ 20 := Nat.min_le_right _ _
  have h1 := h.l
  have h2 := h.lo
  refine ⟨by show (madeM s).c.l.length ≤ 1000; unfold madeM; omega, ?_⟩
  show (shutTo (madeM s).c.lo (madeM s).c.opn (madeN s : Int) (madeM s).c.opn.length).length ≤ 100
  rw [shutTo_length]
  unfold madeM
  omega
theorem wf_small {v : Int} (h0 : 0 ≤ v) (h1 : v ≤ 100000) : (Lit.int .i64 v).wf = true := by
  have e : IntKind.i64.min = -9223372036854775808 := by decide
  simp [Lit.wf]
  omega
theorem field1 (a b c : Int) (W : World) : (Instr.field 54 (.agg #[.int .i64 a, .int .i64 b, .int .i64 c]) 1).run Try.prog W = .ok (.int .i64 b) W := by kernel_rfl
theorem field2 (a b c : Int) (W : World) : (Instr.field 54 (.agg #[.int .i64 a, .int .i64 b, .int .i64 c]) 2).run Try.prog W = .ok (.int .i64 c) W := by kernel_rfl
def HoldP (w : World) (e : Ending) (w' : World) : Prop := e = .returned (.bool true) ∧ Below w.heap.size w w'
set_option maxRecDepth 100000 in
set_option maxHeartbeats 6400000 in
theorem holds_any (w : World) (A : Option Addr) (s : List StepD) (cp : Nat) (hA : RepSt w A s) (hok : OkSt s) (hl : s.length ≤ 9223372036854775807) (hwf : ∀ i ∈ (madeS s).l, WfI i) :
    Calls Try.prog 5 #[.slice A s.length cp] w (HoldP w) := by
  have hmm := @run_makeMap Try.prog
  have HM := Lib.hid (show ∀ W, RepSt W A s → Calls Try.prog 19 #[.slice A s.length cp] W (MadeP W (madeS s)) from fun W h => made_any W A s cp h hok hl)
  have HA := Lib.hid hA
  obtain ⟨hl1, hl2⟩ := steps_small s
  have hg := good_made s
  have hF := spanF hg
  have HSP := Lib.hid (show ∀ W A c B c2, RepI W A (madeS s).l → RepLo W B (madeS s).lo → Calls Try.prog 16 #[.slice A (madeS s).l.length c, .slice B (madeS s).lo.length c2, .int .i64 2] W (SpansP W (spansL (madeS s).l (madeS s).lo 2)) from
    fun W A c B c2 h1 h2 => Spans_any W A (madeS s).l c B (madeS s).lo c2 2 (by omega) (by omega) h1 h2 hwf (fun x hx => by have := hg.frs x hx; omega))
  have hspl : (spansL (madeS s).l (madeS s).lo 2).length ≤ 10000 := by
    have h1 := know_len (madeS s).lo.length (touchL (madeS s).l) []
    have h2 := touchFrom_len 0 (madeS s).l
    unfold spansL
    rw [List.length_append, localsL_len]
    unfold tempsL keysL
    rw [List.length_map]
    have h3 : ((List.map (fun x => x.1) (knownL (madeS s).lo.length (madeS s).l)).mergeSort (fun x y => decide (x ≤ y))).length = (knownL (madeS s).lo.length (madeS s).l).length := by simp
    rw [h3]
    show _ + ((touchL (madeS s).l).foldl (knowStep _) []).length ≤ _
    unfold touchL at h1 ⊢
    simp only [List.length_nil] at h1
    omega
  have HF := Lib.hid hF
  have HW := Lib.hid (show ∀ x ∈ spansL (madeS s).l (madeS s).lo 2, (Lit.int .i64 x.v).wf = true from fun x hx => by
    rcases in_spans hx with ⟨v, v0, vl, rfl⟩ | ⟨v, hv, ⟨t, ht, htv⟩, rfl⟩
    · rw [localL_v]
      exact wf_small v0 (by omega)
    · show (Lit.int .i64 v).wf = true
      rw [← htv]
      exact touch_wf hwf ht)
  clear hA hok hg hF hwf
  generalize spansL (madeS s).l (madeS s).lo 2 = sp at *
  generalize madeS s = c at *
  go_enter Try.func5, Try.ntmps5
  go_wp2_with (first
    | (go_at_call 18; refine (works_any _).mono ?_; rintro e w1 ⟨rfl, hb1⟩)
    | (go_at_call 19; refine (HM.out _ (HA.out.far hb1)).mono ?_; rintro e w2 ⟨C, lv, xv, ov, rfl, hc, hC, hb2⟩))
  obtain ⟨A2, c2, rfl, hI2⟩ := RepI.of_own hc.l
  obtain ⟨B2, d2, rfl, hX2⟩ := RepLo.of_own hc.lo
  have b0 := hc.blk.cell 0
  have b1 := hc.blk.cell 1
  have hCl := hc.blk.lt
  simp at b0 b1
  have HBLK := Lib.hid hc.blk
  have HI2 := Lib.hid hI2
  have HX2 := Lib.hid hX2
  have HB2 := Lib.hid (btw hb1 hb2)
  clear hI2 hX2 hc
  go_region_held3 (fun w' => w'.cell? ⟨C, 0, none⟩ = some (.slice A2 c.l.length c2) ∧ w'.cell? ⟨C, 1, none⟩ = some (.slice B2 c.lo.length d2))
    (first
      | (go_keep; done)
      | (refine ⟨(hb3.cell (p := ⟨C, 0, none⟩) (by simp; omega)).trans ?_, (hb3.cell (p := ⟨C, 1, none⟩) (by simp; omega)).trans ?_⟩ <;> assumption))
    (first
      | (go_at_call 16; refine (HSP.out _ _ _ _ _ ?_ ?_).mono ?_; (focus (exact HI2.out.far (by first | exact Below.refl _ _ | exact (Below.refl _ _).drew))); (focus (exact HX2.out.far (by first | exact Below.refl _ _ | exact (Below.refl _ _).drew))); rintro e w3 ⟨v3, rfl, hown3, hb3⟩; obtain ⟨A3, c3, rfl, hS3⟩ := RepSp.of_own hown3))
  have hb3' : Below w2.heap.size w2 w3 := by first | exact hb3 | exact (Below.refl _ _).drew.trans hb3
  have hBw := btw HB2.out hb3'
  have hI4 := HI2.out.far (hb3'.trans ((Below.refl w2.heap.size w3).alloc hb3'.size (.map #[] 0)))
  have hX4 := HX2.out.far (hb3'.trans ((Below.refl w2.heap.size w3).alloc hb3'.size (.map #[] 0)))
  have hC4 := (HBLK.out.below hb3' hCl).alloc (.map #[] 0)
  have hS4 := hS3.far ((Below.refl w3.heap.size w3).alloc (Nat.le_refl _) (.map #[] 0))
  have hB4 := baw hBw (.map #[] 0)
  have hM4 : MapX (w3.alloc (.map #[] 0)) w3.heap.size [] := MapX.made rfl
  have hM4l := hM4.lt
  have hwM : w.heap.size ≤ w3.heap.size := hBw.size
  clear hS3 hown3 hb3 hb3' hBw hb1 hb2 HB2 HI2 HX2 HBLK b0 b1 hCl hC
  go_wp2_with fail
  generalize w3.alloc (.map #[] 0) = W4 at *
  generalize w3.heap.size = M at *
  have HI4 := Lib.hid hI4
  have HX4 := Lib.hid hX4
  have HC4 := Lib.hid hC4
  have HS4 := Lib.hid hS4
  have HB4 := Lib.hid hB4
  have HM4 := Lib.hid hM4
  have hC4l := hC4.lt
  clear hI4 hX4 hC4 hS4 hB4 hM4
  go_loopw [6] (fun ix wr => ∃ j : Nat, j ≤ sp.length ∧ ix = .int .i64 (j : Int) ∧ MapX wr M (mapA spV (ofK (sp.take j))) ∧ KpC W4 wr ∧ Below w.heap.size w wr) (fun ix _ => sp.length - (intOf ix).toNat)
  case atStart => exact ⟨0, Nat.zero_le _, rfl, by simpa [ofK, mapA] using HM4.out, KpC.refl _, HB4.out⟩
  case round =>
    obtain ⟨j, hj, rfl, hMr, hkr, hbr⟩ := hrel
    by_cases hlt : j < sp.length
    · obtain ⟨x, hx⟩ : ∃ x, sp[j]? = some x := ⟨sp[j], List.getElem?_eq_getElem hlt⟩
      obtain ⟨b, o, rfl, hb, _⟩ := HS4.out (by intro h; rw [h] at hlt; simp at hlt)
      have hSr := HS4.out.kpc hkr
      obtain ⟨s0, s1, s2⟩ := hSr.at hx
      have hxm := List.mem_of_getElem? hx
      obtain ⟨z0, z1, z2, z3⟩ := HF.out.bounds x hxm
      have e0 := hkr.cell (cell_of_blk HC4.out (i := 0) (by rfl))
      have j0 : (0 : Int) ≤ (j : Int) := by omega
      have j1 : (j : Int) < (sp.length : Int) := by omega
      have hlM := hMr.lt
      have hvw : (Lit.int .i64 x.v).wf = true := HW.out x hxm
      obtain ⟨w5, hrun, hM5, hgrow5⟩ := upd_x (P := Try.prog) 52 3 54 Try.underlying52 Try.underlying3 hMr.drew x.v hvw (spV x)
      rw [putX_map] at hM5
      have HT := Lib.hid (show ofK (sp.take (j + 1)) = putA (ofK (sp.take j)) x.v x by rw [take_snoc' hx, ofK_snoc])
      have hk5 : KpC wr.drew w5 := KpC.of_grown hgrow5 hMr.drew rfl
      have hb5 : Below w.heap.size w w5 := hbr.drew.grown hgrow5 (by have := hbr.size; simpa using this) (fun k e => by cases e; exact hwM)
      have hS5 : RepSp w5 (some ⟨b, o, none⟩) sp := (hSr.kpc (⟨Nat.le_refl _, fun _ _ h _ => h⟩ : KpC wr wr.drew)).kpc hk5
      have HK5 := Lib.hid ((hkr.trans (⟨Nat.le_refl _, fun _ _ h _ => h⟩ : KpC wr wr.drew)).trans hk5)
      have HM5 := Lib.hid hM5
      have HB5 := Lib.hid hb5
      have HS5 := Lib.hid hS5
      have HXX := Lib.hid hx
      unfold spV at hrun
      clear hM5 hb5 hk5 hS5 hgrow5 hx hMr hkr hbr hSr
      go_wp2_with fail
      go_big_region
      clear hrun s0 s1 s2 e0
      obtain ⟨s0, s1, s2⟩ := HS5.out.at HXX.out
      have e0 := HK5.out.cell (cell_of_blk HC4.out (i := 0) (by rfl))
      have f1 : decide (x.fr < 0) = false := by simp; omega
      have f2 : decide ((c.l.length : Int) < x.till) = false := by simp; omega
      have f3 : decide (x.till < x.fr) = false := by simp; omega
      by_cases hj0 : 0 < j
      · have f0 : decide ((0 : Int) < (j : Int)) = true := by simp; omega
        obtain ⟨m, hm⟩ : ∃ m, j = m + 1 := ⟨j - 1, by omega⟩
        obtain ⟨y, hy⟩ : ∃ y, sp[m]? = some y := ⟨sp[m]'(by omega), List.getElem?_eq_getElem (by omega)⟩
        obtain ⟨t0, _, _⟩ := HS5.out.at hy
        have hlv : y.v < x.v := by
          have hx := HXX.out
          have h1 := (List.getElem?_eq_some_iff.1 hx)
          have h2 := (List.getElem?_eq_some_iff.1 hy)
          obtain ⟨h3, h4⟩ := h1
          obtain ⟨h5, h6⟩ := h2
          have := List.pairwise_iff_getElem.1 HF.out.sorted m j h5 h3 (by omega)
          rwa [h6, h4] at this
        have f4 : decide (x.v ≤ y.v) = false := by simp; omega
        have hw : IntKind.i64.wrap ((j : Int) - 1) = (m : Int) := by rw [IntWalk.i64_in _ (by omega)]; omega
        have m0 : (0 : Int) ≤ (m : Int) := by omega
        have m1 : (m : Int) < (sp.length : Int) := by omega
        clear hlv hm hy
        go_wp2_with fail
        go_quiet (fail)
        go_wp2_with fail
        go_roundw
        case rel => exact ⟨j + 1, by omega, by go_num, by rw [HT.out]; exact HM5.out.drewN nq, HK5.out.trans (KpC.of_below (drewN_below w5 nq)), below_drewN HB5.out nq⟩
        case measure => simp [intOf]; omega
      · have f0 : decide ((0 : Int) < (j : Int)) = false := by simp; omega
        go_wp2_with fail
        go_quiet (fail)
        go_wp2_with fail
        go_roundw
        case rel => exact ⟨j + 1, by omega, by go_num, by rw [HT.out]; exact HM5.out.drewN nq, HK5.out.trans (KpC.of_below (drewN_below w5 nq)), below_drewN HB5.out nq⟩
        case measure => simp [intOf]; omega
    · have hn : ¬ ((j : Int) < (sp.length : Int)) := by omega
      have hje : j = sp.length := by omega
      subst hje
      rw [List.take_length] at hMr
      go_wp2_with fail
      have hMl := hMr.lt
      have hbrs := hbr.size
      have HMR := Lib.hid hMr
      have HKR := Lib.hid hkr
      have HBR := Lib.hid hbr
      clear hMr hkr hbr hn hlt HM4 HB4 hM4l
      go_loopw [7] (fun ix wr => ∃ p : Nat, p ≤ c.l.length ∧ ix = .int .i64 (p : Int) ∧ MapX wr M (mapA spV (ofK sp)) ∧ KpC W4 wr ∧ Below w.heap.size w wr) (fun ix _ => c.l.length - (intOf ix).toNat)
      case atStart => exact ⟨0, Nat.zero_le _, rfl, HMR.out, HKR.out, HBR.out⟩
      case round =>
        obtain ⟨p, hp, rfl, hMr, hkr, hbr⟩ := hrel
        have e0 := hkr.cell (cell_of_blk HC4.out (i := 0) (by rfl))
        by_cases hlt : p < c.l.length
        · obtain ⟨x, hx⟩ : ∃ x, c.l[p]? = some x := ⟨c.l[p], List.getElem?_eq_getElem hlt⟩
          obtain ⟨b, o, rfl, hb, _⟩ := HI4.out (by intro h; rw [h] at hlt; simp at hlt)
          have cc := (HI4.out.kpc hkr).at_cells hx
          have q0 := cc 0 (.int .i64 x.op) rfl
          have q1 := cc 1 (.int .i64 x.op2) rfl
          have q2 := cc 2 (.int .i64 x.ty) rfl
          have q3 := cc 3 (.int .i64 x.d) rfl
          have q4 := cc 4 (.int .i64 x.a) rfl
          have q5 := cc 5 (.int .i64 x.b) rfl
          have q6 := cc 6 (.int .i64 x.n) rfl
          have q7 := cc 7 (.int .i64 x.count) rfl
          have q8 := cc 8 (.int .i64 x.step) rfl
          rw [Nat.add_zero] at q0
          have p0 : (0 : Int) ≤ (p : Int) := by omega
          have p1 : (p : Int) < (c.l.length : Int) := by omega
          have HX := Lib.hid hx
          have hU := fun W => Uses_any W x
          unfold UsesP I9.arr at hU
          have HU := Lib.hid hU
          have HMR2 := Lib.hid hMr
          have HKR2 := Lib.hid hkr
          have HBR2 := Lib.hid hbr
          have hrl := readsL_len x
          have HRD := Lib.hid (show ∀ r ∈ readsL x, ∃ s ∈ sp, s.v = r ∧ (s.fr < (p : Int) ∨ (r < 2 ∧ s.fr = 0)) ∧ (p : Int) ≤ s.till from fun r hr => HF.out.read p x r hx hr)
          have HMK := Lib.hid (show 0 ≤ makesL x → ∃ s ∈ sp, s.v = makesL x ∧ s.fr ≤ (p : Int) ∧ (p : Int) ≤ s.till ∧ (p : Int) < max s.till (s.fr + 1) from fun h0 => HF.out.make p x hx h0)
          clear cc hx hU hMr hkr hbr
          generalize readsL x = rs at *
          generalize makesL x = mk at *
          go_wp2_with (go_at_call 10; refine (HU.out _).mono ?_; rintro e w6 ⟨v6, rfl, hown6, hb6⟩; obtain ⟨A6, c6, rfl, hints6⟩ := Ints.of_own hown6)
          have hM6 := HMR2.out.below hb6 HMR2.out.lt
          have hk6 := HKR2.out.trans (KpC.of_below hb6)
          have hB6 := btw HBR2.out hb6
          have HM6 := Lib.hid hM6
          have HK6 := Lib.hid hk6
          have HB6 := Lib.hid hB6
          have HN6 := Lib.hid hints6
          clear hM6 hk6 hB6 hints6 hb6 hown6 q0 q1 q2 q3 q4 q5 q6 q7 q8 e0 HMR2 HKR2 HBR2
          go_loopw [10] (fun ix wr => ∃ q : Nat, q ≤ rs.length ∧ ix = .int .i64 (q : Int) ∧ MapX wr M (mapA spV (ofK sp)) ∧ KpC w6 wr ∧ Below w.heap.size w wr) (fun ix _ => rs.length - (intOf ix).toNat)
          case atStart => exact ⟨0, Nat.zero_le _, rfl, HM6.out, KpC.refl _, HB6.out⟩
          case round =>
            obtain ⟨q, hq, rfl, hMr, hkr, hbr⟩ := hrel
            by_cases hlq : q < rs.length
            · obtain ⟨r, hr⟩ : ∃ r, rs[q]? = some r := ⟨rs[q], List.getElem?_eq_getElem hlq⟩
              obtain ⟨b6, o6, rfl, hb6, hall6⟩ := HN6.out (by intro h; rw [h] at hlq; simp at hlq)
              have cr := hkr.cell (hall6 q r hr)
              have j0 : (0 : Int) ≤ (q : Int) := by omega
              have j1 : (q : Int) < (rs.length : Int) := by omega
              obtain ⟨z, hz, hzv, hz1, hz2⟩ := HRD.out r (List.mem_of_getElem? hr)
              have hlook := (look_sp hMr HF.out.sorted hz hzv).2
              have f1 : decide ((p : Int) < z.fr) = false := by
                have := HF.out.bounds z hz
                simp
                omega
              have f2 : decide (z.till < (p : Int)) = false := by simp; omega
              have HMR3 := Lib.hid hMr
              have HKR3 := Lib.hid hkr
              have HBR3 := Lib.hid hbr
              clear hall6 hr hz hzv hz1 hz2 hMr hkr hbr
              go_wp2_with fail
              go_roundw
              case rel => exact ⟨q + 1, by omega, by go_num, HMR3.out.alloc _, HKR3.out.trans (KpC.of_below ((Below.refl _ _).alloc (Nat.le_refl _) _)), baw HBR3.out _⟩
              case measure => simp [intOf]; omega
            · have hn : ¬ ((q : Int) < (rs.length : Int)) := by omega
              have HMR3 := Lib.hid hMr
              have HKR3 := Lib.hid hkr
              have HBR3 := Lib.hid hbr
              clear hMr hkr hbr hn
              by_cases hmk : 0 ≤ mk
              · obtain ⟨z, hz, hzv, hz1, hz2, _⟩ := HMK.out hmk
                have hlook := (look_sp HMR3.out HF.out.sorted hz hzv).2
                have f1 : decide ((p : Int) < z.fr) = false := by simp; omega
                have f2 : decide (z.till < (p : Int)) = false := by simp; omega
                have HM8 := Lib.hid (HMR3.out.alloc (.cells #[.int .i64 mk, .int .i64 z.fr, .int .i64 z.till] 54))
                have HK8 := Lib.hid (HK6.out.trans (HKR3.out.trans (KpC.of_below ((Below.refl _ _).alloc (Nat.le_refl _) (.cells #[.int .i64 mk, .int .i64 z.fr, .int .i64 z.till] 54)))))
                have HB8 := Lib.hid (baw HBR3.out (.cells #[.int .i64 mk, .int .i64 z.fr, .int .i64 z.till] 54))
                clear hz hzv hz1 hz2
                go_wp2_with fail
                clear hlook f1 f2
                go_loopw [15] (fun ix wr => ∃ v : Nat, v ≤ c.lo.length ∧ ix = .int .i64 (v : Int) ∧ MapX wr M (mapA spV (ofK sp)) ∧ KpC W4 wr ∧ Below w.heap.size w wr) (fun ix _ => c.lo.length - (intOf ix).toNat)
                case atStart => exact ⟨0, Nat.zero_le _, rfl, HM8.out, HK8.out, HB8.out⟩
                case round =>
                  obtain ⟨v, hv, rfl, hMr, hkr, hbr⟩ := hrel
                  have e0 := hkr.cell (cell_of_blk HC4.out (i := 0) (by rfl))
                  have e1 := hkr.cell (cell_of_blk HC4.out (i := 1) (by rfl))
                  by_cases hlv : v < c.lo.length
                  · obtain ⟨y, hy⟩ : ∃ y, c.lo[v]? = some y := ⟨c.lo[v], List.getElem?_eq_getElem hlv⟩
                    obtain ⟨bx, ox, rfl, hbx, _⟩ := HX4.out (by intro h; rw [h] at hlv; simp at hlv)
                    obtain ⟨y2, y3⟩ := (HX4.out.kpc hkr).at hy
                    have cc := (HI4.out.kpc hkr).at_cells HX.out
                    have q8 := cc 8 (.int .i64 x.step) rfl
                    have v0 : (0 : Int) ≤ (v : Int) := by omega
                    have v1 : (v : Int) < (c.lo.length : Int) := by omega
                    obtain ⟨z, hz, hzv, hsc⟩ := HF.out.scope (v : Int) v0 v1
                    rw [loAt_get hy] at hsc
                    have hsc2 := hsc p x HX.out
                    have HSC := Lib.hid hsc2
                    have HZ := Lib.hid (⟨hz, hzv⟩ : _ ∧ _)
                    have HMR3 := Lib.hid hMr
                    have HKR3 := Lib.hid hkr
                    have HBR3 := Lib.hid hbr
                    clear cc hy hz hzv hsc hsc2 hMr hkr hbr
                    by_cases h1 : y.fr ≤ x.step
                    · have f1 : decide (y.fr ≤ x.step) = true := by simpa using h1
                      by_cases h2 : x.step < y.till
                      · have f2 : decide (x.step < y.till) = true := by simpa using h2
                        obtain ⟨z1, z2⟩ := HSC.out (fun _ => h1) h2
                        have f3 : decide ((p : Int) < z.fr) = false := by simp; omega
                        have f4 : decide (z.till ≤ (p : Int)) = false := by simp; omega
                        go_wp2_with fail
                        go_quiet (fail)
                        have hlook := (look_sp (HMR3.out.drewN nq) HF.out.sorted HZ.out.1 HZ.out.2).1
                        have hfl1 := field1 (v : Int) z.fr z.till (wr.drewN nq)
                        have hfl2 := field2 (v : Int) z.fr z.till (wr.drewN nq)
                        clear e0 e1 y2 y3 q8 h1 h2 z1 z2
                        go_wp2_with fail
                        go_roundw
                        case rel => exact ⟨v + 1, by omega, by go_num, HMR3.out.drewN nq, HKR3.out.trans (KpC.of_below (drewN_below wr nq)), below_drewN HBR3.out nq⟩
                        case measure => simp [intOf]; omega
                      · have f2 : decide (x.step < y.till) = false := by simpa using h2
                        go_wp2_with fail
                        go_quiet (fail)
                        clear e0 e1 y2 y3 q8 h1 h2
                        go_wp2_with fail
                        go_roundw
                        case rel => exact ⟨v + 1, by omega, by go_num, HMR3.out.drewN nq, HKR3.out.trans (KpC.of_below (drewN_below wr nq)), below_drewN HBR3.out nq⟩
                        case measure => simp [intOf]; omega
                    · have f1 : decide (y.fr ≤ x.step) = false := by simpa using h1
                      go_wp2_with fail
                      go_quiet (fail)
                      clear e0 e1 y2 y3 q8 h1
                      go_wp2_with fail
                      go_roundw
                      case rel => exact ⟨v + 1, by omega, by go_num, HMR3.out.drewN nq, HKR3.out.trans (KpC.of_below (drewN_below wr nq)), below_drewN HBR3.out nq⟩
                      case measure => simp [intOf]; omega
                  · have hn : ¬ ((v : Int) < (c.lo.length : Int)) := by omega
                    have HMR3 := Lib.hid hMr
                    have HKR3 := Lib.hid hkr
                    have HBR3 := Lib.hid hbr
                    clear hMr hkr hbr
                    go_wp2_with fail
                    go_roundw
                    case rel => exact ⟨p + 1, by omega, by go_num, HMR3.out, HKR3.out, HBR3.out⟩
                    case measure => simp [intOf]; omega
              · have HM8 := HMR3
                have HK8 := Lib.hid (HK6.out.trans HKR3.out)
                have HB8 := HBR3
                go_wp2_with fail
                go_loopw [15] (fun ix wr => ∃ v : Nat, v ≤ c.lo.length ∧ ix = .int .i64 (v : Int) ∧ MapX wr M (mapA spV (ofK sp)) ∧ KpC W4 wr ∧ Below w.heap.size w wr) (fun ix _ => c.lo.length - (intOf ix).toNat)
                case atStart => exact ⟨0, Nat.zero_le _, rfl, HM8.out, HK8.out, HB8.out⟩
                case round =>
                  obtain ⟨v, hv, rfl, hMr, hkr, hbr⟩ := hrel
                  have e0 := hkr.cell (cell_of_blk HC4.out (i := 0) (by rfl))
                  have e1 := hkr.cell (cell_of_blk HC4.out (i := 1) (by rfl))
                  by_cases hlv : v < c.lo.length
                  · obtain ⟨y, hy⟩ : ∃ y, c.lo[v]? = some y := ⟨c.lo[v], List.getElem?_eq_getElem hlv⟩
                    obtain ⟨bx, ox, rfl, hbx, _⟩ := HX4.out (by intro h; rw [h] at hlv; simp at hlv)
                    obtain ⟨y2, y3⟩ := (HX4.out.kpc hkr).at hy
                    have cc := (HI4.out.kpc hkr).at_cells HX.out
                    have q8 := cc 8 (.int .i64 x.step) rfl
                    have v0 : (0 : Int) ≤ (v : Int) := by omega
                    have v1 : (v : Int) < (c.lo.length : Int) := by omega
                    obtain ⟨z, hz, hzv, hsc⟩ := HF.out.scope (v : Int) v0 v1
                    rw [loAt_get hy] at hsc
                    have hsc2 := hsc p x HX.out
                    have HSC := Lib.hid hsc2
                    have HZ := Lib.hid (⟨hz, hzv⟩ : _ ∧ _)
                    have HMR3 := Lib.hid hMr
                    have HKR3 := Lib.hid hkr
                    have HBR3 := Lib.hid hbr
                    clear cc hy hz hzv hsc hsc2 hMr hkr hbr
                    by_cases h1 : y.fr ≤ x.step
                    · have f1 : decide (y.fr ≤ x.step) = true := by simpa using h1
                      by_cases h2 : x.step < y.till
                      · have f2 : decide (x.step < y.till) = true := by simpa using h2
                        obtain ⟨z1, z2⟩ := HSC.out (fun _ => h1) h2
                        have f3 : decide ((p : Int) < z.fr) = false := by simp; omega
                        have f4 : decide (z.till ≤ (p : Int)) = false := by simp; omega
                        go_wp2_with fail
                        go_quiet (fail)
                        have hlook := (look_sp (HMR3.out.drewN nq) HF.out.sorted HZ.out.1 HZ.out.2).1
                        have hfl1 := field1 (v : Int) z.fr z.till (wr.drewN nq)
                        have hfl2 := field2 (v : Int) z.fr z.till (wr.drewN nq)
                        clear e0 e1 y2 y3 q8 h1 h2 z1 z2
                        go_wp2_with fail
                        go_roundw
                        case rel => exact ⟨v + 1, by omega, by go_num, HMR3.out.drewN nq, HKR3.out.trans (KpC.of_below (drewN_below wr nq)), below_drewN HBR3.out nq⟩
                        case measure => simp [intOf]; omega
                      · have f2 : decide (x.step < y.till) = false := by simpa using h2
                        go_wp2_with fail
                        go_quiet (fail)
                        clear e0 e1 y2 y3 q8 h1 h2
                        go_wp2_with fail
                        go_roundw
                        case rel => exact ⟨v + 1, by omega, by go_num, HMR3.out.drewN nq, HKR3.out.trans (KpC.of_below (drewN_below wr nq)), below_drewN HBR3.out nq⟩
                        case measure => simp [intOf]; omega
                    · have f1 : decide (y.fr ≤ x.step) = false := by simpa using h1
                      go_wp2_with fail
                      go_quiet (fail)
                      clear e0 e1 y2 y3 q8 h1
                      go_wp2_with fail
                      go_roundw
                      case rel => exact ⟨v + 1, by omega, by go_num, HMR3.out.drewN nq, HKR3.out.trans (KpC.of_below (drewN_below wr nq)), below_drewN HBR3.out nq⟩
                      case measure => simp [intOf]; omega
                  · have hn : ¬ ((v : Int) < (c.lo.length : Int)) := by omega
                    have HMR3 := Lib.hid hMr
                    have HKR3 := Lib.hid hkr
                    have HBR3 := Lib.hid hbr
                    clear hMr hkr hbr
                    go_wp2_with fail
                    go_roundw
                    case rel => exact ⟨p + 1, by omega, by go_num, HMR3.out, HKR3.out, HBR3.out⟩
                    case measure => simp [intOf]; omega
        · have hn : ¬ ((p : Int) < (c.l.length : Int)) := by omega
          have HBR3 := Lib.hid hbr
          clear hMr hkr hbr
          go_wp2_with fail
          go_ret
          exact ⟨rfl, HBR3.out⟩
end Go.Proofs.Ytfmkfmcplffhdaa

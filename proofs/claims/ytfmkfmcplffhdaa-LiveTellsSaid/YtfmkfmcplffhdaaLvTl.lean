/- ploverlaw19.LiveTells returns true. No condition. -/
import Derived.Test.YtfmkfmcplffhdaaLvRe
import Derived.Test.YtfmkfmcplffhdaaLvTw
namespace Go.Proofs.Ytfmkfmcplffhdaa
set_option linter.unusedVariables false
open Go.RowKit
attribute [local irreducible] Blk
theorem mostR_le {M : Int} : ∀ (rs : List Int) (n : Int), n ≤ M → (∀ r ∈ rs, r ≤ M) → mostR n rs ≤ M
  | [], n, h, _ => h
  | r :: rs, n, h, h2 => by
    have h3 := mostR_le rs (max n r) (by have := h2 r (by simp); omega) (fun y hy => h2 y (List.mem_cons_of_mem _ hy))
    exact h3
theorem most_le {M : Int} : ∀ (l : List I9) (n : Int), n ≤ M → (∀ x ∈ l, makesL x ≤ M ∧ ∀ r ∈ readsL x, r ≤ M) → l.foldl mostI n ≤ M
  | [], n, h, _ => h
  | x :: l, n, h, h2 => by
    rw [List.foldl_cons]
    refine most_le l _ ?_ (fun y hy => h2 y (List.mem_cons_of_mem _ hy))
    obtain ⟨h3, h4⟩ := h2 x (by simp)
    exact mostR_le _ _ (by omega) h4
theorem reads_in {x : I9} {r : Int} (h : r ∈ readsL x) : r = x.a ∨ r = x.b := by
  unfold readsL at h
  split at h
  · have := (List.mem_filter.1 h).1
    unfold rawU at this
    split at this
    · cases this
    split at this
    · simp only [List.mem_singleton] at this; exact .inl this
    · simp only [List.mem_cons, List.mem_nil_iff, or_false] at this; exact this
  · cases h
theorem makes_in (x : I9) : makesL x ≤ max (-1) x.d := by
  unfold makesL
  split <;> omega
theorem row_facts (l : List Rw5) : (rowsL l).length ≤ 100 ∧ (∀ i ∈ rowsL l, WfI i) ∧ mostL (rowsL l) < 5000 := by
  have key : ∀ i ∈ rowsL l, (-41 ≤ i.d ∧ i.d ≤ 37) ∧ (-41 ≤ i.a ∧ i.a ≤ 37) ∧ (-41 ≤ i.b ∧ i.b ≤ 37) := fun i hi => by
    obtain ⟨x, _, rfl⟩ := List.mem_map.1 hi
    have h1 := tmod_bd x.d
    have h2 := tmod_bd x.a
    have h3 := tmod_bd x.b
    show (-41 ≤ x.d.tmod 40 - 2 ∧ x.d.tmod 40 - 2 ≤ 37) ∧ (-41 ≤ x.a.tmod 40 - 2 ∧ x.a.tmod 40 - 2 ≤ 37) ∧ (-41 ≤ x.b.tmod 40 - 2 ∧ x.b.tmod 40 - 2 ≤ 37)
    omega
  have hwf : ∀ d : Int, -41 ≤ d → d ≤ 37 → (Lit.int .i64 d).wf = true := fun d h1 h2 => by
    have hmin : IntKind.i64.min = -9223372036854775808 := rfl
    have hmax : IntKind.i64.max = 9223372036854775807 := rfl
    simp only [Lit.wf, Bool.and_eq_true, decide_eq_true_eq]
    omega
  refine ⟨by unfold rowsL; rw [List.length_map, List.length_take]; omega, fun i hi => ?_, ?_⟩
  · obtain ⟨⟨a1, a2⟩, ⟨a3, a4⟩, a5, a6⟩ := key i hi
    exact ⟨hwf _ a1 a2, hwf _ a3 a4, hwf _ a5 a6⟩
  · have := most_le (M := 37) (rowsL l) (-1) (by decide) (fun x hx => by
      obtain ⟨⟨a1, a2⟩, ⟨a3, a4⟩, a5, a6⟩ := key x hx
      refine ⟨by have := makes_in x; omega, fun r hr => ?_⟩
      rcases reads_in hr with rfl | rfl <;> omega)
    have h2 : mostL (rowsL l) ≤ 37 := this
    omega
theorem loc_facts {l : List P2} (h : ∀ x ∈ l, OkP2 x) : (locsL l).length ≤ 12 ∧ ∀ x ∈ locsL l, -1000000 ≤ x.fr ∧ x.fr ≤ 1000000 := by
  refine ⟨by unfold locsL; rw [List.length_map, List.length_take]; omega, fun x hx => ?_⟩
  obtain ⟨y, hy, rfl⟩ := List.mem_map.1 hx
  have := h y (List.mem_of_mem_take hy)
  obtain ⟨h1, h2, h3, h4⟩ := this
  show -1000000 ≤ y.a % 32 ∧ y.a % 32 ≤ 1000000
  omega
set_option maxRecDepth 100000 in
set_option maxHeartbeats 3200000 in
theorem tells_any (w : World) (A : Option Addr) (l : List Rw5) (c : Nat) (B : Option Addr) (ps : List P2) (c2 : Nat) (params : Int) (hp0 : -128 ≤ params) (hp1 : params ≤ 127) (hr : RepRw w A l) (hok : ∀ x ∈ l, OkRw x) (hll : l.length ≤ 9223372036854775807)
    (hrp : RepP2 w B ps) (hop : ∀ x ∈ ps, OkP2 x) (hlp : ps.length ≤ 9223372036854775807) :
    Calls Try.prog 3 #[.slice A l.length c, .slice B ps.length c2, .int .i8 params] w (OkP w) := by
  obtain ⟨hL, hW, hM⟩ := row_facts l
  obtain ⟨hX, hF⟩ := loc_facts hop
  have hrows := rows_any w A l c hr hok hll
  have hlocs := fun W (h : Below w.heap.size w W) => locals_law W B ps c2 (hrp.far h) hop hlp
  generalize rowsL l = L at *
  generalize locsL ps = X at *
  have HRO := Lib.hid hrows
  have HLO := Lib.hid hlocs
  have HW := Lib.hid hW
  have HM := Lib.hid hM
  have HF := Lib.hid hF
  clear hrows hlocs hW hM hF hr hok hrp hop
  unfold InsP at HRO
  unfold LocP at HLO
  go_enter Try.func3, Try.ntmps3
  go_wp2_with (first
    | (go_at_call 8; refine HRO.out.mono ?_; rintro e w1 ⟨v1, rfl, hown1, hb1⟩; have HB1 := Lib.hid hb1; obtain ⟨A1, c1, rfl, hR1⟩ := RepI.of_own hown1; have HR1 := Lib.hid hR1; clear hown1 hR1 hb1)
    | (go_at_call 9; refine (HLO.out _ HB1.out).mono ?_; rintro e w2 ⟨v2, rfl, hown2, hb2⟩; obtain ⟨B2, c3, rfl, hX2⟩ := RepLo.of_own hown2; have HX2 := Lib.hid hX2; have HR2 := Lib.hid (HR1.out.far hb2); have HB2 := Lib.hid (HB1.out.trans (hb2.mono HB1.out.size)); clear hown2 hX2 hb2))
  clear HRO HLO HR1 HB1
  go_loopw [9] (fun ix wr => ∃ k : Nat, k ≤ L.length ∧ ix = .int .i64 (k : Int) ∧ Below w2.heap.size w2 wr) (fun ix _ => L.length - (intOf ix).toNat)
  case atStart => exact ⟨0, Nat.zero_le _, rfl, Below.refl _ _⟩
  case round =>
    obtain ⟨k, hk, rfl, hbr⟩ := hrel
    have hbs := hbr.size
    by_cases hlt : k < L.length
    · obtain ⟨x, hx⟩ : ∃ x, L[k]? = some x := ⟨L[k], List.getElem?_eq_getElem hlt⟩
      obtain ⟨b, o, rfl, hb, _⟩ := HR2.out (by intro h; rw [h] at hlt; simp at hlt)
      have hbw : b < wr.heap.size := by omega
      have hRr := HR2.out.far hbr
      have cc := hRr.at_cells hx
      have q0 := cc 0 (.int .i64 x.op) rfl
      have q1 := cc 1 (.int .i64 x.op2) rfl
      have q2 := cc 2 (.int .i64 x.ty) rfl
      have q3 := cc 3 (.int .i64 x.d) rfl
      have q4 := cc 4 (.int .i64 x.a) rfl
      have q5 := cc 5 (.int .i64 x.b) rfl
      have q6 := cc 6 (.int .i64 x.n) rfl
      have q7 := cc 7 (.int .i64 x.count) rfl
      have q8 := cc 8 (.int .i64 x.step) rfl
      rw [Nat.add_zero] at q0
      have k0 : (0 : Int) ≤ (k : Int) := by omega
      have k1 : (k : Int) < (L.length : Int) := by omega
      have hMk := fun W => Makes_below W x
      have hRd := fun W => Reads_any W x
      have hUs := fun W => Uses_any W x
      unfold I9.arr at hMk hRd hUs
      unfold UsesP at hUs
      unfold RdP at hRd
      have HMk := Lib.hid hMk
      have HRd := Lib.hid hRd
      have HUs := Lib.hid hUs
      have hrl := readsL_len x
      clear cc hMk hRd hUs hx hRr
      generalize readsL x = rs at *
      generalize makesL x = mk at *
      have n1 : (mk != mk) = false := by simp
      have n2 : ((rs.length : Int) != (rs.length : Int)) = false := by simp
      go_wp2_with (first
        | (go_at_call 10; go_loud (refine (HUs.out _).mono ?_; rintro e w3 ⟨v3, rfl, hown3, hb3⟩; obtain ⟨A3, c3, rfl, hin3⟩ := Ints.of_own hown3; have HI3 := Lib.hid hin3; have HB3 := Lib.hid hb3; have d0 := (hb3.cell (p := ⟨b, o + k * 9, none⟩) hbw).trans q0; have d1 := (hb3.cell (p := ⟨b, o + k * 9 + 1, none⟩) hbw).trans q1; have d2 := (hb3.cell (p := ⟨b, o + k * 9 + 2, none⟩) hbw).trans q2; have d3 := (hb3.cell (p := ⟨b, o + k * 9 + 3, none⟩) hbw).trans q3; have d4 := (hb3.cell (p := ⟨b, o + k * 9 + 4, none⟩) hbw).trans q4; have d5 := (hb3.cell (p := ⟨b, o + k * 9 + 5, none⟩) hbw).trans q5; have d6 := (hb3.cell (p := ⟨b, o + k * 9 + 6, none⟩) hbw).trans q6; have d7 := (hb3.cell (p := ⟨b, o + k * 9 + 7, none⟩) hbw).trans q7; have d8 := (hb3.cell (p := ⟨b, o + k * 9 + 8, none⟩) hbw).trans q8; have hbw3 := Nat.lt_of_lt_of_le hbw hb3.size; clear hb3 hown3 hin3 q0 q1 q2 q3 q4 q5 q6 q7 q8))
        | (go_at_call 11; go_loud (refine (HRd.out _).mono ?_; rintro e w4 ⟨v4, rfl, hown4, hb4⟩; obtain ⟨A4, c4, rfl, hin4⟩ := Ints.of_own hown4; have HI4 := Lib.hid hin4; have HB4 := Lib.hid hb4; have e0 := (hb4.cell (p := ⟨b, o + k * 9, none⟩) hbw3).trans d0; have e1 := (hb4.cell (p := ⟨b, o + k * 9 + 1, none⟩) hbw3).trans d1; have e2 := (hb4.cell (p := ⟨b, o + k * 9 + 2, none⟩) hbw3).trans d2; have e3 := (hb4.cell (p := ⟨b, o + k * 9 + 3, none⟩) hbw3).trans d3; have e4 := (hb4.cell (p := ⟨b, o + k * 9 + 4, none⟩) hbw3).trans d4; have e5 := (hb4.cell (p := ⟨b, o + k * 9 + 5, none⟩) hbw3).trans d5; have e6 := (hb4.cell (p := ⟨b, o + k * 9 + 6, none⟩) hbw3).trans d6; have e7 := (hb4.cell (p := ⟨b, o + k * 9 + 7, none⟩) hbw3).trans d7; have e8 := (hb4.cell (p := ⟨b, o + k * 9 + 8, none⟩) hbw3).trans d8; clear hb4 hown4 hin4 d0 d1 d2 d3 d4 d5 d6 d7 d8))
        | (go_at_call 12; go_loud (refine (HMk.out _).mono ?_; rintro e w5 ⟨rfl, hb5⟩; have HB5 := Lib.hid hb5; clear hb5 e0 e1 e2 e3 e4 e5 e6 e7 e8)))
      have HB35 := Lib.hid (HB4.out.trans (HB5.out.mono HB4.out.size))
      go_loopw [13] (fun ix wx => ∃ (kk n : Nat), kk ≤ rs.length ∧ ix = .int .i64 (kk : Int) ∧ wx = w5.drewN n) (fun ix _ => rs.length - (intOf ix).toNat)
      case atStart => exact ⟨0, 0, Nat.zero_le _, rfl, rfl⟩
      case round =>
        obtain ⟨kk, nn, hkk, rfl, rfl⟩ := hrel
        by_cases hlt2 : kk < rs.length
        · obtain ⟨y, hy⟩ : ∃ y, rs[kk]? = some y := ⟨rs[kk], List.getElem?_eq_getElem hlt2⟩
          obtain ⟨b3, o3, rfl, hb3, hall3⟩ := HI3.out (by intro h; rw [h] at hlt2; simp at hlt2)
          obtain ⟨b4, o4, rfl, hb4, hall4⟩ := HI4.out (by intro h; rw [h] at hlt2; simp at hlt2)
          have r3 := (HB35.out.cell (p := ⟨b3, o3 + kk, none⟩) hb3).trans (hall3 kk y hy)
          have r4 := (HB5.out.cell (p := ⟨b4, o4 + kk, none⟩) hb4).trans (hall4 kk y hy)
          have j0 : (0 : Int) ≤ (kk : Int) := by omega
          have j1 : (kk : Int) < (rs.length : Int) := by omega
          have n3 : (y != y) = false := by simp
          clear hall3 hall4 hy
          go_wp2_with fail
          go_quiet (fail)
          go_wp2_with fail
          refine ⟨⟨kk + 1, nn + nq, by omega, rfl, by simp [World.drewN]⟩, by simp [intOf]; omega⟩
        · have hn : ¬ ((kk : Int) < (rs.length : Int)) := by omega
          have hkl : kk = rs.length := by omega
          subst hkl
          go_wp2_with fail
          refine ⟨⟨k + 1, by omega, rfl, ?_⟩, by simp [intOf]; omega⟩
          exact below_drewN (hbr.trans ((HB3.out.trans (HB35.out.mono HB3.out.size)).mono hbs)) nn
    · have hn : ¬ ((k : Int) < (L.length : Int)) := by omega
      have hkl : k = L.length := by omega
      subst hkl
      clear hn hlt hk
      go_wp2_with fail
      have HBR := Lib.hid hbr
      clear hbr hbs
      go_loopw [14] (fun ix wq => ∃ st : Int, -1 ≤ st ∧ st ≤ 32 ∧ ix = .int .i64 st ∧ Below w2.heap.size w2 wq) (fun ix _ => (32 - intOf ix).toNat)
      case atStart => exact ⟨-1, by omega, by omega, rfl, HBR.out⟩
      case round =>
        obtain ⟨st, hs0, hs1, rfl, hbq⟩ := hrel
        have hbqs := hbq.size
        have HRq := Lib.hid (HR2.out.far hbq)
        by_cases hst : st < 32
        · have HB := Lib.hid (fun W h => Begins_any W A1 L c1 st h (by omega))
          have HRB := Lib.hid (fun W h => RBegins_any W A1 L c1 st h (by omega))
          generalize beginsN L st = bn at *
          have n1 : ((bn : Int) != (bn : Int)) = false := by simp
          go_wp2_with (first
            | (go_at_call 13; go_loud (refine (HB.out _ HRq.out).mono ?_; rintro e w3 ⟨rfl, hb3⟩; have HB3 := Lib.hid hb3; clear hb3))
            | (go_at_call 14; go_loud (refine (HRB.out _ (HRq.out.far HB3.out)).mono ?_; rintro e w4 ⟨rfl, rfl⟩)))
          refine ⟨⟨st + 1, by omega, by omega, rfl, hbq.trans (HB3.out.mono hbqs)⟩, by simp [intOf]; omega⟩
        · have HXq := Lib.hid (HX2.out.far hbq)
          have HS := Lib.hid (fun W h1 h2 => Spans_any W A1 L c1 B2 X c3 params (by omega) (by omega) h1 h2 HW.out HF.out)
          have HRS := Lib.hid (fun W h1 h2 => RSpans_any W A1 L c1 B2 X c3 params (by omega) (by omega) h1 h2 HM.out HF.out)
          have HSL : Hid ((spansL L X params).length ≤ 100000) := Lib.hid (by
            rw [spansL, List.length_append, localsL_len, ← temps_eq (l := L) (n := X.length) (j := 5000) (fun t ht => by have := touch_most ht; have := HM.out; omega)]
            have := tempsTo_len L X.length 5000
            omega)
          have hsl := HSL.out
          generalize spansL L X params = S at *
          unfold SpansP at HS HRS
          have HQ := Lib.hid (fun W A' B' ca cb ha hb => spans_any W A' B' S S ca cb ha hb (by omega) (by omega))
          have hdd : decide (S = S) = true := by simp
          rw [hdd] at HQ
          unfold EqP at HQ
          go_wp2_with (first
            | (go_at_call 16; go_loud (refine (HS.out _ HRq.out HXq.out).mono ?_; rintro e w3 ⟨v3, rfl, hown3, hb3⟩; obtain ⟨A3, c5, rfl, hr3⟩ := RepSp.of_own hown3; have HB3 := Lib.hid hb3; have HR3 := Lib.hid hr3; clear hown3 hb3 hr3))
            | (go_at_call 17; go_loud (refine (HRS.out _ (HRq.out.far HB3.out) (HXq.out.far HB3.out)).mono ?_; rintro e w4 ⟨v4, rfl, hown4, hb4⟩; obtain ⟨A4, c6, rfl, hr4⟩ := RepSp.of_own hown4; have HB4 := Lib.hid hb4; have HR4 := Lib.hid hr4; clear hown4 hb4 hr4))
            | (go_at_call 15; go_loud (refine (HQ.out _ _ _ _ _ (HR3.out.far HB4.out) HR4.out).mono ?_; rintro e w5 ⟨rfl, n5, rfl⟩))
            | (go_at_call 18; go_loud (refine (works_any _).mono ?_; rintro e w6 ⟨rfl, hb6⟩; have HB6 := Lib.hid hb6; clear hb6)))
          go_ret
          have hb4 := (hbq.trans (HB3.out.mono hbqs))
          have hb5 := below_drewN (hb4.trans (HB4.out.mono hb4.size)) n5
          have hb6 := hb5.trans (HB6.out.mono hb5.size)
          exact ⟨rfl, HB2.out.trans (hb6.mono HB2.out.size)⟩
end Go.Proofs.Ytfmkfmcplffhdaa

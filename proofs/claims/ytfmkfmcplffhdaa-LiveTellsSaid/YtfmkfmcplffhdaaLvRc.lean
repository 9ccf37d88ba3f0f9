/- ploverref19.local, value: the span of a local, of a temporary value. Conditions: sizes. -/
import Derived.Test.YtfmkfmcplffhdaaLvRp
import Derived.Deep.RegionHeld3
import Derived.Test.YtfmkfmcplffhdaaLvQb
namespace Go.Proofs.Ytfmkfmcplffhdaa
set_option linter.unusedVariables false
open Go.RowKit
attribute [local irreducible] Blk
theorem blk_bel {w : World} {g : Nat} {t : TypeId} {cs : Array Value} (h : Blk w g t cs) (p : Bel w) : Blk p.val g t cs := h.below p.le h.lt
theorem below_bel {w0 w : World} (h : Below w0.heap.size w0 w) (p : Bel w) : Below w0.heap.size w0 p.val := h.trans (p.le.mono h.size)
set_option maxRecDepth 100000 in
set_option maxHeartbeats 3200000 in
theorem rlocal_any (w : World) (A : Option Addr) (l : List I9) (c : Nat) (v : Int) (x : Lo4) (param : Bool) (hll : l.length ≤ 1000000000) (hr : RepI w A l) (hf0 : -1000000 ≤ x.fr) (hf1 : x.fr ≤ 1000000) :
    Calls Try.prog 31 #[.slice A l.length c, .int .i64 v, .agg x.arr, .bool param] w (SpanP w (rlocal l v x param)) := by
  have HR := Lib.hid hr
  have HBG := Lib.hid (fun W h => RBegins_any W A l c x.till h hll)
  have HBF := Lib.hid (fun W h => RBegins_any W A l c x.fr h hll)
  have hB1 := ((Below.refl w.heap.size w).alloc (Nat.le_refl _) (.cells x.arr 57)).alloc (by simp) (.cells #[.int .i64 0, .int .i64 0, .int .i64 0] 54)
  have HB1 := Lib.hid hB1
  clear hr hB1
  cases param with
  | true =>
    have HRL := Lib.hid (show rlocal l v x true = ⟨v, 0, beginsN l x.till⟩ from rfl)
    unfold Lo4.arr at *
    go_enter Try.func31, Try.ntmps31
    go_wp2_with (go_at_call 14; refine (HBG.out _ (HR.out.far HB1.out)).mono ?_; rintro e w2 ⟨rfl, rfl⟩)
    rw [HRL.out]
    refine bodyPost_ret (results_cell_row Try.results31 _ _ (w.heap.size + 1) 54 (Sp3.arr ⟨v, 0, beginsN l x.till⟩) (0, 0) _ (by rfl) ?_ Try.underlying54 (by rfl) (by kernel_rfl)) rfl ?_
    · exact Blk.heap ((Blk.newAt (by simp)).alloc _)
    · exact ⟨rfl, (((Below.refl w.heap.size w).alloc (Nat.le_refl _) _).alloc (by simp) _).alloc (by simp; omega) _⟩
  | false =>
    have HRL := Lib.hid (show rlocal l v x false = ⟨v, if declN l v x.fr < l.length then (declN l v x.fr : Int) else beginsN l x.fr, beginsN l x.till⟩ from rfl)
    have hX := Blk.new w 57 x.arr
    unfold Lo4.arr at *
    go_enter Try.func31, Try.ntmps31
    go_upto_region 4 with (go_at_call 14; refine (HBG.out _ (HR.out.far HB1.out)).mono ?_; rintro e w2 ⟨rfl, rfl⟩)
    have h6 := (hX.alloc (.cells #[.int .i64 0, .int .i64 0, .int .i64 0] 54)).alloc (.cells #[.int .i64 v, .int .i64 0, .int .i64 (beginsN l x.till : Int)] 54)
    have h8 := (Blk.newAt (t := 54) (cs := #[.int .i64 0, .int .i64 0, .int .i64 0]) (w := w.alloc (.cells #[.string x.name, .int .i64 x.ty, .int .i64 x.fr, .int .i64 x.till] 57)) (k := w.heap.size + 1) (by simp)).alloc (.cells #[.int .i64 v, .int .i64 0, .int .i64 (beginsN l x.till : Int)] 54)
    have h9 := Blk.newAt (t := 54) (cs := #[.int .i64 v, .int .i64 0, .int .i64 (beginsN l x.till : Int)]) (w := (w.alloc (.cells #[.string x.name, .int .i64 x.ty, .int .i64 x.fr, .int .i64 x.till] 57)).alloc (.cells #[.int .i64 0, .int .i64 0, .int .i64 0] 54)) (k := w.heap.size + 1 + 1) (by simp)
    have hB3 := HB1.out.alloc (by simp; omega) (.cells #[.int .i64 v, .int .i64 0, .int .i64 (beginsN l x.till : Int)] 54)
    have HB3 := Lib.hid hB3
    have H6 := Lib.hid h6
    have H8 := Lib.hid h8
    have H9 := Lib.hid h9
    clear h6 h8 h9 hB3 hX
    go_wp2_with fail
    generalize ((w.alloc (.cells #[.string x.name, .int .i64 x.ty, .int .i64 x.fr, .int .i64 x.till] 57)).alloc (.cells #[.int .i64 0, .int .i64 0, .int .i64 0] 54)).alloc (.cells #[.int .i64 v, .int .i64 0, .int .i64 (beginsN l x.till : Int)] 54) = W3 at *
    go_loopw [10] (fun ix wr => ∃ k : Nat, k ≤ l.length ∧ ix = .int .i64 (k : Int) ∧ Blk wr w.heap.size 57 #[.string x.name, .int .i64 x.ty, .int .i64 x.fr, .int .i64 x.till] ∧ Blk wr (w.heap.size + 1) 54 #[.int .i64 0, .int .i64 0, .int .i64 0] ∧ Blk wr (w.heap.size + 1 + 1) 54 #[.int .i64 v, .int .i64 0, .int .i64 (beginsN l x.till : Int)] ∧ Below w.heap.size w wr ∧ k ≤ declN l v x.fr) (fun ix _ => l.length - (intOf ix).toNat)
    case atStart => exact ⟨0, Nat.zero_le _, rfl, H6.out, H8.out, H9.out, HB3.out, Nat.zero_le _⟩
    case round =>
      obtain ⟨k, hk, rfl, h6, h8, h9, hbr, hno⟩ := hrel
      have hbs := hbr.size
      have hl9 := h9.lt
      have c62 := h6.cell 2
      have c90 := h9.cell 0
      have c91 := h9.cell 1
      have c92 := h9.cell 2
      have f9 := h9.frozen
      have f8 := h8.frozen
      have c80 := h8.cell 0
      have c81 := h8.cell 1
      have c82 := h8.cell 2
      simp at c62 c90 c91 c92 c80 c81 c82
      have K6 := Lib.hid h6
      have K8 := Lib.hid h8
      have K9 := Lib.hid h9
      have HBR := Lib.hid hbr
      have HNO := Lib.hid hno
      clear h6 h8 h9 hbr hno
      by_cases hlt : k < l.length
      · obtain ⟨y, hy⟩ : ∃ y, l[k]? = some y := ⟨l[k], List.getElem?_eq_getElem hlt⟩
        obtain ⟨b, o, rfl, hb, _⟩ := HR.out (by intro h; rw [h] at hlt; simp at hlt)
        have hRr := HR.out.far HBR.out
        have cc := hRr.at_cells hy
        have q0 := cc 0 (.int .i64 y.op) rfl
        have q1 := cc 1 (.int .i64 y.op2) rfl
        have q2 := cc 2 (.int .i64 y.ty) rfl
        have q3 := cc 3 (.int .i64 y.d) rfl
        have q4 := cc 4 (.int .i64 y.a) rfl
        have q5 := cc 5 (.int .i64 y.b) rfl
        have q6 := cc 6 (.int .i64 y.n) rfl
        have q7 := cc 7 (.int .i64 y.count) rfl
        have q8 := cc 8 (.int .i64 y.step) rfl
        rw [Nat.add_zero] at q0
        have k0 : (0 : Int) ≤ (k : Int) := by omega
        have k1 : (k : Int) < (l.length : Int) := by omega
        have hbw : b < wr.heap.size := by omega
        have hMk := fun W => Makes_below W y
        unfold I9.arr at hMk
        have HMk := Lib.hid hMk
        have q0 := bel_cell q0 hbw
        have q1 := bel_cell q1 hbw
        have q2 := bel_cell q2 hbw
        have q3 := bel_cell q3 hbw
        have q4 := bel_cell q4 hbw
        have q5 := bel_cell q5 hbw
        have q6 := bel_cell q6 hbw
        have q7 := bel_cell q7 hbw
        have q8 := bel_cell q8 hbw
        have c62 := bel_cell c62 K6.out.lt
        have HY := Lib.hid hy
        have HRR := Lib.hid hRr
        have HD := Lib.hid (show makesL y = v → y.step = x.fr - 1 → declN l v x.fr = k from fun h1 h2 => by
          have hget : l[k] = y := (List.getElem?_eq_some_iff.1 hy).2
          have h3 : ¬ k < declN l v x.fr := fun h3 => by
            have := List.not_of_lt_findIdx h3
            rw [hget] at this
            simp [h1, h2] at this
          have := HNO.out
          omega)
        have HND := Lib.hid (show ¬ (makesL y = v ∧ y.step = x.fr - 1) → k + 1 ≤ declN l v x.fr from fun h1 => by
          have hget : l[k] = y := (List.getElem?_eq_some_iff.1 hy).2
          have h2 := HNO.out
          refine Nat.lt_of_le_of_ne h2 fun h3 => h1 ?_
          have h4 := List.findIdx_getElem (p := fun i : I9 => decide (makesL i = v) && decide (i.step = x.fr - 1)) (xs := l) (w := show declN l v x.fr < l.length by omega)
          have h5 : l[declN l v x.fr]'(by omega) = y := by
            have h6 : l[declN l v x.fr]? = some y := by rw [← h3]; exact hy
            exact (List.getElem?_eq_some_iff.1 h6).2
          have h7 : l[List.findIdx (fun i : I9 => decide (makesL i = v) && decide (i.step = x.fr - 1)) l]'(show declN l v x.fr < l.length by omega) = y := h5
          rw [h7] at h4
          simpa using h4)
        clear cc hMk hy hRr
        generalize makesL y = mk at *
        by_cases hm : mk = v
        · subst hm
          by_cases hs : y.step = x.fr - 1
          · have hq := HD.out rfl hs
            have HQ := Lib.hid hq
            have hsb : (y.step == x.fr - 1) = true := by simp [hs]
            clear hs hq HD HND
            go_upto_region 7 with fail
            refine region_bel (by kernel_rfl) (by kernel_rfl) ?_
            repeat (go_big_quiet_step (first | (go_at_call 12; exact calls_bel (HMk.out _))))
            refine wpQuiet_nil ?_
            rintro _ ⟨pw, rfl⟩
            have e9 := blk_bel K9.out pw
            have e8 := blk_bel K8.out pw
            have p90 := e9.cell 0
            have p91 := e9.cell 1
            have p92 := e9.cell 2
            have p80 := e8.cell 0
            have p81 := e8.cell 1
            have p82 := e8.cell 2
            have pf9 := e9.frozen
            have pf8 := e8.frozen
            simp at p90 p91 p92 p80 p81 p82
            clear e9 e8 c90 c91 c92 c80 c81 c82 f8 f9
            go_wp2_with fail
            rw [HRL.out, HQ.out, if_pos hlt]
            refine bodyPost_ret (results_cell_row Try.results31 _ _ (w.heap.size + 1) 54 (Sp3.arr ⟨mk, k, beginsN l x.till⟩) (0, 0) _ (by rfl) ?_ Try.underlying54 (by rfl) (by kernel_rfl)) rfl ?_
            · exact Blk.heap (Blk.set (Blk.set (Blk.set (Blk.far (blk_bel K8.out pw) (by simp) _) 0 _) 1 _) 2 _)
            · exact ⟨rfl, ((((below_bel HBR.out pw).setCell (p := ⟨w.heap.size + 1 + 1, 1, none⟩) (by simp <;> omega) _).setCell (p := ⟨w.heap.size + 1, 0, none⟩) (by simp <;> omega) _).setCell (p := ⟨w.heap.size + 1, 1, none⟩) (by simp <;> omega) _).setCell (p := ⟨w.heap.size + 1, 2, none⟩) (by simp <;> omega) _⟩
          · have hsb : (y.step == x.fr - 1) = false := by simpa using hs
            have HSS := Lib.hid (HND.out (by omega))
            clear hs HD HND
            go_upto_region 7 with fail
            refine region_bel (by kernel_rfl) (by kernel_rfl) ?_
            repeat (go_big_quiet_step (first | (go_at_call 12; exact calls_bel (HMk.out _))))
            refine wpQuiet_nil ?_
            rintro _ ⟨pw, rfl⟩
            go_wp2_with fail
            refine ⟨⟨k + 1, by omega, rfl, blk_bel K6.out pw, blk_bel K8.out pw, blk_bel K9.out pw, below_bel HBR.out pw, HSS.out⟩, by simp [intOf]; omega⟩
        · have HSS := Lib.hid (HND.out (by omega))
          have hmb : (mk == v) = false := by simpa using hm
          clear HD HND hm
          go_upto_region 7 with fail
          refine region_bel (by kernel_rfl) (by kernel_rfl) ?_
          repeat (go_big_quiet_step (first | (go_at_call 12; exact calls_bel (HMk.out _))))
          refine wpQuiet_nil ?_
          rintro _ ⟨pw, rfl⟩
          go_wp2_with fail
          refine ⟨⟨k + 1, by omega, rfl, blk_bel K6.out pw, blk_bel K8.out pw, blk_bel K9.out pw, below_bel HBR.out pw, HSS.out⟩, by simp [intOf]; omega⟩
      · have hn : ¬ ((k : Int) < (l.length : Int)) := by omega
        have hkl : k = l.length := by omega
        subst hkl
        have HRF := HR.out.far HBR.out
        have hno : ¬ declN l v x.fr < l.length := by have := HNO.out; omega
        go_wp2_with (go_at_call 14; refine (HBF.out _ HRF).mono ?_; rintro e w2 ⟨rfl, rfl⟩)
        rw [HRL.out, if_neg hno]
        refine bodyPost_ret (results_cell_row Try.results31 _ _ (w.heap.size + 1) 54 (Sp3.arr ⟨v, beginsN l x.fr, beginsN l x.till⟩) (0, 0) _ (by rfl) ?_ Try.underlying54 (by rfl) (by kernel_rfl)) rfl ?_
        · exact Blk.heap (Blk.set (Blk.set (Blk.set (Blk.far K8.out (by simp) _) 0 _) 1 _) 2 _)
        · exact ⟨rfl, (((HBR.out.setCell (p := ⟨w.heap.size + 1 + 1, 1, none⟩) (by simp <;> omega) _).setCell (p := ⟨w.heap.size + 1, 0, none⟩) (by simp <;> omega) _).setCell (p := ⟨w.heap.size + 1, 1, none⟩) (by simp <;> omega) _).setCell (p := ⟨w.heap.size + 1, 2, none⟩) (by simp <;> omega) _⟩
end Go.Proofs.Ytfmkfmcplffhdaa

/- ploverref19.value: the span of a temporary value. Conditions: sizes. -/
import Derived.Test.YtfmkfmcplffhdaaLvRp
import Derived.Deep.DeepCutAuto
import Derived.Laws.ResultCell
namespace Go.Proofs.Ytfmkfmcplffhdaa
set_option linter.unusedVariables false
open Go.RowKit
attribute [local irreducible] Blk
theorem results_rowtmp {P : Program} {fn : Func} {p u : Tmp} {ty : TypeId} (h : fn.results = #[.cell p ty, .tmp u]) (tmps : Array Value) (w : World) (g : Nat) (t : TypeId) (cs : Array Value) (fr : Nat × Nat) (d : TypeDesc)
    (hp : tmps.getD p undef = .pointer (some ⟨g, 0, none⟩)) (hg : w.heap[g]? = some (.cells cs t fr))
    (hu : P.underlying ty = some d) (hd : (match d with | .struct _ | .array _ _ => true | _ => false) = true) (hi : (P.info? ty).map (·.size) = some cs.size) :
    (results fn tmps).run P w = .ok (.tuple #[.agg cs, tmps.getD u undef]) w := by
  rw [results_cell_tmp h, hp]
  simp [asAddr, run_loadVar_row w g t ty cs fr d hg hu hd hi]
def spOr (o : Option Sp3) : Array Value := match o with
  | some s => s.arr
  | none => #[.int .i64 0, .int .i64 0, .int .i64 0]
def ValP (w : World) (o : Option Sp3) (e : Ending) (w' : World) : Prop := e = .returned (.tuple #[.agg (spOr o), .bool o.isSome]) ∧ Below w.heap.size w w'
theorem valTo_lt {l : List I9} {v : Int} {M : Nat} (hM : l.length ≤ M) : ∀ p, p ≤ l.length → -1 ≤ (valTo l v p).fr ∧ (valTo l v p).fr ≤ M ∧ -1 ≤ (valTo l v p).till ∧ (valTo l v p).till ≤ M
  | 0, _ => ⟨Int.le_refl _, by show (-1 : Int) ≤ _; omega, Int.le_refl _, by show (-1 : Int) ≤ _; omega⟩
  | p + 1, h => by
    have hx : l[p]? = some l[p] := List.getElem?_eq_getElem (by omega)
    rw [valTo_succ hx]
    obtain ⟨h1, h2, h3, h4⟩ := valTo_lt (v := v) hM p (by omega)
    unfold valStep
    simp only
    refine ⟨?_, ?_, ?_, ?_⟩ <;> split <;> omega
set_option maxRecDepth 100000 in
set_option maxHeartbeats 3200000 in
theorem value_any (w : World) (A : Option Addr) (l : List I9) (c : Nat) (v : Int) (hll : l.length ≤ 1000000000) (hr : RepI w A l) :
    Calls Try.prog 33 #[.slice A l.length c, .int .i64 v] w (ValP w (rval l v)) := by
  have HR := Lib.hid hr
  have HV := Lib.hid (show rval l v = rvalS (valTo l v l.length) v from rfl)
  have HB := Lib.hid (valTo_lt (l := l) (v := v) hll)
  clear hr
  go_enter Try.func33, Try.ntmps33
  go_wp2_with fail
  go_loopw [6, 7, 8] (fun fx tx ix wr => ∃ k : Nat, k ≤ l.length ∧ ix = .int .i64 (k : Int) ∧ fx = .int .i64 (valTo l v k).fr ∧ tx = .int .i64 (valTo l v k).till ∧ Below w.heap.size w wr ∧ Blk wr w.heap.size 54 #[.int .i64 0, .int .i64 0, .int .i64 0]) (fun _ _ ix _ => l.length - (intOf ix).toNat)
  case atStart => exact ⟨0, Nat.zero_le _, rfl, rfl, rfl, (Below.refl _ w).alloc (Nat.le_refl _) _, Blk.new w _ _⟩
  case round =>
    obtain ⟨k, hk, rfl, rfl, rfl, hbr, h4⟩ := hrel
    have hbs := hbr.size
    have hl4 := h4.lt
    obtain ⟨b1, b2, b3, b4⟩ := HB.out k hk
    by_cases hlt : k < l.length
    · obtain ⟨y, hy⟩ : ∃ y, l[k]? = some y := ⟨l[k], List.getElem?_eq_getElem hlt⟩
      obtain ⟨b, o, rfl, hb, _⟩ := HR.out (by intro h; rw [h] at hlt; simp at hlt)
      have hRr := HR.out.far hbr
      have cc := hRr.at_cells hy
      have q0 := cc 0 (.int .i64 y.op) rfl
      have q1 := cc 1 (.int .i64 y.op2) rfl
      have q2 := cc 2 (.int .i64 y.ty) rfl
      have q3 := cc 3 (.int .i64 y.d) rfl
      have q4 := cc 4 (.int .i64 y.a) rfl
      have q5 := cc 5 (.int .i64 y.b) rfl
      have q6 := cc 6 (.int .i64 y.n) rfl
      have q7 := cc 7 (.int .i64 y.count) rfl
      have q8 := cc 8 (.int .i64 y.step) rfl
      rw [Nat.add_zero] at q0
      have k0 : (0 : Int) ≤ (k : Int) := by omega
      have k1 : (k : Int) < (l.length : Int) := by omega
      have hbw : b < wr.heap.size := by omega
      have hMk := fun W => Makes_below W y
      have hRd := fun W => rreads_any W y v
      unfold I9.arr at hMk hRd
      have HMk := Lib.hid hMk
      have HRd := Lib.hid hRd
      have HN := Lib.hid (show valTo l v (k + 1) = ⟨if makesL y = v ∧ (valTo l v k).fr < 0 then (k : Int) else (valTo l v k).fr, if v ∈ readsL y then (k : Int) else (valTo l v k).till⟩ from valTo_succ hy)
      have HBR := Lib.hid hbr
      have H4 := Lib.hid h4
      clear cc hMk hRd hy hRr hbr h4
      generalize makesL y = mk at *
      generalize (valTo l v k).fr = f0 at *
      generalize (valTo l v k).till = t0 at *
      obtain ⟨rd, hrd⟩ : ∃ rd, decide (v ∈ readsL y) = rd := ⟨_, rfl⟩
      rw [hrd] at HRd
      have HRE := Lib.hid hrd
      clear hrd
      by_cases hm : mk = v
      · by_cases hf : f0 < 0
        · cases rd
          all_goals
            subst hm
            go_wp2_with (first
              | (go_at_call 46; refine (HRd.out _).mono ?_; rintro e w2 ⟨rfl, hb2⟩; have HB2 := Lib.hid hb2; have d0 := (hb2.cell (p := ⟨b, o + k * 9, none⟩) hbw).trans q0; have d1 := (hb2.cell (p := ⟨b, o + k * 9 + 1, none⟩) hbw).trans q1; have d2 := (hb2.cell (p := ⟨b, o + k * 9 + 2, none⟩) hbw).trans q2; have d3 := (hb2.cell (p := ⟨b, o + k * 9 + 3, none⟩) hbw).trans q3; have d4 := (hb2.cell (p := ⟨b, o + k * 9 + 4, none⟩) hbw).trans q4; have d5 := (hb2.cell (p := ⟨b, o + k * 9 + 5, none⟩) hbw).trans q5; have d6 := (hb2.cell (p := ⟨b, o + k * 9 + 6, none⟩) hbw).trans q6; have d7 := (hb2.cell (p := ⟨b, o + k * 9 + 7, none⟩) hbw).trans q7; have d8 := (hb2.cell (p := ⟨b, o + k * 9 + 8, none⟩) hbw).trans q8; clear hb2)
              | (go_at_call 12; refine (HMk.out _).mono ?_; rintro e w3 ⟨rfl, hb3⟩; have HB3 := Lib.hid hb3; clear hb3))
            refine ⟨⟨k + 1, by omega, rfl, ?_, ?_, HBR.out.trans ((HB2.out.trans (HB3.out.mono HB2.out.size)).mono hbs), H4.out.below (HB2.out.trans (HB3.out.mono HB2.out.size)) hl4⟩, by simp [intOf]; omega⟩
            · rw [HN.out]
              show _ = Value.int .i64 (if _ then _ else _)
              rw [if_pos (by first | exact ⟨rfl, hf⟩ | exact ⟨trivial, hf⟩)]
            · rw [HN.out]
              show _ = Value.int .i64 (if _ then _ else _)
              first | rw [if_pos (of_decide_eq_true HRE.out)] | rw [if_neg (of_decide_eq_false HRE.out)]
        · cases rd
          all_goals
            subst hm
            go_wp2_with (first
              | (go_at_call 46; refine (HRd.out _).mono ?_; rintro e w2 ⟨rfl, hb2⟩; have HB2 := Lib.hid hb2; have d0 := (hb2.cell (p := ⟨b, o + k * 9, none⟩) hbw).trans q0; have d1 := (hb2.cell (p := ⟨b, o + k * 9 + 1, none⟩) hbw).trans q1; have d2 := (hb2.cell (p := ⟨b, o + k * 9 + 2, none⟩) hbw).trans q2; have d3 := (hb2.cell (p := ⟨b, o + k * 9 + 3, none⟩) hbw).trans q3; have d4 := (hb2.cell (p := ⟨b, o + k * 9 + 4, none⟩) hbw).trans q4; have d5 := (hb2.cell (p := ⟨b, o + k * 9 + 5, none⟩) hbw).trans q5; have d6 := (hb2.cell (p := ⟨b, o + k * 9 + 6, none⟩) hbw).trans q6; have d7 := (hb2.cell (p := ⟨b, o + k * 9 + 7, none⟩) hbw).trans q7; have d8 := (hb2.cell (p := ⟨b, o + k * 9 + 8, none⟩) hbw).trans q8; clear hb2)
              | (go_at_call 12; refine (HMk.out _).mono ?_; rintro e w3 ⟨rfl, hb3⟩; have HB3 := Lib.hid hb3; clear hb3))
            refine ⟨⟨k + 1, by omega, rfl, ?_, ?_, HBR.out.trans ((HB2.out.trans (HB3.out.mono HB2.out.size)).mono hbs), H4.out.below (HB2.out.trans (HB3.out.mono HB2.out.size)) hl4⟩, by simp [intOf]; omega⟩
            · rw [HN.out]
              show _ = Value.int .i64 (if _ then _ else _)
              rw [if_neg (fun h => by have := h.2; omega)]
            · rw [HN.out]
              show _ = Value.int .i64 (if _ then _ else _)
              first | rw [if_pos (of_decide_eq_true HRE.out)] | rw [if_neg (of_decide_eq_false HRE.out)]
      · cases rd
        all_goals
          go_wp2_with (first
            | (go_at_call 46; refine (HRd.out _).mono ?_; rintro e w2 ⟨rfl, hb2⟩; have HB2 := Lib.hid hb2; have d0 := (hb2.cell (p := ⟨b, o + k * 9, none⟩) hbw).trans q0; have d1 := (hb2.cell (p := ⟨b, o + k * 9 + 1, none⟩) hbw).trans q1; have d2 := (hb2.cell (p := ⟨b, o + k * 9 + 2, none⟩) hbw).trans q2; have d3 := (hb2.cell (p := ⟨b, o + k * 9 + 3, none⟩) hbw).trans q3; have d4 := (hb2.cell (p := ⟨b, o + k * 9 + 4, none⟩) hbw).trans q4; have d5 := (hb2.cell (p := ⟨b, o + k * 9 + 5, none⟩) hbw).trans q5; have d6 := (hb2.cell (p := ⟨b, o + k * 9 + 6, none⟩) hbw).trans q6; have d7 := (hb2.cell (p := ⟨b, o + k * 9 + 7, none⟩) hbw).trans q7; have d8 := (hb2.cell (p := ⟨b, o + k * 9 + 8, none⟩) hbw).trans q8; clear hb2)
            | (go_at_call 12; refine (HMk.out _).mono ?_; rintro e w3 ⟨rfl, hb3⟩; have HB3 := Lib.hid hb3; clear hb3))
          refine ⟨⟨k + 1, by omega, rfl, ?_, ?_, HBR.out.trans ((HB2.out.trans (HB3.out.mono HB2.out.size)).mono hbs), H4.out.below (HB2.out.trans (HB3.out.mono HB2.out.size)) hl4⟩, by simp [intOf]; omega⟩
          · rw [HN.out]
            show _ = Value.int .i64 (if _ then _ else _)
            rw [if_neg (fun h => hm h.1)]
          · rw [HN.out]
            show _ = Value.int .i64 (if _ then _ else _)
            first | rw [if_pos (of_decide_eq_true HRE.out)] | rw [if_neg (of_decide_eq_false HRE.out)]
    · have hn : ¬ ((k : Int) < (l.length : Int)) := by omega
      have hkl : k = l.length := by omega
      subst hkl
      have HN := HV
      clear HV
      have HBR := Lib.hid hbr
      have H4 := Lib.hid h4
      have f4 := h4.frozen
      have c40 := h4.cell 0
      have c41 := h4.cell 1
      have c42 := h4.cell 2
      simp at c40 c41 c42
      clear hbr h4
      generalize valTo l v l.length = s at *
      obtain ⟨f0, t0⟩ := s
      simp only at *
      by_cases hf : f0 < 0
      · by_cases ht : t0 < 0
        · have HE := Lib.hid (show rval l v = none by rw [HN.out]; unfold rvalS; rw [if_pos ⟨hf, ht⟩])
          go_wp2_with fail
          rw [HE.out]
          refine bodyPost_ret (results_rowtmp Try.results33 _ _ w.heap.size 54 #[.int .i64 0, .int .i64 0, .int .i64 0] (0, 0) _ (by rfl) (Blk.heap (((H4.out.set 0 _).set 1 _).set 2 _)) Try.underlying54 (by rfl) (by kernel_rfl)) rfl ⟨rfl, ((HBR.out.setCell (p := ⟨w.heap.size, 0, none⟩) (by simp) _).setCell (p := ⟨w.heap.size, 1, none⟩) (by simp) _).setCell (p := ⟨w.heap.size, 2, none⟩) (by simp) _⟩
        · have HE := Lib.hid (show rval l v = some ⟨v, t0, t0⟩ by rw [HN.out]; unfold rvalS; simp only; rw [if_neg (fun h => ht h.2), if_pos hf, if_neg ht])
          go_wp2_with fail
          rw [HE.out]
          refine bodyPost_ret (results_rowtmp Try.results33 _ _ w.heap.size 54 #[.int .i64 v, .int .i64 t0, .int .i64 t0] (0, 0) _ (by rfl) (Blk.heap (((H4.out.set 0 _).set 1 _).set 2 _)) Try.underlying54 (by rfl) (by kernel_rfl)) rfl ⟨rfl, ((HBR.out.setCell (p := ⟨w.heap.size, 0, none⟩) (by simp) _).setCell (p := ⟨w.heap.size, 1, none⟩) (by simp) _).setCell (p := ⟨w.heap.size, 2, none⟩) (by simp) _⟩
      · by_cases ht : t0 < 0
        · have HE := Lib.hid (show rval l v = some ⟨v, f0, f0⟩ by rw [HN.out]; unfold rvalS; simp only; rw [if_neg (fun h => hf h.1), if_neg hf, if_pos ht])
          go_wp2_with fail
          rw [HE.out]
          refine bodyPost_ret (results_rowtmp Try.results33 _ _ w.heap.size 54 #[.int .i64 v, .int .i64 f0, .int .i64 f0] (0, 0) _ (by rfl) (Blk.heap (((H4.out.set 0 _).set 1 _).set 2 _)) Try.underlying54 (by rfl) (by kernel_rfl)) rfl ⟨rfl, ((HBR.out.setCell (p := ⟨w.heap.size, 0, none⟩) (by simp) _).setCell (p := ⟨w.heap.size, 1, none⟩) (by simp) _).setCell (p := ⟨w.heap.size, 2, none⟩) (by simp) _⟩
        · have HE := Lib.hid (show rval l v = some ⟨v, f0, t0⟩ by rw [HN.out]; unfold rvalS; simp only; rw [if_neg (fun h => hf h.1), if_neg hf, if_neg ht])
          go_wp2_with fail
          rw [HE.out]
          refine bodyPost_ret (results_rowtmp Try.results33 _ _ w.heap.size 54 #[.int .i64 v, .int .i64 f0, .int .i64 t0] (0, 0) _ (by rfl) (Blk.heap (((H4.out.set 0 _).set 1 _).set 2 _)) Try.underlying54 (by rfl) (by kernel_rfl)) rfl ⟨rfl, ((HBR.out.setCell (p := ⟨w.heap.size, 0, none⟩) (by simp) _).setCell (p := ⟨w.heap.size, 1, none⟩) (by simp) _).setCell (p := ⟨w.heap.size, 2, none⟩) (by simp) _⟩
end Go.Proofs.Ytfmkfmcplffhdaa

/- ploverref19.Spans: the document's spans are those of live.Spans. Conditions: sizes. -/
import Derived.Test.YtfmkfmcplffhdaaLvRc
import Derived.Test.YtfmkfmcplffhdaaLvRd
namespace Go.Proofs.Ytfmkfmcplffhdaa
set_option linter.unusedVariables false
open Go.RowKit
attribute [local irreducible] Blk
theorem tempsTo_len (l : List I9) (n : Nat) : ∀ j, (tempsTo l n j).length ≤ j
  | 0 => Nat.le_refl _
  | j + 1 => by
    have h := tempsTo_len l n j
    have h2 : ((rval l ((n + j : Nat) : Int)).toList).length ≤ 1 := by cases rval l ((n + j : Nat) : Int) <;> simp
    show (tempsTo l n j ++ _).length ≤ _
    rw [List.length_append]
    omega
theorem tempsTo_next (l : List I9) {n m : Nat} (h : n ≤ m) : tempsTo l n (m + 1 - n) = tempsTo l n (m - n) ++ (rval l (m : Int)).toList := by
  obtain ⟨j, rfl⟩ : ∃ j, m = n + j := ⟨m - n, by omega⟩
  rw [show n + j + 1 - n = j + 1 by omega, show n + j - n = j by omega]
  rfl
set_option maxRecDepth 100000 in
set_option maxHeartbeats 3200000 in
theorem RSpans_any (w : World) (A : Option Addr) (l : List I9) (c : Nat) (B : Option Addr) (xs : List Lo4) (c2 : Nat) (params : Int) (hll : l.length ≤ 1000000) (hxl : xs.length ≤ 1000000) (hr : RepI w A l) (hrx : RepLo w B xs) (hmo : mostL l < 5000)
    (hfr : ∀ x ∈ xs, -1000000 ≤ x.fr ∧ x.fr ≤ 1000000) :
    Calls Try.prog 17 #[.slice A l.length c, .slice B xs.length c2, .int .i64 params] w (SpansP w (spansL l xs params)) := by
  have HR := Lib.hid hr
  have HX := Lib.hid hrx
  have HF := Lib.hid hfr
  have HDEF := Lib.hid (show spansL l xs params = localsL l params 0 xs ++ tempsL (knownL xs.length l) from rfl)
  have HTE := Lib.hid (fun (j : Nat) (h : mostL l < (xs.length : Int) + (j : Int)) => temps_eq (l := l) (n := xs.length) (j := j) (fun t ht => by have := touch_most ht; omega))
  have HLL := Lib.hid (localsL_len l params 0 xs)
  clear hr hrx hfr
  obtain ⟨i0, hi0, hz0, hz1, hz2⟩ := info_parts infoSpan
  have HII := Lib.hid (⟨hi0, hz0, hz1, hz2⟩ : _ ∧ _ ∧ _ ∧ _)
  clear hi0 hz0 hz1 hz2
  go_enter Try.func17, Try.ntmps17
  go_wp2_with fail
  go_loopw [7, 8] (fun o ix wr => ∃ k : Nat, k ≤ xs.length ∧ ix = .int .i64 (k : Int) ∧ wr.ownsRow w.heap.size 54 3 o k (spCells (localsL l params 0 (xs.take k))) ∧ Below w.heap.size w wr) (fun _ ix _ => xs.length - (intOf ix).toNat)
  case atStart => exact ⟨0, Nat.zero_le _, rfl, World.ownsRow_nil _ _ _ _, Below.refl _ _⟩
  case round =>
    obtain ⟨k, hk, rfl, hown, hbr⟩ := hrel
    have hbs := hbr.size
    by_cases hlt : k < xs.length
    · obtain ⟨x, hx⟩ : ∃ x, xs[k]? = some x := ⟨xs[k], List.getElem?_eq_getElem hlt⟩
      obtain ⟨b, o2, rfl, hb, hcs⟩ := HX.out (by intro h; rw [h] at hlt; simp at hlt)
      have k0 : (0 : Int) ≤ (k : Int) := by omega
      have k1 : (k : Int) < (xs.length : Int) := by omega
      have cc := fun j u hu => (hbr.cell (p := ⟨b, o2 + k * 4 + j, none⟩) hb).trans (hcs k x hx j u hu)
      have d0 := cc 0 (.string x.name) rfl
      have d1 := cc 1 (.int .i64 x.ty) rfl
      have d2 := cc 2 (.int .i64 x.fr) rfl
      have d3 := cc 3 (.int .i64 x.till) rfl
      rw [Nat.add_zero] at d0
      have HT := Lib.hid (localsL_take l params hx)
      obtain ⟨hf0, hf1⟩ := HF.out x (List.mem_of_getElem? hx)
      have hRr : RepI wr A l := HR.out.far hbr
      obtain ⟨s, hs⟩ : ∃ s, localL l (k : Int) x (decide ((k : Int) < params)) = s := ⟨_, rfl⟩
      have hL := fun W (hRW : RepI W A l) => rlocal_any W A l c (k : Int) x (decide ((k : Int) < params)) (by omega) hRW hf0 hf1
      rw [rlocal_eq k0, hs] at hL
      have HS := Lib.hid hs
      unfold SpanP Sp3.arr Lo4.arr at hL
      have HL := Lib.hid hL
      have HRr := Lib.hid hRr
      clear hL hRr hs cc hcs hx
      go_wp2_with (first
        | (go_at_call 31; refine (HL.out _ HRr.out).mono ?_; rintro e w2 ⟨rfl, hb2⟩; have hown2 := own_below hown hb2; have hs2 := hb2.size)
        | (at_builtin; refine wpList_append_own _ rfl (.tmp 19) (.tmp 30) _ rfl w.heap.size 54 i0 _ 3 24 Try.underlying38 HII.out.1 HII.out.2.1 HII.out.2.2.1 HII.out.2.2.2 rfl (by omega) _ _ _ rfl (hown2.alloc _) ⟨w2.heap.size, 0, none⟩ 1 1 [.int .i64 s.v, .int .i64 s.fr, .int .i64 s.till] rfl rfl (World.news_of_block (cs := #[.int .i64 s.v, .int .i64 s.fr, .int .i64 s.till]) (t := 54) (fr := (0, 0)) (heap_alloc_new w2 _)) (by simp [Value.oneCell']) (by unfold maxLen; omega) (by omega) (by simp; omega) ?_; intro v3 w3 hown3 hgrow hnil3; clear hnil3))
      have hrow := fun j hj => (hown2.lt j hj).1
      refine ⟨⟨k + 1, by omega, rfl, ?_, ((hbr.trans (hb2.mono hbs)).alloc (by omega) _).grown hgrow (by simp; omega) hrow⟩, by simp [intOf]; omega⟩
      rw [HT.out, HS.out, spCells_append]
      exact hown3
    · have hn : ¬ ((k : Int) < (xs.length : Int)) := by omega
      have hke : k = xs.length := by omega
      subst hke
      rw [List.take_length] at hown
      have HRr := Lib.hid (HR.out.far hbr)
      have HM := Lib.hid (fun W (h : RepI W A l) => most_any W A l c h (by omega))
      go_wp2_with (go_at_call 32; refine (HM.out _ HRr.out).mono ?_; rintro e w1 ⟨rfl, hb1⟩; have hown1 := own_below hown hb1)
      have HB1 := Lib.hid (hbr.trans (hb1.mono hbs))
      clear hbr hb1 hbs hown HRr HM HX
      go_loopw [7, 10] (fun o vx wq => ∃ m : Nat, xs.length ≤ m ∧ m ≤ xs.length + 5000 ∧ vx = .int .i64 (m : Int) ∧ wq.ownsRow w.heap.size 54 3 o (localsL l params 0 xs ++ tempsTo l xs.length (m - xs.length)).length (spCells (localsL l params 0 xs ++ tempsTo l xs.length (m - xs.length))) ∧ Below w.heap.size w wq) (fun _ vx _ => xs.length + 5000 - (intOf vx).toNat)
      case atStart =>
        refine ⟨xs.length, Nat.le_refl _, by omega, rfl, ?_, HB1.out⟩
        rw [Nat.sub_self, show tempsTo l xs.length 0 = [] from rfl, List.append_nil, HLL.out]
        exact hown1
      case round =>
        clear hown1
        obtain ⟨m, hm0, hm1, rfl, hown, hbr⟩ := hrel
        have hbs := hbr.size
        by_cases hle : (m : Int) ≤ mostL l
        · have h5 : (m : Int) < (xs.length : Int) + 5000 := by omega
          have hd5 : decide ((m : Int) < (xs.length : Int) + 5000) = true := decide_eq_true h5
          have hdl : decide ((m : Int) ≤ mostL l) = true := decide_eq_true hle
          have HRr := Lib.hid (HR.out.far hbr)
          have HV := Lib.hid (fun W (h : RepI W A l) => value_any W A l c (m : Int) (by omega) h)
          have HN := Lib.hid (tempsTo_next l hm0)
          have HCT : Hid ((localsL l params 0 xs ++ tempsTo l xs.length (m - xs.length)).length ≤ 1005000) := Lib.hid (by
            have h1 := tempsTo_len l xs.length (m - xs.length)
            rw [List.length_append, HLL.out]
            omega)
          generalize hmx : mostL l = mx at *
          have HMX := Lib.hid hmx
          clear hmx
          unfold ValP at HV
          rcases hv : rval l (m : Int) with _ | s
          · rw [hv] at HV HN
            simp only [spOr, Option.isSome_none] at HV
            have HE := Lib.hid hv
            clear hv
            go_wp2_with (go_at_call 33; refine (HV.out _ HRr.out).mono ?_; rintro e w2 ⟨rfl, hb2⟩; have hown2 := own_below hown hb2; have hs2 := hb2.size)
            refine ⟨⟨m + 1, by omega, by omega, rfl, ?_, (hbr.trans (hb2.mono hbs)).alloc (by omega) _⟩, by simp [intOf]; omega⟩
            rw [HN.out, Option.toList_none, List.append_nil]
            exact hown2.alloc _
          · rw [hv] at HV HN
            simp only [spOr, Sp3.arr, Option.isSome_some] at HV
            have HE := Lib.hid hv
            clear hv
            have hctl := HCT.out
            have HLS := Lib.hid hown
            generalize hLL : localsL l params 0 xs ++ tempsTo l xs.length (m - xs.length) = LL at *
            have HLE := Lib.hid hLL
            clear hLL
            have hct2 : LL.length ≤ 1005000 := hctl
            clear hctl
            go_wp2_with (first
              | (go_at_call 33; refine (HV.out _ HRr.out).mono ?_; rintro e w2 ⟨rfl, hb2⟩; have hown2 := own_below hown hb2; have hs2 := hb2.size)
              | (at_builtin; refine wpList_append_own _ rfl (.tmp 55) (.tmp 57) _ rfl w.heap.size 54 i0 _ 3 24 Try.underlying38 HII.out.1 HII.out.2.1 HII.out.2.2.1 HII.out.2.2.2 rfl (by omega) _ _ _ rfl ((hown2.alloc _).alloc _) ⟨w2.heap.size + 1, 0, none⟩ 1 1 [.int .i64 s.v, .int .i64 s.fr, .int .i64 s.till] rfl rfl (World.news_of_block (cs := #[.int .i64 s.v, .int .i64 s.fr, .int .i64 s.till]) (t := 54) (fr := (0, 0)) (Blk.heap (Blk.newAt (by simp)))) (by simp [Value.oneCell']) (by unfold maxLen; omega) (by omega) (by simp; omega) ?_; intro v3 w3 hown3 hgrow hnil3; clear hnil3))
            have hrow := fun j hj => (hown2.lt j hj).1
            refine ⟨⟨m + 1, by omega, by omega, rfl, ?_, (((hbr.trans (hb2.mono hbs)).alloc (by omega) _).alloc (by simp; omega) _).grown hgrow (by simp; omega) hrow⟩, by simp [intOf]; omega⟩
            rw [HN.out, ← List.append_assoc, HLE.out, spCells_append, List.length_append]
            exact hown3
        · have hdl : decide ((m : Int) ≤ mostL l) = false := decide_eq_false hle
          have HEQ := Lib.hid (HTE.out (m - xs.length) (by omega))
          generalize hmx : mostL l = mx at *
          have HMX := Lib.hid hmx
          clear hmx
          go_wp2_with fail
          go_ret
          unfold SpansP
          rw [HDEF.out, ← HEQ.out]
          exact ⟨_, rfl, hown, hbr⟩
end Go.Proofs.Ytfmkfmcplffhdaa

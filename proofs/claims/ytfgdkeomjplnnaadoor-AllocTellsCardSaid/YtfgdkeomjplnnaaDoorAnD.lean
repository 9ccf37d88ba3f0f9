/- alloc.Most tells how many spans meet: the walk. Conditions: sizes. -/
import Derived.Test.YtfgdkeomjplnnaaDoorAnC
import Derived.Test.YtfgdkeomjplnnaaDoorSlSort
import Derived.Test.YtfgdkeomjplnnaaDoorLvQp
namespace Go.Proofs.YtfgdkeomjplnnaaDoor
set_option linter.unusedVariables false
open Go.RowKit
attribute [local irreducible] Blk
theorem infoEd : (Tryd.prog.info? 63).map (fun i => (i.zero, i.size, i.bytes)) = some (some (.agg #[.int .i64 0, .int .i64 0]), 2, 16) := by kernel_rfl
theorem own_form {w : World} {base : Nat} {e : TypeId} {size n : Nat} {v : Value} {xs : List Value} (h : w.ownsRow base e size v n xs) : ∃ A c, v = .slice A n c := by
  rcases h.2 with ⟨h1, h0⟩ | ⟨g, cap, cur, h1, _⟩
  · exact ⟨none, 0, by rw [h1, h0]⟩
  · exact ⟨_, _, h1⟩
def RepE (w : World) (A : Option Addr) (l : List Ed) : Prop :=
  ∀ k x, l[k]? = some x → ∃ b, A = some ⟨b, 0, none⟩ ∧ b < w.heap.size ∧ w.cell? ⟨b, k * 2, none⟩ = some (.int .i64 x.p) ∧ w.cell? ⟨b, k * 2 + 1, none⟩ = some (.int .i64 x.m)
theorem RepE.far {w w' : World} {A : Option Addr} {l : List Ed} (h : RepE w A l) (hb : Below w.heap.size w w') : RepE w' A l := fun k x hx => by
  obtain ⟨b, hA, hl, h0, h1⟩ := h k x hx
  exact ⟨b, hA, Nat.lt_of_lt_of_le hl hb.size, (hb.cell (p := ⟨b, _, none⟩) hl).trans h0, (hb.cell (p := ⟨b, _, none⟩) hl).trans h1⟩
theorem sortE_any (w : World) (base : Nat) (A : Option Addr) (c n : Nat) (E : List Ed) (hown : w.ownsRow base 63 2 (.slice A n c) n (E.flatMap encE)) (hn : n = E.length) (hs : n < 4611686018427387904) :
    Calls Tryd.prog 30 #[.slice A n c, .func (.func 31) #[] #[]] w fun e w' => e = .returned (.tuple #[]) ∧ ∃ E', E'.Perm E ∧ E'.Pairwise (fun x y => ltE y x = false) ∧ RepE w' A E' ∧ Below base w w' := by
  by_cases h0 : n = 0
  · subst h0
    refine (Tryd.slices_SortFunc_none_f30 (α := Ed) A c (.func (.func 31) #[] #[]) w).mono ?_
    rintro e w' ⟨rfl, rfl⟩
    have hE : E = [] := List.length_eq_zero_iff.1 hn.symm
    subst hE
    exact ⟨rfl, [], List.Perm.refl _, List.Pairwise.nil, fun k x hx => by simp at hx, Below.refl _ _⟩
  · obtain ⟨g, cap, he, _, hlt⟩ := hown.form (by omega)
    obtain ⟨rfl, rfl⟩ : A = some ⟨g, 0, none⟩ ∧ c = cap := by simpa using he
    have hsz : E.toArray.size = n := by simp [hn]
    have hown2 : w.ownsRow base 63 2 (.slice (some ⟨g, 0, none⟩) E.toArray.size c) E.toArray.size (E.toArray.toList.flatMap encE) := by rw [hsz]; exact hown
    have hH := holds_row encE (fun _ => rfl) E.toArray hown2
    have eg : ∀ args w, (callFunc 31 args).run Tryd.prog w = .ok (.enter 31 args) w := enters_of Tryd.func31 (by kernel_rfl) rfl
    have hcon := Tryd.slices_SortFunc_f30 2 Tryd.isAgg63 Tryd.sizeOf63 encE (fun _ => rfl) (fun x v hv => by simp [encE] at hv; rcases hv with rfl | rfl <;> rfl) cmpE swoE 31 #[] g 0 c E.toArray w eg (fun _ _ _ _ x y => cmpE_any _ x y) hH hlt (by omega)
    rw [hsz] at hcon
    refine hcon.mono ?_
    rintro e w' ⟨rfl, d', m, os, hp, hsd, rfl⟩
    rw [← hsz] at hp hsd
    obtain ⟨k1, k2, k3⟩ := sorted_list hp hsd
    refine ⟨rfl, d'.toList, by simpa using k1, k3.imp (fun h => by rw [← ltE_eq]; exact h), fun k x hx => ⟨g, rfl, ?_, ?_⟩, below_sortK encE 2 w g 0 m d' os (hown.lt g rfl).1 hlt⟩
    · exact Nat.lt_of_lt_of_le hlt (size_sortWorldK_c encE 2 w g 0 m d' os)
    · have hk : k < d'.size := by
        have := (List.getElem?_eq_some_iff.1 hx).1
        simpa using this
      have hHd := holdsK_sortWorldK_c encE 2 w g 0 E.toArray d' m os hH hlt k2
      have c0 := (Go.Sort.HoldsK.cell hHd hk (show 0 < 2 by omega)).1
      have c1 := (Go.Sort.HoldsK.cell hHd hk (show 1 < 2 by omega)).1
      have hx2 : d'[k]! = x := by
        rw [getElem!_pos d' k hk]
        have := (List.getElem?_eq_some_iff.1 hx).2
        simpa using this
      rw [hx2, Nat.zero_add, Nat.add_zero] at c0
      rw [hx2, Nat.zero_add] at c1
      exact ⟨c0, c1⟩
theorem sumE_bd {sp : List Sp} {E : List Ed} (hp : E.Perm (edL sp)) : ∀ k : Nat, -(k : Int) ≤ sumE (E.take k) ∧ sumE (E.take k) ≤ (k : Int)
  | 0 => by simp [sumE]
  | k + 1 => by
    have ih := sumE_bd hp k
    by_cases hk : k < E.length
    · rw [List.take_succ_eq_append_getElem hk, sumE_append]
      obtain ⟨s, _, h⟩ := edL_mem (hp.mem_iff.1 (List.getElem_mem hk))
      have : sumE [E[k]] = 1 ∨ sumE [E[k]] = -1 := by
        rcases h with h | h <;> rw [h] <;> simp [sumE]
      omega
    · rw [List.take_of_length_le (by omega)] at ih ⊢
      omega
theorem mxE_bd {sp : List Sp} {E : List Ed} (hp : E.Perm (edL sp)) : ∀ k : Nat, 0 ≤ mxE E k ∧ mxE E k ≤ (k : Int)
  | 0 => by simp [mxE]
  | k + 1 => by
    have ih := mxE_bd hp k
    have := sumE_bd hp (k + 1)
    show 0 ≤ max _ _ ∧ max _ _ ≤ _
    omega
set_option maxRecDepth 100000 in
set_option maxHeartbeats 6400000 in
theorem Most_any (w : World) (A : Option Addr) (sp : List Sp) (c : Nat) (hr : RepS w A sp) (hn : sp.length ≤ 1000) (hfr : ∀ s ∈ sp, -1000000000 ≤ s.fr ∧ s.fr ≤ 1000000000) :
    Calls Tryd.prog 16 #[.slice A sp.length c] w fun e w' => e = .returned (.int .i64 (mostF sp : Int)) ∧ Below w.heap.size w w' := by
  have HR := Lib.hid hr
  have HF := Lib.hid hfr
  clear hr hfr
  obtain ⟨i0, hi0, hz0, hz1, hz2⟩ := info_parts infoEd
  have HII := Lib.hid (⟨hi0, hz0, hz1, hz2⟩ : _ ∧ _ ∧ _ ∧ _)
  clear hi0 hz0 hz1 hz2
  go_enter Tryd.func16, Tryd.ntmps16
  go_wp2_with fail
  go_loopw [3, 11] (fun ev ix wr => ∃ k : Nat, k ≤ sp.length ∧ ix = .int .i64 (k : Int) ∧ Hid (wr.ownsRow w.heap.size 63 2 ev (2 * k) ((edL (sp.take k)).flatMap encE)) ∧ Hid (Below w.heap.size w wr)) (fun _ ix _ => sp.length - (intOf ix).toNat)
  case atStart => exact ⟨0, Nat.zero_le _, rfl, Lib.hid (World.ownsRow_nil _ _ _ _), Lib.hid (Below.refl _ _)⟩
  case round =>
    obtain ⟨k, hk, rfl, HO, HB⟩ := hrel
    have hbs : w.heap.size ≤ wr.heap.size := HB.out.size
    by_cases hlt : k < sp.length
    · obtain ⟨x, hx⟩ : ∃ x, sp[k]? = some x := ⟨sp[k], List.getElem?_eq_getElem hlt⟩
      obtain ⟨b, o, rfl, hb, hcs⟩ := HR.out (by intro h; rw [h] at hlt; simp at hlt)
      have k0 : (0 : Int) ≤ (k : Int) := by omega
      have k1 : (k : Int) < (sp.length : Int) := by omega
      have g1 : decide ((k : Int) < (sp.length : Int)) = true := decide_eq_true k1
      have cc := fun j u hu => (HB.out.cell (p := ⟨b, o + k * 3 + j, none⟩) hb).trans (hcs k x hx j u hu)
      have d0 := cc 0 (.int .i64 x.v) rfl
      have d1 := cc 1 (.int .i64 x.fr) rfl
      have d2 := cc 2 (.int .i64 x.till) rfl
      rw [Nat.add_zero] at d0
      have hbw : b < wr.heap.size := by omega
      obtain ⟨f0, f1⟩ := HF.out x (List.mem_of_getElem? hx)
      have HEN := Lib.hid (fun W => end_any W x f0 f1)
      have HT := Lib.hid (show (edL (sp.take (k + 1))).flatMap encE = (edL (sp.take k)).flatMap encE ++ [.int .i64 x.fr, .int .i64 1, .int .i64 (enS x), .int .i64 (-1)] by
        rw [take_snoc' hx]
        unfold edL
        rw [List.flatMap_append, List.flatMap_append]
        rfl)
      clear cc hcs hx
      obtain ⟨xv, xf, xt⟩ := x
      simp only at *
      generalize enS ⟨xv, xf, xt⟩ = en at *
      go_wp2_with fail
      have HBL := Lib.hid (Blk.new wr 32 #[.int .i64 xv, .int .i64 xf, .int .i64 xt])
      have cc0 := fun p : Bel (wr.alloc (.cells #[.int .i64 xv, .int .i64 xf, .int .i64 xt] 32)) => bel_cell (HBL.out.cell 0) (by simp) p
      have cc1 := fun p : Bel (wr.alloc (.cells #[.int .i64 xv, .int .i64 xf, .int .i64 xt] 32)) => bel_cell (HBL.out.cell 1) (by simp) p
      have cc2 := fun p : Bel (wr.alloc (.cells #[.int .i64 xv, .int .i64 xf, .int .i64 xt] 32)) => bel_cell (HBL.out.cell 2) (by simp) p
      simp at cc0 cc1 cc2
      have HW1 := Lib.hid (show Below w.heap.size w (wr.alloc (.cells #[.int .i64 xv, .int .i64 xf, .int .i64 xt] 32)) from HB.out.alloc hbs _)
      have HO1 := Lib.hid (HO.out.alloc (.cells #[.int .i64 xv, .int .i64 xf, .int .i64 xt] 32))
      have hz1 : (wr.alloc (.cells #[.int .i64 xv, .int .i64 xf, .int .i64 xt] 32)).heap.size = wr.heap.size + 1 := by simp
      generalize hw1 : wr.alloc (.cells #[.int .i64 xv, .int .i64 xf, .int .i64 xt] 32) = w1 at *
      refine wp_region_any (by kernel_rfl) ?_
      refine wpAny_take (i := 0) (v := ?_) rfl (by kernel_rfl) (by kernel_rfl) (by kernel_rfl) (fun _ _ _ h => h) (Or.inl ⟨by rfl, ?_⟩) ?_
      rotate_left
      · intro w'
        go_simp
        with_reducible rfl
      refine tail_pre (C := fun w' => ∃ p : Bel w1, w' = p.val) 1 7 ⟨⟨w1.drew, (Below.refl _ w1).drew⟩, rfl⟩ rfl rfl (by kernel_rfl) (by rfl) (by kernel_rfl) (by kernel_rfl) (by kernel_rfl) (by kernel_rfl) ?_
      simp only [List.take_succ_cons, List.take_zero, List.drop_succ_cons, List.drop_zero, List.getElem_toArray, List.getElem_cons_zero, Act.put, List.setIfInBounds_toArray, List.set_cons_succ, List.set_cons_zero]
      repeat (go_big_quiet_step (first | (go_at_call 25; exact calls_bel (HEN.out _))))
      refine wpQuiet_nil ?_
      rintro _ ⟨p, rfl⟩
      have HP := Lib.hid p.le
      generalize p.val = w4 at *
      have hs4 : w1.heap.size ≤ w4.heap.size := HP.out.size
      have HO4 := Lib.hid (own_bel2 HO1.out HP.out)
      obtain ⟨gg, cap, w5, hrun, hown5, hgrow, hat, hlt5⟩ := run_append_lies (P := Tryd.prog) (w4.alloc (.cells #[.int .i64 xf, .int .i64 1, .int .i64 en, .int .i64 (-1)] 63)) 61 61 w.heap.size 63 i0 _ 2 16 Tryd.underlying61 HII.out.1 HII.out.2.1 HII.out.2.2.1 HII.out.2.2.2 rfl (by omega) _ (2 * k) _ (HO4.out.alloc _) ⟨w4.heap.size, 0, none⟩ 2 2 [.int .i64 xf, .int .i64 1, .int .i64 en, .int .i64 (-1)] (by rfl) (World.news_of_block (cs := #[.int .i64 xf, .int .i64 1, .int .i64 en, .int .i64 (-1)]) (t := 63) (fr := (0, 0)) (Blk.heap (Blk.new w4 _ _))) (by simp [Value.oneCell']) (by omega) (by unfold maxLen; omega) (by omega) (by simp; omega) (w4.heap.size + 1) (by simp)
      have HG := Lib.hid hgrow
      have HO5 := Lib.hid hown5
      have hrow := Lib.hid (fun j hj => (HO4.out.lt j hj).1)
      clear hgrow hown5 hat hlt5
      simp [go_sem] at hrun
      go_wp2_with fail
      refine ⟨⟨k + 1, by omega, rfl, Lib.hid ?_, Lib.hid (((HW1.out.trans (HP.out.mono HW1.out.size)).alloc (by omega) _).grown HG.out (by simp; omega) hrow.out)⟩, by simp [intOf]; omega⟩
      rw [HT.out, show 2 * (k + 1) = 2 * k + 2 by omega]
      exact HO5.out
    · have hke : k = sp.length := by omega
      subst hke
      have k1 : ¬ (sp.length : Int) < (sp.length : Int) := by omega
      obtain ⟨A3, c3, rfl⟩ := own_form HO.out
      have HS := Lib.hid (sortE_any wr w.heap.size A3 c3 (2 * sp.length) (edL sp) (by have := HO.out; rwa [List.take_length] at this) (by rw [edL_len]) (by omega))
      clear k1
      go_wp2_with fail
      refine HS.out.mono ?_
      rintro e w2 ⟨rfl, E, hp, hsd, hre, hb2⟩
      have hEl : E.length = 2 * sp.length := by rw [hp.length_eq, edL_len]
      have HP := Lib.hid hp
      have HSD := Lib.hid hsd
      have HRE := Lib.hid hre
      have HB2 := Lib.hid (HB.out.trans hb2)
      clear hp hsd hre hb2 HS
      rw [← hEl]
      have hl2 : E.length ≤ 2000 := by omega
      have HEL := Lib.hid hEl
      clear hEl
      go_wp2_with fail
      go_loopw [2, 6, 29] (fun mv nv ix wr => ∃ k : Nat, k ≤ E.length ∧ ix = .int .i64 (k : Int) ∧ nv = .int .i64 (sumE (E.take k)) ∧ mv = .int .i64 (mxE E k) ∧ Hid (Below w2.heap.size w2 wr)) (fun _ _ ix _ => E.length - (intOf ix).toNat)
      case atStart => exact ⟨0, Nat.zero_le _, rfl, rfl, rfl, Lib.hid (Below.refl _ _)⟩
      case round =>
        obtain ⟨k, hk, rfl, rfl, rfl, HB3⟩ := hrel
        by_cases hlt : k < E.length
        · obtain ⟨x, hx⟩ : ∃ x, E[k]? = some x := ⟨E[k], List.getElem?_eq_getElem hlt⟩
          obtain ⟨b, rfl, hb, e0, e1⟩ := HRE.out k x hx
          have k0 : (0 : Int) ≤ (k : Int) := by omega
          have k1 : (k : Int) < (E.length : Int) := by omega
          have g1 : decide ((k : Int) < (E.length : Int)) = true := decide_eq_true k1
          have d0 := (HB3.out.cell (p := ⟨b, k * 2, none⟩) hb).trans e0
          have d1 := (HB3.out.cell (p := ⟨b, k * 2 + 1, none⟩) hb).trans e1
          obtain ⟨s0, s1⟩ := sumE_bd HP.out k
          obtain ⟨t0, t1⟩ := mxE_bd HP.out k
          have hxm : x.m = 1 ∨ x.m = -1 := by
            obtain ⟨s, _, h⟩ := edL_mem (HP.out.mem_iff.1 (List.mem_of_getElem? hx))
            rcases h with h | h <;> rw [h] <;> simp
          have m0 : -1 ≤ x.m := by omega
          have m1 : x.m ≤ 1 := by omega
          have HSU := Lib.hid (show sumE (E.take (k + 1)) = sumE (E.take k) + x.m by
            rw [take_snoc' hx, sumE_append]
            simp [sumE])
          obtain ⟨mx, hmx⟩ : ∃ mx, max (mxE E k) (sumE (E.take k) + x.m) = mx := ⟨_, rfl⟩
          have hmax := fun ats ty => max_lit ats ty (mxE E k) (sumE (E.take k) + x.m)
          rw [hmx] at hmax
          have HMX := Lib.hid (show mxE E (k + 1) = mx by
            show max _ (sumE (E.take (k + 1))) = mx
            rw [HSU.out]
            exact hmx)
          have hw3 : w2.heap.size ≤ wr.heap.size := HB3.out.size
          clear e0 e1 hx hmx hxm
          obtain ⟨xp, xm⟩ := x
          simp only at *
          generalize sumE (E.take k) = sk at *
          generalize mxE E k = mk at *
          go_wp2_with fail
          exact ⟨⟨k + 1, by omega, rfl, by rw [HSU.out], by rw [HMX.out], Lib.hid (HB3.out.alloc hw3 _)⟩, by simp [intOf]; omega⟩
        · have hke : k = E.length := by omega
          subst hke
          have k1 : ¬ (E.length : Int) < (E.length : Int) := by omega
          have HM := Lib.hid (most_law HP.out HSD.out)
          have HBE := Lib.hid (HB2.out.trans (HB3.out.mono (HB2.out.size)))
          rw [HM.out]
          clear k1
          go_wp2_with fail
          go_ret
          exact ⟨rfl, HBE.out⟩
end Go.Proofs.YtfgdkeomjplnnaaDoor

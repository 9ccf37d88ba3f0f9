/- ploverlaw19.homes returns the map homesL. Conditions: at most a million spans; their values and places are small. -/
import Derived.Test.YtfmkfmcplffhdaaLvBa
import Derived.Test.YtfmkfmcplffhdaaLvHm
import Derived.BigQuiet
import Derived.Deep.RegionHeld3
namespace Go.Proofs.Ytfmkfmcplffhdaa
set_option linter.unusedVariables false
open Go.RowKit
attribute [local irreducible] Blk
def iV (n : Int) : Value := .int .i64 n
theorem wf_sm {v : Int} (h0 : 0 ≤ v) (h1 : v ≤ 100000) : (Lit.int .i64 v).wf = true := by
  have e : IntKind.i64.min = -9223372036854775808 := by decide
  simp [Lit.wf]
  omega
def HomesP (w : World) (sp : List Sp3) (e : Ending) (w' : World) : Prop := ∃ b, e = .returned (.map (some b)) ∧ MapX w' b (mapA iV (homesL sp)) ∧ w.heap.size ≤ b ∧ Below w.heap.size w w'
set_option maxRecDepth 100000 in
set_option maxHeartbeats 6400000 in
theorem homes_any (w : World) (A : Option Addr) (sp : List Sp3) (cp : Nat) (hS : RepSp w A sp) (hlen : sp.length ≤ 10000) (hsm : ∀ x ∈ sp, 0 ≤ x.v ∧ x.v ≤ 1000 ∧ -100000 ≤ x.fr ∧ x.fr ≤ 100000 ∧ -100000 ≤ x.till ∧ x.till ≤ 100000) :
    Calls Try.prog 20 #[.slice A sp.length cp] w (HomesP w sp) := by
  have hmm := @run_makeMap Try.prog
  have HS := Lib.hid hS
  have HSM := Lib.hid hsm
  have hM : MapX (w.alloc (.map #[] 0)) w.heap.size [] := MapX.made rfl
  have hB := (Below.refl w.heap.size w).alloc (Nat.le_refl _) (.map #[] 0)
  have HM := Lib.hid hM
  have HB := Lib.hid hB
  clear hS hsm hM hB
  go_enter Try.func20, Try.ntmps20
  go_wp2_with fail
  go_loopw [4] (fun ix wr => ∃ i : Nat, i ≤ sp.length ∧ ix = .int .i64 (i : Int) ∧ MapX wr w.heap.size (mapA iV (homesTo sp i)) ∧ Below w.heap.size w wr) (fun ix _ => sp.length - (intOf ix).toNat)
  case atStart => exact ⟨0, Nat.zero_le _, rfl, HM.out, HB.out⟩
  case round =>
    obtain ⟨i, hi, rfl, hMr, hbr⟩ := hrel
    by_cases hlt : i < sp.length
    · obtain ⟨x, hx⟩ : ∃ x, sp[i]? = some x := ⟨sp[i], List.getElem?_eq_getElem hlt⟩
      obtain ⟨b, o, rfl, hb, _⟩ := HS.out (by intro h; rw [h] at hlt; simp at hlt)
      have i0 : (0 : Int) ≤ (i : Int) := by omega
      have i1 : (i : Int) < (sp.length : Int) := by omega
      have hMl := hMr.lt
      have hbs := hbr.size
      have HN1 := Lib.hid (show MapX (wr.alloc (.map #[] 0)) wr.heap.size [] from MapX.made rfl)
      have HM1 := Lib.hid (hMr.alloc (.map #[] 0))
      have HB1 := Lib.hid (hbr.alloc hbs (.map #[] 0))
      clear hMr hbr
      go_upto_region 6 with fail
      go_wp2_with fail
      generalize wr.alloc (.map #[] 0) = W1 at *
      generalize wr.heap.size = N at *
      go_loopw [6] (fun kx wx => ∃ k : Nat, k ≤ i ∧ kx = .int .i64 (k : Int) ∧ MapX wx N (mapA iV (takTo (homesTo sp i) sp x k)) ∧ MapX wx w.heap.size (mapA iV (homesTo sp i)) ∧ Below w.heap.size w wx) (fun kx _ => i - (intOf kx).toNat)
      case atStart => exact ⟨0, Nat.zero_le _, rfl, HN1.out, HM1.out, HB1.out⟩
      case round =>
        obtain ⟨k, hk, rfl, hNr, hMr, hbr⟩ := hrel
        by_cases hki : k < i
        · obtain ⟨y, hy⟩ : ∃ y, sp[k]? = some y := ⟨sp[k], List.getElem?_eq_getElem (by omega)⟩
          have hSr := HS.out.far hbr
          obtain ⟨s0, s1, s2⟩ := hSr.at hx
          obtain ⟨t0, t1, t2⟩ := hSr.at hy
          have k0 : (0 : Int) ≤ (k : Int) := by omega
          have k1 : (k : Int) < (i : Int) := by omega
          have k2 : (k : Int) < (sp.length : Int) := by omega
          have hbx : b < wr.heap.size := by have := hbr.size; omega
          clear hSr
          go_upto_region 9 with fail
          go_cut [7, 8] from 23 to 30 (fun s7 s8 wx => ∃ g7 g8, s7 = .pointer (some ⟨g7, 0, none⟩) ∧ s8 = .pointer (some ⟨g8, 0, none⟩) ∧ w.heap.size < g7 ∧ w.heap.size < g8 ∧ Blk wx g7 54 x.arr ∧ Blk wx g8 54 y.arr ∧ MapX wx N (mapA iV (takTo (homesTo sp i) sp x k)) ∧ MapX wx w.heap.size (mapA iV (homesTo sp i)) ∧ Below w.heap.size w wx)
          case first =>
            go_region_held3 (fun w' => w'.cell? ⟨b, o + i * 3, none⟩ = some (.int .i64 x.v) ∧ w'.cell? ⟨b, o + i * 3 + 1, none⟩ = some (.int .i64 x.fr) ∧ w'.cell? ⟨b, o + i * 3 + 2, none⟩ = some (.int .i64 x.till) ∧ w'.cell? ⟨b, o + k * 3, none⟩ = some (.int .i64 y.v) ∧ w'.cell? ⟨b, o + k * 3 + 1, none⟩ = some (.int .i64 y.fr) ∧ w'.cell? ⟨b, o + k * 3 + 2, none⟩ = some (.int .i64 y.till))
              (first
                | (go_keep; done)
                | (refine ⟨?_, ?_, ?_, ?_, ?_, ?_⟩ <;> (repeat (refine (cell_far (by omega) _).trans ?_)) <;> first | assumption | ((go_keep; done))))
              (first | fail)
            all_goals
              go_wp2_with fail
              go_meet
            all_goals
              have hMl2 := hMr.lt
              have hbs2 := hbr.size
            · exact ⟨_, _, rfl, rfl, by omega, by omega, ((Blk.new wr _ _).alloc _).drew, (Blk.newAt (by simp)).drew, ((hNr.alloc _).alloc _).drew, ((hMr.alloc _).alloc _).drew, ((hbr.alloc hbs2 _).alloc (by simp; omega) _).drew⟩
            · exact ⟨_, _, rfl, rfl, by omega, by omega, (Blk.newAt (by simp)).drew, ((Blk.new wr _ _).alloc _).drew, ((hNr.alloc _).alloc _).drew, ((hMr.alloc _).alloc _).drew, ((hbr.alloc hbs2 _).alloc (by simp; omega) _).drew⟩
          case rest =>
            obtain ⟨g7, g8, rfl, rfl, h7, h8, hx7, hy8, hNx, hMx, hBx⟩ := hcut
            have a0 := hx7.cell 0
            have a1 := hx7.cell 1
            have a2 := hx7.cell 2
            have b0 := hy8.cell 0
            have b1 := hy8.cell 1
            have b2 := hy8.cell 2
            simp [Sp3.arr] at a0 a1 a2 b0 b1 b2
            have l7 := hx7.lt
            have l8 := hy8.lt
            obtain ⟨x0, x1, x2, x3, x4, x5⟩ := HSM.out x (List.mem_of_getElem? hx)
            obtain ⟨y0, y1, y2, y3, y4, y5⟩ := HSM.out y (List.mem_of_getElem? hy)
            clear hx7 hy8
            by_cases m1 : x.fr < max y.till (y.fr + 1)
            · by_cases m2 : y.fr < max x.till (x.fr + 1)
              · obtain ⟨q0, q1⟩ := homes_bd sp i y.v
                have hgd : (getX (mapA iV (homesTo sp i)) y.v).getD (.int .i64 0) = .int .i64 (hAt (homesTo sp i) y.v) := by rw [getX_map]; unfold hAt; cases getA (homesTo sp i) y.v <;> rfl
                go_wp2_with (first
                  | (at_lookup; go_loud (refine wpList_lookX _ rfl _ _ 47 rfl 3 3 Try.underlying47 Try.underlying3 (.int .i64 0) (Try.zeroValue3 _) w.heap.size (mapA iV (homesTo sp i)) rfl hMx y.v rfl (.int .i64 (hAt (homesTo sp i) y.v)) hgd ?_))
                  | (refine wpList_updX _ rfl _ _ _ 47 rfl 3 3 Try.underlying47 Try.underlying3 N _ rfl hNx (hAt (homesTo sp i) y.v) (.int .i64 1) rfl (wf_sm q0 (by omega)) rfl ?_; intro w9 hN9 hg9))
                refine ⟨⟨k + 1, by omega, rfl, ?_, hMx.kept hg9 (by simp; omega), hBx.grown hg9 hBx.size (fun j hj => by simp at hj; omega)⟩, by simp [intOf]; omega⟩
                rw [takTo_succ hy, takStep, if_pos (by simp [meetB]; omega), ← putX_map]
                exact hN9
              · go_wp2_with fail
                refine ⟨⟨k + 1, by omega, rfl, ?_, hMx, hBx⟩, by simp [intOf]; omega⟩
                rw [takTo_succ hy, takStep, if_neg (by simp [meetB]; omega)]
                exact hNx
            · go_wp2_with fail
              refine ⟨⟨k + 1, by omega, rfl, ?_, hMx, hBx⟩, by simp [intOf]; omega⟩
              rw [takTo_succ hy, takStep, if_neg (by simp [meetB]; omega)]
              exact hNx
        · obtain rfl : k = i := by omega
          have k1 : ¬ ((k : Int) < (k : Int)) := by omega
          have HN9 := Lib.hid hNr
          have HM9 := Lib.hid hMr
          have HB9 := Lib.hid hbr
          have hfree := free_at (l := sp) (i := k) (a := x)
          obtain ⟨f0, f1, f2, _⟩ := free_spec (takTo (homesTo sp k) sp x k) k 0
          have hsucc := homesTo_succ hx
          have e0 := ((HS.out.far hbr).at hx).1
          have hbx : b < wr.heap.size := by have := hbr.size; omega
          obtain ⟨x0, x1, x2, x3, x4, x5⟩ := HSM.out x (List.mem_of_getElem? hx)
          clear hNr hMr hbr
          generalize wr = W2 at *
          generalize freeFrom (takTo (homesTo sp k) sp x k) k 0 = fr at *
          generalize takTo (homesTo sp k) sp x k = T at *
          go_upto_region 12 with fail
          go_wp2_with fail
          go_loopw [9] (fun hx' wx => ∃ h : Nat, (h : Int) ≤ fr ∧ hx' = .int .i64 (h : Int) ∧ wx = W2) (fun hx' _ => fr.toNat - (intOf hx').toNat)
          case atStart => exact ⟨0, by omega, rfl, rfl⟩
          case round =>
            obtain ⟨h, hh, rfl, rfl⟩ := hrel
            have hgd : (getX (mapA iV T) (h : Int)).getD (.int .i64 0) = .int .i64 (hAt T (h : Int)) := by rw [getX_map]; unfold hAt; cases getA T (h : Int) <;> rfl
            by_cases hl : (h : Int) < fr
            · have ht := f2 h (by omega) hl
              go_wp2_with (first
                | (at_lookup; refine wpList_lookX _ rfl _ _ 47 rfl 3 3 Try.underlying47 Try.underlying3 (.int .i64 0) (Try.zeroValue3 _) N (mapA iV T) rfl HN9.out (h : Int) rfl (.int .i64 (hAt T (h : Int))) hgd ?_))
              refine ⟨⟨h + 1, by omega, rfl, trivial⟩, ?_⟩
              simp [intOf]
              omega
            · obtain rfl : fr = (h : Int) := by omega
              have HSC := Lib.hid hsucc
              clear hsucc
              go_wp2_with (first
                | (at_lookup; refine wpList_lookX _ rfl _ _ 47 rfl 3 3 Try.underlying47 Try.underlying3 (.int .i64 0) (Try.zeroValue3 _) N (mapA iV T) rfl HN9.out (h : Int) rfl (.int .i64 (hAt T (h : Int))) hgd ?_)
                | (refine wpList_updX _ rfl _ _ _ 47 rfl 3 3 Try.underlying47 Try.underlying3 w.heap.size _ rfl HM9.out x.v (.int .i64 (h : Int)) rfl (wf_sm x0 (by omega)) rfl ?_; intro w9 hN9 hg9))
              refine ⟨⟨k + 1, by omega, rfl, ?_, HB9.out.grown hg9 HB9.out.size (fun j hj => by simp at hj; omega)⟩, by simp [intOf]; omega⟩
              rw [HSC.out, ← putX_map]
              exact hN9
    · have i1 : ¬ ((i : Int) < (sp.length : Int)) := by omega
      obtain rfl : i = sp.length := by omega
      go_wp2_with fail
      go_ret
      exact ⟨_, rfl, hMr, Nat.le_refl _, hbr⟩
end Go.Proofs.Ytfmkfmcplffhdaa

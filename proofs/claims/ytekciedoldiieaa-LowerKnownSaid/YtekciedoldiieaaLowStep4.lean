/- The method call of package lower: the arguments, the call, and what it sets. -/
import Derived.Test.YtekciedoldiieaaLowStep3
namespace Go.Proofs.Ytekciedoldiieaa
open Go.RowKit

/-- The instructions of arguments from the i-th on. -/
def argsL (s : Int) : List EV → Int → Int → List I9 × Int
  | [], _, r => ([], r)
  | x :: t, i, r => ((x.lower s r).1 ++ ⟨11, 0, 0, 0, (x.lower s r).2.1, 0, i, 0, s⟩ :: (argsL s t (i + 1) (x.lower s r).2.2).1, (argsL s t (i + 1) (x.lower s r).2.2).2)
/-- What a call sets. -/
def resL (st : SV) (r s : Int) : List I9 × Int :=
  if 0 ≤ st.var then ([⟨13, 0, 0, st.var, 0, 0, 0, 0, s⟩], r)
  else if 0 ≤ st.addr then ([⟨13, 0, 0, r, 0, 0, 0, 0, s⟩, putI st r s], r + 1)
  else ([], r)
def callL (st : SV) (r s : Int) : List I9 × Int :=
  ((argsL s st.es 0 r).1 ++ ⟨12, 0, 0, 0, 0, 0, st.func, 0, s⟩ :: (resL st (argsL s st.es 0 r).2 s).1, (resL st (argsL s st.es 0 r).2 s).2)
def room (es : List EV) : Nat := (es.map (fun e => e.size + 1)).sum

set_option maxRecDepth 100000 in
set_option maxHeartbeats 6400000 in
theorem call_any : DoesSaid 13 (fun st => (∀ e ∈ st.es, e.ok) ∧ st.es.length < 1000000000000) (fun st => room st.es + 4) callL := by
  rintro w g base av r s l st A c hl hes ⟨hok, hlen⟩ hn hr0 hr1 _
  have hput := fun W AV R L => put_any W g base AV R s L st A c
  have HPUT := Lib.hid hput
  clear hput
  obtain ⟨op, line, var, addr, count, ty, es, func, reg, next, els⟩ := st
  simp only at hok hes hn hr1 hlen
  have HOK := Lib.hid hok
  clear hok
  have HES := Lib.hid hes
  clear hes
  have hglt := hl.blk.lt
  have hbase := hl.low
  unfold SV.cells at HPUT ⊢
  go_enter Try.func13, Try.ntmps13
  go_wp2_with fail
  go_loopw [9] (fun i wr => ∃ (k : Nat) (lk : List I9) (rk : Int) (avk : Value), k ≤ es.length ∧ i = .int .i64 k ∧ Low wr g base avk rk s lk ∧ LS w wr g av avk ∧ Blk wr w.heap.size 31 #[.int .i64 op, .int .i64 line, .int .i64 var, .int .i64 addr, .int .i64 count, .int .i64 ty, .slice A es.length c, .int .i64 func, .int .i64 reg, .int .i64 next, .int .i64 els] ∧
      lk ++ (argsL s (es.drop k) k rk).1 = l ++ (argsL s es 0 r).1 ∧ (argsL s (es.drop k) k rk).2 = (argsL s es 0 r).2 ∧ lk.length + room (es.drop k) ≤ l.length + room es ∧ 0 ≤ rk ∧ rk + room (es.drop k) ≤ r + room es)
    (fun i _ => es.length - (intOf i).toNat)
  case atStart => exact ⟨0, l, r, av, Nat.zero_le _, rfl, hl.alloc _, (LS.refl w g av).alloc _, Blk.newAt rfl, by simp, by simp, by simp, hr0, by simp⟩
  case round =>
    obtain ⟨k, lk, rk, avk, hk, rfl, hlk, hsk, bS, hL, hR, hln, hrk0, hrk1⟩ := hrel
    have HL := Lib.hid hL
    have HR := Lib.hid hR
    clear hL hR
    have hzz := bS.lt
    have hbk := hlk.low
    have s0 := bS.cell 0
    have s1 := bS.cell 1
    have s2 := bS.cell 2
    have s3 := bS.cell 3
    have s4 := bS.cell 4
    have s5 := bS.cell 5
    have s6 := bS.cell 6
    have s7 := bS.cell 7
    have s8 := bS.cell 8
    have s9 := bS.cell 9
    have s10 := bS.cell 10
    simp at s0 s1 s2 s3 s4 s5 s6 s7 s8 s9 s10
    by_cases hlt : k < es.length
    · obtain ⟨x, hx⟩ : ∃ x, es[k]? = some x := ⟨es[k], by simp [hlt]⟩
      obtain ⟨b, o, rfl, hb, hall⟩ := HES.out (by intro h; rw [h] at hlt; simp at hlt)
      obtain ⟨cs, hr, hc⟩ := hall k x hx
      clear hall
      have hval := value_any x (HOK.out x (List.mem_of_getElem? hx))
      have HV := Lib.hid hval
      clear hval
      have hdrop : es.drop k = x :: es.drop (k + 1) := by rw [List.drop_eq_getElem_cons hlt]; congr 1; simpa [hlt] using hx
      have HD := Lib.hid hdrop
      have hroom : room (es.drop k) = x.size + 1 + room (es.drop (k + 1)) := by rw [hdrop]; simp [room]
      rw [hroom] at hln hrk1
      clear hdrop hroom hx
      have hrk := hr.step hl hsk
      obtain ⟨xop, xat, xnm, xfd, xn, xref, xA, xk, xc, rfl⟩ := hr.form
      have hblt : b < wr.heap.size := by omega
      have kb := fun i => hsk.old hl (a := ⟨b, i, none⟩) hb
      have d0 := (kb _).trans (hc 0 _ rfl)
      have d1 := (kb _).trans (hc 1 _ rfl)
      have d2 := (kb _).trans (hc 2 _ rfl)
      have d3 := (kb _).trans (hc 3 _ rfl)
      have d4 := (kb _).trans (hc 4 _ rfl)
      have d5 := (kb _).trans (hc 5 _ rfl)
      have d6 := (kb _).trans (hc 6 _ rfl)
      have d7 := (kb _).trans (hc 7 _ rfl)
      clear kb
      have hcm : 8 * k = k * 8 := Nat.mul_comm _ _
      rw [hcm] at d0 d1 d2 d3 d4 d5 d6 d7
      clear hcm
      simp only [Nat.add_zero] at d0 d1 d2 d3 d4 d5 d6 d7
      clear hc
      have hp := EV.lower_len s x rk
      have hq := EV.lower_regs s x rk
      go_wp2_with fail
      refine (HV.out _ g base avk rk s lk _ (hlk.alloc _) (hrk.alloc hbk _) (by omega) hrk0 (by omega)).mono ?_
      rintro e w1 ⟨rfl, av1, hl1, hs1⟩
      have bS1 := hs1.blk (hlk.alloc _) (bS.alloc _) (by decide) (.inl (by decide))
      have hS1 := (hsk.alloc _).trans hs1
      generalize hP : x.lower s rk = P at *
      obtain ⟨P1, P2, P3⟩ := P
      have HP := Lib.hid hP
      clear hP
      simp only at hl1 hp hq
      go_wp2_with fail
      refine (add_one _ g w1.heap.size base av1 P3 s (lk ++ P1) _ _ _ _ _ _ _ _ _ _ (hl1.alloc _) (Blk.newAt rfl) (by simp; omega)).mono ?_
      rintro e w2 ⟨rfl, av2, hl2, hs2⟩
      have bS2 := hs2.blk (hl1.alloc _) (bS1.alloc _) (by decide) (.inl (by decide))
      have hS2 := (hS1.alloc _).trans hs2
      go_wp2_with fail
      go_roundw
      case rel =>
        have e1 := HL.out
        have e2 := HR.out
        rw [HD.out] at e1 e2
        simp only [argsL, HP.out] at e1 e2
        refine ⟨k + 1, _, P3, av2, by omega, by go_num, hl2, hS2, bS2, ?_, ?_, ?_, by omega, by omega⟩
        · rw [← e1]; simp
        · rw [← e2]; simp
        · simp; omega
      case measure => simp [intOf]; omega
    · have hke : k = es.length := by omega
      have hdn : es.drop k = [] := by rw [hke]; simp
      have e1 := HL.out
      have e2 := HR.out
      rw [hdn] at e1 e2
      simp only [argsL, List.append_nil] at e1 e2
      have E1 := Lib.hid e1
      have E2 := Lib.hid e2
      clear e1 e2 hke hdn
      go_wp2_with fail
      refine (add_one _ g wr.heap.size base avk rk s lk _ _ _ _ _ _ _ _ _ _ (hlk.alloc _) (Blk.newAt rfl) (by omega)).mono ?_
      rintro e w2 ⟨rfl, av2, hl2, hs2⟩
      have bS2 := hs2.blk (hlk.alloc _) (bS.alloc _) (by decide) (.inl (by decide))
      have hS2 := (hsk.alloc _).trans hs2
      clear s0 s1 s2 s3 s4 s5 s6 s7 s8 s9 s10
      have s0 := bS2.cell 0
      have s1 := bS2.cell 1
      have s2 := bS2.cell 2
      have s3 := bS2.cell 3
      have s4 := bS2.cell 4
      have s5 := bS2.cell 5
      have s6 := bS2.cell 6
      have s7 := bS2.cell 7
      have s8 := bS2.cell 8
      have s9 := bS2.cell 9
      have s10 := bS2.cell 10
      simp at s0 s1 s2 s3 s4 s5 s6 s7 s8 s9 s10
      have hz2 := hs2.keep.size
      simp at hz2
      have hz3 : w.heap.size < w2.heap.size := by omega
      by_cases hv : 0 ≤ var
      · have HVV := Lib.hid (show (if 0 ≤ var then (1 : Nat) else 0) = 1 by simp [hv])
        go_wp2_with fail
        refine (add_one _ g w2.heap.size base av2 rk s _ _ _ _ _ _ _ _ _ _ _ (hl2.alloc _) (Blk.newAt rfl) (by simp; omega)).mono ?_
        rintro e w3 ⟨rfl, av3, hl3, hs3⟩
        go_wp2_with fail
        go_end0
        refine ⟨rfl, av3, ?_, (hS2.alloc _).trans hs3⟩
        simp only [callL, resL, if_pos hv]
        rw [← E2.out]
        have : l ++ ((argsL s es 0 r).1 ++ [⟨12, 0, 0, 0, 0, 0, func, 0, s⟩, ⟨13, 0, 0, var, 0, 0, 0, 0, s⟩]) = lk ++ [⟨12, 0, 0, 0, 0, 0, func, 0, s⟩] ++ [⟨13, 0, 0, var, 0, 0, 0, 0, s⟩] := by rw [E1.out]; simp
        rw [this]
        exact hl3
      · have hv' : var < 0 := by omega
        by_cases ha : 0 ≤ addr
        · have HVV := Lib.hid (And.intro hv' ha)
          clear hv
          go_wp2_with fail
          go_region_held3 (fun w' => w'.cell? ⟨w.heap.size, 0, none⟩ = some (.int .i64 op) ∧ w'.cell? ⟨w.heap.size, 1, none⟩ = some (.int .i64 line) ∧ w'.cell? ⟨w.heap.size, 2, none⟩ = some (.int .i64 var) ∧ w'.cell? ⟨w.heap.size, 3, none⟩ = some (.int .i64 addr) ∧ w'.cell? ⟨w.heap.size, 4, none⟩ = some (.int .i64 count) ∧ w'.cell? ⟨w.heap.size, 5, none⟩ = some (.int .i64 ty) ∧ w'.cell? ⟨w.heap.size, 6, none⟩ = some (.slice A es.length c) ∧ w'.cell? ⟨w.heap.size, 7, none⟩ = some (.int .i64 func) ∧ w'.cell? ⟨w.heap.size, 8, none⟩ = some (.int .i64 reg) ∧ w'.cell? ⟨w.heap.size, 9, none⟩ = some (.int .i64 next) ∧ w'.cell? ⟨w.heap.size, 10, none⟩ = some (.int .i64 els))
            (first
              | (go_keep; done)
              | (simp only [s0, s1, s2, s3, s4, s5, s6, s7, s8, s9, s10, and_self]))
            (first
              | (go_at_call 23; refine (fresh_any _ g base av2 rk s _ _ _ _ _ _ _ _ _ _ hl2.drew (by simp; omega) hrk0 (by omega)).mono ?_; rintro e w3 ⟨rfl, av3, hl3, hs3⟩; have bS3 := hs3.blk hl2.drew bS2.drew (by decide) (.inl (by decide)); have hS3 := hS2.drew.trans hs3; clear s0 s1 s2 s3 s4 s5 s6 s7 s8 s9 s10; have s0 := bS3.cell 0; have s1 := bS3.cell 1; have s2 := bS3.cell 2; have s3 := bS3.cell 3; have s4 := bS3.cell 4; have s5 := bS3.cell 5; have s6 := bS3.cell 6; have s7 := bS3.cell 7; have s8 := bS3.cell 8; have s9 := bS3.cell 9; have s10 := bS3.cell 10; simp at s0 s1 s2 s3 s4 s5 s6 s7 s8 s9 s10; have hz4 := hs3.keep.size; simp at hz4; have hz5 : w.heap.size < w3.heap.size := (by omega))
              | (go_at_call 21; refine (HPUT.out _ av3 _ _ _ hl3 (by simp; omega)).mono ?_; rintro e w4 ⟨rfl, av4, hl4, hs4⟩; have bS4 := hs4.blk hl3 bS3 (by decide) (.inl (by decide)); clear s0 s1 s2 s3 s4 s5 s6 s7 s8 s9 s10; have s0 := bS4.cell 0; have s1 := bS4.cell 1; have s2 := bS4.cell 2; have s3 := bS4.cell 3; have s4 := bS4.cell 4; have s5 := bS4.cell 5; have s6 := bS4.cell 6; have s7 := bS4.cell 7; have s8 := bS4.cell 8; have s9 := bS4.cell 9; have s10 := bS4.cell 10; simp at s0 s1 s2 s3 s4 s5 s6 s7 s8 s9 s10; have hS4 := hS3.trans hs4))
          all_goals
            go_wp2_with fail
            go_end0
            refine ⟨rfl, av4, ?_, hS4⟩
            simp only [callL, resL, if_neg (Int.not_le.2 HVV.out.1), if_pos HVV.out.2]
            rw [← E2.out]
            have hh : ∀ X Y Z : I9, l ++ ((argsL s es 0 r).1 ++ X :: [Y, Z]) = lk ++ [X] ++ [Y] ++ [Z] := fun X Y Z => by rw [E1.out]; simp
            rw [hh]
            exact hl4
        · have HVV := Lib.hid (And.intro hv' (show addr < 0 by omega))
          clear hv
          go_wp2_with fail
          go_end0
          refine ⟨rfl, av2, ?_, hS2⟩
          simp only [callL, resL, if_neg (Int.not_le.2 HVV.out.1), if_neg (Int.not_le.2 HVV.out.2)]
          rw [← E2.out]
          have hh : ∀ X : I9, l ++ ((argsL s es 0 r).1 ++ [X]) = lk ++ [X] := fun X => by rw [E1.out]; simp
          rw [hh]
          exact hl2
end Go.Proofs.Ytekciedoldiieaa

/- The function Unit of package lower: the instructions of all steps, and how many registers there are. Conditions: each step has as many expressions as its kind says; fewer than 10^12 instructions. -/
import Derived.Test.YtekciedoldiieaaLowOne
namespace Go.Proofs.Ytekciedoldiieaa
open Go.RowKit

/-- A slice of steps. -/
def RepSteps (w : World) (B : Nat) (A : Option Addr) (sts : List SV) : Prop :=
  sts ≠ [] → ∃ b o, A = some ⟨b, o, none⟩ ∧ b < B ∧ ∀ j st, sts[j]? = some st → ∃ A' c', RepEs w B A' st.es ∧ st.es.length ≤ c' ∧ ∀ i u, (st.cells A' c').toList[i]? = some u → w.cell? ⟨b, o + 11 * j + i, none⟩ = some u
/-- The instructions of steps from the i-th on. -/
def unitL : List SV → Int → Int → List I9 × Int
  | [], _, r => ([], r)
  | st :: t, i, r => ((oneL st r i).1 ++ (unitL t (i + 1) (oneL st r i).2).1, (unitL t (i + 1) (oneL st r i).2).2)
def mosts (sts : List SV) : Nat := (sts.map SV.most).sum

theorem argsL_regs (s : Int) : ∀ (es : List EV) (i r : Int), r ≤ (argsL s es i r).2 ∧ (argsL s es i r).2 ≤ r + room es
  | [], _, _ => by simp [argsL, room]
  | x :: t, i, r => by
    have h1 := EV.lower_regs s x r
    have h2 := argsL_regs s t (i + 1) (x.lower s r).2.2
    simp only [argsL, room, List.map_cons, List.sum_cons] at *
    omega
theorem oneL_regs (st : SV) (r s : Int) : r ≤ (oneL st r s).2 ∧ (oneL st r s).2 ≤ r + st.most := by
  have hset : r ≤ (setL st r s).2 ∧ (setL st r s).2 ≤ r + st.most := by
    unfold setL SV.most room
    rcases st.es with _ | ⟨x, t⟩
    · simp; omega
    · have h1 := EV.lower_regs s x r
      simp only [List.map_cons, List.sum_cons]
      split
      · simp only; omega
      · rcases t with _ | ⟨y, u⟩
        · simp only; omega
        · have h2 := EV.lower_regs s y (x.lower s r).2.2
          simp only [List.map_cons, List.sum_cons]
          omega
  have hcall : r ≤ (callL st r s).2 ∧ (callL st r s).2 ≤ r + st.most := by
    have h1 := argsL_regs s st.es 0 r
    unfold callL resL SV.most
    simp only
    repeat' split
    all_goals simp only; omega
  have hin : r ≤ (inL st r s).2 ∧ (inL st r s).2 ≤ r + st.most := by
    unfold inL SV.most
    split <;> simp only <;> omega
  have hout : r ≤ (outL st r s).2 ∧ (outL st r s).2 ≤ r + st.most := by
    unfold outL SV.most room
    rcases st.es with _ | ⟨x, t⟩
    · simp; omega
    · have h1 := EV.lower_regs s x r
      simp only [List.map_cons, List.sum_cons]
      omega
  have hif : r ≤ (ifL st r s).2 ∧ (ifL st r s).2 ≤ r + st.most := by
    unfold ifL SV.most room
    rcases st.es with _ | ⟨x, t⟩
    · simp; omega
    · have h1 := EV.lower_regs s x r
      simp only [List.map_cons, List.sum_cons]
      omega
  have hback : r ≤ (backL st r s).2 ∧ (backL st r s).2 ≤ r + st.most := by
    have h1 := EV.lower_regs s (backE st.es) r
    have h2 : (backE st.es).size ≤ room st.es + 1 := by
      unfold backE room
      rcases st.es with _ | ⟨x, t⟩
      · simp [EV.size]
      · simp; omega
    unfold backL SV.most
    simp only
    omega
  have h0 : r ≤ r ∧ r ≤ r + st.most := by omega
  simp only [oneL, bodyL]
  repeat' split
  all_goals assumption
theorem oneL_len (st : SV) (r s : Int) : (oneL st r s).1.length ≤ st.most := by
  have h1 := setL_len st r s
  have h2 := callL_len st r s
  have h3 := inL_len st r s
  have h4 := outL_len st r s
  have h5 := ifL_len st r s
  have h6 := backL_len st r s
  have h7 : (jumpL st s).length ≤ 1 := by unfold jumpL; split <;> simp
  have hb : (bodyL st r s).1.length ≤ room st.es + 4 := by
    unfold bodyL
    repeat' split
    all_goals first | assumption | simp
  simp only [oneL, SV.most, List.length_cons, List.length_append]
  split <;> simp <;> omega

set_option maxRecDepth 100000 in
set_option maxHeartbeats 6400000 in
theorem unit_any (w : World) (name : ByteArray) (vec prio params res : Int) (LA : Option Addr) (ln lc : Nat) (SA : Option Addr) (sc : Nat) (sts : List SV)
    (hsts : RepSteps w w.heap.size SA sts) (hok : ∀ st ∈ sts, st.ok) (hlen : sts.length < 1000000000000) (hm : ln + mosts sts < 1000000000000) :
    Calls Try.prog 7 #[.agg #[.string name, .int .i64 vec, .int .i64 prio, .int .i64 params, .int .i64 res, .slice LA ln lc, .slice SA sts.length sc]] w fun e w' =>
    ∃ av, e = .returned (.tuple #[av, .int .i64 (unitL sts 0 ln).2]) ∧ w'.ownsRow w.heap.size 28 9 av (unitL sts 0 ln).1.length (cellsOf (unitL sts 0 ln).1) ∧ Below w.heap.size w w' := by
  have HOK := Lib.hid hok
  clear hok
  have HS := Lib.hid hsts
  clear hsts
  go_enter Try.func7, Try.ntmps7
  go_wp2_with fail
  have hl0 : Low ((w.alloc (.cells #[.string name, .int .i64 vec, .int .i64 prio, .int .i64 params, .int .i64 res, .slice LA ln lc, .slice SA sts.length sc] 38)).alloc (.cells #[.slice none 0 0, .int .i64 ln, .int .i64 0] 43)) (w.heap.size + 1) w.heap.size (.slice none 0 0) ln 0 [] :=
    ⟨Blk.newAt (by simp), World.ownsRow_nil _ _ _ _, by simp; omega, by omega⟩
  have hS0 : LS ((w.alloc (.cells #[.string name, .int .i64 vec, .int .i64 prio, .int .i64 params, .int .i64 res, .slice LA ln lc, .slice SA sts.length sc] 38)).alloc (.cells #[.slice none 0 0, .int .i64 ln, .int .i64 0] 43)) ((w.alloc (.cells #[.string name, .int .i64 vec, .int .i64 prio, .int .i64 params, .int .i64 res, .slice LA ln lc, .slice SA sts.length sc] 38)).alloc (.cells #[.slice none 0 0, .int .i64 ln, .int .i64 0] 43)) (w.heap.size + 1) (.slice none 0 0) (.slice none 0 0) := LS.refl _ _ _
  generalize hW0 : ((w.alloc (.cells #[.string name, .int .i64 vec, .int .i64 prio, .int .i64 params, .int .i64 res, .slice LA ln lc, .slice SA sts.length sc] 38)).alloc (.cells #[.slice none 0 0, .int .i64 ln, .int .i64 0] 43)) = W0 at *
  have hb0 : Below w.heap.size w W0 := by rw [← hW0]; exact ((Below.refl _ _).alloc (Nat.le_refl _) _).alloc (by simp) _
  have HW := Lib.hid hW0
  clear hW0
  go_loopw [15] (fun i wr => ∃ (k : Nat) (lk : List I9) (rk sk : Int) (avk : Value), k ≤ sts.length ∧ i = .int .i64 k ∧ Low wr (w.heap.size + 1) w.heap.size avk rk sk lk ∧ LS W0 wr (w.heap.size + 1) (.slice none 0 0) avk ∧
      lk ++ (unitL (sts.drop k) k rk).1 = (unitL sts 0 ln).1 ∧ (unitL (sts.drop k) k rk).2 = (unitL sts 0 ln).2 ∧ lk.length + mosts (sts.drop k) ≤ mosts sts ∧ 0 ≤ rk ∧ rk + mosts (sts.drop k) ≤ ln + mosts sts)
    (fun i _ => sts.length - (intOf i).toNat)
  case atStart => exact ⟨0, [], ln, 0, .slice none 0 0, Nat.zero_le _, rfl, hl0, hS0, by simp, by simp, by simp, by omega, by simp⟩
  case round =>
    obtain ⟨k, lk, rk, sk, avk, hk, rfl, hlk, hsk, hL, hR, hln, hrk0, hrk1⟩ := hrel
    have HL := Lib.hid hL
    have HR := Lib.hid hR
    clear hL hR
    have hbk := hlk.low
    have hglt := hlk.blk.lt
    have g0 := hlk.blk.cell 0
    have g1 := hlk.blk.cell 1
    have g2 := hlk.blk.cell 2
    have f2 := hlk.blk.frozen 2
    simp at g0 g1 g2
    by_cases hlt : k < sts.length
    · obtain ⟨st, hx⟩ : ∃ st, sts[k]? = some st := ⟨sts[k], by simp [hlt]⟩
      obtain ⟨b, o, rfl, hb, hall⟩ := HS.out (by intro h; rw [h] at hlt; simp at hlt)
      obtain ⟨A', c', hes, hcap, hc⟩ := hall k st hx
      clear hall
      have hok := HOK.out st (List.mem_of_getElem? hx)
      have hdrop : sts.drop k = st :: sts.drop (k + 1) := by rw [List.drop_eq_getElem_cons hlt]; congr 1; simpa [hlt] using hx
      have HD := Lib.hid hdrop
      have hroom : mosts (sts.drop k) = st.most + mosts (sts.drop (k + 1)) := by rw [hdrop]; simp [mosts]
      rw [hroom] at hln hrk1
      clear hdrop hroom hx
      have hkb : Keep w wr (fun k => w.heap.size ≤ k) := (Keep.of_below hb0).trans hsk.keep (fun i hi hs => by
        rcases hs with hs | hs
        · omega
        · simp [Value.ownBlock] at hs)
      have hesk := hes.kept hkb (Nat.le_refl _) (fun i hi hc => by omega)
      have hblt : b < wr.heap.size := by have := hkb.size; omega
      have kb := fun i => hkb.cell (a := ⟨b, i, none⟩) hb (by simp; omega)
      obtain ⟨op, line, var, addr, count, ty, es, func, reg, next, els⟩ := st
      simp only [SV.cells] at hc hes hesk hcap
      have d0 := (kb _).trans (hc 0 _ rfl)
      have d1 := (kb _).trans (hc 1 _ rfl)
      have d2 := (kb _).trans (hc 2 _ rfl)
      have d3 := (kb _).trans (hc 3 _ rfl)
      have d4 := (kb _).trans (hc 4 _ rfl)
      have d5 := (kb _).trans (hc 5 _ rfl)
      have d6 := (kb _).trans (hc 6 _ rfl)
      have d7 := (kb _).trans (hc 7 _ rfl)
      have d8 := (kb _).trans (hc 8 _ rfl)
      have d9 := (kb _).trans (hc 9 _ rfl)
      have d10 := (kb _).trans (hc 10 _ rfl)
      clear kb hc
      have hcm : 11 * k = k * 11 := Nat.mul_comm _ _
      rw [hcm] at d0 d1 d2 d3 d4 d5 d6 d7 d8 d9 d10
      clear hcm
      simp only [Nat.add_zero] at d0
      have hp := oneL_len ⟨op, line, var, addr, count, ty, es, func, reg, next, els⟩ rk k
      have hq := oneL_regs ⟨op, line, var, addr, count, ty, es, func, reg, next, els⟩ rk k
      have hone := fun W AV hl hes => one_any W (w.heap.size + 1) w.heap.size AV rk k lk ⟨op, line, var, addr, count, ty, es, func, reg, next, els⟩ A' c' hl hes hok (by omega) hrk0 (by omega) hcap (by omega) (by omega)
      simp only [SV.cells] at hone
      have HONE := Lib.hid hone
      clear hone
      go_wp2_with fail
      refine (HONE.out _ avk ((hlk.setStep k).alloc _) ((hesk.kept ((Keep.refl wr (fun i => i = w.heap.size + 1)).setCell ⟨w.heap.size + 1, 2, none⟩ (fun _ => rfl) (.int .i64 k)) hbk (fun i hi hc => by have : i = w.heap.size + 1 := hc; omega)).alloc (by simpa [World.setCell] using hbk) _)).mono ?_
      rintro e w1 ⟨rfl, av1, hl1, hs1⟩
      have hS1 := ((hsk.setG 2 (.int .i64 k)).alloc _).trans hs1
      generalize hP : oneL ⟨op, line, var, addr, count, ty, es, func, reg, next, els⟩ rk k = P at *
      obtain ⟨P1, P2⟩ := P
      have HP := Lib.hid hP
      clear hP
      simp only at hl1 hp hq
      go_wp2_with fail
      go_roundw
      case rel =>
        have e1 := HL.out
        have e2 := HR.out
        rw [HD.out] at e1 e2
        simp only [unitL, HP.out] at e1 e2
        refine ⟨k + 1, _, P2, _, av1, by omega, by go_num, hl1, hS1, ?_, ?_, ?_, by omega, by omega⟩
        · rw [← e1]; simp
        · rw [← e2]; simp
        · simp; omega
      case measure => simp [intOf]; omega
    · have hke : k = sts.length := by omega
      have hdn : sts.drop k = [] := by rw [hke]; simp
      have e1 := HL.out
      have e2 := HR.out
      rw [hdn] at e1 e2
      simp only [unitL, List.append_nil] at e1 e2
      have E1 := Lib.hid e1
      have E2 := Lib.hid e2
      clear e1 e2 hke hdn
      go_wp2_with fail
      go_quiet (fail)
      go_wp2_with fail
      go_ret2
      refine ⟨avk, by rw [← E2.out]; rfl, by rw [← E1.out]; exact hlk.own, hb0.trans ((hsk.keep.drewN _).below (by have := hb0.size; omega) (fun i hi hc => by
        rcases hc with hc | hc
        · omega
        · simp [Value.ownBlock] at hc))⟩
end Go.Proofs.Ytekciedoldiieaa

/- ploverlaw19.outs: what code puts out, if each value lives where a map says. Conditions: at most a thousand instructions, whose values are small. -/
import Derived.Test.YtfmkfmcplffhdaaLvPl
namespace Go.Proofs.Ytfmkfmcplffhdaa
set_option linter.unusedVariables false
open Go.RowKit
attribute [local irreducible] Blk
/-- Storing in a map, as the last operation of a region. -/
theorem op_updX {P : Program} {w : World} {o : Oper} {a : Act} {K : Act → World → Prop} {Q : Exit → Act → World → Prop} (m x v : Operand) (t : TypeId) (hop : o.op = Op.mapUpdate t m x v) (kt e : TypeId) (ht : P.underlying t = some (.map kt e)) (hk : P.underlying kt = some (.int .i64)) (b : Nat) (k : List (Int × Value))
    (hm : a.eval m = .map (some b)) (hown : MapX w b k) (n : Int) (val : Value) (hx : a.eval x = .int .i64 n) (hn : (Lit.int .i64 n).wf = true) (hv : a.eval v = val)
    (hK : ∀ w', MapX w' b (putX k n val) → w.grownBy w' (some b) → K (a.put o.dst undef) w') : o.wp P a w K Q := by
  obtain ⟨w', hrun, r1, r2⟩ := upd_x t kt e ht hk hown n hn val
  unfold Oper.wp
  simp [execOp, hop, hm, hx, hv, hrun, Result.andThen]
  exact hK w' r1 r2
def i32V (n : Int) : Value := .int .i32 n
theorem info32 : (Try.prog.info? 21).map (fun i => (i.zero, i.size, i.bytes)) = some (some (.int .i32 0), 1, 4) := by kernel_rfl
theorem own_grown {w w' : World} {n : Nat} {row : Option Nat} {base : Nat} {e : TypeId} {size k : Nat} {v : Value} {xs : List Value} (h : w.ownsRow base e size v k xs) (hg : (w.drewN n).grownBy w' row) (hr : ∀ j, v.ownBlock = some j → row ≠ some j) : w'.ownsRow base e size v k xs :=
  ((Keep.refl w (fun j => row = some j)).drewN n |>.grown hg (fun j hj _ => hj)).row h (fun j hj hc => hr j hj hc)
def OutP (w : World) (out : List Int) (e : Ending) (w' : World) : Prop := ∃ v, e = .returned v ∧ w'.ownsRow w.heap.size 21 1 v out.length (out.map i32V) ∧ Below w.heap.size w w'
theorem look_32 {w : World} {b : Nat} {M : List (Int × Int)} (hM : MapX w b (mapA i32V M)) (v : Int) {u : Int} (hu : hAt M v = u) :
    (Instr.lookup 96 (.map (some b)) (.int .i64 v) false).run Try.prog w = .ok (.int .i32 u) w := by
  have h := (look_x (P := Try.prog) 96 3 21 Try.underlying96 Try.underlying3 hM v _ (Try.zeroValue21 w)).1
  subst hu
  rw [h, getX_map]
  unfold hAt
  cases getA M v <;> rfl
theorem upd_at {M : List (Int × Int)} {f : Int → Int} (h : ∀ n, hAt M n = f n) (k v : Int) : ∀ n, hAt (putA M k v) n = upd f k v n := fun n => by
  rw [hAt_put, h n]
  unfold upd
  by_cases e : k = n
  · rw [if_pos e, if_pos e.symm]
  · rw [if_neg e, if_neg (fun h => e h.symm)]
theorem w32_eq (n : Int) : w32 n = wrap32 n := by simp [w32, wrap32, IntKind.wrap_i32]
theorem outStep_0 {pl : Int → Int} {st : OutS} {x : I9} (h : x.op = 0) : outStep pl st x = st := by unfold outStep; rw [h]; rfl
theorem outStep_1 {pl : Int → Int} {st : OutS} {x : I9} (h : x.op = 1) : outStep pl st x = ⟨upd st.at' (pl x.d) (w32 x.n), st.out⟩ := by unfold outStep; rw [h]; rfl
theorem outStep_2 {pl : Int → Int} {st : OutS} {x : I9} (h : x.op = 2) : outStep pl st x = ⟨upd st.at' (pl x.d) (st.at' (pl x.a)), st.out⟩ := by unfold outStep; rw [h]; rfl
theorem outStep_3 {pl : Int → Int} {st : OutS} {x : I9} (h : x.op = 3) : outStep pl st x = ⟨upd st.at' (pl x.d) (w32 (st.at' (pl x.a) + w32 (st.at' (pl x.b) * 3))), st.out⟩ := by unfold outStep; rw [h]; rfl
theorem outStep_10 {pl : Int → Int} {st : OutS} {x : I9} (h : x.op = 10) : outStep pl st x = ⟨st.at', st.out ++ [st.at' (pl x.a)]⟩ := by unfold outStep; rw [h]; rfl
theorem drewN_b {B : Nat} {w w' : World} (h : Below B w w') (n : Nat) : Below B w (w'.drewN n) := below_drewN h n
set_option maxRecDepth 100000 in
set_option maxHeartbeats 6400000 in
theorem outs_any (w : World) (A : Option Addr) (l : List I9) (c : Nat) (wv : Value) (pl : Int → Int) (first : Int) (hI : RepI w A l) (hW : Wh w w.heap.size wv pl) (hll : l.length ≤ 1000) (hsm : ∀ x ∈ l, Sm x) (hpl : ∀ n, 0 ≤ n → n ≤ 1000 → 0 ≤ pl n ∧ pl n ≤ 100000)
    (hop : ∀ x ∈ l, x.op = 0 ∨ x.op = 1 ∨ x.op = 2 ∨ x.op = 3 ∨ x.op = 10) (hf : (Lit.int .i32 first).wf = true) :
    Calls Try.prog 21 #[.slice A l.length c, wv, .int .i32 first] w (OutP w (outsL pl first l)) := by
  have hmm := @run_makeMap Try.prog
  have HI := Lib.hid hI
  have HW := Lib.hid hW
  have HSM := Lib.hid hsm
  have HOP := Lib.hid hop
  have HPL := Lib.hid hpl
  have hWh := fun W (hb : Below w.heap.size w W) v => place_any W w.heap.size wv pl v (hW.below hb)
  have HWh := Lib.hid hWh
  have hpl0 := hpl 0 (by omega) (by omega)
  have hpl1 := hpl 1 (by omega) (by omega)
  have hM0 : MapX (w.alloc (.map #[] 0)) w.heap.size [] := MapX.made rfl
  have hB0 := (Below.refl w.heap.size w).alloc (Nat.le_refl _) (.map #[] 0)
  have HM0 := Lib.hid hM0
  have HB0 := Lib.hid hB0
  have HOUT := Lib.hid (show outsL pl first l = (outsTo pl first l l.length).out from rfl)
  have hS0 : outsTo pl first l 0 = out0 pl first := rfl
  clear hI hW hsm hop hpl hWh hM0 hB0
  generalize hS : outsTo pl first l = S at *
  generalize outsL pl first l = OL at *
  go_enter Try.func21, Try.ntmps21
  go_wp2_with (first
    | (go_at_call 36; refine (HWh.out _ ?_ _).mono ?_; (focus (first | (with_reducible exact HB0.out) | (with_reducible exact HB2.out))); rintro e w1 ⟨rfl, rfl⟩)
    | (refine wpList_updX _ rfl (.tmp 12) (.tmp 14) (.tmp 15) 96 rfl 3 21 Try.underlying96 Try.underlying3 w.heap.size _ rfl HM0.out (pl 0) (.int .i32 first) rfl (wf_sm hpl0.1 hpl0.2) rfl ?_; intro w2 hM2 hg2; have HM2 := Lib.hid hM2; have HB2 := Lib.hid (HB0.out.grown hg2 HB0.out.size (fun j hj => by simp at hj; omega)); clear hM2 hg2)
    | (refine wpList_updX _ rfl (.tmp 16) (.tmp 18) (.tmp 21) 96 rfl 3 21 Try.underlying96 Try.underlying3 w.heap.size _ rfl HM2.out (pl 1) (.int .i32 (wrap32 (wrap32 (first * 7) + 1))) rfl (wf_sm hpl1.1 hpl1.2) rfl ?_; intro w4 hM4 hg4; have HM4 := Lib.hid hM4; have HB4 := Lib.hid (HB2.out.grown hg4 HB2.out.size (fun j hj => by simp at hj; omega)); clear hM4 hg4))
  have hB4 := HB4.out
  have hst0 : ∃ M, MapX w4 w.heap.size (mapA i32V M) ∧ ∀ n, hAt M n = (S 0).at' n := by
    refine ⟨putA (putA [] (pl 0) first) (pl 1) (w32 (w32 (first * 7) + 1)), ?_, ?_⟩
    · rw [← putX_map, ← putX_map, w32_eq, w32_eq]
      exact HM4.out
    · rw [hS0]
      exact upd_at (upd_at (fun _ => rfl) _ _) _ _
  have hlow4 : w.heap.size + 1 ≤ w4.heap.size := by have := HM4.out.lt; omega
  have hout0 : (S 0).out = [] := by rw [hS0]; rfl
  have HST0 := Lib.hid hst0
  have HSU := Lib.hid (show ∀ p x, l[p]? = some x → S (p + 1) = outStep pl (S p) x from fun p x h => by rw [← hS]; exact outsTo_succ h)
  have HOL := Lib.hid (show ∀ p, p ≤ l.length → (S p).out.length ≤ p from fun p hp => by
    rw [← hS]
    clear HSU HST0 hst0 hout0 hS0 HOUT hS
    induction p with
    | zero => exact Nat.zero_le _
    | succ p ih =>
      have h1 := ih (by omega)
      have hx : l[p]? = some l[p] := List.getElem?_eq_getElem (by omega)
      rw [outsTo_succ hx]
      unfold outStep
      split
      · exact Nat.le_succ_of_le h1
      split
      · exact Nat.le_succ_of_le h1
      split
      · exact Nat.le_succ_of_le h1
      split
      · simp only [List.length_append, List.length_cons, List.length_nil]
        omega
      · exact Nat.le_succ_of_le h1)
  have HOUT0 := Lib.hid hout0
  clear hst0 hS0 hout0 hB4 HM4 HM2 HM0 HB2 HB0 hmm hS
  go_loopw [8, 9] (fun o ix wr => ∃ p : Nat, p ≤ l.length ∧ ix = .int .i64 (p : Int) ∧ (∃ M, MapX wr w.heap.size (mapA i32V M) ∧ ∀ n, hAt M n = (S p).at' n) ∧ wr.ownsRow (w.heap.size + 1) 21 1 o (S p).out.length ((S p).out.map i32V) ∧ Below w.heap.size w wr ∧ w.heap.size + 1 ≤ wr.heap.size) (fun _ ix _ => l.length - (intOf ix).toNat)
  case atStart =>
    refine ⟨0, Nat.zero_le _, rfl, HST0.out, ?_, HB4.out, hlow4⟩
    rw [HOUT0.out]
    exact World.ownsRow_nil _ _ _ _
  case round =>
    obtain ⟨p, hp, rfl, ⟨M, hM, hMs⟩, hown, hbr, hlo⟩ := hrel
    have hbs := hbr.size
    by_cases hlt : p < l.length
    · obtain ⟨x, hx⟩ : ∃ x, l[p]? = some x := ⟨l[p], List.getElem?_eq_getElem hlt⟩
      obtain ⟨b, o, rfl, hb, _⟩ := HI.out (by intro h; rw [h] at hlt; simp at hlt)
      have cc := (HI.out.far hbr).at_cells hx
      have q0 := cc 0 (.int .i64 x.op) rfl
      have q1 := cc 1 (.int .i64 x.op2) rfl
      have q2 := cc 2 (.int .i64 x.ty) rfl
      have q3 := cc 3 (.int .i64 x.d) rfl
      have q4 := cc 4 (.int .i64 x.a) rfl
      have q5 := cc 5 (.int .i64 x.b) rfl
      have q6 := cc 6 (.int .i64 x.n) rfl
      have q7 := cc 7 (.int .i64 x.count) rfl
      have q8 := cc 8 (.int .i64 x.step) rfl
      rw [Nat.add_zero] at q0
      have p0 : (0 : Int) ≤ (p : Int) := by omega
      have p1 : (p : Int) < (l.length : Int) := by omega
      obtain ⟨d0, d1, a0, a1, b0, b1⟩ := HSM.out x (List.mem_of_getElem? hx)
      have hk := HOP.out x (List.mem_of_getElem? hx)
      have HN := Lib.hid (HSU.out p x hx)
      have hol := HOL.out p hp
      have HBX := Lib.hid (hbr.alloc hbs (.cells x.arr 33))
      have HMX := Lib.hid (hM.alloc (.cells x.arr 33))
      have HOW := Lib.hid hown
      have HMS := Lib.hid hMs
      have HBR := Lib.hid hbr
      have HX := Lib.hid hx
      clear cc hx hM hMs hown hbr
      unfold I9.arr at HBX HMX
      rcases hk with h0 | h0 | h0 | h0 | h0
      · rw [h0] at q0 HBX HMX
        go_wp2_with fail
        refine ⟨⟨p + 1, by omega, rfl, ⟨M, HMX.out, ?_⟩, ?_, HBX.out, by simp; omega⟩, by simp [intOf]; omega⟩
        · rw [HN.out, outStep_0 h0]
          exact HMS.out
        · rw [HN.out, outStep_0 h0]
          exact HOW.out.alloc _
      · rw [h0] at q0 HBX HMX
        obtain ⟨k0, k1⟩ := HPL.out x.d d0 d1
        go_upto_region 11 with fail
        refine region_last_lit (by simp) (by kernel_rfl) (by kernel_rfl) (by kernel_rfl) rfl rfl ?_
        simp only [List.dropLast, List.getLast]
        repeat (go_big_quiet_step (first | (go_at_call 36; exact Calls.quiet_of_same (HWh.out _ (drewN_b HBX.out _) _))))
        refine wpQuiet_nil ?_
        intro nq
        refine op_updX (.tmp 36) (.tmp 40) (.tmp 43) 96 rfl 3 21 Try.underlying96 Try.underlying3 w.heap.size (mapA i32V M) rfl (HMX.out.drewN nq) (pl x.d) (.int .i32 (wrap32 x.n)) rfl (wf_sm k0 k1) rfl ?_
        intro w9 hM9 hg9
        have HM9 := Lib.hid hM9
        have HB9 := Lib.hid ((drewN_b HBX.out nq).grown hg9 (by have := (drewN_b HBX.out nq).size; omega) (fun j hj => by simp at hj; omega))
        have HO9 := Lib.hid (own_grown (n := nq) (HOW.out.alloc _) hg9 (fun j hj => by have := (HOW.out.lt j hj).1; simp; omega))
        have hs9 := hg9.size
        simp at hs9
        clear hM9 hg9
        go_wp2_with fail
        refine ⟨⟨p + 1, by omega, rfl, ⟨putA M (pl x.d) (wrap32 x.n), ?_, ?_⟩, ?_, HB9.out, by omega⟩, by simp [intOf]; omega⟩
        · rw [← putX_map]
          exact HM9.out
        · rw [HN.out, outStep_1 h0]
          simp only [w32_eq]
          exact upd_at HMS.out _ _
        · rw [HN.out, outStep_1 h0]
          exact HO9.out
      · rw [h0] at q0 HBX HMX
        obtain ⟨k0, k1⟩ := HPL.out x.d d0 d1
        obtain ⟨va, hva⟩ : ∃ va, (S p).at' (pl x.a) = va := ⟨_, rfl⟩
        have hl1 := fun n => look_32 (HMX.out.drewN n) (pl x.a) ((HMS.out (pl x.a)).trans hva)
        have HVA := Lib.hid hva
        clear hva
        go_upto_region 15 with fail
        refine region_last_lit (by simp) (by kernel_rfl) (by kernel_rfl) (by kernel_rfl) rfl rfl ?_
        simp only [List.dropLast, List.getLast]
        repeat (go_big_quiet_step (first | (go_at_call 36; exact Calls.quiet_of_same (HWh.out _ (drewN_b HBX.out _) _))))
        refine wpQuiet_nil ?_
        intro nq
        refine op_updX (.tmp 67) (.tmp 71) (.tmp 77) 96 rfl 3 21 Try.underlying96 Try.underlying3 w.heap.size (mapA i32V M) rfl (HMX.out.drewN nq) (pl x.d) (.int .i32 (va)) rfl (wf_sm k0 k1) rfl ?_
        intro w9 hM9 hg9
        have HM9 := Lib.hid hM9
        have HB9 := Lib.hid ((drewN_b HBX.out nq).grown hg9 (by have := (drewN_b HBX.out nq).size; omega) (fun j hj => by simp at hj; omega))
        have HO9 := Lib.hid (own_grown (n := nq) (HOW.out.alloc _) hg9 (fun j hj => by have := (HOW.out.lt j hj).1; simp; omega))
        have hs9 := hg9.size
        simp at hs9
        clear hM9 hg9
        go_wp2_with fail
        refine ⟨⟨p + 1, by omega, rfl, ⟨putA M (pl x.d) (va), ?_, ?_⟩, ?_, HB9.out, by omega⟩, by simp [intOf]; omega⟩
        · rw [← putX_map]
          exact HM9.out
        · rw [HN.out, outStep_2 h0]
          rw [HVA.out]
          exact upd_at HMS.out _ _
        · rw [HN.out, outStep_2 h0]
          exact HO9.out
      · rw [h0] at q0 HBX HMX
        obtain ⟨k0, k1⟩ := HPL.out x.d d0 d1
        obtain ⟨va, hva⟩ : ∃ va, (S p).at' (pl x.a) = va := ⟨_, rfl⟩
        obtain ⟨vb, hvb⟩ : ∃ vb, (S p).at' (pl x.b) = vb := ⟨_, rfl⟩
        have hl1 := fun n => look_32 (HMX.out.drewN n) (pl x.a) ((HMS.out (pl x.a)).trans hva)
        have hl2 := fun n => look_32 (HMX.out.drewN n) (pl x.b) ((HMS.out (pl x.b)).trans hvb)
        have HVA := Lib.hid hva
        have HVB := Lib.hid hvb
        clear hva hvb
        go_upto_region 13 with fail
        refine region_last_lit (by simp) (by kernel_rfl) (by kernel_rfl) (by kernel_rfl) rfl rfl ?_
        simp only [List.dropLast, List.getLast]
        repeat (go_big_quiet_step (first | (go_at_call 36; exact Calls.quiet_of_same (HWh.out _ (drewN_b HBX.out _) _))))
        refine wpQuiet_nil ?_
        intro nq
        refine op_updX (.tmp 46) (.tmp 50) (.tmp 64) 96 rfl 3 21 Try.underlying96 Try.underlying3 w.heap.size (mapA i32V M) rfl (HMX.out.drewN nq) (pl x.d) (.int .i32 (wrap32 (va + wrap32 (vb * 3)))) rfl (wf_sm k0 k1) rfl ?_
        intro w9 hM9 hg9
        have HM9 := Lib.hid hM9
        have HB9 := Lib.hid ((drewN_b HBX.out nq).grown hg9 (by have := (drewN_b HBX.out nq).size; omega) (fun j hj => by simp at hj; omega))
        have HO9 := Lib.hid (own_grown (n := nq) (HOW.out.alloc _) hg9 (fun j hj => by have := (HOW.out.lt j hj).1; simp; omega))
        have hs9 := hg9.size
        simp at hs9
        clear hM9 hg9
        go_wp2_with fail
        refine ⟨⟨p + 1, by omega, rfl, ⟨putA M (pl x.d) (wrap32 (va + wrap32 (vb * 3))), ?_, ?_⟩, ?_, HB9.out, by omega⟩, by simp [intOf]; omega⟩
        · rw [← putX_map]
          exact HM9.out
        · rw [HN.out, outStep_3 h0]
          rw [HVA.out, HVB.out]
          simp only [w32_eq]
          exact upd_at HMS.out _ _
        · rw [HN.out, outStep_3 h0]
          exact HO9.out
      · rw [h0] at q0 HBX HMX
        obtain ⟨va, hva⟩ : ∃ va, (S p).at' (pl x.a) = va := ⟨_, rfl⟩
        have hl1 := look_32 HMX.out (pl x.a) ((HMS.out (pl x.a)).trans hva)
        have HVA := Lib.hid hva
        clear hva
        obtain ⟨i0, hi0, hz0, hz1, hz2⟩ := info_parts info32
        have HII := Lib.hid (⟨hi0, hz0, hz1, hz2⟩ : _ ∧ _ ∧ _ ∧ _)
        clear hi0 hz0 hz1 hz2
        go_wp2_with (first
          | (go_at_call 36; refine (HWh.out _ HBX.out _).mono ?_; rintro e w8 ⟨rfl, rfl⟩)
          | (at_builtin; refine wpList_append_lies _ rfl (.tmp 80) (.tmp 87) _ rfl (w.heap.size + 1) 21 i0 _ 1 4 Try.underlying49 HII.out.1 HII.out.2.1 HII.out.2.2.1 HII.out.2.2.2 rfl (by omega) _ _ _ rfl ((HOW.out.alloc _).alloc _) ⟨wr.heap.size + 1, 0, none⟩ 1 1 [.int .i32 va] rfl rfl (World.news_of_block (cs := #[.int .i32 va]) (t := 21) (fr := (0, 0)) (Blk.heap (Blk.newAt (by simp)))) (by simp [Value.oneCell']) (by omega) (by unfold maxLen; omega) (by omega) (by simp; omega) (wr.heap.size + 1 + 1) (by simp) ?_; intro gg cap w9 hown9 hgrow9 hat9 hlt9; have HO9 := Lib.hid hown9; have hs9 := hgrow9.size; simp at hs9; have HB9 := Lib.hid ((HBX.out.alloc HBX.out.size (.cells #[.int .i32 va] 21)).grown hgrow9 (by simp; omega) (fun j hj => by have := (HOW.out.lt j hj).1; omega)); have HM9 := Lib.hid ((HMX.out.alloc (.cells #[.int .i32 va] 21)).kept hgrow9 (fun e => by have := (HOW.out.lt _ e.symm).1; omega)); clear hat9 hlt9 hown9 hgrow9))
        refine ⟨⟨p + 1, by omega, rfl, ⟨M, HM9.out, ?_⟩, ?_, HB9.out, by omega⟩, by simp [intOf]; omega⟩
        · rw [HN.out, outStep_10 h0]
          exact HMS.out
        · rw [HN.out, outStep_10 h0, HVA.out]
          simp only [List.length_append, List.length_cons, List.length_nil, List.map_append, List.map_cons, List.map_nil]
          exact HO9.out
    · have i1 : ¬ ((p : Int) < (l.length : Int)) := by omega
      obtain rfl : p = l.length := by omega
      go_wp2_with fail
      go_ret
      rw [HOUT.out]
      exact ⟨_, rfl, own_down hown (by omega), hbr⟩
end Go.Proofs.Ytfmkfmcplffhdaa

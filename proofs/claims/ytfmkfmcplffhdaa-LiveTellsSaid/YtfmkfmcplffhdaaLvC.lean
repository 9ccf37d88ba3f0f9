/- live.Uses: what an instruction reads, and makes. No condition. -/
import Derived.Test.YtfmkfmcplffhdaaLvB
import Derived.Laws.EntriesVeiled
import Derived.Deep.DeepCutAuto
import Derived.Deep.CutBlock
namespace Go.Proofs.Ytfmkfmcplffhdaa
set_option linter.unusedVariables false
open Go.RowKit
attribute [local irreducible] Blk

theorem uses_kept {w w' : World} (h : (((w.alloc (.cells #[.func (.func 38) #[] #[]] 99)).alloc (.cells #[.func (.func 39) #[] #[]] 99)).alloc (.cells #[.func (.func 40) #[] #[]] 99)).alloc (.map (useES w.heap.size) 14) = w') :
    w'.heap[w.heap.size + 1 + 1 + 1]? = some (.map (useES w.heap.size) 14) ∧ (∀ k, k < 3 → w'.cell? ⟨w.heap.size + k, 0, none⟩ = some (.func (.func (opF k)) #[] #[])) ∧ w'.heap.size = w.heap.size + 4 ∧ Below w.heap.size w w' := by
  subst h
  refine ⟨?_, fun k hk => ?_, by simp, ((((Below.refl _ _).alloc (Nat.le_refl _) _).alloc (by simp) _).alloc (by simp; omega) _).alloc (by simp; omega) _⟩
  · have := heap_alloc_new (((w.alloc (.cells #[.func (.func 38) #[] #[]] 99)).alloc (.cells #[.func (.func 39) #[] #[]] 99)).alloc (.cells #[.func (.func 40) #[] #[]] 99)) (.map (useES w.heap.size) 14)
    simpa using this
  · have hk3 : k = 0 ∨ k = 1 ∨ k = 2 := by omega
    rcases hk3 with rfl | rfl | rfl
    · exact cell_of_blk (Blk.alloc (Blk.alloc (Blk.alloc (Blk.new w _ _) _) _) _) (by rfl)
    · exact cell_of_blk (Blk.alloc (Blk.alloc (Blk.newAt (by simp)) _) _) (by rfl)
    · exact cell_of_blk (Blk.alloc (Blk.newAt (by simp)) _) (by rfl)
/-- The map of uses, and what its functions captured. -/
structure Tbl (N : Nat) (w' : World) : Prop where
  map : w'.heap[N + 1 + 1 + 1]? = some (.map (useES N) 14)
  box : ∀ k, k < 3 → w'.cell? ⟨N + k, 0, none⟩ = some (.func (.func (opF k)) #[] #[])
  size : N + 4 ≤ w'.heap.size
theorem uses_any (w : World) (N : Nat) (hN : w.heap.size = N) : Calls Try.prog 23 #[] w fun e w' => e = .returned (.map (some (N + 1 + 1 + 1))) ∧ Tbl N w' ∧ Below w.heap.size w w' := by
  subst hN
  exact (uses_made w).mono fun e w' ⟨he, hw⟩ => ⟨he, by
    obtain ⟨a, b, c, d⟩ := uses_kept hw
    exact ⟨⟨a, b, by omega⟩, d⟩⟩
section
variable {N : Nat} {w1 : World}
theorem Tbl.alloc (h : Tbl N w1) (o : Obj) : Tbl N (w1.alloc o) :=
  ⟨(Below.heap_alloc w1 o _ (by have := h.size; omega)).trans h.map, fun k hk => (((Below.refl w1.heap.size w1).alloc (Nat.le_refl _) o).cell (p := ⟨N + k, 0, none⟩) (by have := h.size; show N + k < _; omega)).trans (h.box k hk), by have := h.size; simp; omega⟩
theorem Tbl.drew (h : Tbl N w1) : Tbl N w1.drew := ⟨h.map, h.box, h.size⟩
theorem Tbl.set (h : Tbl N w1) (p : Addr) (hp : N + 4 ≤ p.block) (v : Value) : Tbl N (w1.setCell p v) :=
  ⟨(Below.heap_setCell w1 p v _ (by omega)).trans h.map, fun k hk => (((Below.refl (N + 4) w1).setCell (p := p) hp v).cell (p := ⟨N + k, 0, none⟩) (by show N + k < _; omega)).trans (h.box k hk), by have := h.size; simpa [World.setCell] using this⟩
theorem Tbl.hit (h : Tbl N w1) {n : Int} {k : Nat} {mk : Bool} (hk : kindU n = some (k, mk)) :
    (Instr.lookup 70 (.map (some (N + 1 + 1 + 1))) (.int .i64 n) true).run Try.prog w1 = .ok (.tuple #[.agg #[.func (.func 47) #[] #[.pointer (some ⟨N + k, 0, none⟩)], .bool mk], .bool true]) w1 := by
  obtain ⟨_, hf⟩ := kind_some hk
  obtain ⟨i, hi⟩ := hf N
  exact run_look_hit _ _ _ Try.underlying70 Try.underlying3 w1 _ _ _ h.map n i _ hi
theorem Tbl.miss (h : Tbl N w1) {n : Int} (hk : kindU n = none) :
    (Instr.lookup 70 (.map (some (N + 1 + 1 + 1))) (.int .i64 n) true).run Try.prog w1 = .ok (.tuple #[.agg #[.nilFunc, .bool false], .bool false]) w1 :=
  run_look_miss _ _ _ Try.underlying70 Try.underlying3 w1 _ _ _ h.map n _ (Try.zeroValue68 _) (find_none hk _)
end
theorem max_m1 (ats : Array TypeId) (ty : TypeId) (d : Int) {m : Int} (h : (if -1 < d then d else -1) = m) : Builtin.max_ ats ty #[.int .i64 (-1), .int .i64 d] = pure (.int .i64 m) := by
  rw [← h]
  rfl
theorem max_eq (d : Int) : (if -1 < d then d else -1) = max (-1) d := by
  rw [Int.max_def]
  by_cases hd : -1 < d
  · rw [if_pos hd, if_pos (by omega)]
  · by_cases h2 : -1 ≤ d
    · rw [if_neg hd, if_pos h2]
      omega
    · rw [if_neg hd, if_neg h2]
theorem cell_far {w : World} {b o c o' : Nat} (h : b ≠ c) (v : Value) : (w.setCell ⟨b, o, none⟩ v).cell? ⟨c, o', none⟩ = w.cell? ⟨c, o', none⟩ :=
  World.cell?_setCell_other w ⟨b, o, none⟩ ⟨c, o', none⟩ v (fun e => h (by injection e))
/-- A slice of numbers. -/
def Ints (w : World) (A : Option Addr) (xs : List Int) : Prop :=
  xs ≠ [] → ∃ b o, A = some ⟨b, o, none⟩ ∧ b < w.heap.size ∧ ∀ k z, xs[k]? = some z → w.cell? ⟨b, o + k, none⟩ = some (.int .i64 z)
theorem Ints.far {w w' : World} {A : Option Addr} {xs : List Int} (h : Ints w A xs) (hb : Below w.heap.size w w') : Ints w' A xs := fun hne => by
  obtain ⟨b, o, hA, hl, hall⟩ := h hne
  exact ⟨b, o, hA, Nat.lt_of_lt_of_le hl hb.size, fun k z hz => (hb.cell (p := ⟨b, o + k, none⟩) hl).trans (hall k z hz)⟩
theorem Ints.of_own {w : World} {base : Nat} {v : Value} {xs : List Int} (h : w.ownsRow base 3 1 v xs.length (iCells xs)) : ∃ A c, v = .slice A xs.length c ∧ Ints w A xs := by
  have hlt := h.lt
  have hc := fun g (hg : v.ownBlock = some g) => h.cells hg
  rcases h.2 with ⟨rfl, h0⟩ | ⟨g, cap, cur, rfl, _⟩
  · exact ⟨none, 0, by rw [h0], fun hne => absurd (List.length_eq_zero_iff.1 h0) hne⟩
  · refine ⟨_, cap, rfl, fun _ => ⟨g, 0, rfl, (hlt g rfl).2, fun k z hz => ?_⟩⟩
    have c0 := hc g rfl k _ (iCells_get hz)
    rwa [addr_add] at c0
theorem own_down {w : World} {base base' : Nat} {e : TypeId} {size n : Nat} {v : Value} {xs : List Value} (h : w.ownsRow base e size v n xs) (hb : base' ≤ base) : w.ownsRow base' e size v n xs := by
  refine ⟨h.1, ?_⟩
  rcases h.2 with h0 | ⟨g, cap, cur, hv, hg, r⟩
  · exact .inl h0
  · exact .inr ⟨g, cap, cur, hv, by omega, r⟩
theorem below_drewN {b : Nat} {w w' : World} (h : Below b w w') (n : Nat) : Below b w (w'.drewN n) := ⟨h.os, h.tape, h.output, h.size, h.block⟩
theorem keep0_snoc (l : List Int) (x : Int) : keep0 (l ++ [x]) = keep0 l ++ (if 0 ≤ x then [x] else []) := by
  by_cases h : 0 ≤ x <;> simp [keep0, h]
theorem take_snoc' {α : Type} {l : List α} {k : Nat} {x : α} (h : l[k]? = some x) : l.take (k + 1) = l.take k ++ [x] := by
  rw [List.take_add_one, h]
  rfl
theorem rawU_len (k : Nat) (a b : Int) : (rawU k a b).length ≤ 2 := by
  unfold rawU
  split
  · simp
  split <;> simp
theorem keep0_len (l : List Int) : (keep0 l).length ≤ l.length := List.length_filter_le _ _
theorem infoInt : (Try.prog.info? 3).map (fun i => (i.zero, i.size, i.bytes)) = some (some (.int .i64 0), 1, 8) := by kernel_rfl
/-- What a call of Uses leaves. -/
def UsesP (w : World) (i : I9) (e : Ending) (w' : World) : Prop := ∃ v, e = .returned (.tuple #[v, .int .i64 (makesL i)]) ∧ w'.ownsRow w.heap.size 3 1 v (readsL i).length (iCells (readsL i)) ∧ Below w.heap.size w w'

set_option maxRecDepth 100000 in
set_option maxHeartbeats 3200000 in
theorem uses_hit (w : World) (i : I9) (k : Nat) (mk : Bool) (hk : kindU i.op = some (k, mk)) : Calls Try.prog 10 #[.agg i.arr] w (UsesP w i) := by
  have hk3 := (kind_some hk).1
  have HK := Lib.hid hk
  clear hk
  go_enter Try.func10, Try.ntmps10
  unfold I9.arr
  go_upto_region 1 with fail
  go_cut [4, 5] (fun s4 s5 wx => ∃ g N, s4 = .pointer (some ⟨g, 0, none⟩) ∧ s5 = .bool true ∧ w.heap.size < g ∧ w.heap.size < N ∧ N + 3 < wx.heap.size ∧ Blk wx g 68 #[fnU N k, .bool mk] ∧ wx.cell? ⟨N + k, 0, none⟩ = some (.func (.func (opF k)) #[] #[]) ∧ Blk wx w.heap.size 33 i.arr ∧ Below w.heap.size w wx)
  case first =>
    have hI := Blk.new w 33 i.arr
    have c0 := hI.cell 0
    simp [I9.arr] at c0
    go_region_held3 (fun w' => w'.cell? ⟨w.heap.size, 0, none⟩ = some (.int .i64 i.op))
      (first | (go_keep; done) | (exact cell_of_blk (by repeat (first | assumption | (refine Blk.newAt ?_; simp; done) | apply Blk.drew | apply Blk.alloc)) (by rfl)))
      (first
        | (go_at_call 23; refine (uses_any _ (w.heap.size + 1) ?_).mono ?_; (focus (simp; done)); rintro e w1 ⟨rfl, hT, hb1⟩; have hl0 := hT.hit HK.out; have hl1 := hT.drew.hit HK.out; have hl2 := fun o => (hT.alloc o).hit HK.out; have hl3 := fun o => (hT.alloc o).drew.hit HK.out; have hI1 : Blk w1 w.heap.size 33 i.arr := Blk.below (by repeat (first | assumption | (refine Blk.newAt ?_; simp; done) | apply Blk.drew | apply Blk.alloc)) hb1 (by simp <;> omega); have hB1 : Below w.heap.size w w1 := Below.trans (by repeat (first | exact Below.refl _ _ | apply Below.drew | (refine Below.alloc ?_ (by simp) _))) (hb1.mono (by simp <;> omega)))
        | (go_at_call 23; refine (uses_any _ (w.heap.size + 1 + 1) ?_).mono ?_; (focus (simp; done)); rintro e w1 ⟨rfl, hT, hb1⟩; have hl0 := hT.hit HK.out; have hl1 := hT.drew.hit HK.out; have hl2 := fun o => (hT.alloc o).hit HK.out; have hl3 := fun o => (hT.alloc o).drew.hit HK.out; have hI1 : Blk w1 w.heap.size 33 i.arr := Blk.below (by repeat (first | assumption | (refine Blk.newAt ?_; simp; done) | apply Blk.drew | apply Blk.alloc)) hb1 (by simp <;> omega); have hB1 : Below w.heap.size w w1 := Below.trans (by repeat (first | exact Below.refl _ _ | apply Below.drew | (refine Below.alloc ?_ (by simp) _))) (hb1.mono (by simp <;> omega)); have hz : Blk w1 (w.heap.size + 1) 68 #[.nilFunc, .bool false] := Blk.below (by repeat (first | assumption | (refine Blk.newAt ?_; simp; done) | apply Blk.drew | apply Blk.alloc)) hb1 (by simp); have z0 := hz.cell 0; have z1 := hz.cell 1; have zf := hz.frozen; have zl := hz.lt; simp at z0 z1))
    all_goals
      clear hl0 hl1 hl2 hl3
      have hTs := hT.size
      have hB1s := hB1.size
      go_wp2_with fail
      go_meet
      first
        | exact ⟨_, w.heap.size + 1, rfl, rfl, by omega, by omega, by simp; omega, by repeat (first | assumption | (refine Blk.newAt ?_; simp; done) | apply Blk.drew | apply Blk.alloc), (Tbl.alloc hT _).box k hk3, Blk.alloc hI1 _, hB1.alloc hB1.size _⟩
        | exact ⟨w.heap.size + 1, w.heap.size + 1 + 1, rfl, rfl, by omega, by omega, by simp [World.setCell]; omega, Blk.set (Blk.set hz 0 _) 1 _, (cell_far (by omega) _).trans ((cell_far (by omega) _).trans (hT.box k hk3)), Blk.far (Blk.far hI1 (by simp) _) (by simp) _, (hB1.setCell (p := ⟨w.heap.size + 1, 0, none⟩) (by simp) _).setCell (p := ⟨w.heap.size + 1, 1, none⟩) (by simp) _⟩
  case rest =>
    obtain ⟨g, N, rfl, rfl, hg, hN, hNs, hG, hBx, hI, hB⟩ := hcut
    have hBs := hB.size
    have hGl := hG.lt
    have g0 := hG.cell 0
    have g1 := hG.cell 1
    have c3 := hI.cell 3
    simp [I9.arr] at g0 g1 c3
    have i0 := hI.cell 0
    have i1 := hI.cell 1
    have i2 := hI.cell 2
    have i4 := hI.cell 4
    have i5 := hI.cell 5
    have i6 := hI.cell 6
    have i7 := hI.cell 7
    have i8 := hI.cell 8
    simp [I9.arr] at i0 i1 i2 i4 i5 i6 i7 i8
    have HI := Lib.hid hI
    clear hI
    obtain ⟨i0', hi0, hz0, hz1, hz2⟩ := info_parts infoInt
    have HII := Lib.hid (⟨hi0, hz0, hz1, hz2⟩ : _ ∧ _ ∧ _ ∧ _)
    clear hi0 hz0 hz1 hz2
    go_upto_region 4 with fail
    go_wp2_with (refine (as1_any _ i (N + k) k hk3 hBx (by omega)).mono ?_; rintro e w2 ⟨v, rfl, hown, hb2⟩; obtain ⟨A2, c2, rfl, hints⟩ := Ints.of_own hown)
    have hrl := rawU_len k i.a i.b
    have HR := Lib.hid hown
    clear hown i0 i1 i2 i4 i5 i6 i7 i8 hBx
    have hwc : w.heap.size < wc.heap.size := by omega
    have g1' := (hb2.cell (p := ⟨g, 1, none⟩) hGl).trans g1
    have c3' := (hb2.cell (p := ⟨w.heap.size, 3, none⟩) hwc).trans c3
    have hBw : Below w.heap.size w w2 := hB.trans (hb2.mono hBs)
    have hs2 := hb2.size
    have hg2 : g < w2.heap.size := by omega
    have hw2 : w.heap.size < w2.heap.size := by omega
    generalize hraw : rawU k i.a i.b = raw at *
    have HRAW := Lib.hid hraw
    have hsz2 : w2.heap.size ≤ w2.heap.size := Nat.le_refl _
    clear hraw g0 g1 c3 hG hB hb2 hGl hs2 hBs
    go_wp2_with fail
    go_loopw [2, 22] (fun o ix wr => ∃ (kk : Nat) , kk ≤ raw.length ∧ ix = .int .i64 (kk : Int) ∧ wr.ownsRow w2.heap.size 3 1 o (keep0 (raw.take kk)).length (iCells (keep0 (raw.take kk))) ∧ Below w2.heap.size w2 wr) (fun _ ix _ => raw.length - (intOf ix).toNat)
    case atStart => exact ⟨0, Nat.zero_le _, rfl, World.ownsRow_nil _ _ _ _, Below.refl _ _⟩
    case round =>
      obtain ⟨kk, hkk, rfl, hown, hbr⟩ := hrel
      have hbs := hbr.size
      by_cases hlt : kk < raw.length
      · obtain ⟨b, o, rfl, hb, hall⟩ := hints (by intro h; rw [h] at hlt; simp at hlt)
        obtain ⟨x, hx⟩ : ∃ x, raw[kk]? = some x := ⟨raw[kk], List.getElem?_eq_getElem hlt⟩
        have cx := (hbr.cell (p := ⟨b, o + kk, none⟩) hb).trans (hall kk x hx)
        have k0 : (0 : Int) ≤ (kk : Int) := by omega
        have k1 : (kk : Int) < (raw.length : Int) := by omega
        have hkl := Lib.hid (Nat.le_trans (keep0_len (raw.take kk)) (List.length_take_le _ _))
        have HX := Lib.hid (keep0_snoc (raw.take kk) x)
        have HT := Lib.hid (take_snoc' hx)
        clear hall hints hx
        by_cases hx0 : 0 ≤ x
        · have hxl := hkl.out
          go_wp2_with (at_builtin; refine wpList_append_lies _ rfl (.tmp 28) (.tmp 30) _ rfl w2.heap.size 3 i0' _ 1 8 Try.underlying29 HII.out.1 HII.out.2.1 HII.out.2.2.1 HII.out.2.2.2 rfl (by omega) _ _ _ rfl (hown.alloc _) ⟨wr.heap.size, 0, none⟩ 1 1 [.int .i64 x] rfl rfl (World.news_of_block (cs := #[.int .i64 x]) (t := 3) (fr := (0, 0)) (heap_alloc_new wr _)) (by simp [Value.oneCell']) (by omega) (by unfold maxLen; omega) (by omega) (by simp; omega) (wr.heap.size + 1) (by simp) ?_; intro gg cap w3 hown3 hgrow hat hlt3; clear hat hlt3)
          go_roundw
          case rel =>
            have hlow := fun j hj => (hown.lt j hj).1
            refine ⟨kk + 1, by omega, by go_num, ?_, ((hbr.alloc hbs _)).grown hgrow (by simp; omega) (fun j hj => by have := hlow j hj; omega)⟩
            rw [HT.out, HX.out, if_pos hx0, iCells_append, List.length_append]
            exact hown3
          case measure => simp [intOf]; omega
        · have hx1 : x < 0 := by omega
          go_wp2_with fail
          go_roundw
          case rel =>
            refine ⟨kk + 1, by omega, by go_num, ?_, hbr⟩
            rw [HT.out, HX.out, if_neg hx0, List.append_nil]
            exact hown
          case measure => simp [intOf]; omega
      · have hn : ¬ ((kk : Int) < (raw.length : Int)) := by omega
        have hke : kk = raw.length := by omega
        subst hke
        rw [List.take_length] at hown
        have g1r := (hbr.cell (p := ⟨g, 1, none⟩) hg2).trans g1'
        have c3r := (hbr.cell (p := ⟨w.heap.size, 3, none⟩) hw2).trans c3'
        have hBr : Below w.heap.size w wr := hBw.trans (hbr.mono (Nat.le_of_lt hw2))
        have hRL : readsL i = keep0 raw := by unfold readsL; rw [HK.out]; simp only; rw [HRAW.out]
        have HO := Lib.hid hown
        clear hown g1' c3' hbr hints
        cases mk with
        | true =>
          have hM : makesL i = max (-1) i.d := by unfold makesL; rw [HK.out]
          obtain ⟨m, hm⟩ : ∃ m, (if -1 < i.d then i.d else -1) = m := ⟨_, rfl⟩
          have hmax := fun ats ty => max_m1 ats ty i.d hm
          have HM := Lib.hid (hM.trans (by rw [← max_eq, hm]))
          have HRR := Lib.hid hRL
          clear hM hm hRL
          go_wp2_with fail
          go_quiet (fail)
          go_wp2_with fail
          go_ret2
          unfold UsesP
          rw [HM.out, HRR.out]
          exact ⟨_, rfl, own_down (Keep.row ((Keep.refl wr (fun _ => False)).drewN nq) HO.out (fun _ _ h => h)) (Nat.le_of_lt hw2), below_drewN hBr nq⟩
        | false =>
          have hM : makesL i = -1 := by unfold makesL; rw [HK.out]
          have HM := Lib.hid hM
          have HRR := Lib.hid hRL
          clear hM hRL
          go_wp2_with fail
          go_ret2
          unfold UsesP
          rw [HM.out, HRR.out]
          exact ⟨_, rfl, own_down HO.out (Nat.le_of_lt hw2), hBr⟩
set_option maxRecDepth 100000 in
set_option maxHeartbeats 3200000 in
theorem uses_miss (w : World) (i : I9) (hk : kindU i.op = none) : Calls Try.prog 10 #[.agg i.arr] w (UsesP w i) := by
  have HK := Lib.hid hk
  clear hk
  go_enter Try.func10, Try.ntmps10
  unfold I9.arr
  go_upto_region 1 with fail
  go_cut [4, 5] (fun s4 s5 wx => s5 = .bool false ∧ Below w.heap.size w wx)
  case first =>
    have hI := Blk.new w 33 i.arr
    have c0 := hI.cell 0
    simp [I9.arr] at c0
    go_region_held3 (fun w' => w'.cell? ⟨w.heap.size, 0, none⟩ = some (.int .i64 i.op))
      (first | (go_keep; done) | (exact cell_of_blk (by repeat (first | assumption | (refine Blk.newAt ?_; simp; done) | apply Blk.drew | apply Blk.alloc)) (by rfl)))
      (first
        | (go_at_call 23; refine (uses_any _ (w.heap.size + 1) ?_).mono ?_; (focus (simp; done)); rintro e w1 ⟨rfl, hT, hb1⟩; have hl0 := hT.miss HK.out; have hl1 := hT.drew.miss HK.out; have hl2 := fun o => (hT.alloc o).miss HK.out; have hl3 := fun o => (hT.alloc o).drew.miss HK.out; have hI1 : Blk w1 w.heap.size 33 i.arr := Blk.below (by repeat (first | assumption | (refine Blk.newAt ?_; simp; done) | apply Blk.drew | apply Blk.alloc)) hb1 (by simp <;> omega); have hB1 : Below w.heap.size w w1 := Below.trans (by repeat (first | exact Below.refl _ _ | apply Below.drew | (refine Below.alloc ?_ (by simp) _))) (hb1.mono (by simp <;> omega)))
        | (go_at_call 23; refine (uses_any _ (w.heap.size + 1 + 1) ?_).mono ?_; (focus (simp; done)); rintro e w1 ⟨rfl, hT, hb1⟩; have hl0 := hT.miss HK.out; have hl1 := hT.drew.miss HK.out; have hl2 := fun o => (hT.alloc o).miss HK.out; have hl3 := fun o => (hT.alloc o).drew.miss HK.out; have hI1 : Blk w1 w.heap.size 33 i.arr := Blk.below (by repeat (first | assumption | (refine Blk.newAt ?_; simp; done) | apply Blk.drew | apply Blk.alloc)) hb1 (by simp <;> omega); have hB1 : Below w.heap.size w w1 := Below.trans (by repeat (first | exact Below.refl _ _ | apply Below.drew | (refine Below.alloc ?_ (by simp) _))) (hb1.mono (by simp <;> omega)); have hz : Blk w1 (w.heap.size + 1) 68 #[.nilFunc, .bool false] := Blk.below (by repeat (first | assumption | (refine Blk.newAt ?_; simp; done) | apply Blk.drew | apply Blk.alloc)) hb1 (by simp); have z0 := hz.cell 0; have z1 := hz.cell 1; have zf := hz.frozen; have zl := hz.lt; simp at z0 z1))
    all_goals
      clear hl0 hl1 hl2 hl3
      have hTs := hT.size
      have hB1s := hB1.size
      go_wp2_with fail
      go_meet
      first
        | exact ⟨rfl, hB1.alloc hB1.size _⟩
        | exact ⟨rfl, (hB1.setCell (p := ⟨w.heap.size + 1, 0, none⟩) (by simp) _).setCell (p := ⟨w.heap.size + 1, 1, none⟩) (by simp) _⟩
  case rest =>
    obtain ⟨rfl, hB⟩ := hcut
    go_wp2_with fail
    go_ret2
    unfold UsesP readsL makesL
    rw [HK.out]
    exact ⟨_, rfl, World.ownsRow_nil _ _ _ _, hB⟩
theorem Uses_any (w : World) (i : I9) : Calls Try.prog 10 #[.agg i.arr] w (UsesP w i) := by
  rcases h : kindU i.op with _ | ⟨k, mk⟩
  · exact uses_miss w i h
  · exact uses_hit w i k mk h
end Go.Proofs.Ytfmkfmcplffhdaa

/- alloc.Apart tells whether spans that meet have homes of their own: the walk. Conditions: sizes. -/
import Derived.Test.YtfgdkeomjplnnaaDoorAnH
import Derived.Test.YtfgdkeomjplnnaaDoorLvQb
import Derived.Deep.RegionLaw
namespace Go.Proofs.YtfgdkeomjplnnaaDoor
set_option linter.unusedVariables false
open Go.RowKit
open Go.Sort (grow HoldsK PermIn SortedIn SWO flatK putRowK)
open Go.ChangeMaps (setBlock heap_setBlock_same heap_setBlock_other)
attribute [local irreducible] Blk
theorem infoSpG : (Tryd.prog.info? 32).map (fun i => (i.zero, i.size, i.bytes)) = some (some (.agg #[.int .i64 0, .int .i64 0, .int .i64 0]), 3, 24) := by kernel_rfl
/-- append, by an equation, as one step of a region that draws. -/
theorem step_append_eq {P : Program} {ops : Array Oper} {o : Oper} {a : Act} {w w' : World} {K : Act → World → Prop} {Q : Exit → Act → World → Prop} {E : Prop}
    (hg : o.guard = none) (s x : Operand) (t : TypeId) (hop : o.op = Op.call { callee := Callee.builtin Builtin.append, args := #[s, x], argTypes := #[t, t] }) (v u r : Value) (hs : a.eval s = v) (hx : a.eval x = u)
    (hrun : (Builtin.append_ #[t, t] o.type #[v, u]).run P w = .ok r w') (hK : K (a.put o.dst r) w') :
    if Region.wanted o (yielded ops a.tmps) = true then Oper.wp P o a w K Q else E := by
  have hw : Region.wanted o (yielded ops a.tmps) = true := by simp [Region.wanted, hg]
  rw [if_pos hw]
  unfold Oper.wp
  simp [execOp, hop, resolve, invoke, builtin, hs, hx, hrun, Result.andThen]
  exact hK
/-- One span more, in its home's group: what the entry, the append and the store do. -/
theorem place {w W : World} {b : Nat} {Z : List (Sp × Hm)} {G : List (Hm × Value)} (hBW : Below b w W) (hbW : b < W.heap.size) (HM : MapHX W b G) (HG : GInv W (b + 1) Z G) (hZ : Z.length ≤ 1000) (x : Sp) {h : Hm} (hw : (Lit.int .i64 h.n).wf = true) :
    ∃ (v : Value) (st : Int) (w3 : World) (r : Value) (w5 w6 : World) (G' : List (Hm × Value)),
      (Instr.mapEntry 67 (.map (some b)) h.key).run Tryd.prog (W.drew.alloc (.cells #[.int .i64 x.v, .int .i64 x.fr, .int .i64 x.till] 32)) = .ok (.tuple #[v, .int .i64 st]) w3 ∧
      (Builtin.append_ #[24, 24] 24 #[v, .slice (some ⟨W.heap.size, 0, none⟩) 1 1]).run Tryd.prog w3 = .ok r w5 ∧
      (Instr.entryStore 67 (.map (some b)) (.int .i64 st) r).run Tryd.prog w5 = .ok () w6 ∧
      MapHX w6 b G' ∧ GInv w6 (b + 1) (Z ++ [(x, h)]) G' ∧ Below b w w6 ∧ b + 1 ≤ w6.heap.size := by
  obtain ⟨i0, hi0, hz0, hz1, hz2⟩ := info_parts infoSpG
  have hM2 : (W.drew.alloc (.cells #[.int .i64 x.v, .int .i64 x.fr, .int .i64 x.till] 32)).heap[b]? = some (mapObj G) := (heap_alloc_old W.drew _ hbW).trans HM
  have hBlk : Blk (W.drew.alloc (.cells #[.int .i64 x.v, .int .i64 x.fr, .int .i64 x.till] 32)) W.heap.size 32 #[.int .i64 x.v, .int .i64 x.fr, .int .i64 x.till] := Blk.new W.drew _ _
  have hK2 : Keep W (W.drew.alloc (.cells #[.int .i64 x.v, .int .i64 x.fr, .int .i64 x.till] 32)) (fun _ => False) := ((Keep.refl W _).drew).alloc _
  have hB2 : Below b w (W.drew.alloc (.cells #[.int .i64 x.v, .int .i64 x.fr, .int .i64 x.till] 32)) := hBW.trans (hK2.below (by omega) (fun _ _ h => h))
  have hs2 : (W.drew.alloc (.cells #[.int .i64 x.v, .int .i64 x.fr, .int .i64 x.till] 32)).heap.size = W.heap.size + 1 := by simp
  generalize W.drew.alloc (.cells #[.int .i64 x.v, .int .i64 x.fr, .int .i64 x.till] 32) = W2 at *
  have HG2 := HG.kept hK2 (fun _ _ h => h)
  rcases entry_law hM2 HG.keys HG.nd hw with ⟨j, v, hj, hent, hsto⟩ | ⟨habs, hent, hsto⟩
  · obtain ⟨hne, hown⟩ := HG2.row (h, v) (List.mem_of_getElem? hj)
    have hl : (selZ Z h).length ≤ 1000 := by
      have h1 := List.length_filter_le (fun p : Sp × Hm => decide (p.2 = h)) Z
      unfold selZ
      rw [List.length_map]
      omega
    simp only at hown hne
    obtain ⟨gg, cap, w5, hrun, hown5, hgrow, hat, hlt5⟩ := run_append_lies (P := Tryd.prog) (w := W2) 24 24 (b + 1) 32 i0 _ 3 24 Tryd.underlying24 hi0 hz0 hz1 hz2 rfl (by omega) v (selZ Z h).length _ hown ⟨W.heap.size, 0, none⟩ 1 1 [.int .i64 x.v, .int .i64 x.fr, .int .i64 x.till] (by rfl) (World.news_of_block (cs := #[.int .i64 x.v, .int .i64 x.fr, .int .i64 x.till]) (t := 32) (fr := (0, 0)) (Blk.heap hBlk)) (by simp [Value.oneCell']) (by omega) (by unfold maxLen; omega) (by omega) (by omega) (W.heap.size + 1) hs2
    have hvb : ∀ g, v.ownBlock = some g → b + 1 ≤ g ∧ g < W2.heap.size := fun g hg => hown.lt g hg
    have hKp : Keep W2 w5 (fun q => q < b + 1 ∨ v.ownBlock = some q) := (Keep.refl W2 _).grown hgrow (fun q hq _ => .inr hq)
    have hM5 : w5.heap[b]? = some (mapObj G) := (hgrow.block b (by omega) (fun e => by have := hvb _ e.symm; omega)).trans hM2
    have hB5 : Below b w w5 := hB2.grown hgrow (by omega) (fun q hq => by have := hvb q hq; omega)
    have hz5 := hKp.size
    refine ⟨v, j, W2, _, w5, _, _, hent W2 hM2, hrun, hsto w5 _ hM5, setB_same hM5 _, ?_, setB_below hB5 hM5 _, by rw [setB_size]; omega⟩
    refine GInv.kept (w := w5) (S := fun q => q = b) ?_ (setB_keep hM5 _) (fun q hq e => by omega)
    exact GInv.set HG2 hKp hj hown5 (fun g hg => by
      obtain rfl : gg = g := by simpa [Value.ownBlock] using hg
      rcases hat with h | h
      · exact .inl h
      · right; omega)
  · have hMX := setB_same hM2 (mapObj (G ++ [(h, .slice none 0 0)]))
    have hKX := setB_keep hM2 (mapObj (G ++ [(h, .slice none 0 0)]))
    have hBX := setB_below hB2 hM2 (mapObj (G ++ [(h, .slice none 0 0)]))
    have hsX := setB_size W2 b (mapObj (G ++ [(h, .slice none 0 0)]))
    have hbX : Blk (setBlock W2 b (mapObj (G ++ [(h, .slice none 0 0)]))) W.heap.size 32 #[.int .i64 x.v, .int .i64 x.fr, .int .i64 x.till] := hKX.blk hBlk (by omega)
    have hE := hent W2 hM2
    generalize setBlock W2 b (mapObj (G ++ [(h, .slice none 0 0)])) = W3 at *
    obtain ⟨gg, cap, w5, hrun, hown5, hgrow, hat, hlt5⟩ := run_append_lies (P := Tryd.prog) (w := W3) 24 24 (b + 1) 32 i0 _ 3 24 Tryd.underlying24 hi0 hz0 hz1 hz2 rfl (by omega) (.slice none 0 0) 0 _ (World.ownsRow_nil _ _ _ _) ⟨W.heap.size, 0, none⟩ 1 1 [.int .i64 x.v, .int .i64 x.fr, .int .i64 x.till] (by rfl) (World.news_of_block (cs := #[.int .i64 x.v, .int .i64 x.fr, .int .i64 x.till]) (t := 32) (fr := (0, 0)) (Blk.heap hbX)) (by simp [Value.oneCell']) (by omega) (by unfold maxLen; omega) (by omega) (by omega) (W.heap.size + 1) (by omega)
    have hgg : gg = W.heap.size + 1 := by
      rcases hat with h | h
      · cases h
      · exact h
    have hK5 : Keep W3 w5 (fun q => q < b + 1) := (Keep.refl W3 _).grown hgrow (fun q hq _ => by cases hq)
    have hM5 : MapHX w5 b (G ++ [(h, .slice none 0 0)]) := (hgrow.block b (by omega) (fun e => by cases e)).trans hMX
    have hB5 : Below b w w5 := hBX.grown hgrow (by omega) (fun q hq => by cases hq)
    have hz5 := hK5.size
    refine ⟨_, G.length, W3, _, w5, _, _, hE, hrun, hsto w5 _ hM5, setB_same hM5 _, ?_, setB_below hB5 hM5 _, by rw [setB_size]; omega⟩
    refine GInv.kept (w := w5) (S := fun q => q = b) ?_ (setB_keep hM5 _) (fun q hq e => by omega)
    exact GInv.push HG2 ((hKX.mono (S' := fun q => q < b + 1) (fun q _ hq => by omega)).trans hK5 (fun q _ hq => hq)) habs hw hown5 (fun g hg => by
      obtain rfl : gg = g := by simpa [Value.ownBlock] using hg
      omega)
def TillOk (hs : List Hm) (k : Nat) : Prop := ∀ i h, i < k → hs[i]? = some h → okHm h = true
set_option maxRecDepth 100000 in
set_option maxHeartbeats 6400000 in
theorem Apart_any (w : World) (A Bq : Option Addr) (sp : List Sp) (hs : List Hm) (c ch : Nat) (hr : RepS w A sp) (hh : RepH w Bq hs) (hn : sp.length ≤ 1000) (hn2 : hs.length ≤ 1000) (hfr : ∀ s ∈ sp, -1000000000 ≤ s.fr ∧ s.fr ≤ 1000000000) (hwf : ∀ h ∈ hs, (Lit.int .i64 h.n).wf = true) :
    Calls Tryd.prog 17 #[.slice A sp.length c, .slice Bq hs.length ch] w fun e w' => e = .returned (.bool (apartB sp hs)) ∧ Below w.heap.size w w' := by
  have HR := Lib.hid hr
  have HH := Lib.hid hh
  have HF := Lib.hid hfr
  have HWF := Lib.hid hwf
  clear hr hh hfr hwf
  obtain ⟨i0, hi0, hz0, hz1, hz2⟩ := info_parts infoSpG
  have HII := Lib.hid (⟨hi0, hz0, hz1, hz2⟩ : _ ∧ _ ∧ _ ∧ _)
  clear hi0 hz0 hz1 hz2
  have hmm := @run_makeMap Tryd.prog
  by_cases hlen : sp.length = hs.length
  rotate_left
  · have g0 : ((sp.length : Int) != (hs.length : Int)) = true := by
      simp only [bne_iff_ne, ne_eq]
      omega
    have hap : apartB sp hs = false := by
      unfold apartB
      exact decide_eq_false (fun h => hlen h.1)
    rw [hap]
    clear hlen
    go_enter Tryd.func17, Tryd.ntmps17
    go_wp2_with fail
    go_ret
    exact ⟨rfl, Below.refl _ _⟩
  have g0 : ((sp.length : Int) != (hs.length : Int)) = false := by simp [hlen]
  have HLEN := Lib.hid hlen
  clear hlen
  obtain ⟨res, hres⟩ : ∃ r, apartB sp hs = r := ⟨_, rfl⟩
  rw [hres]
  have HAP := Lib.hid hres
  clear hres
  go_enter Tryd.func17, Tryd.ntmps17
  go_wp2_with fail
  go_loopw [19] (fun ix wr => ∃ (k : Nat) (G : List (Hm × Value)), ix = .int .i64 (k : Int) ∧ k ≤ hs.length ∧ Hid (TillOk hs k) ∧ Hid (MapHX wr w.heap.size G) ∧ Hid (GInv wr (w.heap.size + 1) ((sp.zip hs).take k) G) ∧ Hid (Below w.heap.size w wr) ∧ w.heap.size + 1 ≤ wr.heap.size) (fun ix _ => hs.length - (intOf ix).toNat)
  case atStart => exact ⟨0, [], rfl, Nat.zero_le _, Lib.hid (fun i h hi => by omega), Lib.hid (heap_alloc_new w _), Lib.hid (GInv.nil _ _), Lib.hid ((Below.refl _ _).alloc (Nat.le_refl _) _), by simp⟩
  case round =>
    obtain ⟨k, G, rfl, hk, HT, HM, HG, HB, hsz⟩ := hrel
    by_cases hlt : k < hs.length
    · obtain ⟨x, hx⟩ : ∃ x, sp[k]? = some x := ⟨sp[k]'(by rw [HLEN.out]; exact hlt), List.getElem?_eq_getElem _⟩
      obtain ⟨h, hh⟩ : ∃ h, hs[k]? = some h := ⟨hs[k], List.getElem?_eq_getElem hlt⟩
      obtain ⟨bs, os, rfl, hbs, hcs⟩ := HR.out (by intro h; rw [h] at hx; simp at hx)
      obtain ⟨bh, oh, rfl, hbh, hch⟩ := HH.out (by intro h; rw [h] at hlt; simp at hlt)
      have k0 : (0 : Int) ≤ (k : Int) := by omega
      have k1 : (k : Int) < (hs.length : Int) := by omega
      have k2 : (k : Int) < (sp.length : Int) := by rw [HLEN.out]; omega
      have g1 : decide ((k : Int) < (hs.length : Int)) = true := decide_eq_true k1
      have e0 := (HB.out.cell (p := ⟨bh, oh + k * 2, none⟩) hbh).trans (hch k h hh).1
      have e1 := (HB.out.cell (p := ⟨bh, oh + k * 2 + 1, none⟩) hbh).trans (hch k h hh).2
      have cc := fun j u hu => (HB.out.cell (p := ⟨bs, os + k * 3 + j, none⟩) hbs).trans (hcs k x hx j u hu)
      have d0 := cc 0 (.int .i64 x.v) rfl
      have d1 := cc 1 (.int .i64 x.fr) rfl
      have d2 := cc 2 (.int .i64 x.till) rfl
      rw [Nat.add_zero] at d0
      have HD := Lib.hid (⟨d0, d1, d2⟩ : _ ∧ _ ∧ _)
      have hwn := HWF.out h (List.mem_of_getElem? hh)
      have HZ := Lib.hid (show (sp.zip hs).take (k + 1) = (sp.zip hs).take k ++ [(x, h)] from take_snoc' (by rw [List.getElem?_zip_eq_some]; exact ⟨hx, hh⟩))
      have HT2 := Lib.hid (show okHm h = true → TillOk hs (k + 1) from fun hok i h' hi hi2 => by
        by_cases e : i = k
        · rw [e, hh] at hi2
          obtain rfl : h = h' := by simpa using hi2
          exact hok
        · exact HT.out i h' (by omega) hi2)
      have HBAD := Lib.hid (show okHm h = false → res = false from fun hok => by
        rw [← HAP.out]
        unfold apartB
        refine decide_eq_false (fun hc => ?_)
        have := hc.2.1 h (List.mem_of_getElem? hh)
        rw [hok] at this
        cases this)
      clear cc hcs hch d0 d1 d2 hx hh
      obtain ⟨hsl, hnn⟩ := h
      obtain ⟨xv, xf, xt⟩ := x
      simp only at e0 e1 hwn HD
      by_cases n0 : hnn < 0
      · have q1 : decide (hnn < 0) = true := decide_eq_true n0
        have HB2 := Lib.hid (HBAD.out (by unfold okHm; simp [n0]))
        clear n0
        go_wp2_with fail
        go_ret
        exact ⟨by rw [HB2.out]; rfl, HB.out.alloc (by omega) _⟩
      have q1 : decide (hnn < 0) = false := decide_eq_false n0
      by_cases n6 : hsl = false ∧ hnn ≥ 6
      · obtain ⟨rfl, n6⟩ := n6
        have q2 : decide (hnn ≥ 6) = true := decide_eq_true n6
        have HB2 := Lib.hid (HBAD.out (by unfold okHm; simp [show ¬ hnn < 6 by omega]))
        clear n0 n6
        go_wp2_with fail
        go_ret
        exact ⟨by rw [HB2.out]; rfl, HB.out.alloc (by omega) _⟩
      have HT3 := Lib.hid (HT2.out (by
        unfold okHm
        cases hsl with
        | true => simp; omega
        | false => simp at n6; simp; omega))
      have hq2 : hsl = true ∨ (hsl = false ∧ decide (hnn ≥ 6) = false) := by
        cases hsl with
        | true => exact .inl rfl
        | false => exact .inr ⟨rfl, by simp at n6; exact decide_eq_false (by omega)⟩
      have HBL := Lib.hid (Blk.new wr 30 #[.bool hsl, .int .i64 hnn])
      have hbsw : bs < wr.heap.size := by have := HB.out.size; omega
      have HBL2 := Lib.hid (heap_alloc_old wr (.cells #[.bool hsl, .int .i64 hnn] 30) (show w.heap.size < wr.heap.size by omega))
      have HDW := Lib.hid (show (wr.alloc (.cells #[.bool hsl, .int .i64 hnn] 30)).cell? ⟨bs, os + k * 3, none⟩ = some (.int .i64 xv) ∧ (wr.alloc (.cells #[.bool hsl, .int .i64 hnn] 30)).cell? ⟨bs, os + k * 3 + 1, none⟩ = some (.int .i64 xf) ∧ (wr.alloc (.cells #[.bool hsl, .int .i64 hnn] 30)).cell? ⟨bs, os + k * 3 + 2, none⟩ = some (.int .i64 xt) from
        ⟨(World.cell?_of_block (heap_alloc_old wr _ hbsw)).trans HD.out.1, (World.cell?_of_block (heap_alloc_old wr _ hbsw)).trans HD.out.2.1, (World.cell?_of_block (heap_alloc_old wr _ hbsw)).trans HD.out.2.2⟩)
      clear HBAD HT2 n0 n6
      rcases hq2 with rfl | ⟨rfl, q2⟩
      · go_wp2_with fail
        have c0 := HBL.out.cell 0
        have c1 := HBL.out.cell 1
        obtain ⟨d0, d1, d2⟩ := HDW.out
        have hzW : (wr.alloc (.cells #[.bool true, .int .i64 hnn] 30)).heap.size = wr.heap.size + 1 := by simp
        have HBW := Lib.hid (HB.out.alloc (by omega) (.cells #[.bool true, .int .i64 hnn] 30))
        have HMW := Lib.hid (show MapHX (wr.alloc (.cells #[.bool true, .int .i64 hnn] 30)) w.heap.size G from HBL2.out.trans HM.out)
        have HGW := Lib.hid (show GInv (wr.alloc (.cells #[.bool true, .int .i64 hnn] 30)) (w.heap.size + 1) ((sp.zip hs).take k) G from HG.out.kept (S := fun _ => False) ((Keep.refl _ _).alloc _) (fun _ _ h => h))
        generalize hW : wr.alloc (.cells #[.bool true, .int .i64 hnn] 30) = W at *
        simp at c0 c1
        have hbW : w.heap.size < W.heap.size := by omega
        have hbsW : bs < W.heap.size := by omega
        have hkW : wr.heap.size < W.heap.size := by omega
        clear HBL HBL2 HDW hzW hW
        obtain ⟨v, st, w3, r, w5, w6, G', hE, hrun, hS, hM6, hG6, hB6, hs6⟩ := place HBW.out hbW HMW.out HGW.out (by simp; omega) ⟨xv, xf, xt⟩ (h := ⟨true, hnn⟩) hwn
        have HN := Lib.hid (⟨hM6, hG6, hB6⟩ : _ ∧ _ ∧ _)
        have HRUN := Lib.hid hrun
        clear hM6 hG6 hB6 hrun
        unfold Hm.key at hE
        simp only at hE
        simp [go_sem] at hE hS
        go_region_law (refine step_append_eq rfl _ _ _ rfl v (.slice (some ⟨W.heap.size, 0, none⟩) 1 1) r (by rfl) (by rfl) HRUN.out ?_)
        all_goals
          go_wp2_with fail
          exact ⟨⟨k + 1, G', rfl, by omega, HT3, Lib.hid HN.out.1, Lib.hid (by rw [HZ.out]; exact HN.out.2.1), Lib.hid HN.out.2.2, hs6⟩, by simp [intOf]; omega⟩
      · go_wp2_with fail
        have c0 := HBL.out.cell 0
        have c1 := HBL.out.cell 1
        obtain ⟨d0, d1, d2⟩ := HDW.out
        have hzW : (wr.alloc (.cells #[.bool false, .int .i64 hnn] 30)).heap.size = wr.heap.size + 1 := by simp
        have HBW := Lib.hid (HB.out.alloc (by omega) (.cells #[.bool false, .int .i64 hnn] 30))
        have HMW := Lib.hid (show MapHX (wr.alloc (.cells #[.bool false, .int .i64 hnn] 30)) w.heap.size G from HBL2.out.trans HM.out)
        have HGW := Lib.hid (show GInv (wr.alloc (.cells #[.bool false, .int .i64 hnn] 30)) (w.heap.size + 1) ((sp.zip hs).take k) G from HG.out.kept (S := fun _ => False) ((Keep.refl _ _).alloc _) (fun _ _ h => h))
        generalize hW : wr.alloc (.cells #[.bool false, .int .i64 hnn] 30) = W at *
        simp at c0 c1
        have hbW : w.heap.size < W.heap.size := by omega
        have hbsW : bs < W.heap.size := by omega
        have hkW : wr.heap.size < W.heap.size := by omega
        clear HBL HBL2 HDW hzW hW
        obtain ⟨v, st, w3, r, w5, w6, G', hE, hrun, hS, hM6, hG6, hB6, hs6⟩ := place HBW.out hbW HMW.out HGW.out (by simp; omega) ⟨xv, xf, xt⟩ (h := ⟨false, hnn⟩) hwn
        have HN := Lib.hid (⟨hM6, hG6, hB6⟩ : _ ∧ _ ∧ _)
        have HRUN := Lib.hid hrun
        clear hM6 hG6 hB6 hrun
        unfold Hm.key at hE
        simp only at hE
        simp [go_sem] at hE hS
        go_region_law (refine step_append_eq rfl _ _ _ rfl v (.slice (some ⟨W.heap.size, 0, none⟩) 1 1) r (by rfl) (by rfl) HRUN.out ?_)
        all_goals
          go_wp2_with fail
          exact ⟨⟨k + 1, G', rfl, by omega, HT3, Lib.hid HN.out.1, Lib.hid (by rw [HZ.out]; exact HN.out.2.1), Lib.hid HN.out.2.2, hs6⟩, by simp [intOf]; omega⟩
    · have hke : k = hs.length := by omega
      have HKE := Lib.hid hke
      subst hke
      have hbl : w.heap.size < wr.heap.size := by omega
      have HR0 := Lib.hid (RInv.start HG.out HM.out HB.out hbl)
      have hrg := run_range_map (P := Tryd.prog) wr 67 30 24 w.heap.size (entsH 0 G).toArray G.length Tryd.underlying67 HM.out
      have HZL := Lib.hid (show (sp.zip hs).take hs.length = sp.zip hs from List.take_of_length_le (by simp; omega))
      rw [HZL.out] at HG HR0
      go_wp2_with fail
      go_loopw [9] (fun _ w2 => ∃ (seen : Array Nat) (c0 : Nat), Hid (RInv w w2 w.heap.size wr.heap.size (sp.zip hs) G seen c0)) (fun _ w2 => w2.rangeLeft w.heap.size wr.heap.size)
      case atStart => exact ⟨#[], G.length, HR0⟩
      case round =>
        obtain ⟨seen, c0, HRI⟩ := hrel
        rcases HRI.out.next HG.out rfl hbl 0 with ⟨hall, hnx⟩ | ⟨j, hm, v, g, cp, n, W1, hj, hnl, hn0, rfl, hnx, hen, hown, hg1, hg2, hb1, hnext⟩
        · have HRES := Lib.hid (show res = true from by
            rw [← HAP.out]
            unfold apartB
            refine decide_eq_true ⟨HLEN.out, fun h hh => ?_, (apart_groups _).2 fun h ⟨x, hx⟩ => ?_⟩
            · obtain ⟨i, hi⟩ := List.getElem?_of_mem hh
              exact HT.out i h (List.getElem?_eq_some_iff.1 hi).1 hi
            · obtain ⟨v0, hv0⟩ := HG.out.all _ hx
              exact hall _ hv0)
          clear hall
          go_wp2_with fail
          go_ret
          exact ⟨by rw [HRES.out]; rfl, HRI.out.bel⟩
        · have HJ := Lib.hid hj
          have hnl2 : n ≤ 1000 := by
            have h1 := List.length_filter_le (fun p : Sp × Hm => decide (p.2 = hm)) (sp.zip hs)
            have h2 : (sp.zip hs).length ≤ 1000 := by simp; omega
            unfold selZ at hnl
            rw [List.length_map] at hnl
            omega
          have HS := Lib.hid (sortS_any W1 (w.heap.size + 1) g cp n (selZ (sp.zip hs) hm) hown hnl (by omega))
          have HB1 := Lib.hid hb1
          have HNX := Lib.hid hnext
          have HNL := Lib.hid hnl
          have HLF := Lib.hid (show ∀ x ∈ selZ (sp.zip hs) hm, -1000000000 ≤ x.fr ∧ x.fr ≤ 1000000000 from fun x hx => by
            unfold selZ at hx
            obtain ⟨p, hp, rfl⟩ := List.mem_map.1 hx
            exact HF.out p.1 (List.of_mem_zip (List.mem_filter.1 hp).1).1)
          have HBADG := Lib.hid (show ¬ groupOk (selZ (sp.zip hs) hm) → res = false from fun hbad => by
            rw [← HAP.out]
            unfold apartB
            refine decide_eq_false (fun hc => hbad ((apart_groups _).1 hc.2.2 hm ?_))
            have hpos : 0 < (selZ (sp.zip hs) hm).length := by omega
            obtain ⟨x, hx⟩ := List.exists_mem_of_length_pos hpos
            unfold selZ at hx
            obtain ⟨p, hp, rfl⟩ := List.mem_map.1 hx
            obtain ⟨h1, h2⟩ := List.mem_filter.1 hp
            refine ⟨p.1, ?_⟩
            have : p.2 = hm := by simpa using h2
            rw [← this]
            exact h1)
          unfold Hm.key at hnx hen
          clear hj hnl hown hb1 hnext
          generalize selZ (sp.zip hs) hm = L at *
          go_wp2_with fail
          refine HS.out.mono ?_
          rintro e w3 ⟨rfl, L', hp, hsd, hrep, hk3⟩
          have HP := Lib.hid hp
          have HSD := Lib.hid hsd
          have HREP := Lib.hid hrep
          have HK3 := Lib.hid hk3
          have hl' : L'.length = n := by rw [hp.length_eq, HNL.out]
          have hz3 : g < w3.heap.size := by have := hk3.size; omega
          have HBW3 := Lib.hid (HB1.out.trans (hk3.below (by omega) (fun q hq => by omega)))
          clear hp hsd hrep hk3 HS hnx hen
          go_wp2_with fail
          go_loopw [10] (fun ix w4 => ∃ (k : Nat), ix = .int .i64 ((k : Int) + 1) ∧ k + 1 ≤ n ∧ Hid (∀ (q : Nat) x y, q + 1 < k + 1 → L'[q]? = some x → L'[q + 1]? = some y → enS x ≤ y.fr) ∧ Hid (Below w3.heap.size w3 w4)) (fun ix _ => n - (intOf ix).toNat)
          case atStart => exact ⟨0, rfl, by omega, Lib.hid (fun q x y hq => by omega), Lib.hid (Below.refl _ _)⟩
          case round =>
            obtain ⟨k, rfl, hk, HADJ, HB4⟩ := hrel
            by_cases hlt : k + 1 < n
            · obtain ⟨x, hx⟩ : ∃ x, L'[k]? = some x := ⟨L'[k]'(by omega), List.getElem?_eq_getElem _⟩
              obtain ⟨y, hy⟩ : ∃ y, L'[k + 1]? = some y := ⟨L'[k + 1]'(by omega), List.getElem?_eq_getElem _⟩
              obtain ⟨bb, oo, he, hbl3, hall⟩ := HREP.out (by intro h; rw [h] at hx; simp at hx)
              obtain ⟨rfl, rfl⟩ : g = bb ∧ oo = 0 := by
                simp only [Option.some.injEq, Addr.mk.injEq] at he
                omega
              have hz4 : g < wr.heap.size := by have := HB4.out.size; omega
              have cell := fun (i : Nat) (s : Sp) (hs : L'[i]? = some s) (j : Nat) (u : Value) (hu : s.arr[j]? = some u) => (HB4.out.cell (p := ⟨g, 0 + i * 3 + j, none⟩) hz3).trans (hall i s hs j u hu)
              have cy := cell (k + 1) y hy 1 (.int .i64 y.fr) rfl
              have cx0 := cell k x hx 0 (.int .i64 x.v) rfl
              have cx1 := cell k x hx 1 (.int .i64 x.fr) rfl
              have cx2 := cell k x hx 2 (.int .i64 x.till) rfl
              rw [Nat.zero_add] at cy cx0 cx1 cx2
              rw [Nat.add_zero] at cx0
              have dy := fun p : Bel wr => bel_cell cy hz4 p
              have dx0 := fun p : Bel wr => bel_cell cx0 hz4 p
              have dx1 := fun p : Bel wr => bel_cell cx1 hz4 p
              have dx2 := fun p : Bel wr => bel_cell cx2 hz4 p
              obtain ⟨f0, f1⟩ := HLF.out x (HP.out.mem_iff.1 (List.mem_of_getElem? hx))
              have HEN := Lib.hid (fun W => end_any W x f0 f1)
              have HBAD2 := Lib.hid (show y.fr < enS x → res = false from fun hb => HBADG.out (fun hg => adj_bad HSD.out hx hy hb ((group_perm HP.out).2 hg)))
              have HADJ2 := Lib.hid (show ¬ y.fr < enS x → ∀ (q : Nat) a b, q + 1 < k + 1 + 1 → L'[q]? = some a → L'[q + 1]? = some b → enS a ≤ b.fr from fun hb q a b hq ha hb2 => by
                by_cases e : q = k
                · subst e
                  rw [hx] at ha
                  rw [hy] at hb2
                  obtain rfl : x = a := by simpa using ha
                  obtain rfl : y = b := by simpa using hb2
                  omega
                · exact HADJ.out q a b (by omega) ha hb2)
              have j0 : (0 : Int) ≤ (k : Int) + 1 := by omega
              have j1 : (k : Int) + 1 < (n : Int) := by omega
              have j2 : (0 : Int) ≤ (k : Int) := by omega
              have j3 : (k : Int) < (n : Int) := by omega
              have g1 : decide ((k : Int) + 1 < (n : Int)) = true := decide_eq_true j1
              clear cell cy cx0 cx1 cx2 hall he hx hy f0 f1
              obtain ⟨xv, xf, xt⟩ := x
              obtain ⟨yv, yf, yt⟩ := y
              simp only at dy dx0 dx1 dx2 HEN HBAD2 HADJ2
              generalize enS ⟨xv, xf, xt⟩ = en at *
              by_cases hb : yf < en
              · have g2 : decide (yf < en) = true := decide_eq_true hb
                have HRF := Lib.hid (HBAD2.out hb)
                clear hb
                go_wp2_with fail
                refine region_bel (by kernel_rfl) (by kernel_rfl) ?_
                repeat (go_big_quiet_step (first | (go_at_call 25; exact calls_bel (HEN.out _))))
                refine wpQuiet_nil ?_
                rintro _ ⟨p, rfl⟩
                have HBE := Lib.hid (HBW3.out.trans ((HB4.out.trans (p.le.mono HB4.out.size)).mono HBW3.out.size))
                generalize p.val = w5 at *
                go_wp2_with fail
                go_ret
                exact ⟨by rw [HRF.out]; rfl, HBE.out⟩
              · have g2 : decide (yf < en) = false := decide_eq_false hb
                have HAD := Lib.hid (HADJ2.out hb)
                clear hb
                go_wp2_with fail
                refine region_bel (by kernel_rfl) (by kernel_rfl) ?_
                repeat (go_big_quiet_step (first | (go_at_call 25; exact calls_bel (HEN.out _))))
                refine wpQuiet_nil ?_
                rintro _ ⟨p, rfl⟩
                have HBE := Lib.hid (HB4.out.trans (p.le.mono HB4.out.size))
                generalize p.val = w5 at *
                go_wp2_with fail
                exact ⟨⟨k + 1, by simp, by omega, HAD, HBE⟩, by simp [intOf]; omega⟩
            · have g1 : decide ((k : Int) + 1 < (n : Int)) = false := decide_eq_false (by omega)
              have HOK := Lib.hid (show groupOk L from (group_perm HP.out).1 (adj_ok HSD.out (fun q x y hx hy => HADJ.out q x y (by have := (List.getElem?_eq_some_iff.1 hy).1; omega) hx hy)))
              have HNW := Lib.hid (HNX.out wr (HK3.out.trans ((Keep.of_below HB4.out).mono (S' := fun _ => False) (fun q hq h => by omega)) (fun _ _ h => h.elim)) HOK.out)
              go_wp2_with fail
              exact ⟨⟨_, _, Lib.hid HNW.out.1⟩, HNW.out.2⟩
end Go.Proofs.YtfgdkeomjplnnaaDoor

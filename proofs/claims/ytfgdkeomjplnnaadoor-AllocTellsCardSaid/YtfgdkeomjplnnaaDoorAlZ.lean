/- alloc.Alloc gives spans the homes that the model tells: the walk. Conditions: sizes; the table is as it is laid. -/
import Derived.Test.YtfgdkeomjplnnaaDoorAlY
namespace Go.Proofs.YtfgdkeomjplnnaaDoor
set_option linter.unusedVariables false
open Go.RowKit
attribute [local irreducible] Blk
theorem sp_get {sp : List Sp} {i : Nat} {s : Sp} (h : sp[i]? = some s) : mkH sp i = ⟨i, enS s⟩ ∧ frS sp i = s.fr := by
  unfold mkH frS
  rw [h]
  exact ⟨rfl, rfl⟩
def regsTo (hs : List Hm) (k : Nat) : Int := regsF (hs.take k)
theorem regsTo_succ {hs : List Hm} {k : Nat} {h : Hm} (hk : hs[k]? = some h) : regsTo hs (k + 1) = if h.isSlot then regsTo hs k else max (regsTo hs k) (h.n + 1) := by
  unfold regsTo regsF
  rw [take_snoc' hk, List.foldl_append]
  rfl
theorem nodup_take {l : List Nat} (h : l.Nodup) {k i : Nat} (hk : l[k]? = some i) : i ∉ l.take k := by
  have h1 := take_snoc' hk
  have h2 : (l.take (k + 1)).Nodup := h.sublist (List.take_sublist _ _)
  rw [h1, List.nodup_append] at h2
  intro hm
  exact h2.2.2 i hm i (by simp) rfl
def stTo (sp : List Sp) (order : List Nat) (k : Nat) : St := (order.take k).foldl (stepF sp) (st0 sp.length)
theorem stTo_succ {sp : List Sp} {order : List Nat} {k i : Nat} (hk : order[k]? = some i) : stTo sp order (k + 1) = stepF sp (stTo sp order k) i := by
  unfold stTo
  rw [take_snoc' hk, List.foldl_append]
  rfl
set_option maxRecDepth 100000 in
set_option maxHeartbeats 6400000 in
theorem Alloc_any (W : World) (A : Option Addr) (sp : List Sp) (cA : Nat) (hr : RepS W A sp) (hn : sp.length ≤ 1000) (hfr : ∀ s ∈ sp, -1000000000 ≤ s.fr ∧ s.fr ≤ 1000000000) (hT : TabAt 1 Lib.deBruijn64tab W) (hW : 1 < W.heap.size) :
    Calls Tryd.prog 10 #[.slice A sp.length cA] W (AllocP W sp) := by
  have HR := Lib.hid hr
  have HF := Lib.hid hfr
  have HT := Lib.hid hT
  have hmk1 := run_mk_ints sp.length (by omega)
  have hmk2 := run_mk_homes sp.length (by omega)
  have hBl := Lib.hid ((Blk.new W 24 #[.slice A sp.length cA]).alloc (.cells (nCells (List.replicate sp.length 0)).toArray 3))
  have hBo := Lib.hid (Blk.newAt (w := W.alloc (.cells #[.slice A sp.length cA] 24)) (t := 3) (cs := (nCells (List.replicate sp.length 0)).toArray) (k := W.heap.size + 1) (by simp))
  have hB1 := Lib.hid (((Below.refl W.heap.size W).alloc (Nat.le_refl _) (.cells #[.slice A sp.length cA] 24)).alloc (by simp) (.cells (nCells (List.replicate sp.length 0)).toArray 3))
  have hz1 : (W.alloc (.cells #[.slice A sp.length cA] 24)).heap.size = W.heap.size + 1 := by simp
  clear hr hfr hT
  go_enter Tryd.func10, Tryd.ntmps10
  go_wp2_with fail
  clear hmk1
  generalize (W.alloc (.cells #[.slice A sp.length cA] 24)).alloc (.cells (nCells (List.replicate sp.length 0)).toArray 3) = W1 at *
  go_loopw [17] (fun iv wr => ∃ (k : Nat) (c : List Nat), iv = .int .i64 (k : Int) ∧ k ≤ sp.length ∧ c.length = sp.length ∧ Hid (∀ p, p < k → gN c p = p) ∧ Hid (Blk wr (W.heap.size + 1) 3 (nCells c).toArray ∧ Keep W1 wr (fun k => k = W.heap.size + 1))) (fun iv _ => sp.length - (intOf iv).toNat)
  case atStart => exact ⟨0, List.replicate sp.length 0, rfl, Nat.zero_le _, by simp, Lib.hid (fun p hp => by omega), Lib.hid ⟨hBo.out, Keep.refl _ _⟩⟩
  case round =>
    obtain ⟨k, c, rfl, hk, hcl, HC, HX⟩ := hrel
    by_cases hlt : k < sp.length
    · have k0 : (0 : Int) ≤ (k : Int) := by omega
      have k1 : (k : Int) < (sp.length : Int) := by omega
      have hkc : k < c.length := by omega
      have ck := (HX.out.1.cell k).trans (show _ = some (Value.int .i64 (gN c k : Int)) by rw [List.getElem?_toArray, nCells_get hkc])
      have ff := HX.out.1.frozen
      have HB := Lib.hid (show Blk (wr.setCell ⟨W.heap.size + 1, k, none⟩ (.int .i64 (k : Int))) (W.heap.size + 1) 3 (nCells (c.set k k)).toArray from by
        have := HX.out.1.set k (.int .i64 (k : Int))
        rw [nCells_set]
        simpa using this)
      have HK := Lib.hid (HX.out.2.setCell ⟨W.heap.size + 1, k, none⟩ (fun _ => rfl) (.int .i64 (k : Int)))
      have HC2 := Lib.hid (show ∀ p, p < k + 1 → gN (c.set k k) p = p from fun p hp => by
        unfold gN
        rw [List.getElem?_set]
        by_cases hpk : k = p
        · subst hpk
          simp [hkc]
        · rw [if_neg hpk]
          exact HC.out p (by omega))
      have hcl2 : (c.set k k).length = sp.length := by rw [List.length_set]; exact hcl
      generalize gN c k = gk at *
      go_wp2_with fail
      exact ⟨⟨k + 1, c.set k k, rfl, by omega, hcl2, HC2.out, Lib.hid ⟨HB.out, HK.out⟩⟩, by simp [intOf]; omega⟩
    · have hke : k = sp.length := by omega
      subst hke
      have HCL := Lib.hid hcl
      have hid : ∀ p, p < c.length → gN c p = p := fun p hp => HC.out p (by rw [← HCL.out]; exact hp)
      have hKW : Below W.heap.size W wr := hB1.out.trans (HX.out.2.below (by have := hB1.out.size; omega) (fun k hk e => by omega))
      have HOr := Lib.hid (show OrW wr (W.heap.size + 1) W.heap.size A cA sp c from
        ⟨HX.out.1, HX.out.2.blk hBl.out (by omega), fun hne => by
          obtain ⟨b, o, hA, hb, hall⟩ := HR.out hne
          exact ⟨b, o, hA, by omega, fun k x hx j u hu => (hKW.cell (p := ⟨b, _, none⟩) hb).trans (hall k x hx j u hu)⟩,
          fun i hi => by
            obtain ⟨p, hp⟩ := List.getElem?_of_mem hi
            have hpl := (List.getElem?_eq_some_iff.1 hp).1
            have := hid p hpl
            rw [gN_of hp] at this
            omega⟩)
      have HID := Lib.hid hid
      have HS := Lib.hid (sortStable_any HOr.out (by omega) (by omega) HID.out sp.length)
      rw [HCL.out] at HS
      have HKW := Lib.hid hKW
      have HPR := Lib.hid (show c.Perm (List.range sp.length) from by
        have : c = List.range sp.length := by
          apply List.ext_getElem
          · simp [HCL.out]
          · intro p h1 h2
            have h3 := HID.out p h1
            unfold gN at h3
            rw [List.getElem?_eq_getElem h1] at h3
            simpa using h3
        rw [this])
      clear hcl hid hKW HC
      have hcell := (HOr.out.box.cell 0).trans (show _ = some (Value.slice A sp.length cA) from rfl)
      go_wp2_with fail
      refine HS.out.mono ?_
      rintro e W3 ⟨rfl, order, hperm, hsort, hOr3, hK3⟩
      have HOR3 := Lib.hid hOr3
      have HPERM := Lib.hid (hperm.trans HPR.out)
      have HSORT := Lib.hid (show SortedOn sp order 0 sp.length from by rw [← HCL.out]; exact hsort)
      have HB3 := Lib.hid (HKW.out.trans (hK3.below (by have := HKW.out.size; omega) (fun k hk e => by omega)))
      have hol : order.length = sp.length := by rw [HPERM.out.length_eq]; simp
      have HOL := Lib.hid hol
      have hsz3 : W.heap.size + 1 < W3.heap.size := hOr3.row.lt
      clear hperm hsort hOr3 hK3 hcell HS HX HPR HCL hol HID HOr
      have hcell := (HOR3.out.box.cell 0).trans (show _ = some (Value.slice A sp.length cA) from rfl)
      go_wp2_with fail
      have hA0 := Lib.hid (show AlW W3.heap.size ((W3.alloc (.cells (hmCells (List.replicate sp.length ⟨false, 0⟩)).toArray 30)).alloc (.cells #[.slice none 0 0, .int .u64 63, .slice (some ⟨W3.heap.size, 0, none⟩) sp.length sp.length, .int .i64 0] 53)) (W3.heap.size + 1) W3.heap.size (.slice none 0 0) [] 63 (stTo sp order 0).hs (stTo sp order 0).sl from by
        refine ⟨?_, (Blk.new W3 _ _).alloc _, ⟨hdCells_len _, .inl ⟨rfl, rfl⟩⟩, by omega, Nat.le_refl _⟩
        have e : (stTo sp order 0).hs.length = sp.length := List.length_replicate
        rw [e]
        exact Blk.newAt (by simp))
      have hB4 := Lib.hid (((Below.refl W3.heap.size W3).alloc (Nat.le_refl _) (.cells (hmCells (List.replicate sp.length ⟨false, 0⟩)).toArray 30)).alloc (by simp) (.cells #[.slice none 0 0, .int .u64 63, .slice (some ⟨W3.heap.size, 0, none⟩) sp.length sp.length, .int .i64 0] 53))
      generalize ((W3.alloc (.cells (hmCells (List.replicate sp.length ⟨false, 0⟩)).toArray 30)).alloc (.cells #[.slice none 0 0, .int .u64 63, .slice (some ⟨W3.heap.size, 0, none⟩) sp.length sp.length, .int .i64 0] 53)) = W4 at *
      go_loopw [35] (fun iv wr => ∃ (k : Nat), iv = .int .i64 (k : Int) ∧ k ≤ sp.length ∧ Hid (∃ ev es fr, InvS sp (order.take k) (stTo sp order k) es fr ∧ HsOk (stTo sp order k).hs ∧ AlW W3.heap.size wr (W3.heap.size + 1) W3.heap.size ev es fr (stTo sp order k).hs (stTo sp order k).sl ∧ Below W3.heap.size W3 wr)) (fun iv _ => sp.length - (intOf iv).toNat)
      case atStart => exact ⟨0, rfl, Nat.zero_le _, Lib.hid ⟨_, [], 63, InvS.start sp, fun y hy => by
        have : y = ⟨false, 0⟩ := List.eq_of_mem_replicate hy
        subst this
        exact ⟨by decide, by decide⟩, hA0.out, hB4.out⟩⟩
      case round =>
        obtain ⟨k, rfl, hk, HX⟩ := hrel
        by_cases hlt : k < sp.length
        · obtain ⟨ev, es, fr, hI, hok, hal, hbr⟩ := HX.out
          have k0 : (0 : Int) ≤ (k : Int) := by omega
          have k1 : (k : Int) < (sp.length : Int) := by omega
          have hkc : k < order.length := by rw [HOL.out]; exact hlt
          have hgi : order[k]? = some (gN order k) := gN_some hkc
          have hilt : gN order k < sp.length := HOR3.out.lt _ (gN_mem hkc)
          obtain ⟨s, hs⟩ : ∃ s, sp[gN order k]? = some s := ⟨_, List.getElem?_eq_getElem hilt⟩
          obtain ⟨hmk, hfs⟩ := sp_get hs
          obtain ⟨b, o, rfl, hbl, hall⟩ := HR.out (by intro e; rw [e] at hlt; simp at hlt)
          have HB5 := Lib.hid (HB3.out.trans (hbr.mono (by omega)))
          have ck := (hbr.cell (p := ⟨W.heap.size + 1, k, none⟩) (by exact hsz3)).trans ((HOR3.out.row.cell k).trans (show _ = some (Value.int .i64 (gN order k : Int)) by rw [List.getElem?_toArray, nCells_get hkc]))
          have cb := (hbr.cell (p := ⟨W.heap.size, 0, none⟩) (by show W.heap.size < _; omega)).trans ((HOR3.out.box.cell 0).trans (show _ = some (Value.slice (some ⟨b, o, none⟩) sp.length cA) from rfl))
          have far := fun j u hu => (HB5.out.cell (p := ⟨b, o + gN order k * 3 + j, none⟩) hbl).trans (hall (gN order k) s hs j u hu)
          have c0 : wr.cell? ⟨b, o + gN order k * 3, none⟩ = some (.int .i64 s.v) := far 0 _ rfl
          have c1 : wr.cell? ⟨b, o + gN order k * 3 + 1, none⟩ = some (.int .i64 s.fr) := far 1 _ rfl
          have c2 : wr.cell? ⟨b, o + gN order k * 3 + 2, none⟩ = some (.int .i64 s.till) := far 2 _ rfl
          have i0 : (0 : Int) ≤ (gN order k : Int) := by omega
          have i1 : (gN order k : Int) < (sp.length : Int) := by omega
          have hnd := Lib.hid (nodup_take (HPERM.out.nodup_iff.2 List.nodup_range) hgi)
          have HGI := Lib.hid hgi
          have HMK := Lib.hid hmk
          have HFS := Lib.hid hfs
          have hsf := HF.out s (List.mem_of_getElem? hs)
          have sf0 := hsf.1
          have sf1 := hsf.2
          have HAL := Lib.hid hal
          have HI := Lib.hid hI
          have HOK := Lib.hid hok
          have HBR := Lib.hid hbr
          have HREL := Lib.hid (release_any (at' := s.fr) hal hI.reg hI.f64 (by rw [hI.hlen]; omega) hI.six)
          clear hal hI hok hbr hs hsf hmk hfs hgi far hall HX
          generalize hgk : gN order k = i at *
          have HFAR := Lib.hid (show ∀ w', Below W.heap.size W w' → w'.cell? ⟨b, o + i * 3, none⟩ = some (.int .i64 s.v) ∧ w'.cell? ⟨b, o + i * 3 + 1, none⟩ = some (.int .i64 s.fr) ∧ w'.cell? ⟨b, o + i * 3 + 2, none⟩ = some (.int .i64 s.till) from fun w' hb => by
            have hk1 := fun q => (hb.cell (p := ⟨b, o + i * 3 + q, none⟩) hbl).trans (HB5.out.cell (p := ⟨b, o + i * 3 + q, none⟩) hbl).symm
            exact ⟨(hk1 0).trans c0, (hk1 1).trans c1, (hk1 2).trans c2⟩)
          go_wp2_with fail
          refine HREL.out.mono ?_
          rintro e w5 ⟨ev5, es5, rfl, hp5, hh5, hal5, hb5⟩
          have HI5 := Lib.hid (HI.out.released s.fr hp5)
          have HB6 := Lib.hid (HBR.out.trans hb5)
          have HB7 := Lib.hid (HB3.out.trans (HB6.out.mono (by omega)))
          obtain ⟨d0, d1, d2⟩ := HFAR.out w5 HB7.out
          have db := (HB6.out.cell (p := ⟨W.heap.size, 0, none⟩) (by show W.heap.size < _; omega)).trans ((HOR3.out.box.cell 0).trans (show _ = some (Value.slice (some ⟨b, o, none⟩) sp.length cA) from rfl))
          have HAL5 := Lib.hid hal5
          have HH5 := Lib.hid hh5
          have HEND := Lib.hid (end_any w5 s sf0 sf1)
          unfold Sp.arr at HEND
          clear hp5 hh5 hal5 hb5 c0 c1 c2 ck cb HREL HI HAL
          go_wp2_with fail
          refine HEND.out.mono ?_
          rintro e w6 ⟨rfl, hb6⟩
          have HB8 := Lib.hid (HB6.out.trans (hb6.mono HB6.out.size))
          have HB9 := Lib.hid (HB3.out.trans (HB8.out.mono (by omega)))
          have hiv := HI5.out
          have hgv : Calls _ _ _ w6 (GivenP W3.heap.size w6 (W3.heap.size + 1) W3.heap.size sp (order.take k ++ [i]) (giveF sp { stTo sp order k with holds := relH sp s.fr (stTo sp order k).holds } { stTo sp order k with holds := relH sp s.fr (stTo sp order k).holds }.holds i)) :=
            give_any (st := { stTo sp order k with holds := relH sp s.fr (stTo sp order k).holds }) (HAL5.out.below hb6) hiv HOK.out HH5.out (by omega) (by rw [List.length_take]; omega) i (by omega) hnd.out (tab_below HT.out (by omega) HB9.out) (by omega) (enS s) HMK.out
          have HGV := Lib.hid hgv
          have HST := Lib.hid (show stTo sp order (k + 1) = giveF sp { stTo sp order k with holds := relH sp s.fr (stTo sp order k).holds } { stTo sp order k with holds := relH sp s.fr (stTo sp order k).holds }.holds i from by
            rw [stTo_succ HGI.out]
            unfold stepF
            rw [HFS.out]
            rfl)
          have HTK := Lib.hid (take_snoc' HGI.out)
          clear hgv hiv hb6 d0 d1 d2 db
          go_wp2_with fail
          refine HGV.out.mono ?_
          rintro e w7 ⟨ev7, es7, fr7, rfl, hI7, hok7, hal7, hb7⟩
          rw [← HST.out, ← HTK.out] at hI7
          rw [← HST.out] at hok7 hal7
          have HN := Lib.hid (show ∃ ev es fr, InvS sp (order.take (k + 1)) (stTo sp order (k + 1)) es fr ∧ HsOk (stTo sp order (k + 1)).hs ∧ AlW W3.heap.size w7 (W3.heap.size + 1) W3.heap.size ev es fr (stTo sp order (k + 1)).hs (stTo sp order (k + 1)).sl ∧ Below W3.heap.size W3 w7 from ⟨ev7, es7, fr7, hI7, hok7, hal7, HB8.out.trans hb7⟩)
          clear hI7 hok7 hal7 hb7
          go_wp2_with fail
          exact ⟨⟨k + 1, rfl, by omega, HN⟩, by simp [intOf]; omega⟩
        · have hke : k = sp.length := by omega
          subst hke
          obtain ⟨ev, es, fr, hI, hok, hal, hbr⟩ := HX.out
          have hall : stTo sp order sp.length = allocF sp order := by
            unfold stTo allocF
            rw [List.take_of_length_le (by rw [HOL.out]; omega)]
          rw [hall] at hI hok hal
          obtain ⟨f0, f1, f2, f3, ff⟩ := hal.facts
          have hhl := hI.hlen
          rw [hhl] at f2
          have HHL := Lib.hid hhl
          have HAL := Lib.hid hal
          have HOK := Lib.hid hok
          have HBR := Lib.hid hbr
          clear hhl hal hok hbr hI hall HX
          go_wp2_with fail
          go_loopw [3, 61] (fun mv iv w' => ∃ (q : Nat), iv = .int .i64 (q : Int) ∧ q ≤ sp.length ∧ mv = .int .i64 (regsTo (allocF sp order).hs q) ∧ Hid (Below wr.heap.size wr w')) (fun _ iv _ => sp.length - (intOf iv).toNat)
          case atStart => exact ⟨0, rfl, Nat.zero_le _, rfl, Lib.hid (Below.refl _ _)⟩
          case round =>
            obtain ⟨q, rfl, hq, rfl, HQ⟩ := hrel
            by_cases hlt : q < sp.length
            · have q0 : (0 : Int) ≤ (q : Int) := by omega
              have q1 : (q : Int) < (sp.length : Int) := by omega
              obtain ⟨x, hx⟩ : ∃ x, (allocF sp order).hs[q]? = some x := ⟨_, List.getElem?_eq_getElem (by rw [HHL.out]; exact hlt)⟩
              obtain ⟨g1, g2⟩ := hmCells_get _ _ _ hx
              have hb2 := (HAL.out.hom.below HQ.out HAL.out.hom.lt)
              have c1 := (hb2.cell (q * 2)).trans (show _ = some (Value.bool x.isSlot) by simpa using g1)
              have c2 := (hb2.cell (q * 2 + 1)).trans (show _ = some (Value.int .i64 x.n) by simpa using g2)
              obtain ⟨x0, x1⟩ := HOK.out x (List.mem_of_getElem? hx)
              have HS1 := Lib.hid (regsTo_succ hx)
              have HQA := Lib.hid (fun o => HQ.out.alloc HQ.out.size o)
              obtain ⟨xs, xn⟩ := x
              simp only at x0 x1 c1 c2 HS1
              obtain ⟨m, hm⟩ : ∃ m, max (regsTo (allocF sp order).hs q) (xn + 1) = m := ⟨_, rfl⟩
              have hmax := fun ats ty => max_lit ats ty (regsTo (allocF sp order).hs q) (xn + 1)
              rw [hm] at hmax HS1
              clear hm hb2 hx g1 g2
              cases xs
              · go_wp2_with fail
                rw [if_neg Bool.false_ne_true] at HS1
                exact ⟨⟨q + 1, rfl, by omega, by rw [HS1.out], Lib.hid (HQA.out _)⟩, by simp [intOf]; omega⟩
              · go_wp2_with fail
                rw [if_pos rfl] at HS1
                exact ⟨⟨q + 1, rfl, by omega, by rw [HS1.out], Lib.hid (HQA.out _)⟩, by simp [intOf]; omega⟩
            · have hke : q = sp.length := by omega
              subst hke
              have hb := HQ.out
              have hal2 := HAL.out.below hb
              have hrg : regsTo (allocF sp order).hs sp.length = regsF (allocF sp order).hs := by
                unfold regsTo
                rw [List.take_of_length_le (by rw [HHL.out]; omega)]
              rw [hrg]
              have HE := Lib.hid (fun m => show AllocP W sp (.returned (.tuple #[.slice (some ⟨W3.heap.size, 0, none⟩) sp.length sp.length, .int .i64 (regsF (allocF sp order).hs), .int .i64 ((allocF sp order).sl : Int)])) (World.drewN _ m) from
                ⟨order, W3.heap.size, ⟨HPERM.out, HSORT.out⟩, by omega, rfl, hal2.hom.drewN m, HHL.out, HOK.out, below_drewN (HB3.out.trans ((HBR.out.trans (hb.mono HBR.out.size)).mono (by omega))) m⟩)
              obtain ⟨_, _, k2, k3, _⟩ := hal2.facts
              rw [HHL.out] at k2
              clear f0 f1 f2 f3 ff hal2 hb hrg
              go_wp2_with fail
              go_quiet (fail)
              go_wp2_with fail
              refine bodyPost_ret (v := .tuple #[.slice (some ⟨W3.heap.size, 0, none⟩) sp.length sp.length, .int .i64 (regsF (allocF sp order).hs), .int .i64 ((allocF sp order).sl : Int)]) (by simp [results, Tryd.results10, go_sem]) rfl ?_
              exact HE.out nq
end Go.Proofs.YtfgdkeomjplnnaaDoor

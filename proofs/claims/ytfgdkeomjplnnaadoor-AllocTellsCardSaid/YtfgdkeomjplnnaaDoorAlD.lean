/- container/heap's Init, Push, Pop over the allocator's row. Conditions: sizes. -/
import Derived.Test.YtfgdkeomjplnnaaDoorAlC
import Derived.OwnWalk
import Derived.Deep.AppendLies
namespace Go.Proofs.YtfgdkeomjplnnaaDoor
set_option linter.unusedVariables false
open Go.RowKit
theorem Blk.heap {w : World} {g : Nat} {t : TypeId} {cs : Array Value} (h : Blk w g t cs) : w.heap[g]? = some (.cells cs t (0, 0)) := h
attribute [local irreducible] Blk
theorem infoHd : (Tryd.prog.info? 58).map (fun i => (i.zero, i.size, i.bytes)) = some (some (.agg #[.int .i64 0, .int .i64 0]), 2, 16) := by kernel_rfl
section
variable {B0 : Nat} {W : World} {Ba Bh : Nat} {ev : Value} {es : List Hd} {fr : Nat} {hs : List Hm} {sl : Nat}
theorem AlW.ev_slice (h : AlW B0 W Ba Bh ev es fr hs sl) : ∃ a c, ev = .slice a es.length c := by
  rcases h.row.2 with ⟨rfl, h0⟩ | ⟨g, cap, cur, rfl, _⟩
  · exact ⟨none, 0, by rw [h0]⟩
  · exact ⟨_, _, rfl⟩
theorem len_al (h : AlW B0 W Ba Bh ev es fr hs sl) : Calls Tryd.prog 102 #[ev] W fun e w' => e = .returned (.int .i64 (es.length : Int)) ∧ W = w' := by
  obtain ⟨a, c, rfl⟩ := h.ev_slice
  exact Len_any W a es.length c
def InitP (B0 : Nat) (W : World) (Ba Bh : Nat) (ev : Value) (es : List Hd) (fr : Nat) (hs : List Hm) (sl : Nat) (e : Ending) (w' : World) : Prop :=
  ∃ es', e = .returned (.tuple #[]) ∧ es'.Perm es ∧ HeapFrom es' 0 es'.length ∧ AlP B0 W Ba Bh ev es' fr hs sl w'
set_option maxRecDepth 100000 in
set_option maxHeartbeats 1600000 in
theorem Init_any (h : AlW B0 W Ba Bh ev es fr hs sl) (hl : es.length ≤ 1000) :
    Calls Tryd.prog 39 #[.iface 75 (.pointer (some ⟨Ba, 0, none⟩))] W (InitP B0 W Ba Bh ev es fr hs sl) := by
  have H := Lib.hid h
  have c0 := h.facts.1
  have hm := len_240 c0
  clear h
  go_enter Tryd.func39, Tryd.ntmps39
  go_wp2_with fail
  refine (len_al H.out).mono ?_
  rintro e w' ⟨rfl, rfl⟩
  clear hm c0
  go_wp2_with fail
  go_loopw [3] (fun iv wr => ∃ (k : Nat) (m : List Hd), iv = .int .i64 ((k : Int) - 1) ∧ k ≤ es.length / 2 ∧ Hid (m.Perm es ∧ HeapFrom m k es.length) ∧ Hid (AlP B0 W Ba Bh ev m fr hs sl wr)) (fun iv _ => (intOf iv + 1).toNat)
  case atStart => exact ⟨es.length / 2, es, congrArg (Value.int .i64) (by omega), Nat.le_refl _, Lib.hid ⟨List.Perm.refl _, fun p c h1 h2 h3 => by omega⟩, Lib.hid ⟨H.out, Frm.refl _ _ _ _ _⟩⟩
  case round =>
    obtain ⟨k, m, rfl, hk, HI, HA⟩ := hrel
    have hml : m.length = es.length := HI.out.1.length_eq
    have HML := Lib.hid hml
    have hm3 : m.length ≤ 1000 := by omega
    clear hml
    by_cases h0 : 0 < k
    · obtain ⟨j, rfl⟩ : ∃ j, k = j + 1 := ⟨k - 1, by omega⟩
      have e1 : ((j + 1 : Nat) : Int) - 1 = (j : Int) := by omega
      rw [e1]
      clear e1
      have j0 : (0 : Int) ≤ (j : Int) := by omega
      have g0 : (j : Int) ≥ 0 := by omega
      have HD := Lib.hid (down_any HA.out.1 (by omega) j es.length (by omega) (by have := HML.out; omega))
      go_wp2_with fail
      refine HD.out.mono ?_
      rintro e w2 ⟨b, es', rfl, hQ, hA2⟩
      have HQ := Lib.hid hQ
      have HA2 := Lib.hid hA2
      clear hQ hA2
      go_wp2_with fail
      refine ⟨⟨j, es', rfl, by omega, Lib.hid ⟨HQ.out.1.trans HI.out.1, HQ.out.2.2 HI.out.2⟩, Lib.hid ⟨HA2.out.1, HA.out.2.trans HA2.out.2⟩⟩, by simp [intOf]⟩
    · have hk0 : k = 0 := by omega
      subst hk0
      have g0 : ¬ ((0 : Int) - 1 ≥ 0) := by omega
      go_wp2_with fail
      go_end0
      exact ⟨m, rfl, HI.out.1, by rw [HML.out]; exact HI.out.2, HA.out⟩
/-- up: the row holds the same. -/
def UpP (B0 : Nat) (W : World) (Ba Bh : Nat) (ev : Value) (es : List Hd) (fr : Nat) (hs : List Hm) (sl : Nat) (e : Ending) (w' : World) : Prop :=
  ∃ es', e = .returned (.tuple #[]) ∧ es'.Perm es ∧ AlP B0 W Ba Bh ev es' fr hs sl w'
set_option maxRecDepth 100000 in
set_option maxHeartbeats 1600000 in
theorem up_any (h : AlW B0 W Ba Bh ev es fr hs sl) (hl : es.length ≤ 1000) (j : Nat) (hj : j < es.length) :
    Calls Tryd.prog 55 #[.iface 75 (.pointer (some ⟨Ba, 0, none⟩)), .int .i64 (j : Int)] W (UpP B0 W Ba Bh ev es fr hs sl) := by
  have H := Lib.hid h
  clear h
  go_enter Tryd.func55, Tryd.ntmps55
  go_wp2_with fail
  go_loopw [1] (fun jv wr => ∃ (k : Nat) (m : List Hd), jv = .int .i64 (k : Int) ∧ k < es.length ∧ Hid (m.Perm es) ∧ Hid (AlP B0 W Ba Bh ev m fr hs sl wr)) (fun jv _ => (intOf jv).toNat)
  case atStart => exact ⟨j, es, rfl, hj, Lib.hid (List.Perm.refl _), Lib.hid ⟨H.out, Frm.refl _ _ _ _ _⟩⟩
  case round =>
    obtain ⟨k, m, rfl, hk, HI, HA⟩ := hrel
    have hml : m.length = es.length := HI.out.length_eq
    have hm3 : m.length ≤ 1000 := by omega
    have hkm : k < m.length := by omega
    clear hml
    by_cases h0 : k = 0
    · subst h0
      have g0 : ((0 : Int) == 0) = true := rfl
      go_wp2_with fail
      go_end0
      exact ⟨m, rfl, HI.out, HA.out⟩
    · obtain ⟨i, hi⟩ : ∃ i, (k - 1) / 2 = i := ⟨_, rfl⟩
      have e1 : ((k : Int) - 1) / 2 = (i : Int) := by omega
      have e2 : ((i : Int) == (k : Int)) = false := by simp; omega
      have hik : i < k := by omega
      have k0 : (1 : Int) ≤ (k : Int) := by omega
      have k1 : (0 : Int) ≤ (k : Int) - 1 := by omega
      clear hi
      obtain ⟨x, hx⟩ : ∃ x, m[k]? = some x := ⟨m[k], List.getElem?_eq_getElem hkm⟩
      obtain ⟨y, hy⟩ : ∃ y, m[i]? = some y := ⟨m[i], List.getElem?_eq_getElem (by omega)⟩
      have HX := Lib.hid hx
      have HY := Lib.hid hy
      have HL := Lib.hid (less_al HA.out.1 (by omega) k i x y hx hy)
      clear hx hy
      have c0 := HA.out.1.facts.1
      have hm := less_240 c0
      cases hlo : lo x y with
      | true =>
        rw [hlo] at HL
        clear hlo
        go_wp2_with fail
        refine (HL.out _ _ (by omega) (by omega)).mono ?_
        rintro e w2 ⟨rfl, hA2⟩
        have HA2 := Lib.hid hA2
        clear hA2 hm c0
        have c0 := HA2.out.1.facts.1
        have hm := swap_240 c0
        go_wp2_with fail
        refine (swap_al HA2.out.1 (by omega) i k y x HY.out HX.out (by omega) _ _ (by omega) (by omega)).mono ?_
        rintro e w4 ⟨rfl, hA4⟩
        have HA4 := Lib.hid hA4
        clear hA4 hm c0
        go_wp2_with fail
        refine ⟨⟨i, _, rfl, by omega, Lib.hid ((swp_perm HY.out HX.out).trans HI.out), Lib.hid ⟨HA4.out.1, (HA.out.2.trans HA2.out.2).trans HA4.out.2⟩⟩, by simp [intOf]; omega⟩
      | false =>
        rw [hlo] at HL
        clear hlo
        go_wp2_with fail
        refine (HL.out _ _ (by omega) (by omega)).mono ?_
        rintro e w2 ⟨rfl, hA2⟩
        have HA2 := Lib.hid hA2
        clear hA2 hm c0
        go_wp2_with fail
        go_end0
        exact ⟨m, rfl, HI.out, HA2.out.1, HA.out.2.trans HA2.out.2⟩
theorem hdCells_append (a b : List Hd) : hdCells (a ++ b) = hdCells a ++ hdCells b := by simp [hdCells]
/-- A new row, behind an append. -/
theorem AlW.pushed {w3 : World} {ev' : Value} {x : Hd} (h : AlW B0 W Ba Bh ev es fr hs sl) (hown : w3.ownsRow B0 58 2 ev' (es.length + 1) (hdCells es ++ [.int .i64 (x.i : Int), .int .i64 x.en])) (hg : W.grownBy w3 ev.ownBlock) :
    AlW B0 (w3.setCell ⟨Ba, 0, none⟩ ev') Ba Bh ev' (es ++ [x]) fr hs sl := by
  have hb := h.blk.grown hg (Ne.symm h.na)
  have hh := h.hom.grown hg (Ne.symm h.nh)
  have hne : ev'.ownBlock ≠ some Ba := hb.ne_own hown (by decide)
  refine ⟨hb.set 0 _, hh.far (by exact h.ah.symm) _, ?_, h.b0, h.b1⟩
  rw [List.length_append, hdCells_append]
  exact ownsRow_far hown hne _
theorem run_held (w : World) (v : Value) : (Instr.typeAssert (.iface 58 v) 20 58 false).run Tryd.prog w = .ok v w := by
  simp [Instr.typeAssert, run_underlying Tryd.underlying58]
def PushP (B0 : Nat) (W : World) (Ba Bh : Nat) (ev : Value) (es : List Hd) (fr : Nat) (hs : List Hm) (sl : Nat) (e : Ending) (w' : World) : Prop :=
  ∃ ev', e = .returned (.tuple #[]) ∧ AlW B0 w' Ba Bh ev' es fr hs sl ∧ Frm B0 W Ba Bh ev w' ∧ Fresh W ev ev'
set_option maxRecDepth 100000 in
set_option maxHeartbeats 1600000 in
theorem EPush_any (h : AlW B0 W Ba Bh ev es fr hs sl) (hl : es.length ≤ 1000) (x : Hd) :
    Calls Tryd.prog 104 #[.pointer (some ⟨Ba, 0, none⟩), .iface 58 (.agg #[.int .i64 (x.i : Int), .int .i64 x.en])] W (PushP B0 W Ba Bh ev (es ++ [x]) fr hs sl) := by
  obtain ⟨i0, hi0, hz0, hz1, hz2⟩ := info_parts infoHd
  have hta := run_held
  have c0 := h.facts.1
  have f0 := h.blk.frozen
  have hlt := h.blk.lt
  have hb0 := h.b0
  have hst := h.ev_slice
  have H := Lib.hid h
  obtain ⟨gg, cap, w3, hrun, hown3, hgrow, hat, hlt3⟩ := run_append_lies (P := Tryd.prog) ((W.alloc (.cells #[.int .i64 (x.i : Int), .int .i64 x.en] 58)).drew) 51 51 B0 58 i0 _ 2 16 Tryd.underlying51 hi0 hz0 hz1 hz2 rfl (by omega) ev es.length (hdCells es) (h.row.alloc _) ⟨W.heap.size, 0, none⟩ 1 1 [.int .i64 (x.i : Int), .int .i64 x.en] (by rfl) (World.news_of_block (cs := #[.int .i64 (x.i : Int), .int .i64 x.en]) (t := 58) (fr := (0, 0)) (Blk.heap (Blk.drew (Blk.new W _ _)))) (by simp [Value.oneCell']) (by omega) (by unfold maxLen; omega) (by omega) (by simp; omega) (W.heap.size + 1) (by simp)
  have hAl := (h.alloc (.cells #[.int .i64 (x.i : Int), .int .i64 x.en] 58)).drew
  have HN := Lib.hid (hAl.pushed (x := x) hown3 hgrow)
  have HBl := Lib.hid ((((((Below.refl B0 W).alloc (by omega) (.cells #[.int .i64 (x.i : Int), .int .i64 x.en] 58)).drew).grown hgrow (by simp; omega) (fun k hk => (h.row.lt k hk).1)).setCell (p := ⟨Ba, 0, none⟩) (by exact hb0) (.slice (some ⟨gg, 0, none⟩) (es.length + 1) cap)))
  have HKp := Lib.hid (show Keep W (w3.setCell ⟨Ba, 0, none⟩ (.slice (some ⟨gg, 0, none⟩) (es.length + 1) cap)) (fun k => k = Ba ∨ k = Bh ∨ ev.ownBlock = some k) from ((((Keep.refl W _).alloc (.cells #[.int .i64 (x.i : Int), .int .i64 x.en] 58)).drew).grown hgrow (fun k hk _ => .inr (.inr hk))).setCell _ (fun _ => .inl rfl) _)
  have HFs := Lib.hid (show Fresh W ev (.slice (some ⟨gg, 0, none⟩) (es.length + 1) cap) from fun k hk => by
    have hkg : gg = k := by simpa [Value.ownBlock] using hk
    subst hkg
    rcases hat with h | h
    · exact .inl h
    · exact .inr (by omega))
  have g0 := (hAl.blk.grown hgrow (Ne.symm hAl.na)).cell 0
  have gf := (hAl.blk.grown hgrow (Ne.symm hAl.na)).frozen
  simp at g0
  clear hown3 hgrow hat hlt3 hAl h hi0 hz0 hz1 hz2
  simp [go_sem] at hrun
  go_enter Tryd.func104, Tryd.ntmps104
  go_wp2_with fail
  go_big_region
  clear hrun
  go_wp2_with fail
  go_end0
  exact ⟨_, rfl, HN.out, ⟨HBl.out, HKp.out⟩, HFs.out⟩
set_option maxRecDepth 100000 in
set_option maxHeartbeats 1600000 in
theorem Push_any (h : AlW B0 W Ba Bh ev es fr hs sl) (hl : es.length ≤ 900) (x : Hd) :
    Calls Tryd.prog 44 #[.iface 75 (.pointer (some ⟨Ba, 0, none⟩)), .iface 58 (.agg #[.int .i64 (x.i : Int), .int .i64 x.en])] W fun e w' => ∃ ev' es', e = .returned (.tuple #[]) ∧ es'.Perm (es ++ [x]) ∧ AlW B0 w' Ba Bh ev' es' fr hs sl ∧ Frm B0 W Ba Bh ev w' ∧ Fresh W ev ev' := by
  have H := Lib.hid h
  have hm := fun w => push_240 (w := w) (a := ⟨Ba, 0, none⟩)
  clear h
  go_enter Tryd.func44, Tryd.ntmps44
  go_wp2_with fail
  refine (EPush_any H.out (by omega) x).mono ?_
  rintro e w2 ⟨ev2, rfl, hA2⟩
  have HA2 := Lib.hid hA2
  clear hA2 hm
  have c0 := HA2.out.1.facts.1
  have hm := len_240 c0
  go_wp2_with fail
  refine (len_al HA2.out.1).mono ?_
  rintro e w3 ⟨rfl, rfl⟩
  clear hm c0
  have hlen : (es ++ [x]).length = es.length + 1 := by simp
  rw [hlen]
  clear hlen
  have HU := Lib.hid (up_any HA2.out.1 (by simp; omega) es.length (by simp))
  have e1 : (((es.length + 1 : Nat) : Int) - 1) = (es.length : Int) := by omega
  go_wp2_with fail
  refine HU.out.mono ?_
  rintro e w4 ⟨es', rfl, hp, hA4⟩
  have HP := Lib.hid hp
  have HA4 := Lib.hid hA4
  clear hp hA4
  go_wp2_with fail
  go_end0
  exact ⟨_, es', rfl, HP.out, HA4.out.1, HA2.out.2.1.transX HA2.out.2.2 HA4.out.2, HA2.out.2.2⟩
end
end Go.Proofs.YtfgdkeomjplnnaaDoor

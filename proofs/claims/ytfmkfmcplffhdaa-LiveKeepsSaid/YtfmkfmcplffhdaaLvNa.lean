/- ploverlaw19.LiveNames returns true. Conditions: the bytes are bytes. -/
import Derived.Test.YtfmkfmcplffhdaaLvBa
import Derived.Test.YtfmkfmcplffhdaaLvNm
import Derived.Deep.RegionHeld3
namespace Go.Proofs.Ytfmkfmcplffhdaa
set_option linter.unusedVariables false
open Go.RowKit
attribute [local irreducible] Blk

set_option maxRecDepth 100000 in
theorem of_any (w : World) (fr by' n : Int) (f0 : 0 ≤ fr) (f1 : fr ≤ 100000) (b0 : 0 ≤ by') (b1 : by' ≤ 100000) (n0 : -100000 ≤ n) (n1 : n ≤ 100000) :
    Calls Try.prog 22 #[.agg #[.int .i64 fr, .int .i64 by'], .int .i64 n] w fun e w' => e = .returned (.int .i64 (mv fr by' n)) ∧ w.alloc (.cells #[.int .i64 fr, .int .i64 by'] 61) = w' := by
  by_cases h : n < fr
  · rw [show mv fr by' n = n from mv_low h]
    go_enter Try.func22, Try.ntmps22
    go_wp2_with fail
    go_ret
    exact ⟨rfl, rfl⟩
  · rw [show mv fr by' n = n + by' by unfold mv; rw [if_neg h]]
    have h2 : fr ≤ n := by omega
    go_enter Try.func22, Try.ntmps22
    go_wp2_with fail
    go_ret
    exact ⟨rfl, rfl⟩
theorem ins_snoc {l : List I9} {p : Nat} {x : I9} {f : I9 → I9} (h : l[p]? = some x) : insCells ((l.take (p + 1)).map f) = insCells ((l.take p).map f) ++ (f x).arr.toList := by
  have e : l.take (p + 1) = l.take p ++ [x] := by rw [List.take_add_one, h]; rfl
  rw [e]
  simp [insCells]
theorem of_below (w : World) (fr by' n : Int) (f0 : 0 ≤ fr) (f1 : fr ≤ 100000) (b0 : 0 ≤ by') (b1 : by' ≤ 100000) (n0 : -100000 ≤ n) (n1 : n ≤ 100000) :
    Calls Try.prog 22 #[.agg #[.int .i64 fr, .int .i64 by'], .int .i64 n] w fun e w' => e = .returned (.int .i64 (mv fr by' n)) ∧ Below w.heap.size w w' := by
  refine (of_any w fr by' n f0 f1 b0 b1 n0 n1).mono ?_
  rintro e w' ⟨rfl, rfl⟩
  exact ⟨rfl, (Below.refl _ w).alloc (Nat.le_refl _) _⟩
structure NmSt (W5 : World) (G B : Nat) (gc : Array Value) (u : Value) (p : Nat) (rows : List Value) (cs : Array Value) (w : World) : Prop where
  blk : Blk w B 33 cs
  gb : Blk w G 61 gc
  own : w.ownsRow W5.heap.size 33 9 u p rows
  bel : Below W5.heap.size W5 w
  hB : W5.heap.size ≤ B
  hG : G < W5.heap.size
  ne : u.ownBlock ≠ some B
theorem NmSt.call {W5 w w' : World} {G B : Nat} {gc cs : Array Value} {u : Value} {p : Nat} {rows : List Value} (h : NmSt W5 G B gc u p rows cs w) (hb : Below w.heap.size w w') : NmSt W5 G B gc u p rows cs w' :=
  ⟨h.blk.below hb h.blk.lt, h.gb.below hb h.gb.lt, own_below h.own hb, h.bel.trans (hb.mono h.bel.size), h.hB, h.hG, h.ne⟩
theorem NmSt.set {W5 w : World} {G B : Nat} {gc cs : Array Value} {u : Value} {p : Nat} {rows : List Value} (h : NmSt W5 G B gc u p rows cs w) (i : Nat) (v : Value) : NmSt W5 G B gc u p rows (cs.setIfInBounds i v) (w.setCell ⟨B, i, none⟩ v) :=
  ⟨h.blk.set i v, h.gb.far (by have := h.hB; have := h.hG; simp only [ne_eq]; omega) v, setRow_own h.own _ _ h.ne, h.bel.setCell (p := ⟨B, i, none⟩) h.hB v, h.hB, h.hG, h.ne⟩
theorem wf_mvI {fr by' : Int} (h0 : 0 ≤ fr) (h1 : fr ≤ 100000) (b0 : 0 ≤ by') (b1 : by' ≤ 1000) {x : I9} (hx : Sm x) : WfI (mvI fr by' x) := by
  obtain ⟨d0, d1, a0, a1, c0, c1⟩ := hx
  have key : ∀ n : Int, 0 ≤ n → n ≤ 1000 → (Lit.int .i64 (mv fr by' n)).wf = true ∧ (Lit.int .i64 n).wf = true := fun n n0 n1 => by
    refine ⟨wf_int ?_ ?_, wf_int n0 (by omega)⟩ <;> unfold mv <;> split <;> omega
  refine ⟨?_, ?_, ?_⟩
  · show (Lit.int .i64 (if 0 ≤ makesL x then mv fr by' x.d else x.d)).wf = true
    split
    · exact (key _ d0 d1).1
    · exact (key _ d0 d1).2
  · show (Lit.int .i64 (if 0 < (readsL x).length then mv fr by' x.a else x.a)).wf = true
    split
    · exact (key _ a0 a1).1
    · exact (key _ a0 a1).2
  · show (Lit.int .i64 (if 1 < (readsL x).length then mv fr by' x.b else x.b)).wf = true
    split
    · exact (key _ c0 c1).1
    · exact (key _ c0 c1).2
theorem spans_len (s : List StepD) (h1 : (madeS s).l.length ≤ 1000) (h2 : (madeS s).lo.length ≤ 100) : (spansL (madeS s).l (madeS s).lo 2).length ≤ 10000 := by
  have h3 := know_len (madeS s).lo.length (touchL (madeS s).l) []
  have h4 := touchFrom_len 0 (madeS s).l
  unfold spansL
  rw [List.length_append, localsL_len]
  unfold tempsL keysL
  rw [List.length_map]
  have h5 : ((List.map (fun x => x.1) (knownL (madeS s).lo.length (madeS s).l)).mergeSort (fun x y => decide (x ≤ y))).length = (knownL (madeS s).lo.length (madeS s).l).length := by simp
  rw [h5]
  show _ + ((touchL (madeS s).l).foldl (knowStep _) []).length ≤ _
  unfold touchL at h3 ⊢
  simp only [List.length_nil] at h3
  omega
theorem span_small (s : List StepD) (h2 : (madeS s).lo.length ≤ 100) {x : Sp3} (hx : x ∈ spansL (madeS s).l (madeS s).lo 2) : 0 ≤ x.v ∧ x.v ≤ 1000 := by
  rcases in_spans hx with ⟨v, v0, vl, rfl⟩ | ⟨v, hv, ⟨t, ht, htv⟩, rfl⟩
  · rw [localL_v]
    omega
  · show 0 ≤ v ∧ v ≤ 1000
    obtain ⟨y, hy, h3⟩ := of_touch ht
    obtain ⟨d0, d1, a0, a1, c0, c1⟩ := sm_made s y (List.mem_of_getElem? hy)
    rw [htv] at h3
    refine ⟨by omega, ?_⟩
    rcases h3 with ⟨_, h4⟩ | ⟨_, h4, _⟩
    · unfold readsL at h4
      split at h4
      · have := (List.mem_filter.1 h4).1
        unfold rawU at this
        split at this
        · cases this
        split at this
        · simp only [List.mem_singleton] at this
          omega
        · simp only [List.mem_cons, List.mem_nil_iff, or_false] at this
          omega
      · cases h4
    · rw [h4]
      unfold makesL
      split <;> omega
def NameP (w : World) (e : Ending) (w' : World) : Prop := e = .returned (.bool true) ∧ Below w.heap.size w w'
set_option maxRecDepth 100000 in
set_option maxHeartbeats 6400000 in
theorem names_any (w : World) (A : Option Addr) (s : List StepD) (cp : Nat) (byN : Nat) (hby : byN < 256) (hA : RepSt w A s) (hok : OkSt s) (hl : s.length ≤ 9223372036854775807) (hsm : (madeS s).l.length ≤ 1000 ∧ (madeS s).lo.length ≤ 100) :
    Calls Try.prog 7 #[.slice A s.length cp, .int .u8 (byN : Int)] w (NameP w) := by
  have HM := Lib.hid (show ∀ W, RepSt W A s → Calls Try.prog 19 #[.slice A s.length cp] W (MadeP W (madeS s)) from fun W h => made_any W A s cp h hok hl)
  have HA := Lib.hid hA
  obtain ⟨hl1, hl2⟩ := hsm
  have hg := good_made s
  have hSm := sm_made s
  have hwf := wf_made s
  have hb0 : (0 : Int) ≤ 1 + (byN : Int) := by omega
  have HSP := Lib.hid (show ∀ W A c B c2, RepI W A (madeS s).l → RepLo W B (madeS s).lo → Calls Try.prog 16 #[.slice A (madeS s).l.length c, .slice B (madeS s).lo.length c2, .int .i64 2] W (SpansP W (spansL (madeS s).l (madeS s).lo 2)) from
    fun W A c B c2 h1 h2 => Spans_any W A (madeS s).l c B (madeS s).lo c2 2 (by omega) (by omega) h1 h2 hwf (fun x hx => by have := hg.frs x hx; omega))
  have HSQ := Lib.hid (show ∀ W A c B c2, RepI W A ((madeS s).l.map (mvI ((madeS s).lo.length : Int) (1 + (byN : Int)))) → RepLo W B (madeS s).lo → Calls Try.prog 16 #[.slice A (madeS s).l.length c, .slice B (madeS s).lo.length c2, .int .i64 2] W (SpansP W ((spansL (madeS s).l (madeS s).lo 2).map (mvS ((madeS s).lo.length : Int) (1 + (byN : Int))))) from
    fun W A c B c2 h1 h2 => by
      have h := Spans_any W A ((madeS s).l.map (mvI ((madeS s).lo.length : Int) (1 + (byN : Int)))) c B (madeS s).lo c2 2 (by rw [List.length_map]; omega) (by omega) h1 h2 (fun x hx => by
        obtain ⟨y, hy, rfl⟩ := List.mem_map.1 hx
        exact wf_mvI (by omega) (by omega) hb0 (by omega) (hSm y hy)) (fun x hx => by have := hg.frs x hx; omega)
      rw [spans_mv hb0 hSm] at h
      rwa [List.length_map] at h)
  have hspl : (spansL (madeS s).l (madeS s).lo 2).length ≤ 10000 := spans_len s hl1 hl2
  have HSV := Lib.hid (show ∀ x ∈ spansL (madeS s).l (madeS s).lo 2, 0 ≤ x.v ∧ x.v ≤ 1000 from fun x hx => span_small s hl2 hx)
  have HSM := Lib.hid hSm
  have HWF := Lib.hid hwf
  clear hA hok hg hSm hwf
  generalize spansL (madeS s).l (madeS s).lo 2 = sp at *
  generalize madeS s = c at *
  go_enter Try.func7, Try.ntmps7
  go_wp2_with (first
    | (go_at_call 18; refine (works_any _).mono ?_; rintro e w1 ⟨rfl, hb1⟩)
    | (go_at_call 19; refine (HM.out _ (HA.out.far hb1)).mono ?_; rintro e w2 ⟨C, lv, xv, ov, rfl, hc, hC, hb2⟩; obtain ⟨A2, c2, rfl, hI2⟩ := RepI.of_own hc.l; obtain ⟨B2, d2, rfl, hX2⟩ := RepLo.of_own hc.lo; have b0 := hc.blk.cell 0; have b1 := hc.blk.cell 1; have hCl := hc.blk.lt; simp at b0 b1; have HBLK := Lib.hid hc.blk; have HI2 := Lib.hid hI2; have HX2 := Lib.hid hX2; have HB2 := Lib.hid (btw hb1 hb2); clear hI2 hX2 hc))
  have hb5 := (Below.refl w2.heap.size w2).alloc (Nat.le_refl _) (.cells #[.int .i64 (c.lo.length : Int), .int .i64 (1 + (byN : Int))] 61)
  have hI5 := HI2.out.far hb5
  have hX5 := HX2.out.far hb5
  have hC5 := HBLK.out.alloc (.cells #[.int .i64 (c.lo.length : Int), .int .i64 (1 + (byN : Int))] 61)
  have hG5 := Blk.new w2 61 #[.int .i64 (c.lo.length : Int), .int .i64 (1 + (byN : Int))]
  have hB5 := baw HB2.out (.cells #[.int .i64 (c.lo.length : Int), .int .i64 (1 + (byN : Int))] 61)
  have hw2 := HB2.out.size
  clear hb1 hb2 HB2 HI2 HX2 HBLK b0 b1 hCl hC hb5
  generalize w2.alloc (.cells #[.int .i64 (c.lo.length : Int), .int .i64 (1 + (byN : Int))] 61) = W5 at *
  generalize w2.heap.size = G at *
  have hbb1 : 1 + (byN : Int) ≤ 1000 := by omega
  generalize 1 + (byN : Int) = bb at *
  have hG5l := hG5.lt
  have HI5 := Lib.hid hI5
  have HX5 := Lib.hid hX5
  have HC5 := Lib.hid hC5
  have HG5 := Lib.hid hG5
  have HB5 := Lib.hid hB5
  have hC5l := hC5.lt
  have hB5s := hB5.size
  have hfr0 : (0 : Int) ≤ (c.lo.length : Int) := by omega
  have hfr1 : (c.lo.length : Int) ≤ 100000 := by omega
  have hbb2 : bb ≤ 100000 := by omega
  clear hI5 hX5 hC5 hG5 hB5
  go_loopw [8, 9] (fun o ix wr => ∃ p : Nat, p ≤ c.l.length ∧ ix = .int .i64 (p : Int) ∧ wr.ownsRow W5.heap.size 33 9 o p (insCells ((c.l.take p).map (mvI (c.lo.length : Int) bb))) ∧ Below W5.heap.size W5 wr) (fun _ ix _ => c.l.length - (intOf ix).toNat)
  case atStart => exact ⟨0, Nat.zero_le _, rfl, World.ownsRow_nil _ _ _ _, Below.refl _ _⟩
  case round =>
    obtain ⟨p, hp, rfl, hown, hbr⟩ := hrel
    have hbs := hbr.size
    have e0 := (hbr.cell (p := ⟨C, 0, none⟩) hC5l).trans (cell_of_blk HC5.out (i := 0) (by rfl))
    by_cases hlt : p < c.l.length
    · obtain ⟨x, hx⟩ : ∃ x, c.l[p]? = some x := ⟨c.l[p], List.getElem?_eq_getElem hlt⟩
      obtain ⟨b, o, rfl, hb, _⟩ := HI5.out (by intro h; rw [h] at hlt; simp at hlt)
      have cc := (HI5.out.far hbr).at_cells hx
      have q0 := cc 0 (.int .i64 x.op) rfl
      have q1 := cc 1 (.int .i64 x.op2) rfl
      have q2 := cc 2 (.int .i64 x.ty) rfl
      have q3 := cc 3 (.int .i64 x.d) rfl
      have q4 := cc 4 (.int .i64 x.a) rfl
      have q5 := cc 5 (.int .i64 x.b) rfl
      have q6 := cc 6 (.int .i64 x.n) rfl
      have q7 := cc 7 (.int .i64 x.count) rfl
      have q8 := cc 8 (.int .i64 x.step) rfl
      rw [Nat.add_zero] at q0
      have p0 : (0 : Int) ≤ (p : Int) := by omega
      have p1 : (p : Int) < (c.l.length : Int) := by omega
      obtain ⟨d0, d1, a0, a1, b0, b1⟩ := HSM.out x (List.mem_of_getElem? hx)
      have hU := fun W => Uses_any W x
      unfold UsesP I9.arr at hU
      have hrl := readsL_len x
      have HMV := Lib.hid (show mvI (c.lo.length : Int) bb x = { x with d := if 0 ≤ makesL x then mv (c.lo.length : Int) bb x.d else x.d, a := if 0 < (readsL x).length then mv (c.lo.length : Int) bb x.a else x.a, b := if 1 < (readsL x).length then mv (c.lo.length : Int) bb x.b else x.b } from rfl)
      have HU := Lib.hid hU
      have HX := Lib.hid hx
      have HBR := Lib.hid hbr
      have HOW := Lib.hid hown
      have HLT := Lib.hid (fun j hj => hown.lt j hj)
      have hlen : (readsL x).length = 0 ∨ (readsL x).length = 1 ∨ (readsL x).length = 2 := by omega
      clear cc hx hU hbr hown
      generalize readsL x = rs at *
      generalize makesL x = mk at *
      by_cases hmk : 0 ≤ mk
      · rcases hlen with hn | hn | hn
        · have HM2 := Lib.hid (show mvI (c.lo.length : Int) bb x = ⟨x.op, x.op2, x.ty, mv (c.lo.length : Int) bb x.d, x.a, x.b, x.n, x.count, x.step⟩ by rw [HMV.out, if_pos hmk, if_neg (by omega), if_neg (by omega)])
          have g1 : ¬ (0 < rs.length) := by omega
          have g2 : ¬ (1 < rs.length) := by omega
          have g1i : ¬ ((0 : Int) < (rs.length : Int)) := by omega
          have g2i : ¬ ((1 : Int) < (rs.length : Int)) := by omega
          have HN := Lib.hid hn
          clear hn
          go_wp2_with (first
            | (go_at_call 10; refine (HU.out _).mono ?_; rintro e w6 ⟨v6, rfl, hown6, hb6⟩; obtain ⟨A6, c6, rfl, hints6⟩ := Ints.of_own hown6; have st6 := (NmSt.mk (Blk.new wr 33 #[.int .i64 x.op, .int .i64 x.op2, .int .i64 x.ty, .int .i64 x.d, .int .i64 x.a, .int .i64 x.b, .int .i64 x.n, .int .i64 x.count, .int .i64 x.step]) (HG5.out.below (HBR.out.alloc hbs _) hG5l) (HOW.out.alloc _) (HBR.out.alloc hbs _) hbs hG5l (fun e => by have := (HLT.out _ e).2; omega)).call hb6; have x0 := st6.blk.cell 0; have x1 := st6.blk.cell 1; have x2 := st6.blk.cell 2; have x3 := st6.blk.cell 3; have x4 := st6.blk.cell 4; have x5 := st6.blk.cell 5; have x6 := st6.blk.cell 6; have x7 := st6.blk.cell 7; have x8 := st6.blk.cell 8; have xf := st6.blk.frozen; have xl := st6.blk.lt; have y0 := st6.gb.cell 0; have y1 := st6.gb.cell 1; have yl := st6.gb.lt; simp at x0 x1 x2 x3 x4 x5 x6 x7 x8 y0 y1; have ST6 := Lib.hid st6; clear hb6 hown6 hints6 st6)
            | (go_at_call 22; refine (of_below (w6) _ _ _ hfr0 hfr1 hb0 hbb2 (by omega) (by omega)).mono ?_; rintro e w7 ⟨rfl, hw7⟩; have st7 := (ST6.out).call hw7; clear x0 x1 x2 x3 x4 x5 x6 x7 x8 xf xl y0 y1 yl; have x0 := st7.blk.cell 0; have x1 := st7.blk.cell 1; have x2 := st7.blk.cell 2; have x3 := st7.blk.cell 3; have x4 := st7.blk.cell 4; have x5 := st7.blk.cell 5; have x6 := st7.blk.cell 6; have x7 := st7.blk.cell 7; have x8 := st7.blk.cell 8; have xf := st7.blk.frozen; have xl := st7.blk.lt; have y0 := st7.gb.cell 0; have y1 := st7.gb.cell 1; have yl := st7.gb.lt; simp at x0 x1 x2 x3 x4 x5 x6 x7 x8 y0 y1; have ST7 := Lib.hid st7; clear st7 hw7)
            | (at_builtin; obtain ⟨i0, hi0, hz0, hz1, hz2⟩ := info_parts infoIns; have stA := ST7.out.set 3 (.int .i64 (mv (c.lo.length : Int) bb x.d)); go_loud (refine wpList_append_lies _ rfl (.tmp 74) (.tmp 76) _ rfl W5.heap.size 33 i0 _ 9 72 Try.underlying25 hi0 hz0 hz1 hz2 rfl (by omega) _ p (insCells ((c.l.take p).map (mvI (c.lo.length : Int) bb))) rfl (stA.own.alloc _) ⟨w7.heap.size, 0, none⟩ 1 1 [.int .i64 x.op, .int .i64 x.op2, .int .i64 x.ty, .int .i64 (mv (c.lo.length : Int) bb x.d), .int .i64 (x.a), .int .i64 (x.b), .int .i64 x.n, .int .i64 x.count, .int .i64 x.step] rfl rfl (World.news_of_block (cs := #[.int .i64 x.op, .int .i64 x.op2, .int .i64 x.ty, .int .i64 (mv (c.lo.length : Int) bb x.d), .int .i64 (x.a), .int .i64 (x.b), .int .i64 x.n, .int .i64 x.count, .int .i64 x.step]) (t := 33) (fr := (0, 0)) (Blk.heap (Blk.newAt (by simp [World.setCell])))) (by simp [Value.oneCell']) (by omega) (by unfold maxLen; omega) (by omega) (by have := stA.bel.size; simp [World.setCell] at this ⊢; omega) (w7.heap.size + 1) (by simp [World.setCell]) ?_); intro g8 cap8 w8 hown8 hgrow8 hat8 hlt8))
          refine ⟨⟨p + 1, by omega, ?_, ?_, ?_⟩, ?_⟩
          · rfl
          · rw [ins_snoc HX.out, HM2.out]
            exact hown8
          · exact Below.grown (stA.bel.alloc stA.bel.size _) hgrow8 (by have := stA.bel.size; simp [World.setCell] at this ⊢; omega) (fun k hk => (stA.own.lt k hk).1)
          · simp [intOf]
            omega
        · have HM2 := Lib.hid (show mvI (c.lo.length : Int) bb x = ⟨x.op, x.op2, x.ty, mv (c.lo.length : Int) bb x.d, mv (c.lo.length : Int) bb x.a, x.b, x.n, x.count, x.step⟩ by rw [HMV.out, if_pos hmk, if_pos (by omega), if_neg (by omega)])
          have g1 : 0 < rs.length := by omega
          have g2 : ¬ (1 < rs.length) := by omega
          have g1i : (0 : Int) < (rs.length : Int) := by omega
          have g2i : ¬ ((1 : Int) < (rs.length : Int)) := by omega
          have HN := Lib.hid hn
          clear hn
          go_wp2_with (first
            | (go_at_call 10; refine (HU.out _).mono ?_; rintro e w6 ⟨v6, rfl, hown6, hb6⟩; obtain ⟨A6, c6, rfl, hints6⟩ := Ints.of_own hown6; have st6 := (NmSt.mk (Blk.new wr 33 #[.int .i64 x.op, .int .i64 x.op2, .int .i64 x.ty, .int .i64 x.d, .int .i64 x.a, .int .i64 x.b, .int .i64 x.n, .int .i64 x.count, .int .i64 x.step]) (HG5.out.below (HBR.out.alloc hbs _) hG5l) (HOW.out.alloc _) (HBR.out.alloc hbs _) hbs hG5l (fun e => by have := (HLT.out _ e).2; omega)).call hb6; have x0 := st6.blk.cell 0; have x1 := st6.blk.cell 1; have x2 := st6.blk.cell 2; have x3 := st6.blk.cell 3; have x4 := st6.blk.cell 4; have x5 := st6.blk.cell 5; have x6 := st6.blk.cell 6; have x7 := st6.blk.cell 7; have x8 := st6.blk.cell 8; have xf := st6.blk.frozen; have xl := st6.blk.lt; have y0 := st6.gb.cell 0; have y1 := st6.gb.cell 1; have yl := st6.gb.lt; simp at x0 x1 x2 x3 x4 x5 x6 x7 x8 y0 y1; have ST6 := Lib.hid st6; clear hb6 hown6 hints6 st6)
            | (go_at_call 22; refine (of_below (w6) _ _ _ hfr0 hfr1 hb0 hbb2 (by omega) (by omega)).mono ?_; rintro e w7 ⟨rfl, hw7⟩; have st7 := (ST6.out).call hw7; clear x0 x1 x2 x3 x4 x5 x6 x7 x8 xf xl y0 y1 yl; have x0 := st7.blk.cell 0; have x1 := st7.blk.cell 1; have x2 := st7.blk.cell 2; have x3 := st7.blk.cell 3; have x4 := st7.blk.cell 4; have x5 := st7.blk.cell 5; have x6 := st7.blk.cell 6; have x7 := st7.blk.cell 7; have x8 := st7.blk.cell 8; have xf := st7.blk.frozen; have xl := st7.blk.lt; have y0 := st7.gb.cell 0; have y1 := st7.gb.cell 1; have yl := st7.gb.lt; simp at x0 x1 x2 x3 x4 x5 x6 x7 x8 y0 y1; have ST7 := Lib.hid st7; clear st7 hw7)
            | (go_at_call 22; refine (of_below (w7.setCell ⟨wr.heap.size, 3, none⟩ (.int .i64 (mv (c.lo.length : Int) bb x.d))) _ _ _ hfr0 hfr1 hb0 hbb2 (by omega) (by omega)).mono ?_; rintro e w8 ⟨rfl, hw8⟩; have st8 := (ST7.out.set 3 (.int .i64 (mv (c.lo.length : Int) bb x.d))).call hw8; clear x0 x1 x2 x3 x4 x5 x6 x7 x8 xf xl y0 y1 yl; have x0 := st8.blk.cell 0; have x1 := st8.blk.cell 1; have x2 := st8.blk.cell 2; have x3 := st8.blk.cell 3; have x4 := st8.blk.cell 4; have x5 := st8.blk.cell 5; have x6 := st8.blk.cell 6; have x7 := st8.blk.cell 7; have x8 := st8.blk.cell 8; have xf := st8.blk.frozen; have xl := st8.blk.lt; have y0 := st8.gb.cell 0; have y1 := st8.gb.cell 1; have yl := st8.gb.lt; simp at x0 x1 x2 x3 x4 x5 x6 x7 x8 y0 y1; have ST8 := Lib.hid st8; clear st8 hw8)
            | (at_builtin; obtain ⟨i0, hi0, hz0, hz1, hz2⟩ := info_parts infoIns; have stA := ST8.out.set 4 (.int .i64 (mv (c.lo.length : Int) bb x.a)); go_loud (refine wpList_append_lies _ rfl (.tmp 74) (.tmp 76) _ rfl W5.heap.size 33 i0 _ 9 72 Try.underlying25 hi0 hz0 hz1 hz2 rfl (by omega) _ p (insCells ((c.l.take p).map (mvI (c.lo.length : Int) bb))) rfl (stA.own.alloc _) ⟨w8.heap.size, 0, none⟩ 1 1 [.int .i64 x.op, .int .i64 x.op2, .int .i64 x.ty, .int .i64 (mv (c.lo.length : Int) bb x.d), .int .i64 (mv (c.lo.length : Int) bb x.a), .int .i64 (x.b), .int .i64 x.n, .int .i64 x.count, .int .i64 x.step] rfl rfl (World.news_of_block (cs := #[.int .i64 x.op, .int .i64 x.op2, .int .i64 x.ty, .int .i64 (mv (c.lo.length : Int) bb x.d), .int .i64 (mv (c.lo.length : Int) bb x.a), .int .i64 (x.b), .int .i64 x.n, .int .i64 x.count, .int .i64 x.step]) (t := 33) (fr := (0, 0)) (Blk.heap (Blk.newAt (by simp [World.setCell])))) (by simp [Value.oneCell']) (by omega) (by unfold maxLen; omega) (by omega) (by have := stA.bel.size; simp [World.setCell] at this ⊢; omega) (w8.heap.size + 1) (by simp [World.setCell]) ?_); intro g8 cap8 w8 hown8 hgrow8 hat8 hlt8))
          refine ⟨⟨p + 1, by omega, ?_, ?_, ?_⟩, ?_⟩
          · rfl
          · rw [ins_snoc HX.out, HM2.out]
            exact hown8
          · exact Below.grown (stA.bel.alloc stA.bel.size _) hgrow8 (by have := stA.bel.size; simp [World.setCell] at this ⊢; omega) (fun k hk => (stA.own.lt k hk).1)
          · simp [intOf]
            omega
        · have HM2 := Lib.hid (show mvI (c.lo.length : Int) bb x = ⟨x.op, x.op2, x.ty, mv (c.lo.length : Int) bb x.d, mv (c.lo.length : Int) bb x.a, mv (c.lo.length : Int) bb x.b, x.n, x.count, x.step⟩ by rw [HMV.out, if_pos hmk, if_pos (by omega), if_pos (by omega)])
          have g1 : 0 < rs.length := by omega
          have g2 : 1 < rs.length := by omega
          have g1i : (0 : Int) < (rs.length : Int) := by omega
          have g2i : (1 : Int) < (rs.length : Int) := by omega
          have HN := Lib.hid hn
          clear hn
          go_wp2_with (first
            | (go_at_call 10; refine (HU.out _).mono ?_; rintro e w6 ⟨v6, rfl, hown6, hb6⟩; obtain ⟨A6, c6, rfl, hints6⟩ := Ints.of_own hown6; have st6 := (NmSt.mk (Blk.new wr 33 #[.int .i64 x.op, .int .i64 x.op2, .int .i64 x.ty, .int .i64 x.d, .int .i64 x.a, .int .i64 x.b, .int .i64 x.n, .int .i64 x.count, .int .i64 x.step]) (HG5.out.below (HBR.out.alloc hbs _) hG5l) (HOW.out.alloc _) (HBR.out.alloc hbs _) hbs hG5l (fun e => by have := (HLT.out _ e).2; omega)).call hb6; have x0 := st6.blk.cell 0; have x1 := st6.blk.cell 1; have x2 := st6.blk.cell 2; have x3 := st6.blk.cell 3; have x4 := st6.blk.cell 4; have x5 := st6.blk.cell 5; have x6 := st6.blk.cell 6; have x7 := st6.blk.cell 7; have x8 := st6.blk.cell 8; have xf := st6.blk.frozen; have xl := st6.blk.lt; have y0 := st6.gb.cell 0; have y1 := st6.gb.cell 1; have yl := st6.gb.lt; simp at x0 x1 x2 x3 x4 x5 x6 x7 x8 y0 y1; have ST6 := Lib.hid st6; clear hb6 hown6 hints6 st6)
            | (go_at_call 22; refine (of_below (w6) _ _ _ hfr0 hfr1 hb0 hbb2 (by omega) (by omega)).mono ?_; rintro e w7 ⟨rfl, hw7⟩; have st7 := (ST6.out).call hw7; clear x0 x1 x2 x3 x4 x5 x6 x7 x8 xf xl y0 y1 yl; have x0 := st7.blk.cell 0; have x1 := st7.blk.cell 1; have x2 := st7.blk.cell 2; have x3 := st7.blk.cell 3; have x4 := st7.blk.cell 4; have x5 := st7.blk.cell 5; have x6 := st7.blk.cell 6; have x7 := st7.blk.cell 7; have x8 := st7.blk.cell 8; have xf := st7.blk.frozen; have xl := st7.blk.lt; have y0 := st7.gb.cell 0; have y1 := st7.gb.cell 1; have yl := st7.gb.lt; simp at x0 x1 x2 x3 x4 x5 x6 x7 x8 y0 y1; have ST7 := Lib.hid st7; clear st7 hw7)
            | (go_at_call 22; refine (of_below (w7.setCell ⟨wr.heap.size, 3, none⟩ (.int .i64 (mv (c.lo.length : Int) bb x.d))) _ _ _ hfr0 hfr1 hb0 hbb2 (by omega) (by omega)).mono ?_; rintro e w8 ⟨rfl, hw8⟩; have st8 := (ST7.out.set 3 (.int .i64 (mv (c.lo.length : Int) bb x.d))).call hw8; clear x0 x1 x2 x3 x4 x5 x6 x7 x8 xf xl y0 y1 yl; have x0 := st8.blk.cell 0; have x1 := st8.blk.cell 1; have x2 := st8.blk.cell 2; have x3 := st8.blk.cell 3; have x4 := st8.blk.cell 4; have x5 := st8.blk.cell 5; have x6 := st8.blk.cell 6; have x7 := st8.blk.cell 7; have x8 := st8.blk.cell 8; have xf := st8.blk.frozen; have xl := st8.blk.lt; have y0 := st8.gb.cell 0; have y1 := st8.gb.cell 1; have yl := st8.gb.lt; simp at x0 x1 x2 x3 x4 x5 x6 x7 x8 y0 y1; have ST8 := Lib.hid st8; clear st8 hw8)
            | (go_at_call 22; refine (of_below (w8.setCell ⟨wr.heap.size, 4, none⟩ (.int .i64 (mv (c.lo.length : Int) bb x.a))) _ _ _ hfr0 hfr1 hb0 hbb2 (by omega) (by omega)).mono ?_; rintro e w9 ⟨rfl, hw9⟩; have st9 := (ST8.out.set 4 (.int .i64 (mv (c.lo.length : Int) bb x.a))).call hw9; clear x0 x1 x2 x3 x4 x5 x6 x7 x8 xf xl y0 y1 yl; have x0 := st9.blk.cell 0; have x1 := st9.blk.cell 1; have x2 := st9.blk.cell 2; have x3 := st9.blk.cell 3; have x4 := st9.blk.cell 4; have x5 := st9.blk.cell 5; have x6 := st9.blk.cell 6; have x7 := st9.blk.cell 7; have x8 := st9.blk.cell 8; have xf := st9.blk.frozen; have xl := st9.blk.lt; have y0 := st9.gb.cell 0; have y1 := st9.gb.cell 1; have yl := st9.gb.lt; simp at x0 x1 x2 x3 x4 x5 x6 x7 x8 y0 y1; have ST9 := Lib.hid st9; clear st9 hw9)
            | (at_builtin; obtain ⟨i0, hi0, hz0, hz1, hz2⟩ := info_parts infoIns; have stA := ST9.out.set 5 (.int .i64 (mv (c.lo.length : Int) bb x.b)); go_loud (refine wpList_append_lies _ rfl (.tmp 74) (.tmp 76) _ rfl W5.heap.size 33 i0 _ 9 72 Try.underlying25 hi0 hz0 hz1 hz2 rfl (by omega) _ p (insCells ((c.l.take p).map (mvI (c.lo.length : Int) bb))) rfl (stA.own.alloc _) ⟨w9.heap.size, 0, none⟩ 1 1 [.int .i64 x.op, .int .i64 x.op2, .int .i64 x.ty, .int .i64 (mv (c.lo.length : Int) bb x.d), .int .i64 (mv (c.lo.length : Int) bb x.a), .int .i64 (mv (c.lo.length : Int) bb x.b), .int .i64 x.n, .int .i64 x.count, .int .i64 x.step] rfl rfl (World.news_of_block (cs := #[.int .i64 x.op, .int .i64 x.op2, .int .i64 x.ty, .int .i64 (mv (c.lo.length : Int) bb x.d), .int .i64 (mv (c.lo.length : Int) bb x.a), .int .i64 (mv (c.lo.length : Int) bb x.b), .int .i64 x.n, .int .i64 x.count, .int .i64 x.step]) (t := 33) (fr := (0, 0)) (Blk.heap (Blk.newAt (by simp [World.setCell])))) (by simp [Value.oneCell']) (by omega) (by unfold maxLen; omega) (by omega) (by have := stA.bel.size; simp [World.setCell] at this ⊢; omega) (w9.heap.size + 1) (by simp [World.setCell]) ?_); intro g8 cap8 w8 hown8 hgrow8 hat8 hlt8))
          refine ⟨⟨p + 1, by omega, ?_, ?_, ?_⟩, ?_⟩
          · rfl
          · rw [ins_snoc HX.out, HM2.out]
            exact hown8
          · exact Below.grown (stA.bel.alloc stA.bel.size _) hgrow8 (by have := stA.bel.size; simp [World.setCell] at this ⊢; omega) (fun k hk => (stA.own.lt k hk).1)
          · simp [intOf]
            omega
      · rcases hlen with hn | hn | hn
        · have HM2 := Lib.hid (show mvI (c.lo.length : Int) bb x = ⟨x.op, x.op2, x.ty, x.d, x.a, x.b, x.n, x.count, x.step⟩ by rw [HMV.out, if_neg hmk, if_neg (by omega), if_neg (by omega)])
          have g1 : ¬ (0 < rs.length) := by omega
          have g2 : ¬ (1 < rs.length) := by omega
          have g1i : ¬ ((0 : Int) < (rs.length : Int)) := by omega
          have g2i : ¬ ((1 : Int) < (rs.length : Int)) := by omega
          have HN := Lib.hid hn
          clear hn
          go_wp2_with (first
            | (go_at_call 10; refine (HU.out _).mono ?_; rintro e w6 ⟨v6, rfl, hown6, hb6⟩; obtain ⟨A6, c6, rfl, hints6⟩ := Ints.of_own hown6; have st6 := (NmSt.mk (Blk.new wr 33 #[.int .i64 x.op, .int .i64 x.op2, .int .i64 x.ty, .int .i64 x.d, .int .i64 x.a, .int .i64 x.b, .int .i64 x.n, .int .i64 x.count, .int .i64 x.step]) (HG5.out.below (HBR.out.alloc hbs _) hG5l) (HOW.out.alloc _) (HBR.out.alloc hbs _) hbs hG5l (fun e => by have := (HLT.out _ e).2; omega)).call hb6; have x0 := st6.blk.cell 0; have x1 := st6.blk.cell 1; have x2 := st6.blk.cell 2; have x3 := st6.blk.cell 3; have x4 := st6.blk.cell 4; have x5 := st6.blk.cell 5; have x6 := st6.blk.cell 6; have x7 := st6.blk.cell 7; have x8 := st6.blk.cell 8; have xf := st6.blk.frozen; have xl := st6.blk.lt; have y0 := st6.gb.cell 0; have y1 := st6.gb.cell 1; have yl := st6.gb.lt; simp at x0 x1 x2 x3 x4 x5 x6 x7 x8 y0 y1; have ST6 := Lib.hid st6; clear hb6 hown6 hints6 st6)
            | (at_builtin; obtain ⟨i0, hi0, hz0, hz1, hz2⟩ := info_parts infoIns; have stA := ST6.out; go_loud (refine wpList_append_lies _ rfl (.tmp 74) (.tmp 76) _ rfl W5.heap.size 33 i0 _ 9 72 Try.underlying25 hi0 hz0 hz1 hz2 rfl (by omega) _ p (insCells ((c.l.take p).map (mvI (c.lo.length : Int) bb))) rfl (stA.own.alloc _) ⟨w6.heap.size, 0, none⟩ 1 1 [.int .i64 x.op, .int .i64 x.op2, .int .i64 x.ty, .int .i64 (x.d), .int .i64 (x.a), .int .i64 (x.b), .int .i64 x.n, .int .i64 x.count, .int .i64 x.step] rfl rfl (World.news_of_block (cs := #[.int .i64 x.op, .int .i64 x.op2, .int .i64 x.ty, .int .i64 (x.d), .int .i64 (x.a), .int .i64 (x.b), .int .i64 x.n, .int .i64 x.count, .int .i64 x.step]) (t := 33) (fr := (0, 0)) (Blk.heap (Blk.newAt (by simp)))) (by simp [Value.oneCell']) (by omega) (by unfold maxLen; omega) (by omega) (by have := stA.bel.size; simp at this ⊢; omega) (w6.heap.size + 1) (by simp) ?_); intro g8 cap8 w8 hown8 hgrow8 hat8 hlt8))
          refine ⟨⟨p + 1, by omega, ?_, ?_, ?_⟩, ?_⟩
          · rfl
          · rw [ins_snoc HX.out, HM2.out]
            exact hown8
          · exact Below.grown (stA.bel.alloc stA.bel.size _) hgrow8 (by have := stA.bel.size; simp at this ⊢; omega) (fun k hk => (stA.own.lt k hk).1)
          · simp [intOf]
            omega
        · have HM2 := Lib.hid (show mvI (c.lo.length : Int) bb x = ⟨x.op, x.op2, x.ty, x.d, mv (c.lo.length : Int) bb x.a, x.b, x.n, x.count, x.step⟩ by rw [HMV.out, if_neg hmk, if_pos (by omega), if_neg (by omega)])
          have g1 : 0 < rs.length := by omega
          have g2 : ¬ (1 < rs.length) := by omega
          have g1i : (0 : Int) < (rs.length : Int) := by omega
          have g2i : ¬ ((1 : Int) < (rs.length : Int)) := by omega
          have HN := Lib.hid hn
          clear hn
          go_wp2_with (first
            | (go_at_call 10; refine (HU.out _).mono ?_; rintro e w6 ⟨v6, rfl, hown6, hb6⟩; obtain ⟨A6, c6, rfl, hints6⟩ := Ints.of_own hown6; have st6 := (NmSt.mk (Blk.new wr 33 #[.int .i64 x.op, .int .i64 x.op2, .int .i64 x.ty, .int .i64 x.d, .int .i64 x.a, .int .i64 x.b, .int .i64 x.n, .int .i64 x.count, .int .i64 x.step]) (HG5.out.below (HBR.out.alloc hbs _) hG5l) (HOW.out.alloc _) (HBR.out.alloc hbs _) hbs hG5l (fun e => by have := (HLT.out _ e).2; omega)).call hb6; have x0 := st6.blk.cell 0; have x1 := st6.blk.cell 1; have x2 := st6.blk.cell 2; have x3 := st6.blk.cell 3; have x4 := st6.blk.cell 4; have x5 := st6.blk.cell 5; have x6 := st6.blk.cell 6; have x7 := st6.blk.cell 7; have x8 := st6.blk.cell 8; have xf := st6.blk.frozen; have xl := st6.blk.lt; have y0 := st6.gb.cell 0; have y1 := st6.gb.cell 1; have yl := st6.gb.lt; simp at x0 x1 x2 x3 x4 x5 x6 x7 x8 y0 y1; have ST6 := Lib.hid st6; clear hb6 hown6 hints6 st6)
            | (go_at_call 22; refine (of_below (w6) _ _ _ hfr0 hfr1 hb0 hbb2 (by omega) (by omega)).mono ?_; rintro e w7 ⟨rfl, hw7⟩; have st7 := (ST6.out).call hw7; clear x0 x1 x2 x3 x4 x5 x6 x7 x8 xf xl y0 y1 yl; have x0 := st7.blk.cell 0; have x1 := st7.blk.cell 1; have x2 := st7.blk.cell 2; have x3 := st7.blk.cell 3; have x4 := st7.blk.cell 4; have x5 := st7.blk.cell 5; have x6 := st7.blk.cell 6; have x7 := st7.blk.cell 7; have x8 := st7.blk.cell 8; have xf := st7.blk.frozen; have xl := st7.blk.lt; have y0 := st7.gb.cell 0; have y1 := st7.gb.cell 1; have yl := st7.gb.lt; simp at x0 x1 x2 x3 x4 x5 x6 x7 x8 y0 y1; have ST7 := Lib.hid st7; clear st7 hw7)
            | (at_builtin; obtain ⟨i0, hi0, hz0, hz1, hz2⟩ := info_parts infoIns; have stA := ST7.out.set 4 (.int .i64 (mv (c.lo.length : Int) bb x.a)); go_loud (refine wpList_append_lies _ rfl (.tmp 74) (.tmp 76) _ rfl W5.heap.size 33 i0 _ 9 72 Try.underlying25 hi0 hz0 hz1 hz2 rfl (by omega) _ p (insCells ((c.l.take p).map (mvI (c.lo.length : Int) bb))) rfl (stA.own.alloc _) ⟨w7.heap.size, 0, none⟩ 1 1 [.int .i64 x.op, .int .i64 x.op2, .int .i64 x.ty, .int .i64 (x.d), .int .i64 (mv (c.lo.length : Int) bb x.a), .int .i64 (x.b), .int .i64 x.n, .int .i64 x.count, .int .i64 x.step] rfl rfl (World.news_of_block (cs := #[.int .i64 x.op, .int .i64 x.op2, .int .i64 x.ty, .int .i64 (x.d), .int .i64 (mv (c.lo.length : Int) bb x.a), .int .i64 (x.b), .int .i64 x.n, .int .i64 x.count, .int .i64 x.step]) (t := 33) (fr := (0, 0)) (Blk.heap (Blk.newAt (by simp [World.setCell])))) (by simp [Value.oneCell']) (by omega) (by unfold maxLen; omega) (by omega) (by have := stA.bel.size; simp [World.setCell] at this ⊢; omega) (w7.heap.size + 1) (by simp [World.setCell]) ?_); intro g8 cap8 w8 hown8 hgrow8 hat8 hlt8))
          refine ⟨⟨p + 1, by omega, ?_, ?_, ?_⟩, ?_⟩
          · rfl
          · rw [ins_snoc HX.out, HM2.out]
            exact hown8
          · exact Below.grown (stA.bel.alloc stA.bel.size _) hgrow8 (by have := stA.bel.size; simp [World.setCell] at this ⊢; omega) (fun k hk => (stA.own.lt k hk).1)
          · simp [intOf]
            omega
        · have HM2 := Lib.hid (show mvI (c.lo.length : Int) bb x = ⟨x.op, x.op2, x.ty, x.d, mv (c.lo.length : Int) bb x.a, mv (c.lo.length : Int) bb x.b, x.n, x.count, x.step⟩ by rw [HMV.out, if_neg hmk, if_pos (by omega), if_pos (by omega)])
          have g1 : 0 < rs.length := by omega
          have g2 : 1 < rs.length := by omega
          have g1i : (0 : Int) < (rs.length : Int) := by omega
          have g2i : (1 : Int) < (rs.length : Int) := by omega
          have HN := Lib.hid hn
          clear hn
          go_wp2_with (first
            | (go_at_call 10; refine (HU.out _).mono ?_; rintro e w6 ⟨v6, rfl, hown6, hb6⟩; obtain ⟨A6, c6, rfl, hints6⟩ := Ints.of_own hown6; have st6 := (NmSt.mk (Blk.new wr 33 #[.int .i64 x.op, .int .i64 x.op2, .int .i64 x.ty, .int .i64 x.d, .int .i64 x.a, .int .i64 x.b, .int .i64 x.n, .int .i64 x.count, .int .i64 x.step]) (HG5.out.below (HBR.out.alloc hbs _) hG5l) (HOW.out.alloc _) (HBR.out.alloc hbs _) hbs hG5l (fun e => by have := (HLT.out _ e).2; omega)).call hb6; have x0 := st6.blk.cell 0; have x1 := st6.blk.cell 1; have x2 := st6.blk.cell 2; have x3 := st6.blk.cell 3; have x4 := st6.blk.cell 4; have x5 := st6.blk.cell 5; have x6 := st6.blk.cell 6; have x7 := st6.blk.cell 7; have x8 := st6.blk.cell 8; have xf := st6.blk.frozen; have xl := st6.blk.lt; have y0 := st6.gb.cell 0; have y1 := st6.gb.cell 1; have yl := st6.gb.lt; simp at x0 x1 x2 x3 x4 x5 x6 x7 x8 y0 y1; have ST6 := Lib.hid st6; clear hb6 hown6 hints6 st6)
            | (go_at_call 22; refine (of_below (w6) _ _ _ hfr0 hfr1 hb0 hbb2 (by omega) (by omega)).mono ?_; rintro e w7 ⟨rfl, hw7⟩; have st7 := (ST6.out).call hw7; clear x0 x1 x2 x3 x4 x5 x6 x7 x8 xf xl y0 y1 yl; have x0 := st7.blk.cell 0; have x1 := st7.blk.cell 1; have x2 := st7.blk.cell 2; have x3 := st7.blk.cell 3; have x4 := st7.blk.cell 4; have x5 := st7.blk.cell 5; have x6 := st7.blk.cell 6; have x7 := st7.blk.cell 7; have x8 := st7.blk.cell 8; have xf := st7.blk.frozen; have xl := st7.blk.lt; have y0 := st7.gb.cell 0; have y1 := st7.gb.cell 1; have yl := st7.gb.lt; simp at x0 x1 x2 x3 x4 x5 x6 x7 x8 y0 y1; have ST7 := Lib.hid st7; clear st7 hw7)
            | (go_at_call 22; refine (of_below (w7.setCell ⟨wr.heap.size, 4, none⟩ (.int .i64 (mv (c.lo.length : Int) bb x.a))) _ _ _ hfr0 hfr1 hb0 hbb2 (by omega) (by omega)).mono ?_; rintro e w8 ⟨rfl, hw8⟩; have st8 := (ST7.out.set 4 (.int .i64 (mv (c.lo.length : Int) bb x.a))).call hw8; clear x0 x1 x2 x3 x4 x5 x6 x7 x8 xf xl y0 y1 yl; have x0 := st8.blk.cell 0; have x1 := st8.blk.cell 1; have x2 := st8.blk.cell 2; have x3 := st8.blk.cell 3; have x4 := st8.blk.cell 4; have x5 := st8.blk.cell 5; have x6 := st8.blk.cell 6; have x7 := st8.blk.cell 7; have x8 := st8.blk.cell 8; have xf := st8.blk.frozen; have xl := st8.blk.lt; have y0 := st8.gb.cell 0; have y1 := st8.gb.cell 1; have yl := st8.gb.lt; simp at x0 x1 x2 x3 x4 x5 x6 x7 x8 y0 y1; have ST8 := Lib.hid st8; clear st8 hw8)
            | (at_builtin; obtain ⟨i0, hi0, hz0, hz1, hz2⟩ := info_parts infoIns; have stA := ST8.out.set 5 (.int .i64 (mv (c.lo.length : Int) bb x.b)); go_loud (refine wpList_append_lies _ rfl (.tmp 74) (.tmp 76) _ rfl W5.heap.size 33 i0 _ 9 72 Try.underlying25 hi0 hz0 hz1 hz2 rfl (by omega) _ p (insCells ((c.l.take p).map (mvI (c.lo.length : Int) bb))) rfl (stA.own.alloc _) ⟨w8.heap.size, 0, none⟩ 1 1 [.int .i64 x.op, .int .i64 x.op2, .int .i64 x.ty, .int .i64 (x.d), .int .i64 (mv (c.lo.length : Int) bb x.a), .int .i64 (mv (c.lo.length : Int) bb x.b), .int .i64 x.n, .int .i64 x.count, .int .i64 x.step] rfl rfl (World.news_of_block (cs := #[.int .i64 x.op, .int .i64 x.op2, .int .i64 x.ty, .int .i64 (x.d), .int .i64 (mv (c.lo.length : Int) bb x.a), .int .i64 (mv (c.lo.length : Int) bb x.b), .int .i64 x.n, .int .i64 x.count, .int .i64 x.step]) (t := 33) (fr := (0, 0)) (Blk.heap (Blk.newAt (by simp [World.setCell])))) (by simp [Value.oneCell']) (by omega) (by unfold maxLen; omega) (by omega) (by have := stA.bel.size; simp [World.setCell] at this ⊢; omega) (w8.heap.size + 1) (by simp [World.setCell]) ?_); intro g8 cap8 w8 hown8 hgrow8 hat8 hlt8))
          refine ⟨⟨p + 1, by omega, ?_, ?_, ?_⟩, ?_⟩
          · rfl
          · rw [ins_snoc HX.out, HM2.out]
            exact hown8
          · exact Below.grown (stA.bel.alloc stA.bel.size _) hgrow8 (by have := stA.bel.size; simp [World.setCell] at this ⊢; omega) (fun k hk => (stA.own.lt k hk).1)
          · simp [intOf]
            omega
    · have hpe : p = c.l.length := by omega
      subst hpe
      have p1 : ¬ ((c.l.length : Int) < (c.l.length : Int)) := by omega
      obtain ⟨A9, c9, rfl, hI9⟩ := RepI.of_own (l := c.l.map (mvI (c.lo.length : Int) bb)) (by rw [List.length_map]; rw [List.take_length] at hown; exact hown)
      rw [List.length_map] at *
      have e1 := (hbr.cell (p := ⟨C, 1, none⟩) hC5l).trans (cell_of_blk HC5.out (i := 1) (by rfl))
      have hCr : C < wr.heap.size := by omega
      simp at e0 e1
      have HI9 := Lib.hid hI9
      have HBR := Lib.hid hbr
      have HI5r := Lib.hid (HI5.out.far hbr)
      have HX5r := Lib.hid (HX5.out.far hbr)
      clear hI9 hbr hown
      go_wp2_with fail
      go_region_held3 (fun w' => w'.cell? ⟨C, 0, none⟩ = some (.slice A2 c.l.length c2) ∧ w'.cell? ⟨C, 1, none⟩ = some (.slice B2 c.lo.length d2))
        (first
          | (go_keep; done)
          | (refine ⟨(hb3.cell (p := ⟨C, 0, none⟩) (by simp; omega)).trans ?_, (hb3.cell (p := ⟨C, 1, none⟩) (by simp; omega)).trans ?_⟩ <;> assumption)
          | exact ⟨(hb4.cell (p := ⟨C, 0, none⟩) hC3).trans f0, (hb4.cell (p := ⟨C, 1, none⟩) hC3).trans f1⟩)
        (first
          | (go_at_call 16; refine (HSP.out _ _ _ _ _ ?_ ?_).mono ?_; (focus (exact HI5r.out.far (by first | exact Below.refl _ _ | exact (Below.refl _ _).drew))); (focus (exact HX5r.out.far (by first | exact Below.refl _ _ | exact (Below.refl _ _).drew))); rintro e w3 ⟨v3, rfl, hown3, hb3⟩; obtain ⟨A3, c3, rfl, hS3⟩ := RepSp.of_own hown3; have hb3' : Below wr.heap.size wr w3 := (by first | exact hb3 | exact (Below.refl _ _).drew.trans hb3); have hs3 := hb3'.size; have hC3 : C < w3.heap.size := (by omega); have f0 := (hb3'.cell (p := ⟨C, 0, none⟩) hCr).trans e0; have f1 := (hb3'.cell (p := ⟨C, 1, none⟩) hCr).trans e1; have HI93 := Lib.hid (HI9.out.far hb3'); have HX53 := Lib.hid (HX5r.out.far hb3'))
          | (go_at_call 16; refine (HSQ.out _ _ _ _ _ ?_ ?_).mono ?_; (focus (exact HI93.out.far (by first | exact Below.refl _ _ | exact (Below.refl _ _).drew))); (focus (exact HX53.out.far (by first | exact Below.refl _ _ | exact (Below.refl _ _).drew))); rintro e w4 ⟨v4, rfl, hown4, hb4⟩; obtain ⟨A4, c4, hv4, hS4⟩ := RepSp.of_own hown4; rw [List.length_map] at hv4; subst hv4))
      have hb4' : Below w3.heap.size w3 w4 := by first | exact hb4 | exact (Below.refl _ _).drew.trans hb4
      have HG := Lib.hid ((HG5.out.below HBR.out hG5l).below (btw hb3' hb4') (by omega))
      have HS3 := Lib.hid (hS3.far hb4')
      have HS4 := Lib.hid hS4
      have HBW := Lib.hid (btw (btw HB5.out (HBR.out)) (btw hb3' hb4'))
      have hGl := HG.out.lt
      clear hb4 hb4' hS3 hS4 hown4 hb3 hb3' hown3 HI93 HX53 f0 f1 e0 e1 HI5r HX5r HI5 HI9 HBR HX5 HC5
      go_wp2_with fail
      go_loopw [15] (fun ix wx => ∃ j : Nat, j ≤ sp.length ∧ ix = .int .i64 (j : Int) ∧ Below w4.heap.size w4 wx) (fun ix _ => sp.length - (intOf ix).toNat)
      case atStart => exact ⟨0, Nat.zero_le _, rfl, Below.refl _ _⟩
      case round =>
        obtain ⟨j, hj, rfl, hbx⟩ := hrel
        have hsx := hbx.size
        by_cases hlj : j < sp.length
        · obtain ⟨y, hy⟩ : ∃ y, sp[j]? = some y := ⟨sp[j], List.getElem?_eq_getElem hlj⟩
          obtain ⟨b3, o3, rfl, hb3, _⟩ := HS3.out (by intro h; rw [h] at hlj; simp at hlj)
          obtain ⟨b4, o4, rfl, hb4, _⟩ := HS4.out (by intro h; have := congrArg List.length h; simp at this; rw [this] at hlj; simp at hlj)
          have hy' : (sp.map (mvS (c.lo.length : Int) bb))[j]? = some (mvS (c.lo.length : Int) bb y) := by rw [List.getElem?_map, hy]; rfl
          obtain ⟨s0, s1, s2⟩ := (HS3.out.far hbx).at hy
          obtain ⟨t0, t1, t2⟩ := (HS4.out.far hbx).at hy'
          have hgx := HG.out.below hbx hGl
          have gg0 := hgx.cell 0
          have gg1 := hgx.cell 1
          have ggl := hgx.lt
          simp at gg0 gg1
          obtain ⟨z0, z1⟩ := HSV.out y (List.mem_of_getElem? hy)
          have j0 : (0 : Int) ≤ (j : Int) := by omega
          have j1 : (j : Int) < (sp.length : Int) := by omega
          have hb3x : b3 < wr.heap.size := by omega
          have hb4x : b4 < wr.heap.size := by omega
          simp only [mvS] at t0 t1 t2
          clear hgx
          go_wp2_with fail
          go_region_held3 (fun w' => w'.cell? ⟨b3, o3 + j * 3, none⟩ = some (.int .i64 y.v) ∧ w'.cell? ⟨b3, o3 + j * 3 + 1, none⟩ = some (.int .i64 y.fr) ∧ w'.cell? ⟨b3, o3 + j * 3 + 2, none⟩ = some (.int .i64 y.till) ∧ w'.cell? ⟨b4, o4 + j * 3, none⟩ = some (.int .i64 (mv (c.lo.length : Int) bb y.v)) ∧ w'.cell? ⟨b4, o4 + j * 3 + 1, none⟩ = some (.int .i64 y.fr) ∧ w'.cell? ⟨b4, o4 + j * 3 + 2, none⟩ = some (.int .i64 y.till) ∧ w'.cell? ⟨G, 0, none⟩ = some (.int .i64 (c.lo.length : Int)) ∧ w'.cell? ⟨G, 1, none⟩ = some (.int .i64 bb))
            (first
              | (go_keep; done)
              | exact ⟨(hb5.cell (p := ⟨b3, o3 + j * 3, none⟩) hb3x).trans s0, (hb5.cell (p := ⟨b3, o3 + j * 3 + 1, none⟩) hb3x).trans s1, (hb5.cell (p := ⟨b3, o3 + j * 3 + 2, none⟩) hb3x).trans s2, (hb5.cell (p := ⟨b4, o4 + j * 3, none⟩) hb4x).trans t0, (hb5.cell (p := ⟨b4, o4 + j * 3 + 1, none⟩) hb4x).trans t1, (hb5.cell (p := ⟨b4, o4 + j * 3 + 2, none⟩) hb4x).trans t2, (hb5.cell (p := ⟨G, 0, none⟩) ggl).trans gg0, (hb5.cell (p := ⟨G, 1, none⟩) ggl).trans gg1⟩)
            (first
              | (go_at_call 22; refine (of_below _ _ _ _ hfr0 hfr1 hb0 hbb2 (by omega) (by omega)).mono ?_; rintro e w5 ⟨rfl, hb5⟩))
          have hb5' : Below wr.heap.size wr w5 := by first | exact hb5 | exact (Below.refl _ _).drew.trans hb5
          go_wp2_with fail
          refine ⟨⟨j + 1, by omega, rfl, hbx.trans (hb5'.mono hbx.size)⟩, ?_⟩
          simp [intOf]
          omega
        · have j1 : ¬ ((j : Int) < (sp.length : Int)) := by omega
          go_wp2_with fail
          go_ret
          exact ⟨rfl, btw HBW.out hbx⟩
end Go.Proofs.Ytfmkfmcplffhdaa

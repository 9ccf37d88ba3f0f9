/- AllocMoves: spans that are moved and stretched get the same homes: the walk. Condition: the table is as it is laid. -/
import Derived.Test.YtfgdkeomjplnnaaDoorAmH
import Derived.Test.YtfgdkeomjplnnaaDoorLvQb
import Derived.Sort.AtCall
namespace Go.Proofs.YtfgdkeomjplnnaaDoor
set_option linter.unusedVariables false
open Go.RowKit
attribute [local irreducible] Blk
theorem own_grown {w w' : World} {row : Option Nat} {base : Nat} {e : TypeId} {size k : Nat} {v : Value} {xs : List Value} (h : w.ownsRow base e size v k xs) (hg : w.grownBy w' row) (hr : ∀ j, v.ownBlock = some j → row ≠ some j) : w'.ownsRow base e size v k xs :=
  h.kept hg (by
    cases hv : v.ownBlock with
    | none => exact .inl rfl
    | some j => exact .inr (Ne.symm (hr j hv)))
theorem own_below {w w' : World} {base : Nat} {e : TypeId} {size k : Nat} {v : Value} {xs : List Value} (h : w.ownsRow base e size v k xs) (hb : Below w.heap.size w w') : w'.ownsRow base e size v k xs :=
  Keep.row (Keep.of_below hb) h (fun j hj => by have := (h.lt j hj).2; omega)
/-- What the loop keeps: the two rows. -/
structure MvW (B : Nat) (W w : World) (l : List P2) (by' tm : Int) (sv tv : Value) (k : Nat) : Prop where
  s : w.ownsRow B 32 3 sv k (spCells (spsTo (spanM l) k))
  t : w.ownsRow B 32 3 tv k (spCells (spsTo (spanT l by' tm) k))
  sep : ∀ j, sv.ownBlock = some j → tv.ownBlock ≠ some j
  bel : Below B W w
  z : k = 0 → sv = .slice none 0 0
/-- append, by an equation. -/
theorem wpList_append_eq {P : Program} {w w' : World} {ops : Array Oper} {rest : List Oper} {o : Oper} {a : Act} {Q : Exit → Act → World → Prop} (hgd : o.guard = none) (s x : Operand) (t : TypeId)
    (ho : o.op = .call { callee := .builtin .append, args := #[s, x], argTypes := #[t, t] }) (v u r : Value) (hs : a.eval s = v) (hx : a.eval x = u)
    (hrun : (Builtin.append_ #[t, t] o.type #[v, u]).run P w = .ok r w') (h : wpList P ops Q rest (a.put o.dst r) w') : wpList P ops Q (o :: rest) a w := by
  refine wpList_plain hgd fun K hK => ?_
  unfold Oper.wp
  simp [execOp, ho, resolve, invoke, builtin, hs, hx, hrun, Result.andThen]
  exact hK _ _ h
theorem one_cells (l : List Sp) : ∀ u ∈ spCells l, u.oneCell' = true := fun u hu => by
  unfold spCells at hu
  obtain ⟨x, _, hx⟩ := List.mem_flatMap.1 hu
  have : u = .int .i64 x.v ∨ u = .int .i64 x.fr ∨ u = .int .i64 x.till := by simpa [Sp.arr] using hx
  rcases this with rfl | rfl | rfl <;> rfl
/-- All of a row, appended to an empty one. -/
theorem append_all {B k c1 : Nat} {w8 : World} {A1 : Option Addr} {sp : List Sp} (hown : w8.ownsRow B 32 3 (.slice A1 k c1) k (spCells sp)) (hz : k = 0 → A1 = none ∧ c1 = 0) (hk : k ≤ 100) :
    ∃ A9 c9 w9, (Builtin.append_ #[24, 24] 24 #[.slice (some ⟨w8.heap.size, 0, none⟩) 0 0, .slice A1 k c1]).run Tryd.prog (w8.alloc (.cells #[] 32)) = .ok (.slice A9 k c9) w9 ∧
      w9.ownsRow w8.heap.size 32 3 (.slice A9 k c9) k (spCells sp) ∧ Below w8.heap.size w8 w9 := by
  obtain ⟨i0, hi0, hz0, hz1, hz2⟩ := info_parts infoSp
  have hm := World.ownsRow_made (base := w8.heap.size) (e := 32) (size := 3) w8 #[] 0 (Nat.le_refl _) (by unfold maxLen; omega) rfl
  have hb := (Below.refl w8.heap.size w8).alloc (Nat.le_refl _) (.cells #[] 32)
  by_cases h0 : k = 0
  · obtain ⟨rfl, rfl⟩ := hz h0
    subst h0
    have hsp : spCells sp = [] := List.length_eq_zero_iff.1 (by have := hown.1; omega)
    rw [hsp]
    exact ⟨_, 0, _, run_append_owned_none (w := w8.alloc (.cells #[] 32)) w8.heap.size 24 24 32 i0 3 Tryd.underlying24 hi0 _ 0 [] hm, hm, hb⟩
  · obtain ⟨g, cap, he, _, hlt⟩ := hown.form (by omega)
    obtain ⟨rfl, rfl⟩ : A1 = some ⟨g, 0, none⟩ ∧ c1 = cap := by simpa using he
    have hown2 := hown.alloc (.cells #[] 32)
    have hc := hown2.cells (g := g) rfl
    obtain ⟨g9, c9, w9, hrun, hown9, hgrow, hat, hlt9⟩ := run_append_lies (P := Tryd.prog) (w8.alloc (.cells #[] 32)) 24 24 w8.heap.size 32 i0 _ 3 24 Tryd.underlying24 hi0 hz0 hz1 hz2 rfl (by omega) _ 0 _ hm ⟨g, 0, none⟩ k c1 (spCells sp) hown.1 hc (one_cells sp) (by omega) (by unfold maxLen; omega) (by omega) (by simp) (w8.heap.size + 1) (by simp)
    rw [Nat.zero_add] at hrun hown9
    exact ⟨some ⟨g9, 0, none⟩, c9, w9, hrun, hown9, hb.grown hgrow (by simp) (fun j hj => by
      obtain rfl : w8.heap.size = j := by simpa [Value.ownBlock] using hj
      exact Nat.le_refl _)⟩
theorem mul_bd {a k : Int} (h0 : 0 ≤ a) (h1 : a ≤ 1000) (k0 : 0 ≤ k) (k1 : k ≤ 1000) : 0 ≤ a * k ∧ a * k ≤ 1000000 := by
  refine ⟨Int.mul_nonneg h0 k0, ?_⟩
  have := Int.mul_le_mul h1 k1 k0 (by omega)
  omega
def Near (sp : List Sp) : Prop := ∀ s ∈ sp, -1000000000 ≤ s.fr ∧ s.fr ≤ 1000000000
/-- What the loop leaves. -/
structure MvE (B : Nat) (w : World) (A1 A2 : Option Addr) (c1 : Nat) (sp tp : List Sp) (k : Nat) (far : Int) : Prop where
  ls : sp.length = k
  lt : tp.length = k
  s : w.ownsRow B 32 3 (.slice A1 k c1) k (spCells sp)
  rs : RepS w A1 sp
  rt : RepS w A2 tp
  alike : Alike sp tp
  ns : Near sp
  nt : Near tp
  z : k = 0 → A1 = none ∧ c1 = 0
  beh : ∀ i, i < sp.length → enI sp i ≤ far ∧ frS sp i < far
theorem MvE.more {B k : Nat} {w : World} {A1 A2 : Option Addr} {c1 : Nat} {sp tp : List Sp} {far : Int} (h : MvE B w A1 A2 c1 sp tp k far) (f0 : 1 ≤ far) (f1 : far ≤ 1000) {od : List Nat} (ho : Ordered sp od) {w' : World} {base g c : Nat} (hr : w'.ownsRow base 32 3 (.slice (some ⟨g, 0, none⟩) (k + 1) c) (k + 1) (spCells sp ++ [.int .i64 0, .int .i64 far, .int .i64 (far + 3)])) :
    ∃ sp2 od2, sp2.length = k + 1 ∧ RepS w' (some ⟨g, 0, none⟩) sp2 ∧ Near sp2 ∧ Ordered sp2 od2 ∧ (allocF sp2 od2).hs = (allocF sp od).hs ++ [⟨false, 0⟩] ∧ (allocF sp2 od2).sl = (allocF sp od).sl := by
  have hl : (sp ++ [(⟨0, far, far + 3⟩ : Sp)]).length = k + 1 := by rw [List.length_append, h.ls]; rfl
  have hc : spCells (sp ++ [(⟨0, far, far + 3⟩ : Sp)]) = spCells sp ++ [.int .i64 0, .int .i64 far, .int .i64 (far + 3)] := by
    rw [spCells_append]
    rfl
  obtain ⟨A, c', he, hrep⟩ := RepS.of_row (l := sp ++ [(⟨0, far, far + 3⟩ : Sp)]) (by rw [hl, hc]; exact hr)
  obtain ⟨rfl, _⟩ : A = some ⟨g, 0, none⟩ ∧ True := by
    simp only [Value.slice.injEq] at he
    exact ⟨he.1.symm, trivial⟩
  obtain ⟨e1, e2⟩ := alloc_app (x := ⟨0, far, far + 3⟩) ho (fun i hi => (h.beh i hi).1)
  refine ⟨_, _, hl, hrep, fun s hs => ?_, app_ordered ho (fun i hi => (h.beh i hi).2), e1, e2⟩
  rcases List.mem_append.1 hs with hs | hs
  · exact h.ns s hs
  · obtain rfl := List.mem_singleton.1 hs
    show -1000000000 ≤ far ∧ far ≤ 1000000000
    omega
theorem MvW.ends {B k : Nat} {W w : World} {l : List P2} {by' tm : Int} {sv tv : Value} (h : MvW B W w l by' tm sv tv k) (hok : ∀ x ∈ l, OkP2 x) (hk : k ≤ l.length) (b0 : -32768 ≤ by') (b1 : by' ≤ 32767) (t0 : 0 ≤ tm) (t1 : tm ≤ 255) :
    ∃ A1 c1 A2 c2 sp tp, sv = .slice A1 k c1 ∧ tv = .slice A2 k c2 ∧ MvE B w A1 A2 c1 sp tp k (farL l k) := by
  obtain ⟨A1, c1, hs, hr1⟩ := RepS.of_row (l := spsTo (spanM l) k) (by rw [spsTo_len]; exact h.s)
  obtain ⟨A2, c2, ht, hr2⟩ := RepS.of_row (l := spsTo (spanT l by' tm) k) (by rw [spsTo_len]; exact h.t)
  rw [spsTo_len] at hs ht
  have hs1 := h.s
  rw [hs] at hs1
  have mem : ∀ (f : Nat → Sp) (s : Sp), s ∈ spsTo f k → ∃ i, i < k ∧ s = f i := fun f s hm => by
    obtain ⟨i, hi⟩ := List.getElem?_of_mem hm
    have hl := (List.getElem?_eq_some_iff.1 hi).1
    rw [spsTo_len] at hl
    rw [spsTo_get hl] at hi
    exact ⟨i, hl, (Option.some.inj hi).symm⟩
  refine ⟨A1, c1, A2, c2, _, _, hs, ht, spsTo_len _ _, spsTo_len _ _, hs1, hr1, hr2, moved hok t0 hk, fun s hm => ?_, fun s hm => ?_, fun h0 => ?_, behind hok hk⟩
  · obtain ⟨i, hi, rfl⟩ := mem _ s hm
    have ho := p2_ok hok (show i < l.length by omega)
    unfold OkP2 at ho
    show -1000000000 ≤ (p2At l i).a ∧ (p2At l i).a ≤ 1000000000
    omega
  · obtain ⟨i, hi, rfl⟩ := mem _ s hm
    have ho := p2_ok hok (show i < l.length by omega)
    unfold OkP2 at ho
    have := mul_bd ho.1 (show _ ≤ 1000 by omega) (show 0 ≤ 1 + tm by omega) (by omega)
    show -1000000000 ≤ (p2At l i).a * (1 + tm) + by' ∧ (p2At l i).a * (1 + tm) + by' ≤ 1000000000
    omega
  · have := h.z h0
    rw [hs] at this
    obtain ⟨h1, _, h2⟩ : A1 = none ∧ k = 0 ∧ c1 = 0 := by simpa using this
    exact ⟨h1, h2⟩
set_option maxRecDepth 100000 in
set_option maxHeartbeats 6400000 in
theorem allocMoves_any (w : World) (A : Option Addr) (l : List P2) (c : Nat) (by' tm : Int) (hr : RepP2 w A l) (hok : ∀ x ∈ l, OkP2 x) (hll : l.length ≤ 9223372036854775807) (hby : -32768 ≤ by' ∧ by' ≤ 32767) (htm : 0 ≤ tm ∧ tm ≤ 255) (hT : TabAt 1 Lib.deBruijn64tab w) (hW : 1 < w.heap.size) :
    Calls Tryd.prog 4 #[.slice A l.length c, .int .i16 by', .int .u8 tm] w fun e w' => e = .returned (.bool true) ∧ Below w.heap.size w w' := by
  obtain ⟨by0, by1⟩ := hby
  obtain ⟨tm0, tm1⟩ := htm
  have HR := Lib.hid hr
  have HOK := Lib.hid hok
  have HT := Lib.hid hT
  have HWK := Lib.hid (works_any w hT hW)
  clear hr hok hT
  obtain ⟨i0, hi0, hz0, hz1, hz2⟩ := info_parts infoSp
  have HII := Lib.hid (⟨hi0, hz0, hz1, hz2⟩ : _ ∧ _ ∧ _ ∧ _)
  clear hi0 hz0 hz1 hz2
  go_enter Tryd.func4, Tryd.ntmps4
  go_wp2_with fail
  refine HWK.out.mono ?_
  rintro e w1 ⟨rfl, hb1⟩
  have HB1 := Lib.hid hb1
  clear hb1 HWK
  go_wp2_with fail
  go_loopw [7, 8, 9, 10] (fun sv tv fv iv wr => ∃ k : Nat, k ≤ l.length ∧ k ≤ 100 ∧ iv = .int .i64 (k : Int) ∧ fv = .int .i64 (farL l k) ∧ Hid (MvW w1.heap.size w1 wr l by' tm sv tv k)) (fun _ _ _ iv _ => 100 - (intOf iv).toNat)
  case atStart => exact ⟨0, Nat.zero_le _, Nat.zero_le _, rfl, rfl, Lib.hid ⟨World.ownsRow_nil _ _ _ _, World.ownsRow_nil _ _ _ _, (fun j hj => by cases hj), Below.refl _ _, fun _ => rfl⟩⟩
  case round =>
    obtain ⟨k, hk, hk2, rfl, rfl, HM⟩ := hrel
    by_cases hlt : k < l.length
    · by_cases hlt2 : k < 100
      · obtain ⟨x, hx⟩ : ∃ x, l[k]? = some x := ⟨l[k], List.getElem?_eq_getElem hlt⟩
        obtain ⟨b, o, rfl, hb, hcs⟩ := HR.out (by intro h; rw [h] at hlt; simp at hlt)
        have hbr : Below w.heap.size w wr := HB1.out.trans (HM.out.bel.mono HB1.out.size)
        have k0 : (0 : Int) ≤ (k : Int) := by omega
        have k1 : (k : Int) < (l.length : Int) := by omega
        have k2 : (k : Int) < 100 := by omega
        have g1 : decide ((k : Int) < (l.length : Int)) = true := decide_eq_true k1
        have g2 : decide ((k : Int) < 100) = true := decide_eq_true k2
        have cc := fun j u hu => (hbr.cell (p := ⟨b, o + k * 2 + j, none⟩) hb).trans (hcs k x hx j u hu)
        have d0 := cc 0 (.int .u8 x.a) rfl
        have d1 := cc 1 (.int .u8 x.b) rfl
        rw [Nat.add_zero] at d0
        have hbw : b < wr.heap.size := by have := hbr.size; omega
        obtain ⟨o0, o1, o2, o3⟩ := HOK.out x (List.mem_of_getElem? hx)
        obtain ⟨m0, m1⟩ := mul_bd o0 (by omega) (show 0 ≤ 1 + tm by omega) (by omega)
        obtain ⟨m2, m3⟩ := mul_bd (show 0 ≤ x.a + 1 + x.b by omega) (by omega) (show 0 ≤ 1 + tm by omega) (by omega)
        obtain ⟨fb0, fb1⟩ := far_bd HOK.out k hk
        obtain ⟨mx, hmx⟩ : ∃ mx, max (farL l k) (x.a + 1 + x.b) = mx := ⟨_, rfl⟩
        have hmax := fun ats ty => max_lit ats ty (farL l k) (x.a + 1 + x.b)
        rw [hmx] at hmax
        have HFA := Lib.hid (show farL l (k + 1) = mx from by
          show max (farL l k) ((p2At l k).a + 1 + (p2At l k).b) = mx
          rw [p2At_of hx]
          exact hmx)
        have HT1 := Lib.hid (show spCells (spsTo (spanM l) (k + 1)) = spCells (spsTo (spanM l) k) ++ [.int .i64 (k : Int), .int .i64 x.a, .int .i64 (x.a + 1 + x.b)] by
          rw [spsTo_succ, spCells_append]
          unfold spanM
          rw [p2At_of hx]
          rfl)
        have HT2 := Lib.hid (show spCells (spsTo (spanT l by' tm) (k + 1)) = spCells (spsTo (spanT l by' tm) k) ++ [.int .i64 (100 - (k : Int)), .int .i64 (x.a * (1 + tm) + by'), .int .i64 ((x.a + 1 + x.b) * (1 + tm) + by')] by
          rw [spsTo_succ, spCells_append]
          unfold spanT
          rw [p2At_of hx]
          rfl)
        clear cc hcs hx hmx
        obtain ⟨xa, xb⟩ := x
        simp only at *
        generalize farL l k = fk at *
        have hown := HM.out.s
        have hbB : w1.heap.size ≤ wr.heap.size := HM.out.bel.size
        obtain ⟨gs, cs, w3, hrun, hown3, hgrow, hat, hlt3⟩ := run_append_lies (P := Tryd.prog) (wr.alloc (.cells #[.int .i64 (k : Int), .int .i64 xa, .int .i64 (xa + 1 + xb)] 32)) 24 24 w1.heap.size 32 i0 _ 3 24 Tryd.underlying24 HII.out.1 HII.out.2.1 HII.out.2.2.1 HII.out.2.2.2 rfl (by omega) _ k _ (hown.alloc _) ⟨wr.heap.size, 0, none⟩ 1 1 [.int .i64 (k : Int), .int .i64 xa, .int .i64 (xa + 1 + xb)] (by rfl) (World.news_of_block (cs := #[.int .i64 (k : Int), .int .i64 xa, .int .i64 (xa + 1 + xb)]) (t := 32) (fr := (0, 0)) (Blk.heap (Blk.new wr _ _))) (by simp [Value.oneCell']) (by omega) (by unfold maxLen; omega) (by omega) (by simp; omega) (wr.heap.size + 1) (by simp)
        have hbt := own_grown (HM.out.t.alloc (.cells #[.int .i64 (k : Int), .int .i64 xa, .int .i64 (xa + 1 + xb)] 32)) hgrow (fun j hj hs => HM.out.sep j hs hj)
        have hsz3 : wr.heap.size + 1 ≤ w3.heap.size := by have := hgrow.size; simpa using this
        obtain ⟨gt, ct, w5, hrun2, hown5, hgrow5, hat5, hlt5⟩ := run_append_lies (P := Tryd.prog) (w3.alloc (.cells #[.int .i64 (100 - (k : Int)), .int .i64 (xa * (1 + tm) + by'), .int .i64 ((xa + 1 + xb) * (1 + tm) + by')] 32)) 24 24 w1.heap.size 32 i0 _ 3 24 Tryd.underlying24 HII.out.1 HII.out.2.1 HII.out.2.2.1 HII.out.2.2.2 rfl (by omega) _ k _ (hbt.alloc _) ⟨w3.heap.size, 0, none⟩ 1 1 [.int .i64 (100 - (k : Int)), .int .i64 (xa * (1 + tm) + by'), .int .i64 ((xa + 1 + xb) * (1 + tm) + by')] (by rfl) (World.news_of_block (cs := #[.int .i64 (100 - (k : Int)), .int .i64 (xa * (1 + tm) + by'), .int .i64 ((xa + 1 + xb) * (1 + tm) + by')]) (t := 32) (fr := (0, 0)) (Blk.heap (Blk.new w3 _ _))) (by simp [Value.oneCell']) (by omega) (by unfold maxLen; omega) (by omega) (by simp; omega) (w3.heap.size + 1) (by simp)
        have tlt := fun j hj => (HM.out.t.lt j hj).2
        have HN := Lib.hid (show MvW w1.heap.size w1 w5 l by' tm (.slice (some ⟨gs, 0, none⟩) (k + 1) cs) (.slice (some ⟨gt, 0, none⟩) (k + 1) ct) (k + 1) from by
          refine ⟨?_, ?_, ?_, ?_, fun h => by omega⟩
          · rw [HT1.out]
            refine own_grown (hown3.alloc _) hgrow5 (fun j hj hs => ?_)
            obtain rfl : gs = j := by simpa [Value.ownBlock] using hj
            rcases hat with h | h
            · exact HM.out.sep _ h hs
            · have := tlt _ hs; omega
          · rw [HT2.out]
            exact hown5
          · intro j hj hs
            obtain rfl : gs = j := by simpa [Value.ownBlock] using hj
            obtain rfl : gt = gs := by simpa [Value.ownBlock] using hs
            rcases hat5 with h | h
            · rcases hat with h' | h'
              · exact HM.out.sep _ h' h
              · have := tlt _ h; omega
            · omega
          · have e1 := (HM.out.bel.alloc hbB (.cells #[.int .i64 (k : Int), .int .i64 xa, .int .i64 (xa + 1 + xb)] 32)).grown hgrow (by simp; omega) (fun j hj => (HM.out.s.lt j hj).1)
            exact (e1.alloc (by omega) (.cells #[.int .i64 (100 - (k : Int)), .int .i64 (xa * (1 + tm) + by'), .int .i64 ((xa + 1 + xb) * (1 + tm) + by')] 32)).grown hgrow5 (by simp; omega) (fun j hj => (HM.out.t.lt j hj).1))
        clear hown hown3 hgrow hat hbt hown5 hgrow5 hat5 tlt hbr
        simp [go_sem] at hrun hrun2
        go_wp2_with fail
        exact ⟨⟨k + 1, by omega, by omega, rfl, by rw [HFA.out], HN⟩, by simp [intOf]; omega⟩
      · have g1 : decide ((k : Int) < (l.length : Int)) = true := decide_eq_true (by omega)
        have g2 : decide ((k : Int) < 100) = false := decide_eq_false (by omega)
        have hkk : k ≤ 100 := hk2
        have HBW := Lib.hid (HB1.out.trans (HM.out.bel.mono HB1.out.size))
        obtain ⟨A1, c1, A2, c2, sp, tp, rfl, rfl, hE⟩ := HM.out.ends HOK.out hk by0 by1 tm0 tm1
        obtain ⟨fb0, fb1⟩ := far_bd HOK.out k hk
        have HEE := Lib.hid hE
        have HA := Lib.hid (Alloc_any wr A1 sp c1 hE.rs (by have := hE.ls; omega) hE.ns (tab_below HT.out hW HBW.out) (by have := HBW.out.size; omega))
        rw [hE.ls] at HA
        generalize farL l k = fk at *
        clear hE hk2 HM
        go_wp2_with fail
        refine HA.out.mono ?_
        rintro e w7 ⟨od, Ba, ho, hBa, rfl, hba, hla, hoa, hb7⟩
        rw [HEE.out.ls] at hla ⊢
        have HBA := Lib.hid hba
        have HLA := Lib.hid hla
        have HO := Lib.hid ho
        have HB7 := Lib.hid hb7
        have HBW7 := Lib.hid (HBW.out.trans (hb7.mono HBW.out.size))
        have HA2 := Lib.hid (Alloc_any w7 A2 tp c2 (HEE.out.rt.far hb7) (by have := HEE.out.lt; omega) HEE.out.nt (tab_below HT.out hW HBW7.out) (by have := HBW7.out.size; omega))
        rw [HEE.out.lt] at HA2
        clear hba hla hoa ho hb7 hBa HA
        go_wp2_with fail
        refine HA2.out.mono ?_
        rintro e w8 ⟨od2, Bb, ho2, hBb, he, hbb, hlb, hob, hb8⟩
        obtain rfl := (HEE.out.alike.ordered HO.out).unique ho2
        rw [alloc_alike HEE.out.alike HO.out, HEE.out.lt] at he
        rw [alloc_alike HEE.out.alike HO.out] at hbb hlb
        subst he
        have HBB := Lib.hid hbb
        have HB8 := Lib.hid (HB7.out.trans (hb8.mono HB7.out.size))
        have HBA8 := Lib.hid (HBA.out.below hb8 HBA.out.lt)
        have HBW8 := Lib.hid (HBW7.out.trans (hb8.mono HBW7.out.size))
        have hs8 := own_below HEE.out.s HB8.out
        obtain ⟨A9, c9, w9, hrun, hown9, hb9⟩ := append_all hs8 HEE.out.z hkk
        obtain ⟨gx, cx, w10, hrun2, hown10, hgrow10, hat10, hlt10⟩ := run_append_lies (P := Tryd.prog) (w9.alloc (.cells #[.int .i64 0, .int .i64 fk, .int .i64 (fk + 3)] 32)) 24 24 w8.heap.size 32 i0 _ 3 24 Tryd.underlying24 HII.out.1 HII.out.2.1 HII.out.2.2.1 HII.out.2.2.2 rfl (by omega) _ k _ (hown9.alloc _) ⟨w9.heap.size, 0, none⟩ 1 1 [.int .i64 0, .int .i64 fk, .int .i64 (fk + 3)] (by rfl) (World.news_of_block (cs := #[.int .i64 0, .int .i64 fk, .int .i64 (fk + 3)]) (t := 32) (fr := (0, 0)) (Blk.heap (Blk.new w9 _ _))) (by simp [Value.oneCell']) (by omega) (by unfold maxLen; omega) (by omega) (by have := hb9.size; simp; omega) (w9.heap.size + 1) (by simp)
        have HO10 := Lib.hid hown10
        have HB10 := Lib.hid ((hb9.alloc hb9.size (.cells #[.int .i64 0, .int .i64 fk, .int .i64 (fk + 3)] 32)).grown hgrow10 (by have := hb9.size; simp; omega) (fun j hj => (hown9.lt j hj).1))
        clear hs8 hown9 hb9 hown10 hgrow10 hat10
        go_wp2_with (at_builtin; first | refine wpList_append_eq rfl _ _ _ rfl _ _ _ rfl rfl hrun ?_ | refine wpList_append_eq rfl _ _ _ rfl _ _ _ rfl rfl hrun2 ?_)
        obtain ⟨sp2, od2, hl2, hrep2, hn2, ho2, hh2, hs2⟩ := HEE.out.more fb0 fb1 HO.out HO10.out
        have HBW10 := Lib.hid (HBW8.out.trans (HB10.out.mono HBW8.out.size))
        have HA3 := Lib.hid (Alloc_any w10 (some ⟨gx, 0, none⟩) sp2 cx hrep2 (by omega) hn2 (tab_below HT.out hW HBW10.out) (by have := HBW10.out.size; omega))
        rw [hl2] at HA3
        have HO2 := Lib.hid ho2
        have HH2 := Lib.hid hh2
        have HS2 := Lib.hid hs2
        have HL2 := Lib.hid hl2
        clear hrep2 hn2 ho2 hh2 hs2 hl2 hrun hrun2
        refine HA3.out.mono ?_
        rintro e w11 ⟨od3, Bc, ho3, hBc, he, hbc, hlc, hoc, hb11⟩
        obtain rfl := ho3.unique HO2.out
        rw [HS2.out, HL2.out] at he
        rw [HH2.out] at hbc
        subst he
        have HB11 := Lib.hid (HB10.out.trans (hb11.mono HB10.out.size))
        have HBW11 := Lib.hid (HBW8.out.trans (HB11.out.mono HBW8.out.size))
        have HBA11 := Lib.hid (HBA8.out.below HB11.out HBA8.out.lt)
        have HBB11 := Lib.hid (HBB.out.below HB11.out HBB.out.lt)
        have hra := RepH.of_blk HBA11.out
        have hrb := RepH.of_blk HBB11.out
        have hrc := (RepH.of_blk hbc).cut k
        rw [List.take_left' HLA.out] at hrc
        have hl1 : (allocF sp od).hs.length ≤ 1000000 := by rw [HLA.out]; omega
        have hH1 := fun p : Bel w11 => Homes_any p.val _ _ _ _ k k (hra.far p.le) (hrb.far p.le) hl1 hl1
        have hH2 := fun p : Bel w11 => Homes_any p.val _ _ _ _ (k + 1) k (hrc.far p.le) (hra.far p.le) hl1 hl1
        rw [HLA.out, decide_eq_true (rfl : (allocF sp od).hs = (allocF sp od).hs)] at hH1 hH2
        have HHA := Lib.hid (show ∀ p : Bel w11, Calls Tryd.prog 11 #[.slice (some ⟨Ba, 0, none⟩) k k, .slice (some ⟨Bb, 0, none⟩) k k] p.val fun e w' => e = .returned (.bool true) ∧ Below p.val.heap.size p.val w' from fun p => (hH1 p).mono fun e w' h => ⟨h.1, by obtain ⟨m, rfl⟩ := h.2; exact below_drewN (Below.refl _ _) m⟩)
        have HHB := Lib.hid (show ∀ p : Bel w11, Calls Tryd.prog 11 #[.slice (some ⟨Bc, 0, none⟩) k (k + 1), .slice (some ⟨Ba, 0, none⟩) k k] p.val fun e w' => e = .returned (.bool true) ∧ Below p.val.heap.size p.val w' from fun p => (hH2 p).mono fun e w' h => ⟨h.1, by obtain ⟨m, rfl⟩ := h.2; exact below_drewN (Below.refl _ _) m⟩)
        obtain ⟨q1, q2⟩ := hmCells_get ((allocF sp od).hs ++ [⟨false, 0⟩]) k ⟨false, 0⟩ (by rw [List.getElem?_append_right (by rw [HLA.out]; exact Nat.le_refl _), HLA.out, Nat.sub_self]; rfl)
        have cc1 := fun p : Bel w11 => bel_cell ((hbc.cell (k * 2)).trans (show _ = some (Value.bool false) by simpa using q1)) hbc.lt p
        have cc2 := fun p : Bel w11 => bel_cell ((hbc.cell (k * 2 + 1)).trans (show _ = some (Value.int .i64 0) by simpa using q2)) hbc.lt p
        have heq := fun w => (run_home_eql w false false 0 0).trans (show _ = .ok (.bool true) w from rfl)
        clear hbc hlc hoc hb11 hBc ho3 HA3 hra hrb hrc hl1 hH1 hH2 q1 q2
        generalize regsF (allocF sp od).hs = ra at *
        go_wp2_with fail
        refine region_bel (by kernel_rfl) (by kernel_rfl) ?_
        repeat (go_big_quiet_step (first | (go_at_call_of 11 (Value.slice (some ⟨Bb, 0, none⟩) k k); exact calls_bel (HHA.out _)) | (go_at_call_has 11 (Value.slice (some ⟨Bc, 0, none⟩) k (k + 1)); exact calls_bel (HHB.out _)) | (go_at_call 12; exact calls_bel (reg_any _ 0))))
        refine wpQuiet_nil ?_
        rintro _ ⟨pw, rfl⟩
        go_wp2_with fail
        go_ret
        exact ⟨rfl, HBW11.out.trans (pw.le.mono HBW11.out.size)⟩
    · have g1 : decide ((k : Int) < (l.length : Int)) = false := decide_eq_false (by omega)
      have hkk : k ≤ 100 := hk2
      have HBW := Lib.hid (HB1.out.trans (HM.out.bel.mono HB1.out.size))
      obtain ⟨A1, c1, A2, c2, sp, tp, rfl, rfl, hE⟩ := HM.out.ends HOK.out hk by0 by1 tm0 tm1
      obtain ⟨fb0, fb1⟩ := far_bd HOK.out k hk
      have HEE := Lib.hid hE
      have HA := Lib.hid (Alloc_any wr A1 sp c1 hE.rs (by have := hE.ls; omega) hE.ns (tab_below HT.out hW HBW.out) (by have := HBW.out.size; omega))
      rw [hE.ls] at HA
      generalize farL l k = fk at *
      clear hE hk2 HM
      go_wp2_with fail
      refine HA.out.mono ?_
      rintro e w7 ⟨od, Ba, ho, hBa, rfl, hba, hla, hoa, hb7⟩
      rw [HEE.out.ls] at hla ⊢
      have HBA := Lib.hid hba
      have HLA := Lib.hid hla
      have HO := Lib.hid ho
      have HB7 := Lib.hid hb7
      have HBW7 := Lib.hid (HBW.out.trans (hb7.mono HBW.out.size))
      have HA2 := Lib.hid (Alloc_any w7 A2 tp c2 (HEE.out.rt.far hb7) (by have := HEE.out.lt; omega) HEE.out.nt (tab_below HT.out hW HBW7.out) (by have := HBW7.out.size; omega))
      rw [HEE.out.lt] at HA2
      clear hba hla hoa ho hb7 hBa HA
      go_wp2_with fail
      refine HA2.out.mono ?_
      rintro e w8 ⟨od2, Bb, ho2, hBb, he, hbb, hlb, hob, hb8⟩
      obtain rfl := (HEE.out.alike.ordered HO.out).unique ho2
      rw [alloc_alike HEE.out.alike HO.out, HEE.out.lt] at he
      rw [alloc_alike HEE.out.alike HO.out] at hbb hlb
      subst he
      have HBB := Lib.hid hbb
      have HB8 := Lib.hid (HB7.out.trans (hb8.mono HB7.out.size))
      have HBA8 := Lib.hid (HBA.out.below hb8 HBA.out.lt)
      have HBW8 := Lib.hid (HBW7.out.trans (hb8.mono HBW7.out.size))
      have hs8 := own_below HEE.out.s HB8.out
      obtain ⟨A9, c9, w9, hrun, hown9, hb9⟩ := append_all hs8 HEE.out.z hkk
      obtain ⟨gx, cx, w10, hrun2, hown10, hgrow10, hat10, hlt10⟩ := run_append_lies (P := Tryd.prog) (w9.alloc (.cells #[.int .i64 0, .int .i64 fk, .int .i64 (fk + 3)] 32)) 24 24 w8.heap.size 32 i0 _ 3 24 Tryd.underlying24 HII.out.1 HII.out.2.1 HII.out.2.2.1 HII.out.2.2.2 rfl (by omega) _ k _ (hown9.alloc _) ⟨w9.heap.size, 0, none⟩ 1 1 [.int .i64 0, .int .i64 fk, .int .i64 (fk + 3)] (by rfl) (World.news_of_block (cs := #[.int .i64 0, .int .i64 fk, .int .i64 (fk + 3)]) (t := 32) (fr := (0, 0)) (Blk.heap (Blk.new w9 _ _))) (by simp [Value.oneCell']) (by omega) (by unfold maxLen; omega) (by omega) (by have := hb9.size; simp; omega) (w9.heap.size + 1) (by simp)
      have HO10 := Lib.hid hown10
      have HB10 := Lib.hid ((hb9.alloc hb9.size (.cells #[.int .i64 0, .int .i64 fk, .int .i64 (fk + 3)] 32)).grown hgrow10 (by have := hb9.size; simp; omega) (fun j hj => (hown9.lt j hj).1))
      clear hs8 hown9 hb9 hown10 hgrow10 hat10
      go_wp2_with (at_builtin; first | refine wpList_append_eq rfl _ _ _ rfl _ _ _ rfl rfl hrun ?_ | refine wpList_append_eq rfl _ _ _ rfl _ _ _ rfl rfl hrun2 ?_)
      obtain ⟨sp2, od2, hl2, hrep2, hn2, ho2, hh2, hs2⟩ := HEE.out.more fb0 fb1 HO.out HO10.out
      have HBW10 := Lib.hid (HBW8.out.trans (HB10.out.mono HBW8.out.size))
      have HA3 := Lib.hid (Alloc_any w10 (some ⟨gx, 0, none⟩) sp2 cx hrep2 (by omega) hn2 (tab_below HT.out hW HBW10.out) (by have := HBW10.out.size; omega))
      rw [hl2] at HA3
      have HO2 := Lib.hid ho2
      have HH2 := Lib.hid hh2
      have HS2 := Lib.hid hs2
      have HL2 := Lib.hid hl2
      clear hrep2 hn2 ho2 hh2 hs2 hl2 hrun hrun2
      refine HA3.out.mono ?_
      rintro e w11 ⟨od3, Bc, ho3, hBc, he, hbc, hlc, hoc, hb11⟩
      obtain rfl := ho3.unique HO2.out
      rw [HS2.out, HL2.out] at he
      rw [HH2.out] at hbc
      subst he
      have HB11 := Lib.hid (HB10.out.trans (hb11.mono HB10.out.size))
      have HBW11 := Lib.hid (HBW8.out.trans (HB11.out.mono HBW8.out.size))
      have HBA11 := Lib.hid (HBA8.out.below HB11.out HBA8.out.lt)
      have HBB11 := Lib.hid (HBB.out.below HB11.out HBB.out.lt)
      have hra := RepH.of_blk HBA11.out
      have hrb := RepH.of_blk HBB11.out
      have hrc := (RepH.of_blk hbc).cut k
      rw [List.take_left' HLA.out] at hrc
      have hl1 : (allocF sp od).hs.length ≤ 1000000 := by rw [HLA.out]; omega
      have hH1 := fun p : Bel w11 => Homes_any p.val _ _ _ _ k k (hra.far p.le) (hrb.far p.le) hl1 hl1
      have hH2 := fun p : Bel w11 => Homes_any p.val _ _ _ _ (k + 1) k (hrc.far p.le) (hra.far p.le) hl1 hl1
      rw [HLA.out, decide_eq_true (rfl : (allocF sp od).hs = (allocF sp od).hs)] at hH1 hH2
      have HHA := Lib.hid (show ∀ p : Bel w11, Calls Tryd.prog 11 #[.slice (some ⟨Ba, 0, none⟩) k k, .slice (some ⟨Bb, 0, none⟩) k k] p.val fun e w' => e = .returned (.bool true) ∧ Below p.val.heap.size p.val w' from fun p => (hH1 p).mono fun e w' h => ⟨h.1, by obtain ⟨m, rfl⟩ := h.2; exact below_drewN (Below.refl _ _) m⟩)
      have HHB := Lib.hid (show ∀ p : Bel w11, Calls Tryd.prog 11 #[.slice (some ⟨Bc, 0, none⟩) k (k + 1), .slice (some ⟨Ba, 0, none⟩) k k] p.val fun e w' => e = .returned (.bool true) ∧ Below p.val.heap.size p.val w' from fun p => (hH2 p).mono fun e w' h => ⟨h.1, by obtain ⟨m, rfl⟩ := h.2; exact below_drewN (Below.refl _ _) m⟩)
      obtain ⟨q1, q2⟩ := hmCells_get ((allocF sp od).hs ++ [⟨false, 0⟩]) k ⟨false, 0⟩ (by rw [List.getElem?_append_right (by rw [HLA.out]; exact Nat.le_refl _), HLA.out, Nat.sub_self]; rfl)
      have cc1 := fun p : Bel w11 => bel_cell ((hbc.cell (k * 2)).trans (show _ = some (Value.bool false) by simpa using q1)) hbc.lt p
      have cc2 := fun p : Bel w11 => bel_cell ((hbc.cell (k * 2 + 1)).trans (show _ = some (Value.int .i64 0) by simpa using q2)) hbc.lt p
      have heq := fun w => (run_home_eql w false false 0 0).trans (show _ = .ok (.bool true) w from rfl)
      clear hbc hlc hoc hb11 hBc ho3 HA3 hra hrb hrc hl1 hH1 hH2 q1 q2
      generalize regsF (allocF sp od).hs = ra at *
      go_wp2_with fail
      refine region_bel (by kernel_rfl) (by kernel_rfl) ?_
      repeat (go_big_quiet_step (first | (go_at_call_of 11 (Value.slice (some ⟨Bb, 0, none⟩) k k); exact calls_bel (HHA.out _)) | (go_at_call_has 11 (Value.slice (some ⟨Bc, 0, none⟩) k (k + 1)); exact calls_bel (HHB.out _)) | (go_at_call 12; exact calls_bel (reg_any _ 0))))
      refine wpQuiet_nil ?_
      rintro _ ⟨pw, rfl⟩
      go_wp2_with fail
      go_ret
      exact ⟨rfl, HBW11.out.trans (pw.le.mono HBW11.out.size)⟩
end Go.Proofs.YtfgdkeomjplnnaaDoor

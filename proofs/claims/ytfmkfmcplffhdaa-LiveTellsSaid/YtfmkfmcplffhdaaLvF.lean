/- live.local: the span of a local. Conditions: its scope's ends are small numbers. -/
import Derived.Test.YtfmkfmcplffhdaaLvE
import Derived.Test.YtfmkfmcplffhdaaLvR
import Derived.IntWalk
namespace Go.Proofs.Ytfmkfmcplffhdaa
set_option linter.unusedVariables false
open Go.RowKit Go.Shelf
attribute [local go_sem] Oper.semAt_some
attribute [local irreducible] Blk

structure Sp3 where
  v : Int
  fr : Int
  till : Int
  deriving DecidableEq
def Sp3.arr (s : Sp3) : Array Value := #[.int .i64 s.v, .int .i64 s.fr, .int .i64 s.till]
structure Lo4 where
  name : ByteArray
  ty : Int
  fr : Int
  till : Int
def Lo4.arr (x : Lo4) : Array Value := #[.string x.name, .int .i64 x.ty, .int .i64 x.fr, .int .i64 x.till]
def stepAt (l : List I9) (k : Nat) : Int := match l[k]? with
  | some i => i.step
  | none => 0
/-- Is this where the local is declared? -/
def isDecl (l : List I9) (v fr : Int) (t : T3) : Bool := decide (t.v = v) && t.made && decide (stepAt l t.at' = fr - 1)
def localL (l : List I9) (v : Int) (x : Lo4) (param : Bool) : Sp3 :=
  if param then ⟨v, 0, beginsN l x.till⟩ else
  match (touchL l).find? (isDecl l v x.fr) with
  | some t => ⟨v, t.at', beginsN l x.till⟩
  | none => ⟨v, beginsN l x.fr, beginsN l x.till⟩

theorem ret_plain {F : Fence} {n : Nat} {P : Program} {fn : Func} {R : Ending → World → Prop} {a : Act} {w : World} {v : Value} (hr : (results fn a.tmps).run P w = .ok v w) (hd : a.defers = []) (hR : R (.returned v) w) : bodyPostM F n P fn R .ret a w := by
  show LeavesInM F n P fn a.tmps R a.defers .returning w
  rw [hd]
  exact ⟨v, hr, hR⟩
theorem ret_mark {F : Fence} {n : Nat} {P : Program} {fn : Func} {R : Ending → World → Prop} {a : Act} {w : World} {v : Value} {D : Nat} (hK : w.heap[D]? = some (.deferred (some [])))
    (hr : (results fn a.tmps).run P (w.putObj D (.deferred none)) = .ok v (w.putObj D (.deferred none))) (hd : a.defers = [{ target := .collected D, args := #[] }]) (hR : R (.returned v) (w.putObj D (.deferred none))) : bodyPostM F n P fn R .ret a w := by
  show LeavesInM F n P fn a.tmps R a.defers .returning w
  rw [hd]
  exact ⟨by simp, .inl ⟨_, _, rfl, run_takeDeferred hK, v, hr, hR⟩⟩
theorem kpc_own {β : Type} (W0 : World) : Own (fun (_ : β) W => KpC W0 W) := fun s X Y row hs hg hrow =>
  ⟨Nat.le_trans hs.size hg.size, fun k o hk ho => by
    have hX := hs.same k o hk ho
    refine (hg.block k (Array.getElem?_eq_some_iff.1 hX).1 (fun e => ?_)).trans hX
    obtain ⟨o2, h2, h3⟩ := hrow k e.symm
    rw [hX] at h2
    cases h2
    rw [ho] at h3
    cases h3⟩
theorem keepsFrom_below {B : Nat} {W W' : World} (h : Below W.heap.size W W') : KeepsFrom B W W' := ⟨h.size, fun k o _ hk _ => (h.block k (Array.getElem?_eq_some_iff.1 hk).1).trans hk⟩
theorem drewN_below (W : World) (n : Nat) : Below W.heap.size W (W.drewN n) := below_drewN (Below.refl _ W) n
theorem blk_own {β : Type} (g : Nat) (t : TypeId) (f : β → Array Value) : Own (fun s W => Blk W g t (f s)) := fun s X Y row hs hg hrow => by
  refine Blk.of ((hg.block g hs.lt (fun e => ?_)).trans hs.heap)
  obtain ⟨o2, h2, h3⟩ := hrow g e.symm
  rw [hs.heap] at h2
  cases h2
  cases h3
theorem kpc_b {w : World} (W : World) (l : Nat) (o o' : Obj) (_ : w.heap.size ≤ l) (hl : W.heap[l]? = some o) (hc : o.isCells = false) (_ : o.isWalk = false) : KpC W (W.putObj l o') := KpC.putObj o' hl hc
theorem Blk.put {w : World} {g : Nat} {t : TypeId} {cs : Array Value} (h : Blk w g t cs) {k : Nat} (hk : g ≠ k) (o : Obj) : Blk (w.putObj k o) g t cs :=
  Blk.grown h (grownBy_putObj' w k o) (fun e => hk (Option.some.inj e))
theorem below_put {w W : World} (h : Below w.heap.size w W) {D : Nat} (hD : w.heap.size ≤ D) (o : Obj) : Below w.heap.size w (W.putObj D o) :=
  h.grown (grownBy_putObj' W D o) h.size (fun j e => by cases e; exact hD)
def SpanP (w : World) (s : Sp3) (e : Ending) (w' : World) : Prop := e = .returned (.agg s.arr) ∧ Below w.heap.size w w'

set_option maxRecDepth 100000 in
set_option maxHeartbeats 3200000 in
theorem local_any (w : World) (A : Option Addr) (l : List I9) (c : Nat) (v : Int) (x : Lo4) (param : Bool) (hll : l.length ≤ 1000000000) (hr : RepI w A l) (hf0 : -1000000 ≤ x.fr) (hf1 : x.fr ≤ 1000000) :
    Calls Try.prog 26 #[.slice A l.length c, .int .i64 v, .agg x.arr, .bool param] w (SpanP w (localL l v x param)) := by
  have HR := Lib.hid hr
  clear hr
  refine (callsIn_wide (n := 6)).1 ?_
  refine callsIn_of_wp_marks Try.func26 rfl trivial ?_ rfl
  simp only [Try.ntmps26, List.size_toArray, List.length_cons, List.length_nil, Nat.reduceAdd, Nat.reduceSub, Array.replicate_succ, Array.replicate_zero, List.push_toArray, List.append_toArray, List.nil_append, List.cons_append]
  refine wpIn_wide.2 ?_
  unfold Lo4.arr
  go_upto_region 1 with fail
  go_cut [9] from 9 to 16 (fun s9 wx => ∃ g, s9 = .pointer (some ⟨g, 0, none⟩) ∧ w.heap.size + 1 + 1 + 1 < g ∧ Blk wx g 54 (Sp3.arr ⟨v, 0, beginsN l x.till⟩) ∧ Blk wx w.heap.size 25 #[.slice A l.length c] ∧ Blk wx (w.heap.size + 1) 3 #[.int .i64 v] ∧ Blk wx (w.heap.size + 1 + 1) 57 x.arr ∧ Blk wx (w.heap.size + 1 + 1 + 1) 54 #[.int .i64 0, .int .i64 0, .int .i64 0] ∧ Below w.heap.size w wx)
  case first =>
    go_region_held3 (fun w' => w'.cell? ⟨w.heap.size + 1, 0, none⟩ = some (.int .i64 v) ∧ w'.cell? ⟨w.heap.size, 0, none⟩ = some (.slice A l.length c) ∧ w'.cell? ⟨w.heap.size + 1 + 1, 3, none⟩ = some (.int .i64 x.till))
      (first
        | (go_keep; done)
        | (refine ⟨?_, ?_, ?_⟩ <;> (repeat (refine (cell_far (by omega) _).trans ?_)) <;> exact cell_of_blk (by repeat (first | assumption | (refine Blk.newAt ?_; simp; done) | apply Blk.drew | apply Blk.alloc)) (by rfl)))
      (first
        | (go_at_call 13; refine (Begins_any _ A l c x.till ?_ hll).mono ?_; (focus (exact HR.out.far (by repeat (first | exact Below.refl _ _ | apply Below.drew | (refine Below.alloc ?_ (by simp <;> omega) _))))); rintro e w1 ⟨rfl, hb1⟩; have b0 : Blk w1 (w.heap.size) 25 #[.slice A l.length c] := Blk.below (by repeat (first | assumption | (refine Blk.newAt ?_; simp; done) | apply Blk.drew | apply Blk.alloc)) hb1 (by simp <;> omega); have b1 : Blk w1 (w.heap.size + 1) 3 #[.int .i64 v] := Blk.below (by repeat (first | assumption | (refine Blk.newAt ?_; simp; done) | apply Blk.drew | apply Blk.alloc)) hb1 (by simp <;> omega); have b2 : Blk w1 (w.heap.size + 1 + 1) 57 x.arr := Blk.below (by repeat (first | assumption | (refine Blk.newAt ?_; simp; done) | apply Blk.drew | apply Blk.alloc)) hb1 (by simp <;> omega); have b3 : Blk w1 (w.heap.size + 1 + 1 + 1) 54 #[.int .i64 0, .int .i64 0, .int .i64 0] := Blk.below (by repeat (first | assumption | (refine Blk.newAt ?_; simp; done) | apply Blk.drew | apply Blk.alloc)) hb1 (by simp <;> omega); have hB1 : Below w.heap.size w w1 := Below.trans (by repeat (first | exact Below.refl _ _ | apply Below.drew | (refine Below.alloc ?_ (by simp <;> omega) _))) (hb1.mono (by simp <;> omega)); refine (fun hz : Blk w1 (w.heap.size + 1 + 1 + 1 + 1) 54 #[.int .i64 0, .int .i64 0, .int .i64 0] => ?_) (Blk.below ?_ hb1 ?_); rotate_left; (focus (repeat (first | (refine Blk.newAt ?_; simp; done) | apply Blk.drew | apply Blk.alloc)); done); (focus (simp; done)); have z0 := hz.cell 0; have z1 := hz.cell 1; have z2 := hz.cell 2; have zf := hz.frozen; have zl := hz.lt; simp at z0 z1 z2)
        | (go_at_call 13; refine (Begins_any _ A l c x.till ?_ hll).mono ?_; (focus (exact HR.out.far (by repeat (first | exact Below.refl _ _ | apply Below.drew | (refine Below.alloc ?_ (by simp <;> omega) _))))); rintro e w1 ⟨rfl, hb1⟩; have b0 : Blk w1 (w.heap.size) 25 #[.slice A l.length c] := Blk.below (by repeat (first | assumption | (refine Blk.newAt ?_; simp; done) | apply Blk.drew | apply Blk.alloc)) hb1 (by simp <;> omega); have b1 : Blk w1 (w.heap.size + 1) 3 #[.int .i64 v] := Blk.below (by repeat (first | assumption | (refine Blk.newAt ?_; simp; done) | apply Blk.drew | apply Blk.alloc)) hb1 (by simp <;> omega); have b2 : Blk w1 (w.heap.size + 1 + 1) 57 x.arr := Blk.below (by repeat (first | assumption | (refine Blk.newAt ?_; simp; done) | apply Blk.drew | apply Blk.alloc)) hb1 (by simp <;> omega); have b3 : Blk w1 (w.heap.size + 1 + 1 + 1) 54 #[.int .i64 0, .int .i64 0, .int .i64 0] := Blk.below (by repeat (first | assumption | (refine Blk.newAt ?_; simp; done) | apply Blk.drew | apply Blk.alloc)) hb1 (by simp <;> omega); have hB1 : Below w.heap.size w w1 := Below.trans (by repeat (first | exact Below.refl _ _ | apply Below.drew | (refine Below.alloc ?_ (by simp <;> omega) _))) (hb1.mono (by simp <;> omega))))
    all_goals
      have hB1s := hB1.size
      go_wp2_with fail
      go_meet
    all_goals
      first
        | exact ⟨_, rfl, b3.lt, Blk.new w1 _ _, b0.alloc _, b1.alloc _, b2.alloc _, b3.alloc _, hB1.alloc hB1.size _⟩
        | exact ⟨_, rfl, by omega, Blk.set (Blk.set (Blk.set hz 0 _) 1 _) 2 _, Blk.far (Blk.far (Blk.far b0 (by simp <;> omega) _) (by simp <;> omega) _) (by simp <;> omega) _, Blk.far (Blk.far (Blk.far b1 (by simp <;> omega) _) (by simp <;> omega) _) (by simp <;> omega) _, Blk.far (Blk.far (Blk.far b2 (by simp <;> omega) _) (by simp <;> omega) _) (by simp <;> omega) _, Blk.far (Blk.far (Blk.far b3 (by simp <;> omega) _) (by simp <;> omega) _) (by simp <;> omega) _, ((hB1.setCell (p := ⟨w.heap.size + 1 + 1 + 1 + 1, 0, none⟩) (by simp <;> omega) _).setCell (p := ⟨w.heap.size + 1 + 1 + 1 + 1, 1, none⟩) (by simp <;> omega) _).setCell (p := ⟨w.heap.size + 1 + 1 + 1 + 1, 2, none⟩) (by simp <;> omega) _⟩
  case rest =>
    obtain ⟨g, rfl, hgN, hG, h0, h1, h2, h3, hB⟩ := hcut
    have g0 := hG.cell 0
    have g1 := hG.cell 1
    have g2 := hG.cell 2
    simp [Sp3.arr] at g0 g1 g2
    have gf := hG.frozen
    have gl := hG.lt
    have r0 := h3.cell 0
    have r1 := h3.cell 1
    have r2 := h3.cell 2
    simp at r0 r1 r2
    have rf := h3.frozen
    have rl := h3.lt
    cases param with
    | true =>
      go_wp2_with fail
      refine ret_plain (results_cell_row Try.results26 _ _ (w.heap.size + 1 + 1 + 1) 54 (Sp3.arr ⟨v, 0, beginsN l x.till⟩) (0, 0) _ (by rfl) (Blk.heap (Blk.set (Blk.set (Blk.set h3 0 _) 1 _) 2 _)) Try.underlying54 (by rfl) (by kernel_rfl)) rfl ?_
      exact ⟨rfl, ((hB.setCell (p := ⟨w.heap.size + 1 + 1 + 1, 0, none⟩) (by simp <;> omega) _).setCell (p := ⟨w.heap.size + 1 + 1 + 1, 1, none⟩) (by simp <;> omega) _).setCell (p := ⟨w.heap.size + 1 + 1 + 1, 2, none⟩) (by simp <;> omega) _⟩
    | false =>
      have a0 := h0.cell 0
      have a1 := h1.cell 0
      simp at a0 a1
      have hle0 := h0.lt
      go_wp2_with (go_at_call 27; refine (callsIn_wide.1 (touches_in _ 6 A l.length c)).mono ?_; rintro e w1 ⟨rfl, rfl⟩)
      have hsz0 : (wc.alloc (.cells #[.slice A l.length c] 25)).heap.size = wc.heap.size + 1 := by simp
      have hI0 := Blk.new wc 25 #[.slice A l.length c]
      have hR0 : RepI (wc.alloc (.cells #[.slice A l.length c] 25)) A l := (HR.out.far hB).far ((Below.refl _ _).alloc (Nat.le_refl _) _)
      have hB0 : Below w.heap.size w (wc.alloc (.cells #[.slice A l.length c] 25)) := hB.alloc hB.size _
      have hG0 := hG.alloc (.cells #[.slice A l.length c] 25)
      have h00 := h0.alloc (.cells #[.slice A l.length c] 25)
      have h10 := h1.alloc (.cells #[.slice A l.length c] 25)
      have h20 := h2.alloc (.cells #[.slice A l.length c] 25)
      have h30 := h3.alloc (.cells #[.slice A l.length c] 25)
      obtain ⟨W0, hW0⟩ : ∃ W0, wc.alloc (.cells #[.slice A l.length c] 25) = W0 := ⟨_, rfl⟩
      rw [hW0] at hsz0 hI0 hR0 hB0 hG0 h00 h10 h20 h30 ⊢
      clear hW0 g0 g1 g2 r0 r1 r2 a0 a1 gf rf hG h0 h1 h2 h3
      refine (wpIn_wide (n := 6)).1 ?_
      refine wpIn_rangeFunc_ownH rfl (by omega) (gf := 42) (lb := #[.pointer (some ⟨wc.heap.size, 0, none⟩)]) rfl trivial (enters_of Try.func42 (by kernel_rfl) rfl)
        (touches_stops (6 - 1) (by omega) wc.heap.size A l c hll W0 (by omega) (cell_of_blk hI0 (by rfl)) hR0) KpC.trans kpc_b (Below.refl _ _) (fun _ => rfl)
        (fun (pre : List (TA l)) W => ((∀ t ∈ pre, isDecl l v x.fr t.1 = false) ∧ KpC W0 W) ∧ Below w.heap.size w W)
        (fun cd (pre : List (TA l)) W => (cd = .ret ∧ ∃ q t, pre = q ++ [t] ∧ (∀ s ∈ q, isDecl l v x.fr s.1 = false) ∧ isDecl l v x.fr t.1 = true ∧ Blk W (w.heap.size + 1 + 1 + 1) 54 (Sp3.arr ⟨v, t.1.at', beginsN l x.till⟩)) ∧ Below w.heap.size w W)
        (OwnFrom.and (OwnFrom.and (ownFrom_pure _ _) (Own.from (kpc_own _) _)) (ownFrom_below (Nat.le_refl _) (by omega)))
        (fun cd => OwnFrom.and (fun s X Y row hs hg hr => by
          obtain ⟨e, q, t, e1, e2, e3, e4⟩ := hs
          exact ⟨e, q, t, e1, e2, e3, blk_own _ _ (fun (_ : Unit) => _) () X Y row e4 hg (fun r e => (hr r e).2)⟩) (ownFrom_below (Nat.le_refl _) (by omega)))
        ⟨⟨by simp, KpC.refl _⟩, hB0⟩
        (fun t a' W => ∃ Bx, Blk W Bx 80 t.1.arr ∧ a' = { tmps := #[.slice A l.length c, .int .i64 v, .agg #[.string x.name, .int .i64 x.ty, .int .i64 x.fr, .int .i64 x.till], .bool false, .pointer (some ⟨w.heap.size, 0, none⟩), .pointer (some ⟨w.heap.size + 1, 0, none⟩), .pointer (some ⟨w.heap.size + 1 + 1, 0, none⟩), undef, .pointer (some ⟨w.heap.size + 1 + 1 + 1, 0, none⟩), .pointer (some ⟨g, 0, none⟩), .pointer (some ⟨Bx, 0, none⟩), u11, u12, u13, u14, u15, u16, .bool false, undef, .slice A l.length c, .func (.func 42) #[] #[.pointer (some ⟨wc.heap.size, 0, none⟩)], .agg t.1.arr, undef, undef, undef, undef, undef, undef, undef, undef, undef, undef, undef, undef, undef, undef, undef, undef, undef, undef, undef, undef, undef, undef, undef, undef, undef, undef, undef, undef, undef, undef], defers := [] })
        (fun t a' _ X Y row hs hg hr => by obtain ⟨Bx, e1, e2⟩ := hs; exact ⟨Bx, blk_own _ _ (fun (_ : Unit) => _) () X Y row e1 hg (fun r e => (hr r e).2), e2⟩)
        ?assign ?body ?done ?stop
      case assign =>
        rintro q pre t W K ⟨⟨hp, hkp⟩, hBW⟩ hK
        unfold T3.arr at hK ⊢
        gi_wp2
        exact hK _ _ ((KeepsOthers.alloc _ _).from _) (KpC.of_below ((Below.refl _ W).alloc (Nat.le_refl _) _)) ⟨⟨hp, hkp.trans (KpC.of_below ((Below.refl _ W).alloc (Nat.le_refl _) _))⟩, hBW.alloc hBW.size _⟩ ⟨W.heap.size, Blk.new W _ _, rfl⟩
      case body =>
        rintro q pre t a' W hq ⟨r, hrr⟩ ⟨⟨hp, hkp⟩, hBW⟩ ⟨Bx, bX, rfl⟩ hlt
        have a0 := hkp.cell (cell_of_blk h00 (i := 0) (by rfl))
        have a1 := hkp.cell (cell_of_blk h10 (i := 0) (by rfl))
        have a2 := hkp.cell (cell_of_blk h20 (i := 2) (u := .int .i64 x.fr) (by rfl))
        have t0 := cell_of_blk bX (i := 0) (u := .int .i64 t.1.v) (by rfl)
        have t1 := cell_of_blk bX (i := 1) (u := .int .i64 (t.1.at' : Int)) (by rfl)
        have t2 := cell_of_blk bX (i := 2) (u := .bool t.1.made) (by rfl)
        have bXl := bX.lt
        obtain ⟨i, hi⟩ : ∃ i, l[t.1.at']? = some i := ⟨l[t.1.at']'(touch_at_lt t.2), List.getElem?_eq_getElem (touch_at_lt t.2)⟩
        have hlen0 : l ≠ [] := fun h => by have := touch_at_lt t.2; simp [h] at this
        have hst : stepAt l t.1.at' = i.step := by unfold stepAt; rw [hi]
        obtain ⟨b, o, rfl, hbl, hcs⟩ := (hR0.kpc hkp) hlen0
        have cs := hcs _ i hi 8 (.int .i64 i.step) rfl
        have k0 : (0 : Int) ≤ (t.1.at' : Int) := by omega
        have k1 : (t.1.at' : Int) < (l.length : Int) := by have := touch_at_lt t.2; omega
        have hsub : IntKind.i64.wrap (x.fr - 1) = x.fr - 1 := IntWalk.i64_in _ (by omega)
        have HDF := Lib.hid (show isDecl l v x.fr t.1 = (decide (t.1.v = v) && t.1.made && decide (stepAt l t.1.at' = x.fr - 1)) from rfl)
        rw [hst] at HDF
        clear hcs hi hst
        generalize t.1.v = tv at *
        generalize t.1.made = tm at *
        generalize hta : t.1.at' = ta at *
        have HTA := Lib.hid hta
        clear hta
        generalize i.step = si at *
        clear hlt
        by_cases d1 : tv = v
        · subst d1
          cases tm with
          | true =>
            by_cases d3 : si = x.fr - 1
            · have e3 : decide (si = x.fr - 1) = true := by simpa using d3
              have f3 : (si == x.fr - 1) = true := by simpa using d3
              have HF : isDecl l tv x.fr t.1 = true := by rw [HDF.out]; simp [d3]
              have HF2 := Lib.hid HF
              clear HF
              have g0 := hkp.blk hG0
              have r0 := hkp.blk h30
              have gf := g0.frozen
              have gl := g0.lt
              have gg0 := g0.cell 0
              have gg1 := g0.cell 1
              have gg2 := g0.cell 2
              have rf := r0.frozen
              have rl := r0.lt
              have rr0 := r0.cell 0
              have rr1 := r0.cell 1
              have rr2 := r0.cell 2
              simp [Sp3.arr] at gg0 gg1 gg2 rr0 rr1 rr2
              gi_wp2
              refine quiet_inRound (F := Fence.wide) rfl (by kernel_rfl) (by kernel_rfl) (by kernel_rfl) ?_
              repeat (gi_big_quiet_step (fail))
              refine wpQuietIn_nil ?_
              rintro _ ⟨nq, rfl⟩
              gi_wp2
              refine ⟨?_, ⟨rfl, pre, t, rfl, hp, HF2.out, ?_⟩, ?_⟩
              · exact ((((keepsFrom_below (drewN_below W nq)).trans ((KeepsOthers.setCell _ _ _).from _)).trans ((KeepsOthers.setCell _ _ _).from _)).trans ((KeepsOthers.setCell _ _ _).from _)).trans ((KeepsOthers.setCell _ _ _).from _)
              · rw [HTA.out]
                exact Blk.set (Blk.set (Blk.set (Blk.far (p := ⟨g, 1, none⟩) (Blk.below r0 (drewN_below W nq) rl) (by simp; omega) _) 0 _) 1 _) 2 _
              · exact ((((below_drewN hBW nq).setCell (p := ⟨g, 1, none⟩) (by simp; omega) _).setCell (p := ⟨w.heap.size + 1 + 1 + 1, 0, none⟩) (by simp; omega) _).setCell (p := ⟨w.heap.size + 1 + 1 + 1, 1, none⟩) (by simp; omega) _).setCell (p := ⟨w.heap.size + 1 + 1 + 1, 2, none⟩) (by simp; omega) _
            · have e3 : decide (si = x.fr - 1) = false := by simpa using d3
              have f3 : (si == x.fr - 1) = false := by simpa using d3
              have HF := Lib.hid (show isDecl l tv x.fr t.1 = false by rw [HDF.out]; simp [d3])
              gi_wp2
              refine quiet_inRound (F := Fence.wide) rfl (by kernel_rfl) (by kernel_rfl) (by kernel_rfl) ?_
              repeat (gi_big_quiet_step (fail))
              refine wpQuietIn_nil ?_
              rintro _ ⟨nq, rfl⟩
              gi_wp2
              exact ⟨keepsFrom_below (drewN_below W _), KpC.of_below (drewN_below W _), ⟨⟨fun s hs => (List.mem_append.1 hs).elim (hp s) (fun e => by simp at e; subst e; exact HF.out), hkp.trans (KpC.of_below (drewN_below W _))⟩, below_drewN hBW _⟩⟩
          | false =>
            have HF := Lib.hid (show isDecl l tv x.fr t.1 = false by rw [HDF.out]; simp)
            gi_wp2
            refine quiet_inRound (F := Fence.wide) rfl (by kernel_rfl) (by kernel_rfl) (by kernel_rfl) ?_
            repeat (gi_big_quiet_step (fail))
            refine wpQuietIn_nil ?_
            rintro _ ⟨nq, rfl⟩
            gi_wp2
            exact ⟨keepsFrom_below (drewN_below W _), KpC.of_below (drewN_below W _), ⟨⟨fun s hs => (List.mem_append.1 hs).elim (hp s) (fun e => by simp at e; subst e; exact HF.out), hkp.trans (KpC.of_below (drewN_below W _))⟩, below_drewN hBW _⟩⟩
        · have e1 : decide (tv = v) = false := by simpa using d1
          have f1 : (tv == v) = false := by simpa using d1
          have HF := Lib.hid (show isDecl l v x.fr t.1 = false by rw [HDF.out]; simp [d1])
          gi_wp2
          refine quiet_inRound (F := Fence.wide) rfl (by kernel_rfl) (by kernel_rfl) (by kernel_rfl) ?_
          repeat (gi_big_quiet_step (fail))
          refine wpQuietIn_nil ?_
          rintro _ ⟨nq, rfl⟩
          gi_wp2
          exact ⟨keepsFrom_below (drewN_below W _), KpC.of_below (drewN_below W _), ⟨⟨fun s hs => (List.mem_append.1 hs).elim (hp s) (fun e => by simp at e; subst e; exact HF.out), hkp.trans (KpC.of_below (drewN_below W _))⟩, below_drewN hBW _⟩⟩
      case done =>
        rintro D ys W hD hys ⟨⟨hp, hkp⟩, hBW⟩ hK
        have hnone : (touchL l).find? (isDecl l v x.fr) = none := by
          rw [List.find?_eq_none]
          intro t ht
          rw [← hys] at ht
          obtain ⟨s, hs, rfl⟩ := List.mem_map.1 ht
          simp [hp s hs]
        have HL := Lib.hid (show localL l v x false = ⟨v, beginsN l x.fr, beginsN l x.till⟩ by unfold localL; rw [hnone]; simp)
        have HRW := Lib.hid (hR0.kpc hkp)
        have a0 := hkp.cell (cell_of_blk h00 (i := 0) (by rfl))
        have a2 := hkp.cell (cell_of_blk h20 (i := 2) (u := .int .i64 x.fr) (by rfl))
        have g0 := hkp.blk hG0
        have r0 := hkp.blk h30
        have gl := g0.lt
        have rl := r0.lt
        have hWD : D < W.heap.size := (Array.getElem?_eq_some_iff.1 hK).1
        clear hnone hp hys hkp hR0
        go_wp2_with (go_at_call 13; refine (Begins_any _ A l c x.fr HRW.out hll).mono ?_; rintro e w2 ⟨rfl, hb2⟩; have hKD := (hb2.block D hWD).trans hK; have G2 := g0.below hb2 gl; have R2 := r0.below hb2 rl; have G2f := G2.frozen; have G2l := G2.lt; have R2f := R2.frozen; have R2l := R2.lt; have G20 := G2.cell 0; have G21 := G2.cell 1; have G22 := G2.cell 2; have R20 := R2.cell 0; have R21 := R2.cell 1; have R22 := R2.cell 2; simp [Sp3.arr] at G20 G21 G22 R20 R21 R22)
        rw [HL.out]
        have RF := Blk.put (Blk.set (Blk.set (Blk.set (Blk.far (p := ⟨g, 1, none⟩) R2 (by simp; omega) (.int .i64 (beginsN l x.fr))) 0 (.int .i64 v)) 1 (.int .i64 (beginsN l x.fr))) 2 (.int .i64 (beginsN l x.till))) (k := D) (by omega) (.deferred none)
        refine ret_mark (D := D) (v := .agg (Sp3.arr ⟨v, beginsN l x.fr, beginsN l x.till⟩)) ?_ ?_ rfl ?_
        · exact ((((KeepsOthers.setCell _ _ _).trans (KeepsOthers.setCell _ _ _)).trans (KeepsOthers.setCell _ _ _)).trans (KeepsOthers.setCell _ _ _)).same D _ hKD rfl
        · exact results_cell_row Try.results26 _ _ (w.heap.size + 1 + 1 + 1) 54 (Sp3.arr ⟨v, beginsN l x.fr, beginsN l x.till⟩) (0, 0) _ (by rfl) (Blk.heap RF) Try.underlying54 (by rfl) (by kernel_rfl)
        · refine ⟨rfl, below_put ?_ (by omega) _⟩
          exact (((((hBW.trans (hb2.mono hBW.size)).setCell (p := ⟨g, 1, none⟩) (by simp; omega) _).setCell (p := ⟨w.heap.size + 1 + 1 + 1, 0, none⟩) (by simp; omega) _).setCell (p := ⟨w.heap.size + 1 + 1 + 1, 1, none⟩) (by simp; omega) _).setCell (p := ⟨w.heap.size + 1 + 1 + 1, 2, none⟩) (by simp; omega) _)
      case stop =>
        rintro D cd pre W hD hpre ⟨⟨rfl, q, t, rfl, hq, ht, hb⟩, hBW⟩ hK
        have HL := Lib.hid (show localL l v x false = ⟨v, t.1.at', beginsN l x.till⟩ by
          unfold localL
          have : (touchL l).find? (isDecl l v x.fr) = some t.1 := by
            obtain ⟨r, hr⟩ := hpre
            suffices hgen : ∀ L : List T3, (q ++ [t]).map (·.1) ++ r = L → L.find? (isDecl l v x.fr) = some t.1 from hgen _ hr
            rintro L rfl
            rw [List.map_append, List.append_assoc, List.find?_append]
            have h1 : (q.map (·.1)).find? (isDecl l v x.fr) = none := by
              rw [List.find?_eq_none]
              intro z hz
              obtain ⟨s, hs, rfl⟩ := List.mem_map.1 hz
              simp [hq s hs]
            rw [h1]
            simp [ht]
          rw [this]
          simp)
        rw [HL.out]
        gi_wp2
        have RF := Blk.put hb (k := D) (by omega) (.deferred none)
        refine ret_mark (D := D) (v := .agg (Sp3.arr ⟨v, t.1.at', beginsN l x.till⟩)) hK ?_ rfl ?_
        · exact results_cell_row Try.results26 _ _ (w.heap.size + 1 + 1 + 1) 54 (Sp3.arr ⟨v, t.1.at', beginsN l x.till⟩) (0, 0) _ (by rfl) (Blk.heap RF) Try.underlying54 (by rfl) (by kernel_rfl)
        · exact ⟨rfl, below_put hBW (by omega) _⟩
end Go.Proofs.Ytfmkfmcplffhdaa

/- ploverlaw19.made. Conditions: the bytes are bytes. -/
import Derived.Test.YtfmkfmcplffhdaaLvQ
namespace Go.Proofs.Ytfmkfmcplffhdaa
set_option linter.unusedVariables false
open Go.RowKit
attribute [local irreducible] Blk

/-- A slice of bytes. -/
def RepU (w : World) (D : Option Addr) (l : List Nat) : Prop := l ≠ [] → ∃ b o, D = some ⟨b, o, none⟩ ∧ b < w.heap.size ∧ ∀ (j y : Nat), l[j]? = some y → w.cell? ⟨b, o + j, none⟩ = some (.int .u8 (y : Int))
/-- A slice of steps. -/
def RepSt (w : World) (A : Option Addr) (s : List StepD) : Prop := s ≠ [] → ∃ b o, A = some ⟨b, o, none⟩ ∧ b < w.heap.size ∧ ∀ (k : Nat) (x : StepD), s[k]? = some x →
  w.cell? ⟨b, o + k * 3, none⟩ = some (.int .u8 (x.kind : Int)) ∧ w.cell? ⟨b, o + k * 3 + 1, none⟩ = some (.int .u8 (x.set : Int)) ∧ ∃ D c2, w.cell? ⟨b, o + k * 3 + 2, none⟩ = some (.slice D x.ops.length c2) ∧ RepU w D x.ops
def OkSt (s : List StepD) : Prop := ∀ x ∈ s, x.kind < 256 ∧ x.set < 256 ∧ (∀ y ∈ x.ops, y < 256) ∧ x.ops.length ≤ 9223372036854775807
theorem RepU.far {w w' : World} {A : Option Addr} {l : List Nat} (h : RepU w A l) (hb : Below w.heap.size w w') : RepU w' A l := fun hne => by
  obtain ⟨b, o, hA, hl, hall⟩ := h hne
  exact ⟨b, o, hA, Nat.lt_of_lt_of_le hl hb.size, fun j y hy => (hb.cell (p := ⟨b, _, none⟩) hl).trans (hall j y hy)⟩
theorem RepSt.far {w w' : World} {A : Option Addr} {l : List StepD} (h : RepSt w A l) (hb : Below w.heap.size w w') : RepSt w' A l := fun hne => by
  obtain ⟨b, o, hA, hl, hall⟩ := h hne
  refine ⟨b, o, hA, Nat.lt_of_lt_of_le hl hb.size, fun k x hx => ?_⟩
  obtain ⟨h1, h2, D, c2, h3, h4⟩ := hall k x hx
  exact ⟨(hb.cell (p := ⟨b, _, none⟩) hl).trans h1, (hb.cell (p := ⟨b, _, none⟩) hl).trans h2, D, c2, (hb.cell (p := ⟨b, _, none⟩) hl).trans h3, h4.far hb⟩
theorem own_lo {w : World} {g base : Nat} {cs : Array Value} {xs : List Value} (h : Blk w g 57 cs) (hb : base ≤ g) (hc : cs.toList = xs) (hl : cs.size = 2 * 4) : w.ownsRow base 57 4 (.slice (some ⟨g, 0, none⟩) 2 2) 2 xs := by
  refine ⟨by rw [← hc]; simp [hl], .inr ⟨g, 2, cs, rfl, hb, h.heap, Nat.le_refl _, by unfold maxLen; omega, by omega, ?_⟩⟩
  rw [← hc, List.take_of_length_le]
  simp [hl]
def MadeP (w : World) (c : CodeS) (e : Ending) (w' : World) : Prop := ∃ C lv xv ov, e = .returned (.pointer (some ⟨C, 0, none⟩)) ∧ CodeAt w.heap.size w' C c lv xv ov ∧ w.heap.size ≤ C ∧ Below w.heap.size w w'
theorem getD_of {α : Type} {l : List α} {k : Nat} {x d : α} (h : l[k]? = some x) : l.getD k d = x := by rw [List.getD, h]; rfl

theorem app_run {B0 : Nat} {W : World} {C : Nat} {c : CodeS} {lv xv ov : Value} (h : CodeAt B0 W C c lv xv ov) (hB : B0 ≤ C) (hll : c.l.length ≤ 100000) (x0 x1 x2 x3 x4 x5 x6 x7 x8 : Int) :
    ∃ g cap w', (Builtin.append_ #[25, 25] 25 #[lv, .slice (some ⟨W.heap.size, 0, none⟩) 1 1]).run Try.prog ((W.alloc (.cells #[.int .i64 x0, .int .i64 x1, .int .i64 x2, .int .i64 x3, .int .i64 x4, .int .i64 x5, .int .i64 x6, .int .i64 x7, .int .i64 x8] 33)).drew) = .ok (.slice (some ⟨g, 0, none⟩) (c.l.length + 1) cap) w' ∧
      CodeAt B0 (w'.setCell ⟨C, 0, none⟩ (.slice (some ⟨g, 0, none⟩) (c.l.length + 1) cap)) C { c with l := c.l ++ [⟨x0, x1, x2, x3, x4, x5, x6, x7, x8⟩] } (.slice (some ⟨g, 0, none⟩) (c.l.length + 1) cap) xv ov ∧
      w'.cell? ⟨C, 0, none⟩ = some lv ∧ (∀ i, w'.frozen? ⟨C, i, none⟩ = false) ∧ (∀ w0, Below B0 w0 W → Below B0 w0 (w'.setCell ⟨C, 0, none⟩ (.slice (some ⟨g, 0, none⟩) (c.l.length + 1) cap))) := by
  obtain ⟨i0, hi0, hz0, hz1, hz2⟩ := info_parts infoIns
  have hC := h.blk.lt
  have h2 := (h.alloc (.cells #[.int .i64 x0, .int .i64 x1, .int .i64 x2, .int .i64 x3, .int .i64 x4, .int .i64 x5, .int .i64 x6, .int .i64 x7, .int .i64 x8] 33)).drew
  obtain ⟨g, cap, w1, hrun, hown1, hgrow1, hat1, hlt1⟩ := run_append_lies (P := Try.prog) _ 25 25 B0 33 i0 _ 9 72 Try.underlying25 hi0 hz0 hz1 hz2 rfl (by omega) lv c.l.length (insCells c.l) h2.l ⟨W.heap.size, 0, none⟩ 1 1 [.int .i64 x0, .int .i64 x1, .int .i64 x2, .int .i64 x3, .int .i64 x4, .int .i64 x5, .int .i64 x6, .int .i64 x7, .int .i64 x8] (by rfl) (World.news_of_block (cs := #[.int .i64 x0, .int .i64 x1, .int .i64 x2, .int .i64 x3, .int .i64 x4, .int .i64 x5, .int .i64 x6, .int .i64 x7, .int .i64 x8]) (t := 33) (fr := (0, 0)) (Blk.heap (Blk.drew (Blk.new W _ _)))) (by simp [Value.oneCell']) (by omega) (by unfold maxLen; omega) (by omega) (by simp; omega) (W.heap.size + 1) (by simp)
  have B1 := h2.blk.grown hgrow1 (Ne.symm h2.nl)
  refine ⟨g, cap, w1, hrun, h2.pushL (new := [⟨x0, x1, x2, x3, x4, x5, x6, x7, x8⟩]) rfl hown1 hgrow1 hat1 (by simp), by have := B1.cell 0; simpa using this, B1.frozen, fun w0 hb => ?_⟩
  exact (((hb.alloc (by omega) _).drew).grown hgrow1 (by simp; omega) (fun k hk => (h.l.lt k hk).1)).setCell (by exact hB) _
theorem RepSt.at {w : World} {b o : Nat} {s : List StepD} (h : RepSt w (some ⟨b, o, none⟩) s) {k : Nat} {x : StepD} (hx : s[k]? = some x) : w.cell? ⟨b, o + k * 3, none⟩ = some (.int .u8 (x.kind : Int)) ∧ w.cell? ⟨b, o + k * 3 + 1, none⟩ = some (.int .u8 (x.set : Int)) ∧ ∃ D c2, w.cell? ⟨b, o + k * 3 + 2, none⟩ = some (.slice D x.ops.length c2) ∧ RepU w D x.ops := by
  obtain ⟨b', o', hA, _, hall⟩ := h (fun e => by rw [e] at hx; simp at hx)
  cases hA
  exact hall k x hx
theorem cell_eq2 {w w' : World} {a : Addr} {u v : Value} (h : w.cell? a = some u) (h' : w.cell? a = some v) : u = v := Option.some.inj (h.symm.trans h')
theorem shutTo_length (lo : List Lo4) (opn : List Int) (n : Int) : ∀ k, (shutTo lo opn n k).length = lo.length
  | 0 => rfl
  | k + 1 => by rw [shutTo, setTill_length, shutTo_length lo opn n k]
theorem CodeAt.setTo {B0 : Nat} {w : World} {C : Nat} {c : CodeS} {lv ov : Value} {gx n cap : Nat} (h : CodeAt B0 w C c lv (.slice (some ⟨gx, 0, none⟩) n cap) ov) (hn : n = c.lo.length) (hgx : B0 ≤ gx) (k : Nat) (hk : k < c.lo.length) (t : Int) :
    CodeAt B0 (w.setCell ⟨gx, k * 4 + 3, none⟩ (.int .i64 t)) C { c with lo := setTill c.lo (k : Int) t } lv (.slice (some ⟨gx, 0, none⟩) n cap) ov := by
  subst hn
  have nC : C ≠ gx := fun e => h.nx (by rw [e]; rfl)
  have nl : lv.ownBlock ≠ some gx := by
    rcases own_ne h.l h.lo (by decide) with h1 | h1
    · rw [h1]; simp
    · exact h1
  have no : ov.ownBlock ≠ some gx := by
    rcases own_ne h.opn h.lo (by decide) with h1 | h1
    · rw [h1]; simp
    · exact h1
  refine ⟨h.blk.far nC _, setRow_own h.l _ _ nl, ?_, setRow_own h.opn _ _ no⟩
  have h1 := (h.lo.stored (k * 4 + 3) (.int .i64 t)).1
  rw [← loCells_set _ _ hk] at h1
  simpa [setTill] using h1
theorem lo_get {c : CodeS} {n : Nat} (h : Fit0 c n) : 0 < c.lo.length := by
  have := h.opn (c.opn[0]'(by have := h.two; omega)) (List.getElem_mem _)
  omega
set_option maxRecDepth 100000 in
set_option maxHeartbeats 6400000 in
theorem made_any (w : World) (A : Option Addr) (s : List StepD) (cp : Nat) (hA : RepSt w A s) (hok : OkSt s) (hl : s.length ≤ 9223372036854775807) :
    Calls Try.prog 19 #[.slice A s.length cp] w (MadeP w (madeS s)) := by
  have HA := Lib.hid hA
  have HOK := Lib.hid hok
  clear hA hok
  have HI := info_parts infoIns
  obtain ⟨n, hn⟩ : ∃ n, madeN s = n := ⟨_, rfl⟩
  have hns : n ≤ s.length := by rw [← hn]; exact Nat.min_le_left _ _
  have hn20 : n ≤ 20 := by rw [← hn]; exact Nat.min_le_right _ _
  have hmin : min ((s.length : Nat) : Int) 20 = (n : Int) := by rw [← hn]; unfold madeN; omega
  have HN := Lib.hid hn
  clear hn
  go_enter Try.func19, Try.ntmps19
  go_wp2_with fail
  clear hmin
  have h1 : CodeAt w.heap.size (((w.alloc (.cells (loCells [lo0, lo0]).toArray 57)).alloc (.cells #[.int .i64 0, .int .i64 1] 3)).alloc (.cells #[.slice none 0 0, .slice (some ⟨w.heap.size, 0, none⟩) 2 2, .slice (some ⟨w.heap.size + 1, 0, none⟩) 2 2] 46)) (w.heap.size + 1 + 1) code0 (.slice none 0 0) (.slice (some ⟨w.heap.size, 0, none⟩) 2 2) (.slice (some ⟨w.heap.size + 1, 0, none⟩) 2 2) :=
    ⟨Blk.newAt (by simp), World.ownsRow_nil _ _ _ _, own_lo (((Blk.new w _ _).alloc _).alloc _) (Nat.le_refl _) rfl rfl, own_of_blk ((Blk.newAt (by simp)).alloc _) (by omega) (by unfold maxLen; omega) rfl rfl⟩
  have hb1 : Below w.heap.size w (((w.alloc (.cells (loCells [lo0, lo0]).toArray 57)).alloc (.cells #[.int .i64 0, .int .i64 1] 3)).alloc (.cells #[.slice none 0 0, .slice (some ⟨w.heap.size, 0, none⟩) 2 2, .slice (some ⟨w.heap.size + 1, 0, none⟩) 2 2] 46)) :=
    (((Below.refl _ w).alloc (Nat.le_refl _) _).alloc (by simp) _).alloc (by simp; omega) _
  have hW : ∀ (K : World → Prop), (∀ W C, CodeAt w.heap.size W C code0 (.slice none 0 0) (.slice (some ⟨w.heap.size, 0, none⟩) 2 2) (.slice (some ⟨w.heap.size + 1, 0, none⟩) 2 2) → True) → True := fun _ _ => trivial
  obtain ⟨W1, hW1⟩ : ∃ W1, ((w.alloc (.cells (loCells [lo0, lo0]).toArray 57)).alloc (.cells #[.int .i64 0, .int .i64 1] 3)).alloc (.cells #[.slice none 0 0, .slice (some ⟨w.heap.size, 0, none⟩) 2 2, .slice (some ⟨w.heap.size + 1, 0, none⟩) 2 2] 46) = W1 := ⟨_, rfl⟩
  have hW1' : ((w.alloc (.cells #[.string ⟨#[]⟩, .int .i64 0, .int .i64 0, .int .i64 0, .string ⟨#[]⟩, .int .i64 0, .int .i64 0, .int .i64 0] 57)).alloc (.cells #[.int .i64 0, .int .i64 1] 3)).alloc (.cells #[.slice none 0 0, .slice (some ⟨w.heap.size, 0, none⟩) 2 2, .slice (some ⟨w.heap.size + 1, 0, none⟩) 2 2] 46) = W1 := hW1
  rw [hW1] at h1 hb1
  rw [hW1']
  clear hW1 hW1' hW
  have H1 := Lib.hid h1
  have HB1 := Lib.hid hb1
  have HA1 := Lib.hid (HA.out.far hb1)
  have hbs := hb1.size
  clear h1 hb1
  go_loopw [5, 6] (fun m i wr => ∃ k : Nat, k ≤ n ∧ i = .int .i64 (k : Int) ∧ m = .int .i64 (manyTo s k) ∧ wr = W1) (fun _ i _ => n - (intOf i).toNat)
  case atStart => exact ⟨0, Nat.zero_le _, rfl, rfl, rfl⟩
  case round =>
    obtain ⟨k, hk, rfl, rfl, rfl⟩ := hrel
    by_cases hlt : k < n
    · obtain ⟨x, hx⟩ : ∃ x, s[k]? = some x := ⟨s[k], List.getElem?_eq_getElem (by omega)⟩
      obtain ⟨b, o, rfl, hb, hall⟩ := HA1.out (by intro h; rw [h] at hx; simp at hx)
      obtain ⟨c0, _, _, _, _, _⟩ := hall k x hx
      obtain ⟨hx1, _, _, _⟩ := HOK.out x (List.mem_of_getElem? hx)
      have k0 : (0 : Int) ≤ (k : Int) := by omega
      have k1 : (k : Int) < (n : Int) := by omega
      have k2 : (k : Int) < (s.length : Int) := by omega
      have y0 : (0 : Int) ≤ (x.kind : Int) := by omega
      have y1 : (x.kind : Int) < 256 := by omega
      have hmb := many_le s k
      have HD := Lib.hid (show manyTo s (k + 1) = if x.kind % 4 = 0 then manyTo s k + 1 else manyTo s k by rw [manyTo, getD_of hx])
      obtain ⟨m0, m1⟩ := hmb
      clear hall hx
      generalize manyTo s k = mk at *
      by_cases h4 : x.kind % 4 = 0
      · have f0 : (((x.kind : Nat) : Int) % 4 == 0) = true := by simp; omega
        have HD2 := HD.out
        rw [if_pos h4] at HD2
        have HD2 := Lib.hid HD2
        clear h4
        go_wp2_with fail
        go_roundw
        case rel => exact ⟨k + 1, by omega, by go_num, by rw [HD2.out], trivial⟩
        case measure => simp [intOf]; omega
      · have f0 : (((x.kind : Nat) : Int) % 4 == 0) = false := by simp; omega
        have HD2 := HD.out
        rw [if_neg h4] at HD2
        have HD2 := Lib.hid HD2
        clear h4
        go_wp2_with fail
        go_roundw
        case rel => exact ⟨k + 1, by omega, by go_num, by rw [HD2.out], trivial⟩
        case measure => simp [intOf]; omega
    · have hn : ¬ ((k : Int) < (n : Int)) := by omega
      have hke : k = n := by omega
      subst hke
      go_wp2_with fail
      have HB1s := HB1.out.size
      have hC0 : w.heap.size ≤ w.heap.size + 1 + 1 := by omega
      generalize w.heap.size + 1 + 1 = C at *
      have hm0 := (many_le s k).1
      have hm1 := (many_le s k).2
      have HMS := Lib.hid (show madeM s = stepsTo s ⟨code0, manyTo s k⟩ k by unfold madeM; rw [HN.out])
      have HST := Lib.hid (show ∀ i, Fit0 (stepsTo s ⟨code0, manyTo s k⟩ i).c i from fun i => fit_steps s (manyTo s k) i)
      have HNX := Lib.hid (show ∀ i : Nat, manyTo s k ≤ (stepsTo s ⟨code0, manyTo s k⟩ i).next ∧ (stepsTo s ⟨code0, manyTo s k⟩ i).next ≤ manyTo s k + 6 * i from fun i => next_steps s (manyTo s k) (by omega) i)
      have HSS := Lib.hid (show ∀ i, stepsTo s ⟨code0, manyTo s k⟩ (i + 1) = stepS (stepsTo s ⟨code0, manyTo s k⟩ i) i (s.getD i ⟨0, 0, []⟩) from fun _ => rfl)
      have HS0 := Lib.hid (show (stepsTo s ⟨code0, manyTo s k⟩ 0).next = manyTo s k ∧ (stepsTo s ⟨code0, manyTo s k⟩ 0).c = code0 from ⟨rfl, rfl⟩)
      generalize hmk : manyTo s k = mk at *
      clear hmk
      generalize hst : stepsTo s ⟨code0, mk⟩ = st at *
      clear hst
      clear HA1 hbs hn hlt
      go_loopw [7, 8] (fun nx i wr => ∃ q : Nat, q ≤ k ∧ i = .int .i64 (q : Int) ∧ nx = .int .i64 (st q).next ∧ (∃ lv xv ov, CodeAt w.heap.size wr C (st q).c lv xv ov) ∧ Below w.heap.size w wr) (fun _ i _ => k - (intOf i).toNat)
      case atStart => exact ⟨0, Nat.zero_le _, rfl, by rw [HS0.out.1], ⟨_, _, _, by rw [HS0.out.2]; exact H1.out⟩, HB1.out⟩
      case round =>
        obtain ⟨q, hq, rfl, rfl, ⟨lv, xv, ov, hc⟩, hbr⟩ := hrel
        by_cases hlt : q < k
        · obtain ⟨x, hx⟩ : ∃ x, s[q]? = some x := ⟨s[q], List.getElem?_eq_getElem (by omega)⟩
          obtain ⟨b, o, rfl, hb, _⟩ := HA.out (by intro h; rw [h] at hx; simp at hx)
          have hf := HST.out q
          obtain ⟨n0, n1⟩ := HNX.out q
          have HSQ := HSS.out q
          rw [getD_of hx] at HSQ
          have HSQ := Lib.hid HSQ
          have HX := Lib.hid hx
          obtain ⟨hx1, hx2, hx3, hx4⟩ := HOK.out x (List.mem_of_getElem? hx)
          have HX3 := Lib.hid hx3
          have q0 : (0 : Int) ≤ (q : Int) := by omega
          have q1 : (q : Int) < (k : Int) := by omega
          have q2 : (q : Int) < (s.length : Int) := by omega
          clear hx hx3
          generalize st q = sq at *
          obtain ⟨c, nx⟩ := sq
          simp only at hc hf n0 n1 HSQ ⊢
          have hbs := hbr.size
          have hCl := hc.blk.lt
          have b0 := hc.blk.cell 0
          have b1 := hc.blk.cell 1
          have b2 := hc.blk.cell 2
          have bf := hc.blk.frozen
          simp at b0 b1 b2
          have hll : c.l.length ≤ 1000 := by have := hf.l; omega
          have h2o := hf.two
          have hopl : c.opn.length ≤ 100 := by have := hf.opl; omega
          obtain ⟨go, capo, rfl, hgo, hgol⟩ := hc.opn.form (by omega)
          have H1 := Lib.hid hc
          have HB := Lib.hid hbr
          clear hc hbr
          go_wp2_with (at_builtin; obtain ⟨i0, hi0, hz0, hz1, hz2⟩ := HI; refine wpList_append_lies _ rfl (.tmp 48) (.tmp 51) _ rfl w.heap.size 33 i0 _ 9 72 Try.underlying25 hi0 hz0 hz1 hz2 rfl (by omega) lv c.l.length (insCells c.l) rfl (H1.out.l.alloc _) ⟨wr.heap.size, 0, none⟩ 1 1 [.int .i64 0, .int .i64 0, .int .i64 0, .int .i64 0, .int .i64 0, .int .i64 0, .int .i64 0, .int .i64 0, .int .i64 (q : Int)] rfl rfl (World.news_of_block (cs := #[.int .i64 0, .int .i64 0, .int .i64 0, .int .i64 0, .int .i64 0, .int .i64 0, .int .i64 0, .int .i64 0, .int .i64 (q : Int)]) (t := 33) (fr := (0, 0)) (Blk.heap (Blk.newAt (by simp)))) (by simp [Value.oneCell']) (by omega) (by unfold maxLen; omega) (by omega) (by simp; omega) (wr.heap.size + 1) (by simp) ?_; intro g1 cap1 w1 hown1 hgrow1 hat1 hlt1; have h2 := (H1.out.alloc (.cells #[.int .i64 0, .int .i64 0, .int .i64 0, .int .i64 0, .int .i64 0, .int .i64 0, .int .i64 0, .int .i64 0, .int .i64 (q : Int)] 33)).pushL (new := [stopI q]) rfl hown1 hgrow1 hat1 (by simp); have B1 := (H1.out.alloc (.cells #[.int .i64 0, .int .i64 0, .int .i64 0, .int .i64 0, .int .i64 0, .int .i64 0, .int .i64 0, .int .i64 0, .int .i64 (q : Int)] 33)).blk.grown hgrow1 (Ne.symm (H1.out.alloc (.cells #[.int .i64 0, .int .i64 0, .int .i64 0, .int .i64 0, .int .i64 0, .int .i64 0, .int .i64 0, .int .i64 0, .int .i64 (q : Int)] 33)).nl); have p1 := B1.cell 0; have q1 := B1.cell 1; have r1 := B1.cell 2; have qf1 := B1.frozen; have ql1 := B1.lt; simp at p1 q1 r1; have H2 := Lib.hid h2; have HB2 := Lib.hid (((HB.out.alloc (by omega) (.cells #[.int .i64 0, .int .i64 0, .int .i64 0, .int .i64 0, .int .i64 0, .int .i64 0, .int .i64 0, .int .i64 0, .int .i64 (q : Int)] 33)).grown hgrow1 (by simp; omega) (fun k hk => (H1.out.l.lt k hk).1)).setCell (p := ⟨C, 0, none⟩) (by simp; omega) (.slice (some ⟨g1, 0, none⟩) (c.l.length + 1) cap1)); clear h2 hown1 B1)
          clear p1 q1 r1 qf1 ql1 hgrow1 hat1 hlt1 b0 b1 b2 bf
          have h2 := H2.out
          have hb2 := HB2.out
          clear H2 HB2
          generalize Value.slice (some ⟨g1, 0, none⟩) (c.l.length + 1) cap1 = lv2 at *
          generalize w1.setCell ⟨C, 0, none⟩ lv2 = W2 at *
          have hb2s := hb2.size
          have hC2 := h2.blk.lt
          have e2 := h2.blk.cell 2
          simp at e2
          obtain ⟨_, s1, _⟩ := (HA.out.far hb2).at HX.out
          have y0 : (0 : Int) ≤ (x.set : Int) := by omega
          have y1 : (x.set : Int) < 256 := by omega
          have l0 : (0 : Int) < (c.opn.length : Int) := by omega
          have hml : x.set % c.opn.length < c.opn.length := Nat.mod_lt _ (by omega)
          have hce := h2.opn.cells (g := go) rfl _ _ (iCells_get (List.getElem?_eq_getElem hml))
          rw [addr_add, Nat.zero_add] at hce
          have hpk : c.opn[x.set % c.opn.length] = pickO c.opn x.set := by
            unfold pickO
            rw [List.getD, List.getElem?_eq_getElem hml]
            rfl
          simp only [hpk] at hce
          have ht : ((x.set : Int)).tmod (c.opn.length : Int) = ((x.set % c.opn.length : Nat) : Int) := by rw [IntWalk.rem_in _ _ (by omega)]; simp
          have hpb := hf.opn _ (pickO_mem (by omega) x.set)
          clear hpk
          generalize x.set % c.opn.length = m at *
          obtain ⟨pk, hpk⟩ : ∃ pk, pickO c.opn x.set = pk := ⟨_, rfl⟩
          rw [hpk] at hce hpb
          have HPK := Lib.hid hpk
          have m0 : (0 : Int) ≤ (m : Int) := by omega
          have m1 : (m : Int) < (c.opn.length : Int) := by omega
          have hne : c.opn ≠ [] := fun e => by rw [e] at hml; simp at hml
          have hw2 : IntKind.i64.wrap (x.set : Int) = (x.set : Int) := IntWalk.i64_in _ (by omega)
          have hw3 : IntKind.i64.wrap (m : Int) = (m : Int) := IntWalk.i64_in _ (by omega)
          have H2 := Lib.hid h2
          have HB2 := Lib.hid hb2
          clear hpk h2 hb2
          go_quiet (fail)
          clear ht hw2 hw3 m0 m1 hml hce s1 e2 y0 y1
          go_wp2_with fail
          have h3 := H2.out.drewN nq
          have hb3 := below_drewN HB2.out nq
          clear H2 HB2
          generalize W2.drewN nq = W3 at *
          have H3 := Lib.hid h3
          have HB3 := Lib.hid hb3
          clear h3 hb3 hC2 hb2s hCl hbs hgol
          obtain ⟨K6, hK6⟩ : ∃ K6, min x.ops.length 6 = K6 := ⟨_, rfl⟩
          have hK1 : K6 ≤ x.ops.length := by omega
          have hK2 : K6 ≤ 6 := by omega
          have HK6 := Lib.hid hK6
          have HRL := Lib.hid (show ∀ kk, (opsTo q c.opn ⟨c.l ++ [stopI q], pk, nx⟩ x.ops kk).l.length ≤ c.l.length + 1 + 2 * kk ∧ (opsTo q c.opn ⟨c.l ++ [stopI q], pk, nx⟩ x.ops kk).next = nx + kk from fun kk => by simpa using opsTo_len q c.opn ⟨c.l ++ [stopI q], pk, nx⟩ x.ops kk)
          have HRS := Lib.hid (show ∀ kk, opsTo q c.opn ⟨c.l ++ [stopI q], pk, nx⟩ x.ops (kk + 1) = opS q c.opn (opsTo q c.opn ⟨c.l ++ [stopI q], pk, nx⟩ x.ops kk) kk (x.ops.getD kk 0) from fun _ => rfl)
          have HR0 := Lib.hid (show opsTo q c.opn ⟨c.l ++ [stopI q], pk, nx⟩ x.ops 0 = ⟨c.l ++ [stopI q], pk, nx⟩ from rfl)
          have HRD := Lib.hid (show stepS ⟨c, nx⟩ q x = ⟨endsS { c with l := (opsTo q c.opn ⟨c.l ++ [stopI q], pk, nx⟩ x.ops K6).l } x q (opsTo q c.opn ⟨c.l ++ [stopI q], pk, nx⟩ x.ops K6).last, (opsTo q c.opn ⟨c.l ++ [stopI q], pk, nx⟩ x.ops K6).next⟩ by unfold stepS; rw [HPK.out, hK6])
          clear hK6
          generalize hR : opsTo q c.opn ⟨c.l ++ [stopI q], pk, nx⟩ x.ops = R at *
          clear hR
          go_loopw [7, 9, 10] (fun nx' la kv wq => ∃ kk : Nat, kk ≤ K6 ∧ kv = .int .i64 (kk : Int) ∧ la = .int .i64 (R kk).last ∧ nx' = .int .i64 (R kk).next ∧ (∃ lv, CodeAt w.heap.size wq C { c with l := (R kk).l } lv xv (.slice (some ⟨go, 0, none⟩) c.opn.length capo)) ∧ Below w.heap.size w wq) (fun _ _ kv _ => K6 - (intOf kv).toNat)
          case atStart => exact ⟨0, Nat.zero_le _, rfl, by rw [HR0.out], by rw [HR0.out], ⟨_, by rw [HR0.out]; exact H3.out⟩, HB3.out⟩
          case round =>
            obtain ⟨kk, hkk, rfl, rfl, rfl, ⟨lv, hc⟩, hbr⟩ := hrel
            obtain ⟨s0, s1, D, cD, s2, hU⟩ := (HA.out.far hbr).at HX.out
            have hbs := hbr.size
            have hCl := hc.blk.lt
            have kk0 : (0 : Int) ≤ (kk : Int) := by omega
            by_cases hkl : kk < K6
            · obtain ⟨y, hy⟩ : ∃ y, x.ops[kk]? = some y := ⟨x.ops[kk], List.getElem?_eq_getElem (by omega)⟩
              obtain ⟨b2, o2, rfl, hb2, hall⟩ := hU (by intro h; rw [h] at hy; simp at hy)
              have cy := hall kk y hy
              have hyb := HX3.out y (List.mem_of_getElem? hy)
              have kk1 : (kk : Int) < (x.ops.length : Int) := by omega
              have kk6 : (kk : Int) < 6 := by omega
              have HRK := HRS.out kk
              rw [getD_of hy] at HRK
              have HRK := Lib.hid HRK
              obtain ⟨rl1, rl2⟩ := HRL.out kk
              clear hall hy hU
              generalize R kk = r at *
              obtain ⟨rl, rlast, rnext⟩ := r
              simp only at hc rl1 rl2 HRK ⊢
              have rn0 : 0 ≤ rnext := by omega
              have rn1 : rnext ≤ 1000 := by omega
              have y0 : (0 : Int) ≤ (y : Int) := by omega
              have y1 : (y : Int) < 256 := by omega
              have e2 := hc.blk.cell 2
              simp at e2
              have l0 : (0 : Int) < (c.opn.length : Int) := by omega
              have hml : y / 4 % c.opn.length < c.opn.length := Nat.mod_lt _ (by omega)
              have hce := hc.opn.cells (g := go) rfl _ _ (iCells_get (List.getElem?_eq_getElem hml))
              rw [addr_add, Nat.zero_add] at hce
              have hpk : c.opn[y / 4 % c.opn.length] = pickO c.opn (y / 4) := by
                unfold pickO
                rw [List.getD, List.getElem?_eq_getElem hml]
                rfl
              simp only [hpk] at hce
              have ht : ((y : Int) / 4).tmod (c.opn.length : Int) = ((y / 4 % c.opn.length : Nat) : Int) := by rw [IntWalk.rem_in _ _ (by omega)]; simp
              clear hpk
              generalize y / 4 % c.opn.length = m at *
              obtain ⟨po, hpo⟩ : ∃ po, pickO c.opn (y / 4) = po := ⟨_, rfl⟩
              rw [hpo] at hce
              have HPO := Lib.hid hpo
              have m0 : (0 : Int) ≤ (m : Int) := by omega
              have m1 : (m : Int) < (c.opn.length : Int) := by omega
              have hw2 : IntKind.i64.wrap ((y : Int) / 4) = (y : Int) / 4 := IntWalk.i64_in _ (by omega)
              have hw3 : IntKind.i64.wrap (m : Int) = (m : Int) := IntWalk.i64_in _ (by omega)
              have HRL2 := Lib.hid rl2
              have HC := Lib.hid hc
              have HBR := Lib.hid hbr
              clear rl2 hc hbr hpo
              go_wp2_with fail
              go_quiet (fail)
              clear ht hw2 hw3 m0 m1 hml hce e2 s0 s1 s2 cy
              have h4 := HC.out.drewN nq
              have hb4 := below_drewN HBR.out nq
              clear HC HBR hCl hbs
              generalize wr.drewN nq = W4 at *
              have hC4 := h4.blk.lt
              have hb4s := hb4.size
              have e0 := h4.blk.cell 0
              have ef := h4.blk.frozen
              simp at e0
              have hll4 : rl.length ≤ 10000 := by omega
              by_cases hy4 : y % 4 = 0
              · have f0 : (((y : Nat) : Int) % 4 == 0) = true := by simp; omega
                by_cases hkp : 0 < kk
                · have f1 : (0 : Int) < (kk : Int) := by omega
                  have HX5 := Lib.hid (show R (kk + 1) = ⟨rl ++ [outI rlast q] ++ [constI rnext (y : Int) q], rnext, rnext + 1⟩ by rw [HRK.out]; unfold opS; rw [if_pos hy4, if_pos hkp])
                  have H4 := Lib.hid (h4.alloc (.cells #[.int .i64 1, .int .i64 0, .int .i64 0, .int .i64 rnext, .int .i64 0, .int .i64 0, .int .i64 (y : Int), .int .i64 0, .int .i64 (q : Int)] 33))
                  have HB4 := Lib.hid (hb4.alloc hb4s (.cells #[.int .i64 1, .int .i64 0, .int .i64 0, .int .i64 rnext, .int .i64 0, .int .i64 0, .int .i64 (y : Int), .int .i64 0, .int .i64 (q : Int)] 33))
                  have HX4 := Lib.hid (Blk.new W4 33 #[.int .i64 1, .int .i64 0, .int .i64 0, .int .i64 rnext, .int .i64 0, .int .i64 0, .int .i64 (y : Int), .int .i64 0, .int .i64 (q : Int)])
                  have HLT := Lib.hid (fun j hj => (h4.l.lt j hj).2)
                  clear hy4 h4 hb4 hkp
                  go_wp2_with (at_builtin; obtain ⟨i0, hi0, hz0, hz1, hz2⟩ := info_parts infoIns; refine wpList_append_lies _ rfl (.tmp 128) (.tmp 132) _ rfl w.heap.size 33 i0 _ 9 72 Try.underlying25 hi0 hz0 hz1 hz2 rfl (by omega) lv rl.length (insCells rl) rfl (H4.out.l.alloc _) ⟨W4.heap.size + 1, 0, none⟩ 1 1 [.int .i64 10, .int .i64 0, .int .i64 0, .int .i64 0, .int .i64 rlast, .int .i64 0, .int .i64 0, .int .i64 0, .int .i64 (q : Int)] rfl rfl (World.news_of_block (cs := #[.int .i64 10, .int .i64 0, .int .i64 0, .int .i64 0, .int .i64 rlast, .int .i64 0, .int .i64 0, .int .i64 0, .int .i64 (q : Int)]) (t := 33) (fr := (0, 0)) (Blk.heap (Blk.newAt (by simp)))) (by simp [Value.oneCell']) (by omega) (by unfold maxLen; omega) (by omega) (by simp; omega) (W4.heap.size + 2) (by simp) ?_; intro g6 cap6 w6 hown6 hgrow6 hat6 hlt6; have B6 := (H4.out.alloc (.cells #[.int .i64 10, .int .i64 0, .int .i64 0, .int .i64 0, .int .i64 rlast, .int .i64 0, .int .i64 0, .int .i64 0, .int .i64 (q : Int)] 33)).blk.grown hgrow6 (Ne.symm (H4.out.alloc (.cells #[.int .i64 10, .int .i64 0, .int .i64 0, .int .i64 0, .int .i64 rlast, .int .i64 0, .int .i64 0, .int .i64 0, .int .i64 (q : Int)] 33)).nl); have p6 := B6.cell 0; have qf6 := B6.frozen; simp at p6; have hX6 := (HX4.out.alloc (.cells #[.int .i64 10, .int .i64 0, .int .i64 0, .int .i64 0, .int .i64 rlast, .int .i64 0, .int .i64 0, .int .i64 0, .int .i64 (q : Int)] 33)).grown hgrow6 (fun e => by have := HLT.out _ e.symm; omega); have H6 := Lib.hid ((H4.out.alloc (.cells #[.int .i64 10, .int .i64 0, .int .i64 0, .int .i64 0, .int .i64 rlast, .int .i64 0, .int .i64 0, .int .i64 0, .int .i64 (q : Int)] 33)).pushL (new := [outI rlast q]) rfl hown6 hgrow6 hat6 (by simp)); have HX6 := Lib.hid (hX6.far (p := ⟨C, 0, none⟩) (by simp; omega) (.slice (some ⟨g6, 0, none⟩) (rl.length + 1) cap6)); have HB6 := Lib.hid (((HB4.out.alloc (by simp; omega) (.cells #[.int .i64 10, .int .i64 0, .int .i64 0, .int .i64 0, .int .i64 rlast, .int .i64 0, .int .i64 0, .int .i64 0, .int .i64 (q : Int)] 33)).grown hgrow6 (by simp; omega) (fun k hk => (H4.out.l.lt k hk).1)).setCell (p := ⟨C, 0, none⟩) (by simp; omega) (.slice (some ⟨g6, 0, none⟩) (rl.length + 1) cap6)); clear hown6 B6 hX6)
                  have h6 := H6.out
                  have hb6 := HB6.out
                  have hx6 := HX6.out
                  clear p6 qf6 hgrow6 hat6 hlt6 e0 ef
                  generalize Value.slice (some ⟨g6, 0, none⟩) (rl.length + 1) cap6 = lv6 at *
                  generalize w6.setCell ⟨C, 0, none⟩ lv6 = W6 at *
                  generalize W4.heap.size = X at *
                  have x0 := hx6.cell 0
                  have x1 := hx6.cell 1
                  have x2 := hx6.cell 2
                  have x3 := hx6.cell 3
                  have x4 := hx6.cell 4
                  have x5 := hx6.cell 5
                  have x6 := hx6.cell 6
                  have x7 := hx6.cell 7
                  have x8 := hx6.cell 8
                  simp at x0 x1 x2 x3 x4 x5 x6 x7 x8
                  have e0 := h6.blk.cell 0
                  have ef := h6.blk.frozen
                  simp at e0
                  have hC6 := h6.blk.lt
                  have hX6l := hx6.lt
                  obtain ⟨g5, cap5, w5, hrun, h5, p5, qf5, hB5⟩ := app_run h6 hC0 (by show (rl ++ [outI rlast q]).length ≤ 100000; simp; omega) 1 0 0 rnext 0 0 (y : Int) 0 (q : Int)
                  have H5 := Lib.hid h5
                  have HB5 := Lib.hid (hB5 _ hb6)
                  clear h5 hB5 h6 hb6 hx6
                  simp only [List.length_append, List.length_cons, List.length_nil] at hrun H5 HB5
                  simp [go_sem] at hrun
                  go_big_region
                  clear hrun x0 x1 x2 x3 x4 x5 x6 x7 x8 e0 ef p5 qf5
                  go_wp2_with fail
                  go_roundw
                  case rel => exact ⟨kk + 1, by omega, by go_num, by rw [HX5.out], by rw [HX5.out], ⟨_, by rw [HX5.out]; exact H5.out⟩, HB5.out⟩
                  case measure => simp [intOf]; omega
                · have f1 : ¬ ((0 : Int) < (kk : Int)) := by omega
                  obtain ⟨g5, cap5, w5, hrun, h5, p5, qf5, hB5⟩ := app_run (h4.alloc (.cells #[.int .i64 1, .int .i64 0, .int .i64 0, .int .i64 rnext, .int .i64 0, .int .i64 0, .int .i64 (y : Int), .int .i64 0, .int .i64 (q : Int)] 33)) hC0 (by show rl.length ≤ 100000; omega) 1 0 0 rnext 0 0 (y : Int) 0 (q : Int)
                  have H5 := Lib.hid h5
                  have HB5 := Lib.hid (hB5 _ (hb4.alloc hb4s _))
                  have HX5 := Lib.hid (show R (kk + 1) = ⟨rl ++ [constI rnext (y : Int) q], rnext, rnext + 1⟩ by rw [HRK.out]; unfold opS; rw [if_pos hy4, if_neg hkp])
                  clear h5 hB5 hy4 h4 hb4 hkp
                  simp [go_sem] at hrun
                  go_wp2_with fail
                  go_big_region
                  clear hrun
                  go_wp2_with fail
                  go_roundw
                  case rel => exact ⟨kk + 1, by omega, by go_num, by rw [HX5.out], by rw [HX5.out], ⟨_, by rw [HX5.out]; exact H5.out⟩, HB5.out⟩
                  case measure => simp [intOf]; omega
              · have f0 : (((y : Nat) : Int) % 4 == 0) = false := by simp; omega
                obtain ⟨g5, cap5, w5, hrun, h5, p5, qf5, hB5⟩ := app_run (h4.alloc (.cells #[.int .i64 3, .int .i64 12, .int .i64 2, .int .i64 rnext, .int .i64 rlast, .int .i64 po, .int .i64 0, .int .i64 0, .int .i64 (q : Int)] 33)) hC0 (by show rl.length ≤ 100000; omega) 3 12 2 rnext rlast po 0 0 (q : Int)
                have H5 := Lib.hid h5
                have HB5 := Lib.hid (hB5 _ (hb4.alloc hb4s _))
                have E4 := Lib.hid hy4
                clear h5 hB5 hy4 h4 hb4
                simp [go_sem] at hrun
                have hsz : ∀ o, (W4.alloc o).heap.size = W4.heap.size + 1 := fun o => by simp
                have HX5 := Lib.hid (show R (kk + 1) = ⟨rl ++ [binI rnext rlast po q], rnext, rnext + 1⟩ by rw [HRK.out]; unfold opS; rw [if_neg E4.out, HPO.out])
                clear hsz
                go_wp2_with fail
                go_big_region
                clear hrun
                go_wp2_with fail
                go_roundw
                case rel => exact ⟨kk + 1, by omega, by go_num, by rw [HX5.out], by rw [HX5.out], ⟨_, by rw [HX5.out]; exact H5.out⟩, HB5.out⟩
                case measure => simp [intOf]; omega
            · have hkK : kk = K6 := by omega
              have HRL2 := Lib.hid (HRL.out kk)
              have HKK := Lib.hid hkK
              have HC := Lib.hid hc
              have HBR := Lib.hid hbr
              have hfo := Lib.hid hf.opn
              have hflo : c.lo.length ≤ 100000 := by have := hf.lo; omega
              have hrl : (R kk).l.length ≤ 100000 := by have := (HRL.out kk).1; omega
              have hbr2 := HBR.out
              have hRK : R K6 = R kk := by rw [hkK]
              clear hkK hU hc hbr
              have hqk : q < 1000 := by omega
              generalize R kk = r at *
              obtain ⟨rl, rlast, rnext⟩ := r
              simp only at HC hrl ⊢
              have HFIN := Lib.hid (show st (q + 1) = ⟨endsS { c with l := rl } x q rlast, rnext⟩ by rw [HSQ.out, HRD.out, hRK])
              clear hRK
              have hcall := fun W (hW : CodeAt w.heap.size W C { c with l := rl } lv xv (.slice (some ⟨go, 0, none⟩) c.opn.length capo)) => ends_any w.heap.size W C { c with l := rl } lv xv (.slice (some ⟨go, 0, none⟩) c.opn.length capo) hW hC0 h2o hfo.out hrl hflo (by show c.opn.length ≤ 100000; omega) x hx1 hx2 (.slice D x.ops.length cD) q hqk rlast
              have HCALL := Lib.hid hcall
              clear hcall hbr2
              by_cases hkl2 : x.ops.length ≤ kk
              · have g1 : ¬ ((kk : Int) < (x.ops.length : Int)) := by omega
                go_wp2_with (go_at_call 35; refine (HCALL.out _ HC.out).mono ?_; rintro e w7 ⟨rfl, ⟨lv7, xv7, ov7, hc7⟩, hb7⟩; have HC7 := Lib.hid hc7; have HB7 := Lib.hid hb7; clear hc7 hb7)
                go_roundw
                case rel => exact ⟨q + 1, by omega, by go_num, by rw [HFIN.out], ⟨lv7, xv7, ov7, by rw [HFIN.out]; exact HC7.out⟩, HBR.out.trans HB7.out⟩
                case measure => simp [intOf]; omega
              · have g1 : (kk : Int) < (x.ops.length : Int) := by omega
                have g2 : ¬ ((kk : Int) < 6) := by have := HK6.out; omega
                go_wp2_with (go_at_call 35; refine (HCALL.out _ HC.out).mono ?_; rintro e w7 ⟨rfl, ⟨lv7, xv7, ov7, hc7⟩, hb7⟩; have HC7 := Lib.hid hc7; have HB7 := Lib.hid hb7; clear hc7 hb7)
                go_roundw
                case rel => exact ⟨q + 1, by omega, by go_num, by rw [HFIN.out], ⟨lv7, xv7, ov7, by rw [HFIN.out]; exact HC7.out⟩, HBR.out.trans HB7.out⟩
                case measure => simp [intOf]; omega
        · have hn : ¬ ((q : Int) < (k : Int)) := by omega
          have hqk : q = k := by omega
          subst hqk
          have hf := HST.out q
          have HMM := Lib.hid (show madeS s = { (st q).c with lo := shutTo (st q).c.lo (st q).c.opn (q : Int) (st q).c.opn.length } by unfold madeS; rw [HN.out, HMS.out])
          generalize (st q).c = c at *
          have hopl : c.opn.length ≤ 100 := by have := hf.opl; omega
          have hlol : c.lo.length ≤ 100 := by have := hf.lo; omega
          have h2o := hf.two
          have hlo0 := lo_get hf
          have HFO := Lib.hid hf.opn
          have e2 := hc.blk.cell 2
          simp at e2
          obtain ⟨go, capo, rfl, hgo, hgol⟩ := hc.opn.form (by omega)
          obtain ⟨gx, capx, rfl, hgx, hgxl⟩ := hc.lo.form hlo0
          have HC := Lib.hid hc
          have HBR := Lib.hid hbr
          clear hc hbr hf hlo0
          go_wp2_with fail
          go_loopw [14] (fun ix wq => ∃ j : Nat, j ≤ c.opn.length ∧ ix = .int .i64 (j : Int) ∧ CodeAt w.heap.size wq C { c with lo := shutTo c.lo c.opn (q : Int) j } lv (.slice (some ⟨gx, 0, none⟩) c.lo.length capx) (.slice (some ⟨go, 0, none⟩) c.opn.length capo) ∧ Below w.heap.size w wq) (fun ix _ => c.opn.length - (intOf ix).toNat)
          case atStart => exact ⟨0, Nat.zero_le _, rfl, HC.out, HBR.out⟩
          case round =>
            obtain ⟨j, hj, rfl, hc, hbr⟩ := hrel
            have e1 := hc.blk.cell 1
            have e2 := hc.blk.cell 2
            simp at e1 e2
            have j0 : (0 : Int) ≤ (j : Int) := by omega
            by_cases hjl : j < c.opn.length
            · obtain ⟨v, hv⟩ : ∃ v, c.opn[j]? = some v := ⟨c.opn[j], List.getElem?_eq_getElem hjl⟩
              have j1 : (j : Int) < (c.opn.length : Int) := by omega
              have hvb := HFO.out v (List.mem_of_getElem? hv)
              obtain ⟨vn, rfl⟩ : ∃ vn : Nat, v = (vn : Int) := ⟨v.toNat, by omega⟩
              have hce := hc.opn.cells (g := go) rfl _ _ (iCells_get hv)
              rw [addr_add, Nat.zero_add] at hce
              have hsl : (shutTo c.lo c.opn (q : Int) j).length = c.lo.length := shutTo_length _ _ _ _
              have hvx : vn < c.lo.length := by omega
              have hc5 := hc.lo
              change wr.ownsRow _ _ 4 _ (shutTo c.lo c.opn (q : Int) j).length (loCells (shutTo c.lo c.opn (q : Int) j)) at hc5
              rw [hsl] at hc5
              have hcx := hc5.cellAt (vn * 4 + 3) (by omega)
              have hfx := hc5.frozenAt (vn * 4 + 3)
              obtain ⟨u0, hu0⟩ : ∃ u0, (loCells (shutTo c.lo c.opn (q : Int) j))[vn * 4 + 3]? = some u0 := ⟨_, List.getElem?_eq_getElem (by rw [loCells_length, hsl]; omega)⟩
              rw [hu0] at hcx
              have v0 : (0 : Int) ≤ (vn : Int) := by omega
              have v1 : (vn : Int) < (c.lo.length : Int) := by omega
              have HSH := Lib.hid (show shutTo c.lo c.opn (q : Int) (j + 1) = setTill (shutTo c.lo c.opn (q : Int) j) (vn : Int) (q : Int) by rw [shutTo, getD_of hv])
              have h5 := hc.setTo (gx := gx) (cap := capx) hsl.symm hgx vn (by rw [hsl]; exact hvx) (q : Int)
              have H5 := Lib.hid h5
              have HBR2 := Lib.hid hbr
              clear hc hc5 h5 hu0 hv hvb hsl hbr
              go_wp2_with fail
              go_big_region
              go_wp2_with fail
              go_roundw
              case rel => exact ⟨j + 1, by omega, by go_num, by rw [HSH.out]; exact H5.out.drew, (HBR2.out.drew).setCell (by exact hgx) _⟩
              case measure => simp [intOf]; omega
            · have hn : ¬ ((j : Int) < (c.opn.length : Int)) := by omega
              have hje : j = c.opn.length := by omega
              have H5 := Lib.hid hc
              have HBR2 := Lib.hid hbr
              have HJE := Lib.hid hje
              clear hc hje hbr
              go_wp2_with fail
              go_ret
              unfold MadeP
              rw [HMM.out]
              exact ⟨C, lv, _, _, rfl, by rw [← HJE.out]; exact H5.out, hC0, HBR2.out⟩
end Go.Proofs.Ytfmkfmcplffhdaa

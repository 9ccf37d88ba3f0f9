/- The function value of package lower: the instructions of an expression, and its register. Conditions: the expression has as many operands as its kind says; fewer than 10^12 instructions; registers below 10^15. -/
import Derived.Test.YtekciedoldiieaaLowFresh
namespace Go.Proofs.Ytekciedoldiieaa
open Go.RowKit

/-- An expression: its kind, number, type, what it refers to, its operands. -/
inductive EV where
  | leaf (op n ty ref : Int)
  | un (op n ty ref : Int) (x : EV)
  | bin (op n ty ref : Int) (x y : EV)
def EV.ty : EV → Int
  | .leaf _ _ t _ | .un _ _ t _ _ | .bin _ _ t _ _ _ => t
/-- Has it as many operands as its kind says? -/
def EV.ok : EV → Prop
  | .leaf op _ _ _ => op = 0 ∨ op = 26 ∨ op = 27
  | .un op _ _ _ x => (op = 28 ∨ op = 4 ∨ op = 5 ∨ op = 6 ∨ op = 7 ∨ op = 8) ∧ x.ok
  | .bin op _ _ _ x y => (op ≠ 0 ∧ op ≠ 26 ∧ op ≠ 27 ∧ op ≠ 28 ∧ op ≠ 4 ∧ op ≠ 5 ∧ op ≠ 6 ∧ op ≠ 7 ∧ op ≠ 8) ∧ x.ok ∧ y.ok
def EV.size : EV → Nat
  | .leaf .. => 1
  | .un _ _ _ _ x => x.size + 1
  | .bin _ _ _ _ x y => x.size + y.size + 1
/-- Its instructions, its register, how many registers there are then. -/
def EV.lower (s : Int) : EV → Int → List I9 × Int × Int
  | .leaf op n _ ref, r =>
    if op = 26 then ([], ref, r)
    else if op = 0 then ([⟨1, 0, 0, r, 0, 0, n, 0, s⟩], r, r + 1)
    else ([⟨5, 0, 0, r, 0, 0, ref, 0, s⟩], r, r + 1)
  | .un op n ty ref x, r =>
    let p := x.lower s r
    if op = 28 then (p.1 ++ [⟨7, 0, 0, p.2.2, p.2.1, 0, ref, n, s⟩], p.2.2, p.2.2 + 1)
    else (p.1 ++ [⟨4, op, ty, p.2.2, p.2.1, 0, 0, 0, s⟩], p.2.2, p.2.2 + 1)
  | .bin op _ _ _ x y, r =>
    let p := x.lower s r
    let q := y.lower s p.2.2
    (p.1 ++ (q.1 ++ [⟨3, op, x.ty, q.2.2, p.2.1, q.2.1, 0, 0, s⟩]), q.2.2, q.2.2 + 1)

/-- The eight cells of an expression, whose operands lie in blocks below B. -/
def Rep (w : World) (B : Nat) : EV → List Value → Prop
  | .leaf op n ty ref, cs => ∃ at_ nm fd A c, cs = [.int .i64 op, .int .i64 at_, .string nm, .string fd, .int .i64 n, .int .i64 ty, .int .i64 ref, .slice A 0 c]
  | .un op n ty ref x, cs => ∃ at_ nm fd b o c, cs = [.int .i64 op, .int .i64 at_, .string nm, .string fd, .int .i64 n, .int .i64 ty, .int .i64 ref, .slice (some ⟨b, o, none⟩) 1 c] ∧ b < B ∧
      ∃ cx, Rep w B x cx ∧ ∀ i u, cx[i]? = some u → w.cell? ⟨b, o + i, none⟩ = some u
  | .bin op n ty ref x y, cs => ∃ at_ nm fd b o c, cs = [.int .i64 op, .int .i64 at_, .string nm, .string fd, .int .i64 n, .int .i64 ty, .int .i64 ref, .slice (some ⟨b, o, none⟩) 2 c] ∧ b < B ∧
      ∃ cx cy, Rep w B x cx ∧ Rep w B y cy ∧ (∀ i u, cx[i]? = some u → w.cell? ⟨b, o + i, none⟩ = some u) ∧ ∀ i u, cy[i]? = some u → w.cell? ⟨b, o + 8 + i, none⟩ = some u
theorem Rep.keep {w w' : World} {B : Nat} (hk : ∀ a : Addr, a.block < B → w'.cell? a = w.cell? a) : ∀ {e : EV} {cs : List Value}, Rep w B e cs → Rep w' B e cs
  | .leaf .., _, h => h
  | .un _ _ _ _ x, _, ⟨at_, nm, fd, b, o, c, h, hb, cx, hx, hc⟩ => ⟨at_, nm, fd, b, o, c, h, hb, cx, hx.keep hk, fun i u hu => (hk _ hb).trans (hc i u hu)⟩
  | .bin _ _ _ _ x y, _, ⟨at_, nm, fd, b, o, c, h, hb, cx, cy, hx, hy, hc, hd⟩ =>
    ⟨at_, nm, fd, b, o, c, h, hb, cx, cy, hx.keep hk, hy.keep hk, fun i u hu => (hk _ hb).trans (hc i u hu), fun i u hu => (hk _ hb).trans (hd i u hu)⟩
theorem Rep.kept {w w' : World} {B : Nat} {S : Nat → Prop} {e : EV} {cs : List Value} (h : Rep w B e cs) (hk : Keep w w' S) (hB : B ≤ w.heap.size) (hs : ∀ k, k < B → ¬ S k) : Rep w' B e cs :=
  h.keep fun a ha => hk.cell (by omega) (hs _ ha)
/-- A step of the lowering leaves expressions below its base alone. -/
theorem Rep.step {w w' : World} {g base : Nat} {av av' : Value} {r s : Int} {l : List I9} {e : EV} {cs : List Value} (h : Rep w base e cs) (hl : Low w g base av r s l) (hs : LS w w' g av av') : Rep w' base e cs :=
  h.kept hs.keep hl.low fun k hk hc => by
    rcases hc with hc | hc
    · have := hl.lowg; omega
    · have := hl.own.lt _ hc; omega
theorem Rep.alloc {w : World} {B : Nat} {e : EV} {cs : List Value} (h : Rep w B e cs) (hB : B ≤ w.heap.size) (o : Obj) : Rep (w.alloc o) B e cs :=
  h.kept ((Keep.refl w (fun _ => False)).alloc o) hB (fun _ _ h => h)
theorem Rep.more {w : World} {B B' : Nat} (hB : B ≤ B') : ∀ {e : EV} {cs : List Value}, Rep w B e cs → Rep w B' e cs
  | .leaf .., _, h => h
  | .un .., _, ⟨at_, nm, fd, b, o, c, h, hb, cx, hx, hc⟩ => ⟨at_, nm, fd, b, o, c, h, Nat.lt_of_lt_of_le hb hB, cx, hx.more hB, hc⟩
  | .bin .., _, ⟨at_, nm, fd, b, o, c, h, hb, cx, cy, hx, hy, hc, hd⟩ => ⟨at_, nm, fd, b, o, c, h, Nat.lt_of_lt_of_le hb hB, cx, cy, hx.more hB, hy.more hB, hc, hd⟩
theorem Rep.drew {w : World} {B : Nat} {e : EV} {cs : List Value} (h : Rep w B e cs) : Rep w.drew B e cs := Rep.keep (w := w) (w' := w.drew) (fun _ _ => rfl) h
/-- A step of the lowering leaves memory below its base alone. -/
theorem LS.old {w w' : World} {g base : Nat} {av av' : Value} {r s : Int} {l : List I9} (hs : LS w w' g av av') (hl : Low w g base av r s l) {a : Addr} (ha : a.block < base) : w'.cell? a = w.cell? a :=
  hs.keep.cell (by have := hl.low; omega) (fun hc => by
    rcases hc with hc | hc
    · have := hl.lowg; omega
    · have := hl.own.lt _ hc; omega)
theorem Rep.form {w : World} {B : Nat} : ∀ {e : EV} {cs : List Value}, Rep w B e cs → ∃ op at_ nm fd n ref A k c, cs = [.int .i64 op, .int .i64 at_, .string nm, .string fd, .int .i64 n, .int .i64 e.ty, .int .i64 ref, .slice A k c]
  | .leaf .., _, ⟨_, _, _, _, _, h⟩ => ⟨_, _, _, _, _, _, _, _, _, h⟩
  | .un .., _, ⟨_, _, _, _, _, _, h, _⟩ => ⟨_, _, _, _, _, _, _, _, _, h⟩
  | .bin .., _, ⟨_, _, _, _, _, _, h, _⟩ => ⟨_, _, _, _, _, _, _, _, _, h⟩

/-- The contract of value, at an expression. -/
def ValueSaid (e : EV) : Prop := ∀ (w : World) (g base : Nat) (av : Value) (r s : Int) (l : List I9) (cs : List Value),
  Low w g base av r s l → Rep w base e cs → l.length + e.size < 1000000000000 → 0 ≤ r → r + e.size < 1000000000000000 →
  Calls Try.prog 22 #[.pointer (some ⟨g, 0, none⟩), .agg cs.toArray] w fun e' w' =>
    e' = .returned (.int .i64 (e.lower s r).2.1) ∧ ∃ av', Low w' g base av' (e.lower s r).2.2 s (l ++ (e.lower s r).1) ∧ LS w w' g av av'

set_option maxRecDepth 100000 in
set_option maxHeartbeats 3200000 in
theorem value_num (n ty ref : Int) : ValueSaid (.leaf 0 n ty ref) := by
  rintro w g base av r s l cs hl ⟨at_, nm, fd, A, c, rfl⟩ hn hr0 hr1
  simp only [EV.size] at hn hr1
  have hglt := hl.blk.lt
  go_enter Try.func22, Try.ntmps22
  go_wp2_with fail
  go_region
  all_goals
    go_wp2_with fail
    refine (fresh_any _ g base av r s l _ _ _ _ _ _ _ _ _ (((hl.alloc _).alloc _).alloc _).drew (by omega) hr0 (by omega)).mono ?_
    rintro e w1 ⟨rfl, av', hl', hs'⟩
    go_wp2_with fail
    go_ret
    exact ⟨by simp [EV.lower], av', by simpa [EV.lower] using hl', (((((LS.refl w g av).alloc _).alloc _).alloc _).drew).trans hs'⟩

set_option maxRecDepth 100000 in
set_option maxHeartbeats 3200000 in
theorem value_local (n ty ref : Int) : ValueSaid (.leaf 26 n ty ref) := by
  rintro w g base av r s l cs hl ⟨at_, nm, fd, A, c, rfl⟩ hn hr0 hr1
  simp only [EV.size] at hn hr1
  have hglt := hl.blk.lt
  go_enter Try.func22, Try.ntmps22
  go_wp2_with fail
  refine wp_loop_rounds 1 ?_
  rw [rounds_succ]
  go_wp2_with fail
  go_ret
  exact ⟨by simp [EV.lower], av, by simpa [EV.lower] using (((hl.alloc _).alloc _).alloc _), (((LS.refl w g av).alloc _).alloc _).alloc _⟩

set_option maxRecDepth 100000 in
set_option maxHeartbeats 3200000 in
theorem value_word (n ty ref : Int) : ValueSaid (.leaf 27 n ty ref) := by
  rintro w g base av r s l cs hl ⟨at_, nm, fd, A, c, rfl⟩ hn hr0 hr1
  simp only [EV.size] at hn hr1
  have hglt := hl.blk.lt
  go_enter Try.func22, Try.ntmps22
  go_wp2_with fail
  refine wp_loop_rounds 1 ?_
  rw [rounds_succ]
  go_wp2_with fail
  go_region
  all_goals
    go_wp2_with fail
    refine (fresh_any _ g base av r s l _ _ _ _ _ _ _ _ _ (((hl.alloc _).alloc _).alloc _).drew (by omega) hr0 (by omega)).mono ?_
    rintro e w1 ⟨rfl, av', hl', hs'⟩
    go_wp2_with fail
    go_ret
    exact ⟨by simp [EV.lower], av', by simpa [EV.lower] using hl', (((((LS.refl w g av).alloc _).alloc _).alloc _).drew).trans hs'⟩

theorem EV.lower_len (s : Int) : ∀ (e : EV) (r : Int), (e.lower s r).1.length ≤ e.size
  | .leaf .., r => by simp only [EV.lower, EV.size]; (repeat' split) <;> simp
  | .un _ _ _ _ x, r => by
    have := EV.lower_len s x r
    simp only [EV.lower, EV.size]
    split <;> simp <;> omega
  | .bin _ _ _ _ x y, r => by
    have := EV.lower_len s x r
    have := EV.lower_len s y (x.lower s r).2.2
    simp only [EV.lower, EV.size]
    simp
    omega
theorem EV.lower_regs (s : Int) : ∀ (e : EV) (r : Int), r ≤ (e.lower s r).2.2 ∧ (e.lower s r).2.2 ≤ r + e.size
  | .leaf .., r => by simp only [EV.lower, EV.size]; (repeat' split) <;> simp <;> omega
  | .un _ _ _ _ x, r => by
    have := EV.lower_regs s x r
    simp only [EV.lower, EV.size]
    split <;> simp <;> omega
  | .bin _ _ _ _ x y, r => by
    have := EV.lower_regs s x r
    have := EV.lower_regs s y (x.lower s r).2.2
    simp only [EV.lower, EV.size]
    omega

set_option maxRecDepth 100000 in
set_option maxHeartbeats 3200000 in
theorem value_cell (n ty ref : Int) (x : EV) (ih : ValueSaid x) : ValueSaid (.un 28 n ty ref x) := by
  rintro w g base av r s l cs hl ⟨at_, nm, fd, b, o, c, rfl, hb, cx, hx, hc⟩ hn hr0 hr1
  simp only [EV.size] at hn hr1
  have hglt := hl.blk.lt
  have hbase := hl.low
  have hblt : b < w.heap.size := by omega
  have IH := Lib.hid ih
  clear ih
  obtain ⟨xop, xat, xnm, xfd, xn, xref, xA, xk, xc, rfl⟩ := hx.form
  have d0 := hc 0 _ rfl
  have d1 := hc 1 _ rfl
  have d2 := hc 2 _ rfl
  have d3 := hc 3 _ rfl
  have d4 := hc 4 _ rfl
  have d5 := hc 5 _ rfl
  have d6 := hc 6 _ rfl
  have d7 := hc 7 _ rfl
  simp only [Nat.add_zero] at d0
  clear hc
  go_enter Try.func22, Try.ntmps22
  go_wp2_with fail
  refine wp_loop_rounds 2 ?_
  rw [rounds_succ]
  go_wp2_with fail
  refine (IH.out _ g base av r s l _ (((hl.alloc _).alloc _).alloc _) (((hx.alloc hbase _).alloc (by simp; omega) _).alloc (by simp; omega) _) (by omega) hr0 (by omega)).mono ?_
  rintro e' w1 ⟨rfl, av1, hl1, hs1⟩
  have bE := hs1.blk (((hl.alloc _).alloc _).alloc _) (((Blk.newAt rfl).alloc _).alloc _) (by decide) (.inl (by decide))
  have bR := hs1.blk (((hl.alloc _).alloc _).alloc _) ((Blk.newAt (by simp; rfl)).alloc _) (by decide) (.inl (by decide))
  have hz := hs1.keep.size
  simp at hz
  have hz0 : w.heap.size < w1.heap.size := by omega
  have hz1 : w.heap.size + 1 < w1.heap.size := by omega
  have e0 := bE.cell 0
  have e4 := bE.cell 4
  have e5 := bE.cell 5
  have e6 := bE.cell 6
  have e7 := bE.cell 7
  have g0 := bR.cell 0
  have g1 := bR.cell 1
  have fr := bR.frozen 0
  simp at e0 e4 e5 e6 e7 g0 g1
  have hp := EV.lower_len s x r
  have hq := EV.lower_regs s x r
  generalize hP : x.lower s r = P at *
  obtain ⟨P1, P2, P3⟩ := P
  have HP := Lib.hid hP
  clear hP
  simp only at hl1 hp hq
  have hS1 := ((((LS.refl w g av).alloc _).alloc _).alloc _).trans hs1
  go_wp2_with fail
  rw [rounds_succ]
  go_wp2_with fail
  go_region
  all_goals
    go_wp2_with fail
    refine (fresh_any _ g base av1 P3 s (l ++ P1) _ _ _ _ _ _ _ _ _ (((hl1.setOther bR (by decide) (.inl (by decide)) 0 (.int .i64 P2)).alloc _).drew) (by simp; omega) (by omega) (by omega)).mono ?_
    rintro e w2 ⟨rfl, av2, hl2, hs2⟩
    go_wp2_with fail
    go_ret
    refine ⟨by simp [EV.lower, HP.out], av2, by simpa [EV.lower, HP.out] using hl2, (((hS1.setNew _ (by simp) _).alloc _).drew).trans hs2⟩

end Go.Proofs.Ytekciedoldiieaa

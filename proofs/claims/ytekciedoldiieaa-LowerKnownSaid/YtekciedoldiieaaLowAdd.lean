/- The function add of package lower, at one instruction: it is put behind the others, with the step at work. Conditions: fewer than 10^12 instructions so far. -/
import Derived.Test.YtekciedoldiieaaProg
import Derived.Test.YtekciedoldiieaaMem
namespace Go.Proofs.Ytekciedoldiieaa
open Go.RowKit
theorem infoIns : (Try.prog.info? 28).map (fun i => (i.zero, i.size, i.bytes)) = some (some (.agg #[.int .i64 0, .int .i64 0, .int .i64 0, .int .i64 0, .int .i64 0, .int .i64 0, .int .i64 0, .int .i64 0, .int .i64 0]), 9, 72) := by kernel_rfl

/-- An instruction. -/
structure I9 where
  op : Int
  op2 : Int
  ty : Int
  d : Int
  a : Int
  b : Int
  n : Int
  count : Int
  step : Int
  deriving DecidableEq
def I9.cells (i : I9) : List Value := [.int .i64 i.op, .int .i64 i.op2, .int .i64 i.ty, .int .i64 i.d, .int .i64 i.a, .int .i64 i.b, .int .i64 i.n, .int .i64 i.count, .int .i64 i.step]
def cellsOf (l : List I9) : List Value := l.flatMap I9.cells
theorem cellsOf_append (l m : List I9) : cellsOf (l ++ m) = cellsOf l ++ cellsOf m := by simp [cellsOf]

/-- The block g is a lowering, of the instructions l. -/
structure Low (w : World) (g base : Nat) (av : Value) (r s : Int) (l : List I9) : Prop where
  blk : Blk w g 43 #[av, .int .i64 r, .int .i64 s]
  own : w.ownsRow base 28 9 av l.length (cellsOf l)
  low : base ≤ w.heap.size
  lowg : base ≤ g
/-- What a step of it leaves of the world. -/
structure LS (w w' : World) (g : Nat) (av av' : Value) : Prop where
  keep : Keep w w' (fun k => k = g ∨ av.ownBlock = some k)
  fresh : Fresh w av av'
theorem LS.refl (w : World) (g : Nat) (av : Value) : LS w w g av av := ⟨Keep.refl _ _, Fresh.refl _ _⟩
theorem LS.trans {w w' w'' : World} {g : Nat} {a b c : Value} (h : LS w w' g a b) (h' : LS w' w'' g b c) : LS w w'' g a c :=
  ⟨h.keep.trans h'.keep (fun k hk hs => by
    rcases hs with hs | hs
    · exact .inl hs
    · rcases h.fresh k hs with h1 | h1
      · exact .inr h1
      · omega), h.fresh.trans h'.fresh h.keep.size⟩
theorem LS.alloc {w w' : World} {g : Nat} {a b : Value} (h : LS w w' g a b) (o : Obj) : LS w (w'.alloc o) g a b := ⟨h.keep.alloc o, h.fresh⟩
theorem LS.drew {w w' : World} {g : Nat} {a b : Value} (h : LS w w' g a b) : LS w w'.drew g a b := ⟨h.keep.drew, h.fresh⟩
theorem Low.keep {w w' : World} {S : Nat → Prop} {g base : Nat} {av : Value} {r s : Int} {l : List I9} (h : Low w g base av r s l) (hk : Keep w w' S) (hg : ¬ S g) (ha : ∀ k, av.ownBlock = some k → ¬ S k) : Low w' g base av r s l :=
  ⟨hk.blk h.blk hg, hk.row h.own ha, Nat.le_trans h.low hk.size, h.lowg⟩
theorem Low.alloc {w : World} {g base : Nat} {av : Value} {r s : Int} {l : List I9} (h : Low w g base av r s l) (o : Obj) : Low (w.alloc o) g base av r s l :=
  h.keep (S := fun _ => False) ((Keep.refl w _).alloc o) (fun h => h) (fun _ _ h => h)
theorem LS.drewN {w w' : World} {g : Nat} {a b : Value} (h : LS w w' g a b) (n : Nat) : LS w (w'.drewN n) g a b := ⟨h.keep.drewN n, h.fresh⟩
theorem Low.drewN {w : World} {g base : Nat} {av : Value} {r s : Int} {l : List I9} (h : Low w g base av r s l) (n : Nat) : Low (w.drewN n) g base av r s l := ⟨h.blk, h.own, h.low, h.lowg⟩
theorem Low.drew {w : World} {g base : Nat} {av : Value} {r s : Int} {l : List I9} (h : Low w g base av r s l) : Low w.drew g base av r s l := ⟨h.blk, h.own, h.low, h.lowg⟩
theorem Low.setRegs {w : World} {g base : Nat} {av : Value} {r s : Int} {l : List I9} (h : Low w g base av r s l) (r' : Int) : Low (w.setCell ⟨g, 1, none⟩ (.int .i64 r')) g base av r' s l :=
  ⟨by simpa using h.blk.set 1 (.int .i64 r'), setRow_own h.own ⟨g, 1, none⟩ _ (h.blk.ne_own h.own (by decide)), by simpa [World.setCell] using h.low, h.lowg⟩
theorem Low.setStep {w : World} {g base : Nat} {av : Value} {r s : Int} {l : List I9} (h : Low w g base av r s l) (s' : Int) : Low (w.setCell ⟨g, 2, none⟩ (.int .i64 s')) g base av r s' l :=
  ⟨by simpa using h.blk.set 2 (.int .i64 s'), setRow_own h.own ⟨g, 2, none⟩ _ (h.blk.ne_own h.own (by decide)), by simpa [World.setCell] using h.low, h.lowg⟩
theorem Low.setOther {w : World} {g base : Nat} {av : Value} {r s : Int} {l : List I9} (h : Low w g base av r s l) {k : Nat} {t : TypeId} {cs : Array Value} (hb : Blk w k t cs) (h1 : t ≠ 43) (h2 : t ≠ 28 ∨ av.ownBlock ≠ some k) (i : Nat) (u : Value) :
    Low (w.setCell ⟨k, i, none⟩ u) g base av r s l :=
  h.keep (S := fun b => b = k) ((Keep.refl w (fun b => b = k)).setCell ⟨k, i, none⟩ (fun _ => rfl) u) (fun e => hb.ne_ty h.blk h1 e.symm) (fun b hk e => by
    subst e
    rcases h2 with h2 | h2
    · exact hb.ne_own h.own (fun e => h2 e.symm) hk
    · exact h2 hk)
theorem LS.setNew {w w' : World} {g : Nat} {a b : Value} (h : LS w w' g a b) (p : Addr) (hp : w.heap.size ≤ p.block) (u : Value) : LS w (w'.setCell p u) g a b :=
  ⟨h.keep.setCell _ (fun hc => by omega) u, h.fresh⟩
theorem LS.setG {w w' : World} {g : Nat} {a b : Value} (h : LS w w' g a b) (i : Nat) (u : Value) : LS w (w'.setCell ⟨g, i, none⟩ u) g a b := ⟨h.keep.setCell _ (fun _ => .inl rfl) u, h.fresh⟩
/-- A block of the caller's own is none of the lowering's. -/
theorem LS.blk {w w' : World} {g base : Nat} {a b : Value} {r s : Int} {l : List I9} (h : LS w w' g a b) (hl : Low w g base a r s l) {k : Nat} {t : TypeId} {cs : Array Value} (hb : Blk w k t cs)
    (h1 : t ≠ 43) (h2 : t ≠ 28 ∨ a.ownBlock ≠ some k) : Blk w' k t cs :=
  h.keep.blk hb (fun hc => by
    rcases hc with hc | hc
    · exact hb.ne_ty hl.blk h1 hc
    · rcases h2 with h2 | h2
      · exact hb.ne_own hl.own (fun e => h2 e.symm) hc
      · exact h2 hc)

set_option maxRecDepth 100000 in
set_option maxHeartbeats 3200000 in
theorem add_one (w : World) (g b base : Nat) (av : Value) (r s : Int) (l : List I9) (x0 x1 x2 x3 x4 x5 x6 x7 x8 : Int) (c : Nat)
    (hl : Low w g base av r s l)
    (hx : Blk w b 28 #[.int .i64 x0, .int .i64 x1, .int .i64 x2, .int .i64 x3, .int .i64 x4, .int .i64 x5, .int .i64 x6, .int .i64 x7, .int .i64 x8])
    (hn : l.length < 1000000000000) :
    Calls Try.prog 11 #[.pointer (some ⟨g, 0, none⟩), .slice (some ⟨b, 0, none⟩) 1 c] w fun e w' => e = .returned (.tuple #[]) ∧
      ∃ av', Low w' g base av' r s (l ++ [⟨x0, x1, x2, x3, x4, x5, x6, x7, s⟩]) ∧ LS w w' g av av' := by
  obtain ⟨hblk, hown, hbase, hbg⟩ := hl
  have hgne := hblk.ne_ty hx (by decide)
  have hown' := hblk.ne_own hown (by decide)
  have hglt := hblk.lt
  have hblt := hx.lt
  have l0 := hblk.cell 0
  have l1 := hblk.cell 1
  have l2 := hblk.cell 2
  have c0 := hx.cell 0
  have c1 := hx.cell 1
  have c2 := hx.cell 2
  have c3 := hx.cell 3
  have c4 := hx.cell 4
  have c5 := hx.cell 5
  have c6 := hx.cell 6
  have c7 := hx.cell 7
  have c8 := hx.cell 8
  have f0 := hblk.frozen 0
  simp at l0 l1 l2 c0 c1 c2 c3 c4 c5 c6 c7 c8
  obtain ⟨i0, hi0, hz0, hz1, hz2⟩ := info_parts infoIns
  go_enter Try.func11, Try.ntmps11
  go_wp2_with fail
  refine wp_loop_rounds 2 ?_
  rw [rounds_succ]
  go_wp2_with fail
  have hsz : w.heap.size ≠ g := by omega
  go_region_law
    ((refine step_append_lies _ (by rfl) _ _ _ (by rfl) base 28 i0 _ 9 72 Try.underlying32 hi0 hz0 hz1 hz2 rfl (by omega) av l.length (cellsOf l) (by rfl) (((hown.alloc _).alloc _).drew)
        ⟨w.heap.size + 1, 0, none⟩ 1 1 [.int .i64 x0, .int .i64 x1, .int .i64 x2, .int .i64 x3, .int .i64 x4, .int .i64 x5, .int .i64 x6, .int .i64 x7, .int .i64 s] (by rfl) (by rfl) (World.news_of_block (cs := #[.int .i64 x0, .int .i64 x1, .int .i64 x2, .int .i64 x3, .int .i64 x4, .int .i64 x5, .int .i64 x6, .int .i64 x7, .int .i64 s]) (t := 28) (fr := (0, 0)) (heap_alloc2_new w _ _)) (by simp [Value.oneCell'])
        (by omega) (by unfold maxLen; omega) (by omega) (by simp; omega) (w.heap.size + 2) (by simp) ?_; intro gg cap w1 hown1 hgrow hat hlt
      have k0 : w1.cell? ⟨g, 0, none⟩ = some av := (hgrow.cell_far ⟨g, 0, none⟩ (by simp; omega) (Ne.symm hown')).trans (by simp [World.cell?_alloc_some, l0])
      have k1 : w1.frozen? ⟨g, 0, none⟩ = false := (hgrow.frozen_far ⟨g, 0, none⟩ (by simp; omega) (Ne.symm hown')).trans (by simp [frozen?_alloc_cells, f0])))
  all_goals go_wp2_with fail
  all_goals
    rw [rounds_succ]
    go_wp2_with fail
    go_end0
    have hb1 : Blk w1 g 43 #[av, .int .i64 r, .int .i64 s] := (((hblk.alloc _).alloc _).drew).grown hgrow (Ne.symm hown')
    have hgg : gg ≠ g := by
      rintro rfl
      rcases hat with h | h
      · exact hown' h
      · omega
    refine ⟨rfl, .slice (some ⟨gg, 0, none⟩) (l.length + 1) cap, ⟨by simpa using hb1.set 0 (.slice (some ⟨gg, 0, none⟩) (l.length + 1) cap), ?_, ?_, hbg⟩, ?_, ?_⟩
    · rw [cellsOf_append]
      simpa [cellsOf, I9.cells] using setRow_own hown1 ⟨g, 0, none⟩ _ (by simpa [Value.ownBlock] using hgg)
    · have := hgrow.size
      simp at this ⊢
      omega
    · refine ((((Keep.refl w _).alloc _).alloc _).drew.grown hgrow (fun k hk _ => .inr hk)).setCell _ (fun _ => .inl rfl) _
    · intro k hk
      simp only [Value.ownBlock, Option.some.injEq] at hk
      subst hk
      rcases hat with h | h
      · exact .inl h
      · exact .inr (by omega)
end Go.Proofs.Ytekciedoldiieaa

/- (*Code).ends. Conditions: sizes. -/
import Derived.Test.YtfmkfmcplffhdaaLvP
import Derived.Deep.DeepCutAuto
import Derived.Deep.CutBlock
import Derived.Deep.RegionLaw
import Derived.Deep.AppendLies
import Derived.BigRegion
namespace Go.Proofs.Ytfmkfmcplffhdaa
set_option linter.unusedVariables false
open Go.RowKit
attribute [local irreducible] Blk

theorem infoIns : (Try.prog.info? 33).map (fun i => (i.zero, i.size, i.bytes)) = some (some (.agg #[.int .i64 0, .int .i64 0, .int .i64 0, .int .i64 0, .int .i64 0, .int .i64 0, .int .i64 0, .int .i64 0, .int .i64 0]), 9, 72) := by kernel_rfl
theorem infoLoc : (Try.prog.info? 57).map (fun i => (i.zero, i.size, i.bytes)) = some (some (.agg #[.string ⟨#[]⟩, .int .i64 0, .int .i64 0, .int .i64 0]), 4, 40) := by kernel_rfl
structure CodeAt (B0 : Nat) (w : World) (C : Nat) (c : CodeS) (lv xv ov : Value) : Prop where
  blk : Blk w C 46 #[lv, xv, ov]
  l : w.ownsRow B0 33 9 lv c.l.length (insCells c.l)
  lo : w.ownsRow B0 57 4 xv c.lo.length (loCells c.lo)
  opn : w.ownsRow B0 3 1 ov c.opn.length (iCells c.opn)
def EndsP (B0 : Nat) (w : World) (C : Nat) (c : CodeS) (e : Ending) (w' : World) : Prop := e = .returned (.tuple #[]) ∧ (∃ lv xv ov, CodeAt B0 w' C c lv xv ov) ∧ Below B0 w w'
theorem own_ne {w : World} {b b' : Nat} {e e' : TypeId} {s s' n n' : Nat} {v v' : Value} {xs xs' : List Value} (h : w.ownsRow b e s v n xs) (h' : w.ownsRow b' e' s' v' n' xs') (hne : e ≠ e') : v.ownBlock = none ∨ v.ownBlock ≠ v'.ownBlock := by
  rcases h.2 with ⟨rfl, _⟩ | ⟨g, cap, cur, rfl, _, hg, _⟩
  · exact .inl rfl
  · refine .inr fun hE => ?_
    have hv : v'.ownBlock = some g := hE.symm
    rcases h'.2 with ⟨rfl, _⟩ | ⟨g', cap', cur', rfl, _, hg', _⟩
    · simp [Value.ownBlock] at hv
    · have : g' = g := by simpa [Value.ownBlock] using hv
      subst this
      rw [hg] at hg'
      injection hg' with hh
      injection hh with _ ht
      exact hne ht
section
variable {B0 : Nat} {w w3 : World} {C : Nat} {c : CodeS} {lv xv ov : Value}
theorem CodeAt.alloc (h : CodeAt B0 w C c lv xv ov) (o : Obj) : CodeAt B0 (w.alloc o) C c lv xv ov := ⟨h.blk.alloc _, h.l.alloc _, h.lo.alloc _, h.opn.alloc _⟩
theorem CodeAt.drew (h : CodeAt B0 w C c lv xv ov) : CodeAt B0 w.drew C c lv xv ov := ⟨h.blk.drew, h.l, h.lo, h.opn⟩
theorem CodeAt.drewN (h : CodeAt B0 w C c lv xv ov) (n : Nat) : CodeAt B0 (w.drewN n) C c lv xv ov := ⟨h.blk.drewN n, Keep.row ((Keep.refl w (fun _ => False)).drewN n) h.l (fun _ _ h => h), Keep.row ((Keep.refl w (fun _ => False)).drewN n) h.lo (fun _ _ h => h), Keep.row ((Keep.refl w (fun _ => False)).drewN n) h.opn (fun _ _ h => h)⟩
theorem CodeAt.nl (h : CodeAt B0 w C c lv xv ov) : lv.ownBlock ≠ some C := h.blk.ne_own h.l (by decide)
theorem CodeAt.nx (h : CodeAt B0 w C c lv xv ov) : xv.ownBlock ≠ some C := h.blk.ne_own h.lo (by decide)
theorem CodeAt.no (h : CodeAt B0 w C c lv xv ov) : ov.ownBlock ≠ some C := h.blk.ne_own h.opn (by decide)
theorem at_ne {v : Value} {g H C : Nat} (hat : v.ownBlock = some g ∨ g = H) (hn : v.ownBlock ≠ some C) (hH : C < H) : g ≠ C := fun e => by
  subst e
  rcases hat with h | h
  · exact hn h
  · omega
theorem CodeAt.pushL (h : CodeAt B0 w C c lv xv ov) {new : List I9} {m gg cap H : Nat} (hm : new.length = m) (hown : w3.ownsRow B0 33 9 (.slice (some ⟨gg, 0, none⟩) (c.l.length + m) cap) (c.l.length + m) (insCells c.l ++ insCells new)) (hg : w.grownBy w3 lv.ownBlock)
    (hat : lv.ownBlock = some gg ∨ gg = H) (hH : w.heap.size ≤ H) : CodeAt B0 (w3.setCell ⟨C, 0, none⟩ (.slice (some ⟨gg, 0, none⟩) (c.l.length + m) cap)) C { c with l := c.l ++ new } (.slice (some ⟨gg, 0, none⟩) (c.l.length + m) cap) xv ov := by
  have hgg := at_ne hat h.nl (Nat.lt_of_lt_of_le h.blk.lt hH)
  refine ⟨?_, ?_, ?_, ?_⟩
  · have := (h.blk.grown hg (Ne.symm h.nl)).set 0 (.slice (some ⟨gg, 0, none⟩) (c.l.length + m) cap)
    simpa using this
  · have := setRow_own hown ⟨C, 0, none⟩ (.slice (some ⟨gg, 0, none⟩) (c.l.length + m) cap) (by simpa [Value.ownBlock] using hgg)
    simpa [insCells, hm] using this
  · exact setRow_own (h.lo.kept hg (own_ne h.lo h.l (by decide))) _ _ h.nx
  · exact setRow_own (h.opn.kept hg (own_ne h.opn h.l (by decide))) _ _ h.no
theorem CodeAt.pushX (h : CodeAt B0 w C c lv xv ov) {new : List Lo4} {m gg cap H : Nat} (hm : new.length = m) (hown : w3.ownsRow B0 57 4 (.slice (some ⟨gg, 0, none⟩) (c.lo.length + m) cap) (c.lo.length + m) (loCells c.lo ++ loCells new)) (hg : w.grownBy w3 xv.ownBlock)
    (hat : xv.ownBlock = some gg ∨ gg = H) (hH : w.heap.size ≤ H) : CodeAt B0 (w3.setCell ⟨C, 1, none⟩ (.slice (some ⟨gg, 0, none⟩) (c.lo.length + m) cap)) C { c with lo := c.lo ++ new } lv (.slice (some ⟨gg, 0, none⟩) (c.lo.length + m) cap) ov := by
  have hgg := at_ne hat h.nx (Nat.lt_of_lt_of_le h.blk.lt hH)
  refine ⟨?_, ?_, ?_, ?_⟩
  · have := (h.blk.grown hg (Ne.symm h.nx)).set 1 (.slice (some ⟨gg, 0, none⟩) (c.lo.length + m) cap)
    simpa using this
  · exact setRow_own (h.l.kept hg (own_ne h.l h.lo (by decide))) _ _ h.nl
  · have := setRow_own hown ⟨C, 1, none⟩ (.slice (some ⟨gg, 0, none⟩) (c.lo.length + m) cap) (by simpa [Value.ownBlock] using hgg)
    simpa [loCells, hm] using this
  · exact setRow_own (h.opn.kept hg (own_ne h.opn h.lo (by decide))) _ _ h.no
/-- The row of those in scope is written anew. -/
theorem CodeAt.newO (h : CodeAt B0 w C c lv xv ov) {row : Option Nat} {new : List Int} {gg cap n : Nat} (hn : n = new.length) (hown : w3.ownsRow B0 3 1 (.slice (some ⟨gg, 0, none⟩) n cap) n (iCells new)) (hg : w.grownBy w3 row) (hl : lv.ownBlock = none ∨ lv.ownBlock ≠ row) (hx : xv.ownBlock = none ∨ xv.ownBlock ≠ row) (hC : some C ≠ row)
    (hgg : gg ≠ C) : CodeAt B0 (w3.setCell ⟨C, 2, none⟩ (.slice (some ⟨gg, 0, none⟩) n cap)) C { c with opn := new } lv xv (.slice (some ⟨gg, 0, none⟩) n cap) := by
  subst hn
  refine ⟨?_, ?_, ?_, ?_⟩
  · have := (h.blk.grown hg hC).set 2 (.slice (some ⟨gg, 0, none⟩) new.length cap)
    simpa using this
  · exact setRow_own (h.l.kept hg hl) _ _ h.nl
  · exact setRow_own (h.lo.kept hg hx) _ _ h.nx
  · exact setRow_own hown ⟨C, 2, none⟩ _ (by simpa [Value.ownBlock] using hgg)
theorem CodeAt.pushO (h : CodeAt B0 w C c lv xv ov) {x : Int} {gg cap H : Nat} (hown : w3.ownsRow B0 3 1 (.slice (some ⟨gg, 0, none⟩) (c.opn.length + 1) cap) (c.opn.length + 1) (iCells c.opn ++ [.int .i64 x])) (hg : w.grownBy w3 ov.ownBlock)
    (hat : ov.ownBlock = some gg ∨ gg = H) (hH : w.heap.size ≤ H) : CodeAt B0 (w3.setCell ⟨C, 2, none⟩ (.slice (some ⟨gg, 0, none⟩) (c.opn.length + 1) cap)) C { c with opn := c.opn ++ [x] } lv xv (.slice (some ⟨gg, 0, none⟩) (c.opn.length + 1) cap) :=
  h.newO (by simp) (by simpa [iCells] using hown) hg (own_ne h.l h.opn (by decide)) (own_ne h.lo h.opn (by decide)) (Ne.symm h.no) (at_ne hat h.no (Nat.lt_of_lt_of_le h.blk.lt hH))
end
/-- The code, a step beside it, nothing older turned. -/
structure EA (B0 : Nat) (w0 w : World) (C : Nat) (c : CodeS) (lv xv ov : Value) (N : Nat) (cs : Array Value) : Prop where
  c : CodeAt B0 w C c lv xv ov
  s : Blk w N 94 cs
  b : Below B0 w0 w
  le : B0 ≤ C
section
variable {B0 : Nat} {w0 w w3 : World} {C : Nat} {c : CodeS} {lv xv ov : Value} {N : Nat} {cs : Array Value}
theorem EA.ne (h : EA B0 w0 w C c lv xv ov N cs) : N ≠ C := h.s.ne_ty h.c.blk (by decide)
theorem EA.lb (h : EA B0 w0 w C c lv xv ov N cs) : B0 ≤ w.heap.size := by have := h.c.blk.lt; have := h.le; omega
theorem EA.alloc (h : EA B0 w0 w C c lv xv ov N cs) (o : Obj) : EA B0 w0 (w.alloc o) C c lv xv ov N cs := ⟨h.c.alloc o, h.s.alloc o, h.b.alloc h.lb o, h.le⟩
theorem EA.drewN (h : EA B0 w0 w C c lv xv ov N cs) (n : Nat) : EA B0 w0 (w.drewN n) C c lv xv ov N cs := ⟨h.c.drewN n, h.s.drewN n, below_drewN h.b n, h.le⟩
theorem EA.drew (h : EA B0 w0 w C c lv xv ov N cs) : EA B0 w0 w.drew C c lv xv ov N cs := ⟨h.c.drew, h.s.drew, h.b.drew, h.le⟩
theorem EA.grow (h : EA B0 w0 w C c lv xv ov N cs) {v : Value} {n size : Nat} {e : TypeId} {xs : List Value} (ho : w.ownsRow B0 e size v n xs) (hne : e ≠ 94) (hg : w.grownBy w3 v.ownBlock) (i : Nat) (u : Value) :
    Blk (w3.setCell ⟨C, i, none⟩ u) N 94 cs ∧ Below B0 w0 (w3.setCell ⟨C, i, none⟩ u) :=
  ⟨(h.s.grown hg (Ne.symm (h.s.ne_own ho hne))).far (by exact h.ne) _, (h.b.grown hg h.lb (fun k hk => (ho.lt k hk).1)).setCell (by exact h.le) _⟩
theorem EA.pushL (h : EA B0 w0 w C c lv xv ov N cs) {new : List I9} {m gg cap H : Nat} (hm : new.length = m) (hown : w3.ownsRow B0 33 9 (.slice (some ⟨gg, 0, none⟩) (c.l.length + m) cap) (c.l.length + m) (insCells c.l ++ insCells new)) (hg : w.grownBy w3 lv.ownBlock)
    (hat : lv.ownBlock = some gg ∨ gg = H) (hH : w.heap.size ≤ H) : EA B0 w0 (w3.setCell ⟨C, 0, none⟩ (.slice (some ⟨gg, 0, none⟩) (c.l.length + m) cap)) C { c with l := c.l ++ new } (.slice (some ⟨gg, 0, none⟩) (c.l.length + m) cap) xv ov N cs :=
  ⟨h.c.pushL hm hown hg hat hH, (h.grow h.c.l (by decide) hg 0 _).1, (h.grow h.c.l (by decide) hg 0 _).2, h.le⟩
theorem EA.pushX (h : EA B0 w0 w C c lv xv ov N cs) {new : List Lo4} {m gg cap H : Nat} (hm : new.length = m) (hown : w3.ownsRow B0 57 4 (.slice (some ⟨gg, 0, none⟩) (c.lo.length + m) cap) (c.lo.length + m) (loCells c.lo ++ loCells new)) (hg : w.grownBy w3 xv.ownBlock)
    (hat : xv.ownBlock = some gg ∨ gg = H) (hH : w.heap.size ≤ H) : EA B0 w0 (w3.setCell ⟨C, 1, none⟩ (.slice (some ⟨gg, 0, none⟩) (c.lo.length + m) cap)) C { c with lo := c.lo ++ new } lv (.slice (some ⟨gg, 0, none⟩) (c.lo.length + m) cap) ov N cs :=
  ⟨h.c.pushX hm hown hg hat hH, (h.grow h.c.lo (by decide) hg 1 _).1, (h.grow h.c.lo (by decide) hg 1 _).2, h.le⟩
theorem EA.pushO (h : EA B0 w0 w C c lv xv ov N cs) {x : Int} {gg cap H : Nat} (hown : w3.ownsRow B0 3 1 (.slice (some ⟨gg, 0, none⟩) (c.opn.length + 1) cap) (c.opn.length + 1) (iCells c.opn ++ [.int .i64 x])) (hg : w.grownBy w3 ov.ownBlock)
    (hat : ov.ownBlock = some gg ∨ gg = H) (hH : w.heap.size ≤ H) : EA B0 w0 (w3.setCell ⟨C, 2, none⟩ (.slice (some ⟨gg, 0, none⟩) (c.opn.length + 1) cap)) C { c with opn := c.opn ++ [x] } lv xv (.slice (some ⟨gg, 0, none⟩) (c.opn.length + 1) cap) N cs :=
  ⟨h.c.pushO hown hg hat hH, (h.grow h.c.opn (by decide) hg 2 _).1, (h.grow h.c.opn (by decide) hg 2 _).2, h.le⟩
end
theorem fitA2 (c : CodeS) (s : StepD) (i : Nat) (last : Int) (h1 : 2 ≤ c.opn.length) (h2 : ∀ v ∈ c.opn, 0 ≤ v ∧ v < (c.lo.length : Int)) : 2 ≤ (endsA c s i last).opn.length ∧ (∀ v ∈ (endsA c s i last).opn, 0 ≤ v ∧ v < ((endsA c s i last).lo.length : Int)) := by
  unfold endsA
  split
  · refine ⟨by simp; omega, fun v hv => ?_⟩
    simp only [List.mem_append, List.mem_singleton] at hv
    rcases hv with hv | rfl
    · have := h2 v hv
      simp
      omega
    · simp
      omega
  split
  · exact ⟨h1, h2⟩
  · exact ⟨h1, h2⟩
theorem lenA (c : CodeS) (s : StepD) (i : Nat) (last : Int) : (endsA c s i last).opn.length ≤ c.opn.length + 1 ∧ (endsA c s i last).lo.length ≤ c.lo.length + 1 := by
  unfold endsA
  split
  · simp
  split <;> simp
theorem own_cap {w : World} {b : Nat} {e : TypeId} {size n g cap : Nat} {xs : List Value} (h : w.ownsRow b e size (.slice (some ⟨g, 0, none⟩) n cap) n xs) : n ≤ cap := by
  rcases h.2 with ⟨h', _⟩ | ⟨g', cap', cur', h', _, hg, hnc, _⟩
  · simp at h'
  · simp only [Value.slice.injEq, Option.some.injEq, Addr.mk.injEq, and_true, true_and] at h'
    obtain ⟨rfl, rfl⟩ := h'
    exact hnc
theorem loCells_length (l : List Lo4) : (loCells l).length = l.length * 4 := by
  induction l with
  | nil => rfl
  | cons s r ih =>
    show (s.arr.toList ++ loCells r).length = _
    rw [List.length_append, ih, List.length_cons]
    show 4 + _ = _
    omega
theorem loCells_set : ∀ (l : List Lo4) (k : Nat), k < l.length → ∀ t : Int, loCells (l.modify k (fun x => { x with till := t })) = (loCells l).set (k * 4 + 3) (.int .i64 t)
  | [], k, hk, t => by simp at hk
  | x :: r, 0, _, t => by
    show ([Value.string x.name, Value.int .i64 x.ty, Value.int .i64 x.fr, Value.int .i64 t] ++ loCells r) = ([Value.string x.name, Value.int .i64 x.ty, Value.int .i64 x.fr, Value.int .i64 x.till] ++ loCells r).set 3 _
    rfl
  | x :: r, k + 1, hk, t => by
    have ih := loCells_set r k (by simpa using hk) t
    show x.arr.toList ++ loCells (r.modify k _) = (x.arr.toList ++ loCells r).set ((k + 1) * 4 + 3) _
    rw [ih, List.set_append_right _ _ (by simp [Lo4.arr]; omega)]
    congr 2
    simp [Lo4.arr]
    omega
section
variable {B0 : Nat} {w0 w w3 : World} {C : Nat} {c : CodeS} {lv xv ov : Value} {N : Nat} {cs : Array Value}
theorem EA.setTo {gx n cap : Nat} (h : EA B0 w0 w C c lv (.slice (some ⟨gx, 0, none⟩) n cap) ov N cs) (hn : n = c.lo.length) (hgx : B0 ≤ gx) (k : Nat) (hk : k < c.lo.length) (t : Int) :
    EA B0 w0 (w.setCell ⟨gx, k * 4 + 3, none⟩ (.int .i64 t)) C { c with lo := setTill c.lo (k : Int) t } lv (.slice (some ⟨gx, 0, none⟩) n cap) ov N cs := by
  subst hn
  have nC : C ≠ gx := fun e => h.c.nx (by rw [e]; rfl)
  have nN : N ≠ gx := fun e => h.s.ne_own h.c.lo (by decide) (by rw [e]; rfl)
  have nl : lv.ownBlock ≠ some gx := by
    rcases own_ne h.c.l h.c.lo (by decide) with h1 | h1
    · rw [h1]; simp
    · exact h1
  have no : ov.ownBlock ≠ some gx := by
    rcases own_ne h.c.opn h.c.lo (by decide) with h1 | h1
    · rw [h1]; simp
    · exact h1
  refine ⟨⟨h.c.blk.far nC _, setRow_own h.c.l _ _ nl, ?_, setRow_own h.c.opn _ _ no⟩, h.s.far nN _, h.b.setCell hgx _, h.le⟩
  have h1 := (h.c.lo.stored (k * 4 + 3) (.int .i64 t)).1
  rw [← loCells_set _ _ hk] at h1
  simpa [setTill] using h1
theorem EA.newO (h : EA B0 w0 w C c lv xv ov N cs) {v : Value} {n0 : Nat} {xs0 : List Value} (hv : w.ownsRow B0 3 1 v n0 xs0) {new : List Int} {gg cap n : Nat} (hn : n = new.length) (hown : w3.ownsRow B0 3 1 (.slice (some ⟨gg, 0, none⟩) n cap) n (iCells new)) (hg : w.grownBy w3 v.ownBlock)
    (hgg : gg ≠ C) : EA B0 w0 (w3.setCell ⟨C, 2, none⟩ (.slice (some ⟨gg, 0, none⟩) n cap)) C { c with opn := new } lv xv (.slice (some ⟨gg, 0, none⟩) n cap) N cs :=
  ⟨h.c.newO hn hown hg (own_ne h.c.l hv (by decide)) (own_ne h.c.lo hv (by decide)) (fun e => h.c.blk.ne_own hv (by decide) e.symm) hgg, (h.grow hv (by decide) hg 2 _).1, (h.grow hv (by decide) hg 2 _).2, h.le⟩
end
def CutP (B0 : Nat) (w0 w : World) (C : Nat) (c : CodeS) (N : Nat) (cs : Array Value) : Prop := ∃ lv xv ov, EA B0 w0 w C c lv xv ov N cs
set_option maxRecDepth 100000 in
set_option maxHeartbeats 3200000 in
theorem ends_any (B0 : Nat) (w : World) (C : Nat) (c : CodeS) (lv xv ov : Value) (h : CodeAt B0 w C c lv xv ov) (hB0 : B0 ≤ C) (h2 : 2 ≤ c.opn.length) (hok : ∀ v ∈ c.opn, 0 ≤ v ∧ v < (c.lo.length : Int)) (hll : c.l.length ≤ 100000) (hxl : c.lo.length ≤ 100000) (hol : c.opn.length ≤ 100000) (s : StepD) (hk : s.kind < 256) (hs : s.set < 256) (opsV : Value) (i : Nat) (hi : i < 1000) (last : Int) :
    Calls Try.prog 35 #[.pointer (some ⟨C, 0, none⟩), .agg #[.int .u8 (s.kind : Int), .int .u8 (s.set : Int), opsV], .int .i64 (i : Int), .int .i64 last] w (EndsP B0 w C (endsS c s i last)) := by
  have HI := info_parts infoIns
  have HX := info_parts infoLoc
  have HO := info_parts infoInt
  have HOK := Lib.hid hok
  have hC0 := h.blk.lt
  clear hok
  go_enter Try.func35, Try.ntmps35
  go_upto_block 0 with (fail)
  go_cut [8] (fun s8 wx => CutP B0 w wx C (endsA c s i last) w.heap.size #[.int .u8 (s.kind : Int), .int .u8 (s.set : Int), opsV])
  case first =>
    have h1 := h.alloc (.cells #[.int .u8 (s.kind : Int), .int .u8 (s.set : Int), opsV] 94)
    have hb1 : Below B0 w (w.alloc (.cells #[.int .u8 (s.kind : Int), .int .u8 (s.set : Int), opsV] 94)) := (Below.refl _ w).alloc (by omega) _
    have hS1 := Blk.new w 94 #[.int .u8 (s.kind : Int), .int .u8 (s.set : Int), opsV]
    have hsz : (w.alloc (.cells #[.int .u8 (s.kind : Int), .int .u8 (s.set : Int), opsV] 94)).heap.size = w.heap.size + 1 := by simp
    obtain ⟨W, hW⟩ : ∃ W, w.alloc (.cells #[.int .u8 (s.kind : Int), .int .u8 (s.set : Int), opsV] 94) = W := ⟨_, rfl⟩
    rw [hW] at h1 hb1 hS1 hsz ⊢
    have hsz1 : w.heap.size < W.heap.size := by omega
    clear hW h hsz
    have hCl := h1.blk.lt
    have hSl := hS1.lt
    have b0 := h1.blk.cell 0
    have b1 := h1.blk.cell 1
    have b2 := h1.blk.cell 2
    have bf := h1.blk.frozen
    have s0 := hS1.cell 0
    have s1 := hS1.cell 1
    simp at b0 b1 b2 s0 s1
    have hCS : C ≠ w.heap.size := by omega
    obtain ⟨gx, capx, rfl, hgx, hgxl⟩ := h1.lo.form (by have := HOK.out _ (List.getElem_mem (show 0 < c.opn.length by omega)); omega)
    obtain ⟨go, capo, rfl, hgo, hgol⟩ := h1.opn.form (by omega)
    have hok2 := h1.opn.cells (g := go) rfl
    have HCE := Lib.hid (fun (j : Nat) (v : Int) (hv : c.opn[j]? = some v) => hok2 j _ (iCells_get hv))
    have H1 := Lib.hid (⟨h1, hS1, hb1, hB0⟩ : EA B0 w W C c lv _ _ w.heap.size #[.int .u8 (s.kind : Int), .int .u8 (s.set : Int), opsV])
    clear h1 hS1 hb1 hok2
    have hk4 : s.kind % 4 = 0 ∨ s.kind % 4 = 1 ∨ (s.kind % 4 ≠ 0 ∧ s.kind % 4 ≠ 1) := by omega
    rcases hk4 with e4 | e4 | ⟨e4, e5⟩
    · have f0 : (((s.kind : Nat) : Int) % 4 == 0) = true := by simp; omega
      have E4 := Lib.hid e4
      clear e4
      go_wp2_with (first
        | (at_builtin; obtain ⟨i0, hi0, hz0, hz1, hz2⟩ := HI; refine wpList_append_lies _ rfl (.tmp 36) (.tmp 41) _ rfl B0 33 i0 _ 9 72 Try.underlying25 hi0 hz0 hz1 hz2 rfl (by omega) lv c.l.length (insCells c.l) rfl (H1.out.c.l.alloc _) ⟨W.heap.size, 0, none⟩ 1 1 [.int .i64 2, .int .i64 0, .int .i64 0, .int .i64 (c.lo.length : Int), .int .i64 last, .int .i64 0, .int .i64 0, .int .i64 0, .int .i64 (i : Int)] rfl rfl (World.news_of_block (cs := #[.int .i64 2, .int .i64 0, .int .i64 0, .int .i64 (c.lo.length : Int), .int .i64 last, .int .i64 0, .int .i64 0, .int .i64 0, .int .i64 (i : Int)]) (t := 33) (fr := (0, 0)) (Blk.heap (Blk.newAt (by simp)))) (by simp [Value.oneCell']) (by omega) (by unfold maxLen; omega) (by omega) (by simp; omega) (W.heap.size + 1) (by simp) ?_; intro g1 cap1 w1 hown1 hgrow1 hat1 hlt1; have h2 := (H1.out.alloc (.cells #[.int .i64 2, .int .i64 0, .int .i64 0, .int .i64 (c.lo.length : Int), .int .i64 last, .int .i64 0, .int .i64 0, .int .i64 0, .int .i64 (i : Int)] 33)).pushL (new := [moveI (c.lo.length : Int) last i]) rfl hown1 hgrow1 hat1 (by simp); have B1 := (H1.out.alloc (.cells #[.int .i64 2, .int .i64 0, .int .i64 0, .int .i64 (c.lo.length : Int), .int .i64 last, .int .i64 0, .int .i64 0, .int .i64 0, .int .i64 (i : Int)] 33)).c.blk.grown hgrow1 (Ne.symm (H1.out.alloc (.cells #[.int .i64 2, .int .i64 0, .int .i64 0, .int .i64 (c.lo.length : Int), .int .i64 last, .int .i64 0, .int .i64 0, .int .i64 0, .int .i64 (i : Int)] 33)).c.nl); have p1 := B1.cell 0; have q1 := B1.cell 1; have r1 := B1.cell 2; have qf1 := B1.frozen; have ql1 := B1.lt; simp at p1 q1 r1; have H2 := Lib.hid h2; clear h2 hown1)
        | (at_builtin; obtain ⟨i0, hi0, hz0, hz1, hz2⟩ := HX; refine wpList_append_lies _ rfl (.tmp 49) (.tmp 53) _ rfl B0 57 i0 _ 4 40 Try.underlying27 hi0 hz0 hz1 hz2 rfl (by omega) (.slice (some ⟨gx, 0, none⟩) c.lo.length capx) c.lo.length (loCells c.lo) rfl (H2.out.c.lo.alloc _) ⟨w1.heap.size, 0, none⟩ 1 1 [.string ⟨#[]⟩, .int .i64 0, .int .i64 ((i : Int) + 1), .int .i64 0] rfl rfl (World.news_of_block (cs := #[.string ⟨#[]⟩, .int .i64 0, .int .i64 ((i : Int) + 1), .int .i64 0]) (t := 57) (fr := (0, 0)) (Blk.heap (Blk.newAt (by simp)))) (by simp [Value.oneCell']) (by omega) (by unfold maxLen; omega) (by omega) (by simp; omega) (w1.heap.size + 1) (by simp) ?_; intro g2 cap2 w2 hown2 hgrow2 hat2 hlt2; have h3 := (H2.out.alloc (.cells #[.string ⟨#[]⟩, .int .i64 0, .int .i64 ((i : Int) + 1), .int .i64 0] 57)).pushX (new := [⟨⟨#[]⟩, 0, (i : Int) + 1, 0⟩]) rfl hown2 hgrow2 hat2 (by simp); have B2 := (H2.out.alloc (.cells #[.string ⟨#[]⟩, .int .i64 0, .int .i64 ((i : Int) + 1), .int .i64 0] 57)).c.blk.grown hgrow2 (Ne.symm (H2.out.alloc (.cells #[.string ⟨#[]⟩, .int .i64 0, .int .i64 ((i : Int) + 1), .int .i64 0] 57)).c.nx); have p2 := B2.cell 0; have q2 := B2.cell 1; have r2 := B2.cell 2; have qf2 := B2.frozen; have ql2 := B2.lt; simp at p2 q2 r2; have H3 := Lib.hid h3; clear h3 hown2)
        | (at_builtin; obtain ⟨i0, hi0, hz0, hz1, hz2⟩ := HO; refine wpList_append_lies _ rfl (.tmp 61) (.tmp 63) _ rfl B0 3 i0 _ 1 8 Try.underlying29 hi0 hz0 hz1 hz2 rfl (by omega) (.slice (some ⟨go, 0, none⟩) c.opn.length capo) c.opn.length (iCells c.opn) rfl (H3.out.c.opn.alloc _) ⟨w2.heap.size, 0, none⟩ 1 1 [.int .i64 (c.lo.length : Int)] rfl rfl (World.news_of_block (cs := #[.int .i64 (c.lo.length : Int)]) (t := 3) (fr := (0, 0)) (Blk.heap (Blk.newAt (by simp)))) (by simp [Value.oneCell']) (by omega) (by unfold maxLen; omega) (by omega) (by simp; omega) (w2.heap.size + 1) (by simp) ?_; intro g3 cap3 w3 hown3 hgrow3 hat3 hlt3; have h4 := (H3.out.alloc (.cells #[.int .i64 (c.lo.length : Int)] 3)).pushO (x := (c.lo.length : Int)) hown3 hgrow3 hat3 (by simp); have B3 := (H3.out.alloc (.cells #[.int .i64 (c.lo.length : Int)] 3)).c.blk.grown hgrow3 (Ne.symm (H3.out.alloc (.cells #[.int .i64 (c.lo.length : Int)] 3)).c.no); have p3 := B3.cell 0; have q3 := B3.cell 1; have r3 := B3.cell 2; have qf3 := B3.frozen; have ql3 := B3.lt; simp at p3 q3 r3; have H4 := Lib.hid h4; clear h4 hown3))
      go_meet
      unfold CutP endsA
      rw [if_pos E4.out]
      exact ⟨_, _, _, H4.out⟩
    · have f0 : (((s.kind : Nat) : Int) % 4 == 0) = false := by simp; omega
      have f1 : (((s.kind : Nat) : Int) % 4 == 1) = true := by simp; omega
      have E4 := Lib.hid e4
      clear e4
      have k0 : (0 : Int) ≤ (s.set : Int) := by omega
      have k1 : (s.set : Int) < 256 := by omega
      have l0 : (0 : Int) < (c.opn.length : Int) := by omega
      have hml : s.set / 16 % c.opn.length < c.opn.length := Nat.mod_lt _ (by omega)
      have hce := HCE.out _ _ (List.getElem?_eq_getElem hml)
      rw [addr_add, Nat.zero_add] at hce
      have hpk : c.opn[s.set / 16 % c.opn.length] = pickO c.opn (s.set / 16) := by
        unfold pickO
        rw [List.getD, List.getElem?_eq_getElem hml]
        rfl
      rw [hpk] at hce
      have ht : ((s.set : Int) / 16).tmod (c.opn.length : Int) = ((s.set / 16 % c.opn.length : Nat) : Int) := by rw [IntWalk.rem_in _ _ (by omega)]; simp
      clear hpk
      generalize s.set / 16 % c.opn.length = m at *
      obtain ⟨pk, hpk⟩ : ∃ pk, pickO c.opn (s.set / 16) = pk := ⟨_, rfl⟩
      rw [hpk] at hce
      have HPK2 := Lib.hid hpk
      have m0 : (0 : Int) ≤ (m : Int) := by omega
      have m1 : (m : Int) < (c.opn.length : Int) := by omega
      have hne : c.opn ≠ [] := fun e => by rw [e] at hml; simp at hml
      have hw1 : IntKind.u8.wrap ((s.set : Int) / 16) = (s.set : Int) / 16 := IntWalk.u8_in _ (by omega)
      have hw2 : IntKind.i64.wrap ((s.set : Int) / 16) = (s.set : Int) / 16 := IntWalk.i64_in _ (by omega)
      have hw3 : IntKind.i64.wrap (m : Int) = (m : Int) := IntWalk.i64_in _ (by omega)
      clear hpk
      obtain ⟨i0, hi0, hz0, hz1, hz2⟩ := HI
      obtain ⟨g1, cap1, w1, hrun, hown1, hgrow1, hat1, hlt1⟩ := run_append_lies (P := Try.prog) ((W.alloc (.cells #[.int .i64 2, .int .i64 0, .int .i64 0, .int .i64 pk, .int .i64 last, .int .i64 0, .int .i64 0, .int .i64 0, .int .i64 (i : Int)] 33)).drew) 25 25 B0 33 i0 _ 9 72 Try.underlying25 hi0 hz0 hz1 hz2 rfl (by omega) lv c.l.length (insCells c.l) ((H1.out.alloc (.cells #[.int .i64 2, .int .i64 0, .int .i64 0, .int .i64 pk, .int .i64 last, .int .i64 0, .int .i64 0, .int .i64 0, .int .i64 (i : Int)] 33)).drew.c.l) ⟨W.heap.size, 0, none⟩ 1 1 [.int .i64 2, .int .i64 0, .int .i64 0, .int .i64 pk, .int .i64 last, .int .i64 0, .int .i64 0, .int .i64 0, .int .i64 (i : Int)] (by rfl) (World.news_of_block (cs := #[.int .i64 2, .int .i64 0, .int .i64 0, .int .i64 pk, .int .i64 last, .int .i64 0, .int .i64 0, .int .i64 0, .int .i64 (i : Int)]) (t := 33) (fr := (0, 0)) (Blk.heap (Blk.drew (Blk.new W _ _)))) (by simp [Value.oneCell']) (by omega) (by unfold maxLen; omega) (by omega) (by simp; omega) (W.heap.size + 1) (by simp)
      have h2 := ((H1.out.alloc (.cells #[.int .i64 2, .int .i64 0, .int .i64 0, .int .i64 pk, .int .i64 last, .int .i64 0, .int .i64 0, .int .i64 0, .int .i64 (i : Int)] 33)).drew).pushL (new := [moveI pk last i]) rfl hown1 hgrow1 hat1 (by simp)
      have B1 := ((H1.out.alloc (.cells #[.int .i64 2, .int .i64 0, .int .i64 0, .int .i64 pk, .int .i64 last, .int .i64 0, .int .i64 0, .int .i64 0, .int .i64 (i : Int)] 33)).drew).c.blk.grown hgrow1 (Ne.symm ((H1.out.alloc (.cells #[.int .i64 2, .int .i64 0, .int .i64 0, .int .i64 pk, .int .i64 last, .int .i64 0, .int .i64 0, .int .i64 0, .int .i64 (i : Int)] 33)).drew).c.nl)
      have p1 := B1.cell 0
      have qf1 := B1.frozen
      simp at p1
      have H2 := Lib.hid h2
      clear h2 hown1 hgrow1 hat1 hlt1 B1 hi0 hz0 hz1 hz2
      simp [go_sem] at hrun
      go_wp2_with fail
      go_region
      clear hrun hw1 hw2 hw3 ht hce m0 m1
      go_wp2_with fail
      go_meet
      unfold CutP endsA
      rw [if_neg (by rw [E4.out]; decide), if_pos E4.out, HPK2.out]
      exact ⟨_, _, _, H2.out⟩
    · have f0 : (((s.kind : Nat) : Int) % 4 == 0) = false := by simp; omega
      have f1 : (((s.kind : Nat) : Int) % 4 == 1) = false := by simp; omega
      have E4 := Lib.hid e4
      have E5 := Lib.hid e5
      clear e4 e5
      go_wp2_with (at_builtin; obtain ⟨i0, hi0, hz0, hz1, hz2⟩ := HI; refine wpList_append_lies _ rfl (.tmp 17) (.tmp 21) _ rfl B0 33 i0 _ 9 72 Try.underlying25 hi0 hz0 hz1 hz2 rfl (by omega) lv c.l.length (insCells c.l) rfl (H1.out.c.l.alloc _) ⟨W.heap.size, 0, none⟩ 1 1 [.int .i64 10, .int .i64 0, .int .i64 0, .int .i64 0, .int .i64 last, .int .i64 0, .int .i64 0, .int .i64 0, .int .i64 (i : Int)] rfl rfl (World.news_of_block (cs := #[.int .i64 10, .int .i64 0, .int .i64 0, .int .i64 0, .int .i64 last, .int .i64 0, .int .i64 0, .int .i64 0, .int .i64 (i : Int)]) (t := 33) (fr := (0, 0)) (Blk.heap (Blk.newAt (by simp)))) (by simp [Value.oneCell']) (by omega) (by unfold maxLen; omega) (by omega) (by simp; omega) (W.heap.size + 1) (by simp) ?_; intro g1 cap1 w1 hown1 hgrow1 hat1 hlt1; have h2 := (H1.out.alloc (.cells #[.int .i64 10, .int .i64 0, .int .i64 0, .int .i64 0, .int .i64 last, .int .i64 0, .int .i64 0, .int .i64 0, .int .i64 (i : Int)] 33)).pushL (new := [outI last i]) rfl hown1 hgrow1 hat1 (by simp); have B1 := (H1.out.alloc (.cells #[.int .i64 10, .int .i64 0, .int .i64 0, .int .i64 0, .int .i64 last, .int .i64 0, .int .i64 0, .int .i64 0, .int .i64 (i : Int)] 33)).c.blk.grown hgrow1 (Ne.symm (H1.out.alloc (.cells #[.int .i64 10, .int .i64 0, .int .i64 0, .int .i64 0, .int .i64 last, .int .i64 0, .int .i64 0, .int .i64 0, .int .i64 (i : Int)] 33)).c.nl); have p1 := B1.cell 0; have q1 := B1.cell 1; have r1 := B1.cell 2; have qf1 := B1.frozen; have ql1 := B1.lt; simp at p1 q1 r1; have H2 := Lib.hid h2; clear h2 hown1)
      go_meet
      unfold CutP endsA
      rw [if_neg E4.out, if_neg E5.out]
      exact ⟨_, _, _, H2.out⟩
  case rest =>
    have hfa := fitA2 c s i last h2 HOK.out
    have hal := lenA c s i last
    obtain ⟨lv1, xv1, ov1, hE⟩ := hcut
    have HDEF := Lib.hid (show endsS c s i last = endsB (endsA c s i last) s i from rfl)
    generalize endsA c s i last = d at *
    obtain ⟨hd1, hd2⟩ := hfa
    have HD2 := Lib.hid hd2
    have hdo : d.opn.length ≤ 100001 := by omega
    have hdx : d.lo.length ≤ 100001 := by omega
    clear hd2 hal
    have hCl := hE.c.blk.lt
    have hSl := hE.s.lt
    have hne := hE.ne
    have b0 := hE.c.blk.cell 0
    have b1 := hE.c.blk.cell 1
    have b2 := hE.c.blk.cell 2
    have bf := hE.c.blk.frozen
    have s0 := hE.s.cell 0
    simp at b0 b1 b2 s0
    obtain ⟨go, capo, rfl, hgo, hgol⟩ := hE.c.opn.form (by omega)
    have k0 : (0 : Int) ≤ (s.kind : Int) := by omega
    have k1 : (s.kind : Int) < 256 := by omega
    by_cases hA : 11 < s.kind % 16
    · have f0 : decide ((11 : Int) < ((s.kind : Nat) : Int) % 16) = true := by simp; omega
      by_cases hB : 2 < d.opn.length
      · have f1 : decide ((2 : Int) < (d.opn.length : Int)) = true := by simp; omega
        obtain ⟨m, hm⟩ : ∃ m, d.opn.length = m + 1 := ⟨d.opn.length - 1, by omega⟩
        have hml : m < d.opn.length := by omega
        have hce := hE.c.opn.cells (g := go) rfl m _ (iCells_get (List.getElem?_eq_getElem hml))
        rw [addr_add, Nat.zero_add] at hce
        have hvb := HD2.out _ (List.getElem_mem hml)
        have HV := Lib.hid (show d.opn.getD (d.opn.length - 1) 0 = d.opn[m] by rw [List.getD, show d.opn.length - 1 = m by omega, List.getElem?_eq_getElem hml]; rfl)
        generalize d.opn[m] = v0 at *
        obtain ⟨vn, rfl⟩ : ∃ vn : Nat, v0 = (vn : Int) := ⟨v0.toNat, by omega⟩
        have hvx : vn < d.lo.length := by omega
        obtain ⟨gx, capx, rfl, hgx, hgxl⟩ := hE.c.lo.form (by omega)
        have hcx := hE.c.lo.cellAt (vn * 4 + 3) (by omega)
        obtain ⟨u0, hu0⟩ : ∃ u0, (loCells d.lo)[vn * 4 + 3]? = some u0 := ⟨_, List.getElem?_eq_getElem (by rw [loCells_length]; omega)⟩
        rw [hu0] at hcx
        have hfx := hE.c.lo.frozenAt (vn * 4 + 3)
        have v0' : (0 : Int) ≤ (vn : Int) := by omega
        have v1' : (vn : Int) < (d.lo.length : Int) := by omega
        have m0 : (0 : Int) ≤ (m : Int) := by omega
        have m1 : (m : Int) < (d.opn.length : Int) := by omega
        have m2 : (0 : Int) < (d.opn.length : Int) := by omega
        have hw1 : IntKind.i64.wrap ((d.opn.length : Int) - 1) = (m : Int) := by rw [IntWalk.i64_in _ (by omega)]; omega
        have HM := Lib.hid hm
        have hm2 : 2 ≤ m := by omega
        have HE := Lib.hid hE
        clear hE hm hu0 hvb
        go_wp2_with fail
        go_quiet (fail)
        go_wp2_with fail
        have hE2 := (HE.out.drewN nq).setTo rfl hgx vn hvx ((i : Int) + 1)
        obtain ⟨W2, hW2⟩ : ∃ W2, (wc.drewN nq).setCell ⟨gx, vn * 4 + 3, none⟩ (.int .i64 ((i : Int) + 1)) = W2 := ⟨_, rfl⟩
        rw [hW2] at hE2 ⊢
        have hC2 := hE2.c.blk.lt
        have b0' := hE2.c.blk.cell 0
        have b2' := hE2.c.blk.cell 2
        have bf' := hE2.c.blk.frozen
        simp at b0' b2'
        have hrow0 : (W2.alloc (.cells #[] 3)).drew.ownsRow B0 3 1 (.slice (some ⟨W2.heap.size, 0, none⟩) 0 0) 0 [] := own_of_blk (Blk.drew (Blk.new W2 _ _)) hE2.lb (Nat.zero_le _) rfl rfl
        have hE3 := (hE2.alloc (.cells #[] 3)).drew
        have hoc := hE3.c.opn.cells (g := go) rfl
        obtain ⟨i0, hi0, hz0, hz1, hz2⟩ := HO
        have htl : (iCells (d.opn.take m)).length = m * 1 := by rw [iCells_length, List.length_take, Nat.min_eq_left (by omega), Nat.mul_one]
        obtain ⟨g1, cap1, w1, hrun, hown1, hgrow1, hat1, hlt1⟩ := run_append_lies (P := Try.prog) ((W2.alloc (.cells #[] 3)).drew) 29 29 B0 3 i0 _ 1 8 Try.underlying29 hi0 hz0 hz1 hz2 rfl (by omega) (.slice (some ⟨W2.heap.size, 0, none⟩) 0 0) 0 [] hrow0 ⟨go, 0, none⟩ m capo (iCells (d.opn.take m)) htl (fun j u hu => by
          have hj : j < m := by have := (List.getElem?_eq_some_iff.1 hu).1; omega
          refine hoc j u ?_
          rw [← hu]
          unfold iCells
          rw [List.map_take, List.getElem?_take, if_pos hj]) (fun u hu => by obtain ⟨z, _, rfl⟩ := List.mem_map.1 hu; rfl) (by omega) (by unfold maxLen; omega) (by omega) (by have := hE2.lb; simp; omega) (W2.heap.size + 1) (by simp)
        have hgg : g1 ≠ C := by
          rintro rfl
          rcases hat1 with h | h
          · have : W2.heap.size = g1 := by simpa [Value.ownBlock] using h
            omega
          · omega
        have hlen : 0 + m = (d.opn.take m).length := by rw [List.length_take]; omega
        have hE4 := hE3.newO hrow0 hlen (by simpa using hown1) hgrow1 hgg
        have B1 := hE3.c.blk.grown hgrow1 (fun e => hE3.c.blk.ne_own hrow0 (by decide) e.symm)
        have p1 := B1.cell 2
        have qf1 := B1.frozen
        simp at p1
        simp only [Nat.zero_add] at hE4
        have H4 := Lib.hid hE4
        have hmc : m ≤ capo := by have := own_cap hE2.c.opn; omega
        clear hE4 hown1 hgrow1 hat1 hlt1 B1 hi0 hz0 hz1 hz2 hE2 hE3 hoc htl hrow0 hlen hgg
        have hm0 : m ≠ 0 := by omega
        have hm9 : ¬ ((9223372036854775807 : Int) < (m : Int)) := by omega
        simp [go_sem, hm0, hm9] at hrun
        go_big_region
        clear hrun
        go_wp2_with fail
        go_end0
        unfold EndsP
        rw [HDEF.out, show endsB d s i = { d with lo := setTill d.lo (d.opn.getD (d.opn.length - 1) 0) ((i : Int) + 1), opn := d.opn.take (d.opn.length - 1) } by unfold endsB; rw [if_pos ⟨hA, hB⟩], HV.out, show d.opn.length - 1 = m by have := HM.out; omega]
        exact ⟨rfl, ⟨_, _, _, H4.out.c⟩, H4.out.b⟩
      · have f1 : decide ((2 : Int) < (d.opn.length : Int)) = false := by simp; omega
        have HE := Lib.hid hE
        clear hE
        go_wp2_with fail
        go_end0
        unfold EndsP
        rw [HDEF.out, show endsB d s i = d by unfold endsB; rw [if_neg (by omega)]]
        exact ⟨rfl, ⟨_, _, _, HE.out.c⟩, HE.out.b⟩
    · have f0 : decide ((11 : Int) < ((s.kind : Nat) : Int) % 16) = false := by simp; omega
      have HE := Lib.hid hE
      clear hE
      go_wp2_with fail
      go_end0
      unfold EndsP
      rw [HDEF.out, show endsB d s i = d by unfold endsB; rw [if_neg (by omega)]]
      exact ⟨rfl, ⟨_, _, _, HE.out.c⟩, HE.out.b⟩
end Go.Proofs.Ytfmkfmcplffhdaa

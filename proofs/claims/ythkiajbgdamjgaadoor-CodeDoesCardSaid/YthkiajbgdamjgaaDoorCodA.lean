/- Package code: the chooser's small methods: add, home, word, n, cell. Conditions: fewer than 10^12 instructions. -/
import Derived.Test.YthkiajbgdamjgaaDoorProg
import Derived.Test.YthkiajbgdamjgaaDoorMem
import Derived.Test.YthkiajbgdamjgaaDoorMaps
namespace Go.Proofs.YthkiajbgdamjgaaDoor
open Go.RowKit
theorem infoCode : (Tryd.prog.info? 49).map (fun i => (i.zero, i.size, i.bytes)) = some (some (.agg #[.int .u8 0, .int .u8 0, .int .u8 0, .int .u8 0, .int .i32 0]), 5, 8) := by kernel_rfl

/-- An instruction with three addresses. -/
structure I9 where
  op : Int
  op2 : Int
  ty : Int
  d : Int
  a : Int
  b : Int
  n : Int
  count : Int
  step : Int
/-- An instruction of the machine. -/
structure C5 where
  op : Int
  a : Int
  b : Int
  c : Int
  n : Int
  deriving DecidableEq
def C5.cells (x : C5) : List Value := [.int .u8 x.op, .int .u8 x.a, .int .u8 x.b, .int .u8 x.c, .int .i32 x.n]
def codeCells (l : List C5) : List Value := l.flatMap C5.cells
theorem codeCells_append (l m : List C5) : codeCells (l ++ m) = codeCells l ++ codeCells m := by simp [codeCells]
theorem codeCells_length (l : List C5) : (codeCells l).length = l.length * 5 := by
  induction l with
  | nil => rfl
  | cons x t ih => simp only [codeCells, List.flatMap_cons, List.length_append, List.length_cons] at *; rw [ih]; simp [C5.cells]; omega
theorem codeCells_one (l : List C5) : ∀ u ∈ codeCells l, u.oneCell' = true := by
  intro u hu
  simp only [codeCells, List.mem_flatMap] at hu
  obtain ⟨x, _, hx⟩ := hu
  simp only [C5.cells, List.mem_cons, List.mem_nil_iff, or_false] at hx
  rcases hx with rfl | rfl | rfl | rfl | rfl <;> rfl
/-- Where a value lives. -/
structure HV where
  isSlot : Bool
  n : Int
/-- A slice of homes that lies below block B. -/
def RepH (w : World) (B : Nat) (A : Option Addr) (hs : List HV) : Prop :=
  hs ≠ [] → ∃ b o, A = some ⟨b, o, none⟩ ∧ b < B ∧ ∀ k h, hs[k]? = some h → w.cell? ⟨b, o + k * 2, none⟩ = some (.bool h.isSlot) ∧ w.cell? ⟨b, o + k * 2 + 1, none⟩ = some (.int .i64 h.n)
theorem RepH.kept {w w' : World} {B : Nat} {S : Nat → Prop} {A : Option Addr} {hs : List HV} (h : RepH w B A hs) (hk : Keep w w' S) (hB : B ≤ w.heap.size) (hS : ∀ k, k < B → ¬ S k) : RepH w' B A hs := fun hne => by
  obtain ⟨b, o, hA, hb, hall⟩ := h hne
  refine ⟨b, o, hA, hb, fun k x hx => ?_⟩
  obtain ⟨h1, h2⟩ := hall k x hx
  exact ⟨(hk.cell (a := ⟨b, _, none⟩) (by show b < _; omega) (hS _ hb)).trans h1, (hk.cell (a := ⟨b, _, none⟩) (by show b < _; omega) (hS _ hb)).trans h2⟩

/-- The block g is a chooser. -/
structure Cho (w : World) (g base : Nat) (i : I9) (A : Option Addr) (hs : List HV) (hc : Nat) (bs : Int) (ov : Value) (out : List C5) : Prop where
  blk : Blk w g 63 #[.int .i64 i.op, .int .i64 i.op2, .int .i64 i.ty, .int .i64 i.d, .int .i64 i.a, .int .i64 i.b, .int .i64 i.n, .int .i64 i.count, .int .i64 i.step, .slice A hs.length hc, .int .i64 bs, ov]
  own : w.ownsRow base 49 5 ov out.length (codeCells out)
  homes : RepH w base A hs
  low : base ≤ w.heap.size
  lowg : base ≤ g
  many : hs.length < 1000000000000000000
/-- What a step of it leaves of the world. -/
structure CS (w w' : World) (g : Nat) (ov ov' : Value) : Prop where
  keep : Keep w w' (fun k => k = g ∨ ov.ownBlock = some k)
  fresh : Fresh w ov ov'
theorem CS.refl (w : World) (g : Nat) (av : Value) : CS w w g av av := ⟨Keep.refl _ _, Fresh.refl _ _⟩
theorem CS.trans {w w' w'' : World} {g : Nat} {a b c : Value} (h : CS w w' g a b) (h' : CS w' w'' g b c) : CS w w'' g a c :=
  ⟨h.keep.trans h'.keep (fun k hk hs => by
    rcases hs with hs | hs
    · exact .inl hs
    · rcases h.fresh k hs with h1 | h1
      · exact .inr h1
      · omega), h.fresh.trans h'.fresh h.keep.size⟩
theorem CS.alloc {w w' : World} {g : Nat} {a b : Value} (h : CS w w' g a b) (o : Obj) : CS w (w'.alloc o) g a b := ⟨h.keep.alloc o, h.fresh⟩
theorem CS.drew {w w' : World} {g : Nat} {a b : Value} (h : CS w w' g a b) : CS w w'.drew g a b := ⟨h.keep.drew, h.fresh⟩
theorem CS.drewN {w w' : World} {g : Nat} {a b : Value} (h : CS w w' g a b) (n : Nat) : CS w (w'.drewN n) g a b := ⟨h.keep.drewN n, h.fresh⟩
theorem CS.setNew {w w' : World} {g : Nat} {a b : Value} (h : CS w w' g a b) (p : Addr) (hp : w.heap.size ≤ p.block) (u : Value) : CS w (w'.setCell p u) g a b :=
  ⟨h.keep.setCell _ (fun hc => by omega) u, h.fresh⟩
section
variable {w w' : World} {S : Nat → Prop} {g base hc : Nat} {i : I9} {A : Option Addr} {hs : List HV} {bs : Int} {ov ov' : Value} {out : List C5}
theorem Cho.keep (h : Cho w g base i A hs hc bs ov out) (hk : Keep w w' S) (hg : ¬ S g) (ha : ∀ k, ov.ownBlock = some k → ¬ S k) (hb : ∀ k, k < base → ¬ S k) : Cho w' g base i A hs hc bs ov out :=
  ⟨hk.blk h.blk hg, hk.row h.own ha, h.homes.kept hk h.low hb, Nat.le_trans h.low hk.size, h.lowg, h.many⟩
theorem Cho.alloc (h : Cho w g base i A hs hc bs ov out) (o : Obj) : Cho (w.alloc o) g base i A hs hc bs ov out :=
  h.keep (S := fun _ => False) ((Keep.refl w _).alloc o) (fun h => h) (fun _ _ h => h) (fun _ _ h => h)
theorem Cho.drew (h : Cho w g base i A hs hc bs ov out) : Cho w.drew g base i A hs hc bs ov out := ⟨h.blk, h.own, h.homes, h.low, h.lowg, h.many⟩
theorem Cho.drewN (h : Cho w g base i A hs hc bs ov out) (n : Nat) : Cho (w.drewN n) g base i A hs hc bs ov out := ⟨h.blk, h.own, h.homes, h.low, h.lowg, h.many⟩
theorem Cho.setOther (h : Cho w g base i A hs hc bs ov out) {k : Nat} {t : TypeId} {cs : Array Value} (hb : Blk w k t cs) (hk : base ≤ k) (h1 : t ≠ 63) (h2 : t ≠ 49 ∨ ov.ownBlock ≠ some k) (j : Nat) (u : Value) :
    Cho (w.setCell ⟨k, j, none⟩ u) g base i A hs hc bs ov out :=
  h.keep (S := fun b => b = k) ((Keep.refl w (fun b => b = k)).setCell ⟨k, j, none⟩ (fun _ => rfl) u) (fun e => hb.ne_ty h.blk h1 e.symm) (fun b hkk e => by
    subst e
    rcases h2 with h2 | h2
    · exact hb.ne_own h.own (fun e => h2 e.symm) hkk
    · exact h2 hkk) (fun b hb2 e => by omega)
/-- A block of the caller's own is none of the chooser's. -/
theorem CS.blk (h : CS w w' g ov ov') (hl : Cho w g base i A hs hc bs ov out) {k : Nat} {t : TypeId} {cs : Array Value} (hb : Blk w k t cs)
    (h1 : t ≠ 63) (h2 : t ≠ 49 ∨ ov.ownBlock ≠ some k) : Blk w' k t cs :=
  h.keep.blk hb (fun hc => by
    rcases hc with hc | hc
    · exact hb.ne_ty hl.blk h1 hc
    · rcases h2 with h2 | h2
      · exact hb.ne_own hl.own (fun e => h2 e.symm) hc
      · exact h2 hc)
end

set_option maxRecDepth 100000 in
set_option maxHeartbeats 3200000 in
/-- add, of whatever instructions. -/
theorem add_any (w : World) (g b base : Nat) (i : I9) (A : Option Addr) (hs : List HV) (hc : Nat) (bs : Int) (ov : Value) (out news : List C5) (c : Nat)
    (hl : Cho w g base i A hs hc bs ov out) (hx : Blk w b 49 (codeCells news).toArray) (hnews : 0 < news.length) (hn : out.length + news.length < 1000000000000) :
    Calls Tryd.prog 54 #[.pointer (some ⟨g, 0, none⟩), .slice (some ⟨b, 0, none⟩) news.length c] w fun e w' => e = .returned (.tuple #[]) ∧
      ∃ ov', Cho w' g base i A hs hc bs ov' (out ++ news) ∧ CS w w' g ov ov' := by
  obtain ⟨hblk, hown, hhom, hbase, hbg, hmany⟩ := hl
  have hown' := hblk.ne_own hown (by decide)
  have hglt := hblk.lt
  have l11 := hblk.cell 11
  have f11 := hblk.frozen 11
  simp at l11
  obtain ⟨i0, hi0, hz0, hz1, hz2⟩ := info_parts infoCode
  go_enter Tryd.func54, Tryd.ntmps54
  go_wp2_with (at_builtin; refine wpList_append_lies _ rfl (.tmp 8) (.tmp 9) _ rfl base 49 i0 _ 5 8 Tryd.underlying28 hi0 hz0 hz1 hz2 rfl (by omega) ov out.length (codeCells out) rfl hown ⟨b, 0, none⟩ news.length c (codeCells news) rfl ?hlen ?hcells ?hone hnews ?h63 ?hby hbase w.heap.size rfl ?rest)
  case hlen => exact codeCells_length news
  case hcells => intro j u hu; rw [addr_add, hx.cell, Nat.zero_add]; simpa using hu
  case hone => exact codeCells_one news
  case h63 => unfold maxLen; omega
  case hby => omega
  case rest =>
    intro gg cap w1 hown1 hgrow hat hlt
    have k0 : w1.cell? ⟨g, 11, none⟩ = some ov := (hgrow.cell_far ⟨g, 11, none⟩ hglt (Ne.symm hown')).trans l11
    have k1 : w1.frozen? ⟨g, 11, none⟩ = false := (hgrow.frozen_far ⟨g, 11, none⟩ hglt (Ne.symm hown')).trans f11
    go_wp2_with fail
    go_end0
    have hb1 := hblk.grown hgrow (Ne.symm hown')
    have hgg : gg ≠ g := by
      rintro rfl
      rcases hat with h | h
      · exact hown' h
      · omega
    have hKp : Keep w w1 (fun k => k = g ∨ ov.ownBlock = some k) := (Keep.refl w _).grown hgrow (fun k hk _ => .inr hk)
    have hK2 := hKp.setCell ⟨g, 11, none⟩ (fun _ => .inl rfl) (.slice (some ⟨gg, 0, none⟩) (out.length + news.length) cap)
    refine ⟨rfl, .slice (some ⟨gg, 0, none⟩) (out.length + news.length) cap, ⟨by simpa using hb1.set 11 (.slice (some ⟨gg, 0, none⟩) (out.length + news.length) cap), ?_, hhom.kept hK2 hbase ?_, Nat.le_trans hbase hK2.size, hbg, hmany⟩, hK2, ?_⟩
    · rw [codeCells_append, List.length_append]
      exact setRow_own hown1 ⟨g, 11, none⟩ _ (by simpa [Value.ownBlock] using hgg)
    · intro k hk hcc
      rcases hcc with hcc | hcc
      · omega
      · have := hown.lt _ hcc; omega
    · intro k hk
      simp only [Value.ownBlock, Option.some.injEq] at hk
      subst hk
      rcases hat with h | h
      · exact .inl h
      · exact .inr (by omega)

/-- The home of a virtual register. -/
def homeOf (hs : List HV) (v : Int) : HV := if 0 ≤ v then (hs[v.toNat]?).getD ⟨false, 0⟩ else ⟨false, 0⟩

set_option maxRecDepth 100000 in
set_option maxHeartbeats 3200000 in
theorem home_any (w : World) (g base : Nat) (i : I9) (A : Option Addr) (hs : List HV) (hc : Nat) (bs : Int) (ov : Value) (out : List C5) (v : Int)
    (hl : Cho w g base i A hs hc bs ov out) :
    Calls Tryd.prog 57 #[.pointer (some ⟨g, 0, none⟩), .int .i64 v] w fun e w' => e = .returned (.agg #[.bool (homeOf hs v).isSlot, .int .i64 (homeOf hs v).n]) ∧
      w.alloc (.cells #[.bool (homeOf hs v).isSlot, .int .i64 (homeOf hs v).n] 36) = w' := by
  have hglt := hl.blk.lt
  have l9 := hl.blk.cell 9
  simp at l9
  have hmany := hl.many
  have hlow := hl.low
  by_cases h0 : 0 ≤ v
  · by_cases h1 : v < hs.length
    · obtain ⟨k, rfl⟩ := Int.eq_ofNat_of_zero_le h0
      have hk : k < hs.length := by omega
      obtain ⟨b, o, rfl, hb, hall⟩ := hl.homes (by intro h; rw [h] at hk; simp at hk)
      obtain ⟨x, hx⟩ : ∃ x, hs[k]? = some x := ⟨hs[k], by simp [hk]⟩
      obtain ⟨c0, c1⟩ := hall k x hx
      have hh : homeOf hs (k : Int) = x := by simp [homeOf, hx]
      rw [hh]
      have hblt : b < w.heap.size := by omega
      clear hall hx hh
      go_enter Tryd.func57, Tryd.ntmps57
      go_wp2
      exact bodyPost_ret (v := .agg #[.bool x.isSlot, .int .i64 x.n]) (by simp [results, Tryd.results57, go_sem]) rfl ⟨rfl, rfl⟩
    · have hh : homeOf hs v = ⟨false, 0⟩ := by
        unfold homeOf
        rw [if_pos h0, List.getElem?_eq_none (by omega)]
        rfl
      rw [hh]
      clear hh
      go_enter Tryd.func57, Tryd.ntmps57
      go_wp2
      exact bodyPost_ret (v := .agg #[.bool false, .int .i64 0]) (by simp [results, Tryd.results57, go_sem]) rfl ⟨rfl, rfl⟩
  · have hh : homeOf hs v = ⟨false, 0⟩ := by
      unfold homeOf
      rw [if_neg h0]
    rw [hh]
    clear hh
    go_enter Tryd.func57, Tryd.ntmps57
    go_wp2
    exact bodyPost_ret (v := .agg #[.bool false, .int .i64 0]) (by simp [results, Tryd.results57, go_sem]) rfl ⟨rfl, rfl⟩

set_option maxRecDepth 100000 in
set_option maxHeartbeats 3200000 in
theorem n_any (w : World) (g base : Nat) (i : I9) (A : Option Addr) (hs : List HV) (hc : Nat) (bs : Int) (ov : Value) (out : List C5)
    (hl : Cho w g base i A hs hc bs ov out) :
    Calls Tryd.prog 55 #[.pointer (some ⟨g, 0, none⟩)] w fun e w' => e = .returned (.int .i32 (wrap32 i.n)) ∧ w = w' := by
  have hglt := hl.blk.lt
  have l6 := hl.blk.cell 6
  simp at l6
  go_enter Tryd.func55, Tryd.ntmps55
  go_wp2
  go_ret
  exact ⟨rfl, rfl⟩

set_option maxRecDepth 100000 in
set_option maxHeartbeats 3200000 in
theorem word_any (w : World) (g base : Nat) (i : I9) (A : Option Addr) (hs : List HV) (hc : Nat) (bs : Int) (ov : Value) (out : List C5) (x : HV)
    (hl : Cho w g base i A hs hc bs ov out) :
    Calls Tryd.prog 59 #[.pointer (some ⟨g, 0, none⟩), .agg #[.bool x.isSlot, .int .i64 x.n]] w fun e w' => e = .returned (.int .i32 (wrap32 (wrap64 (bs + x.n)))) ∧ ∃ n, (w.alloc (.cells #[.bool x.isSlot, .int .i64 x.n] 36)).drewN n = w' := by
  have hglt := hl.blk.lt
  have l10 := hl.blk.cell 10
  simp at l10
  go_enter Tryd.func59, Tryd.ntmps59
  go_wp2_with fail
  go_quiet (fail)
  go_wp2
  go_ret
  exact ⟨rfl, _, rfl⟩

set_option maxRecDepth 100000 in
set_option maxHeartbeats 3200000 in
theorem cell_any (w : World) (g base : Nat) (i : I9) (A : Option Addr) (hs : List HV) (hc : Nat) (bs : Int) (ov : Value) (out : List C5)
    (hl : Cho w g base i A hs hc bs ov out) :
    Calls Tryd.prog 60 #[.pointer (some ⟨g, 0, none⟩)] w fun e w' => e = .returned (.int .i32 (wrap32 (wrap64 (wrap64 (i.n * 128) + i.count)))) ∧ ∃ n, w.drewN n = w' := by
  have hglt := hl.blk.lt
  have l6 := hl.blk.cell 6
  have l7 := hl.blk.cell 7
  simp at l6 l7
  go_enter Tryd.func60, Tryd.ntmps60
  go_wp2_with fail
  go_quiet (fail)
  go_wp2
  go_ret
  exact ⟨rfl, _, rfl⟩
end Go.Proofs.YthkiajbgdamjgaaDoor

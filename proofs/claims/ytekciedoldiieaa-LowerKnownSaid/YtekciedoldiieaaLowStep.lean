/- Steps as data, and the plain methods of package lower at a step: put, in, enter, leave, halt. -/
import Derived.Test.YtekciedoldiieaaLowValueBin
namespace Go.Proofs.Ytekciedoldiieaa
open Go.RowKit

/-- A step. -/
structure SV where
  op : Int
  line : Int
  var : Int
  addr : Int
  count : Int
  ty : Int
  es : List EV
  func : Int
  reg : Int
  next : Int
  els : Int
/-- A slice of expressions. -/
def RepEs (w : World) (B : Nat) (A : Option Addr) (es : List EV) : Prop :=
  es ≠ [] → ∃ b o, A = some ⟨b, o, none⟩ ∧ b < B ∧ ∀ j e, es[j]? = some e → ∃ cs, Rep w B e cs ∧ ∀ i u, cs[i]? = some u → w.cell? ⟨b, o + 8 * j + i, none⟩ = some u
def SV.cells (s : SV) (A : Option Addr) (c : Nat) : Array Value :=
  #[.int .i64 s.op, .int .i64 s.line, .int .i64 s.var, .int .i64 s.addr, .int .i64 s.count, .int .i64 s.ty, .slice A s.es.length c, .int .i64 s.func, .int .i64 s.reg, .int .i64 s.next, .int .i64 s.els]
theorem RepEs.kept {w w' : World} {B : Nat} {S : Nat → Prop} {A : Option Addr} {es : List EV} (h : RepEs w B A es) (hk : Keep w w' S) (hB : B ≤ w.heap.size) (hs : ∀ k, k < B → ¬ S k) : RepEs w' B A es := fun hne => by
  obtain ⟨b, o, hA, hb, hall⟩ := h hne
  refine ⟨b, o, hA, hb, fun j e he => ?_⟩
  obtain ⟨cs, hr, hc⟩ := hall j e he
  exact ⟨cs, hr.kept hk hB hs, fun i u hu => (hk.cell (a := ⟨b, o + 8 * j + i, none⟩) (by show b < _; omega) (hs _ hb)).trans (hc i u hu)⟩
theorem RepEs.more {w : World} {B B' : Nat} {A : Option Addr} {es : List EV} (h : RepEs w B A es) (hB : B ≤ B') : RepEs w B' A es := fun hne => by
  obtain ⟨b, o, hA, hb, hall⟩ := h hne
  refine ⟨b, o, hA, by omega, fun j e he => ?_⟩
  obtain ⟨cs, hr, hc⟩ := hall j e he
  exact ⟨cs, hr.more hB, hc⟩
theorem RepEs.step {w w' : World} {g base : Nat} {av av' : Value} {r s : Int} {l : List I9} {A : Option Addr} {es : List EV} (h : RepEs w base A es) (hl : Low w g base av r s l) (hs : LS w w' g av av') : RepEs w' base A es :=
  h.kept hs.keep hl.low fun k hk hc => by
    rcases hc with hc | hc
    · have := hl.lowg; omega
    · have := hl.own.lt _ hc; omega
theorem RepEs.alloc {w : World} {B : Nat} {A : Option Addr} {es : List EV} (h : RepEs w B A es) (hB : B ≤ w.heap.size) (o : Obj) : RepEs (w.alloc o) B A es :=
  h.kept ((Keep.refl w (fun _ => False)).alloc o) hB (fun _ _ h => h)

/-- What a method does at a step: out st r step: its instructions, how many registers there are then. room: how many instructions, and registers, come at most. -/
def DoesSaid (f : FuncId) (pre : SV → Prop) (room : SV → Nat) (out : SV → Int → Int → List I9 × Int) : Prop :=
  ∀ (w : World) (g base : Nat) (av : Value) (r s : Int) (l : List I9) (st : SV) (A : Option Addr) (c : Nat),
  Low w g base av r s l → RepEs w base A st.es → pre st → l.length + room st < 1000000000000 → 0 ≤ r → r + room st < 1000000000000000 → st.es.length ≤ c →
  Calls Try.prog f #[.pointer (some ⟨g, 0, none⟩), .agg (st.cells A c)] w fun e w' =>
    e = .returned (.tuple #[]) ∧ ∃ av', Low w' g base av' (out st r s).2 s (l ++ (out st r s).1) ∧ LS w w' g av av'

/-- A value is put where a step says. -/
def putI (st : SV) (a step : Int) : I9 := if 0 ≤ st.var then ⟨2, 0, 0, st.var, a, 0, 0, 0, step⟩ else ⟨6, 0, 0, 0, a, 0, st.addr, 0, step⟩

set_option maxRecDepth 100000 in
set_option maxHeartbeats 3200000 in
theorem put_any (w : World) (g base : Nat) (av : Value) (r s : Int) (l : List I9) (st : SV) (A : Option Addr) (c : Nat) (a : Int)
    (hl : Low w g base av r s l) (hn : l.length < 1000000000000) :
    Calls Try.prog 21 #[.pointer (some ⟨g, 0, none⟩), .agg (st.cells A c), .int .i64 a] w fun e w' =>
      e = .returned (.tuple #[]) ∧ ∃ av', Low w' g base av' r s (l ++ [putI st a s]) ∧ LS w w' g av av' := by
  obtain ⟨op, line, var, addr, count, ty, es, func, reg, next, els⟩ := st
  unfold SV.cells
  have hglt := hl.blk.lt
  by_cases hv : 0 ≤ var
  all_goals
    have HV := Lib.hid hv
    go_enter Try.func21, Try.ntmps21
    go_wp2_with fail
    refine (add_one _ g (w.heap.size + 1) base av r s l _ _ _ _ _ _ _ _ _ _ ((hl.alloc _).alloc _) (Blk.newAt (by simp)) hn).mono ?_
    rintro e w1 ⟨rfl, av', hl', hs'⟩
    go_wp2_with fail
    first | go_end0 | (refine bodyPost_ret (results_none rfl _ _ _) rfl ?_)
    exact ⟨rfl, av', by simp only [putI]; first | (rw [if_pos HV.out]; exact hl') | (rw [if_neg (Int.not_le.2 HV.out)]; exact hl'), ((((LS.refl w g av).alloc _).alloc _)).trans hs'⟩

set_option maxRecDepth 100000 in
set_option maxHeartbeats 3200000 in
theorem enter_any : DoesSaid 17 (fun _ => True) (fun _ => 1) (fun _ r s => ([⟨17, 0, 0, 0, 0, 0, 1, 0, s⟩], r)) := by
  intro w g base av r s l st A c hl _ _ hn _ _ _
  unfold SV.cells
  have hglt := hl.blk.lt
  go_enter Try.func17, Try.ntmps17
  go_wp2_with fail
  refine (add_one _ g (w.heap.size + 1) base av r s l _ _ _ _ _ _ _ _ _ _ ((hl.alloc _).alloc _) (Blk.newAt (by simp)) (by omega)).mono ?_
  rintro e w1 ⟨rfl, av', hl', hs'⟩
  go_wp2_with fail
  go_end0
  exact ⟨rfl, av', hl', ((((LS.refl w g av).alloc _).alloc _)).trans hs'⟩

set_option maxRecDepth 100000 in
set_option maxHeartbeats 3200000 in
theorem leave_any : DoesSaid 18 (fun _ => True) (fun _ => 1) (fun _ r s => ([⟨17, 0, 0, 0, 0, 0, -1, 0, s⟩], r)) := by
  intro w g base av r s l st A c hl _ _ hn _ _ _
  unfold SV.cells
  have hglt := hl.blk.lt
  go_enter Try.func18, Try.ntmps18
  go_wp2_with fail
  refine (add_one _ g (w.heap.size + 1) base av r s l _ _ _ _ _ _ _ _ _ _ ((hl.alloc _).alloc _) (Blk.newAt (by simp)) (by omega)).mono ?_
  rintro e w1 ⟨rfl, av', hl', hs'⟩
  go_wp2_with fail
  go_end0
  exact ⟨rfl, av', hl', ((((LS.refl w g av).alloc _).alloc _)).trans hs'⟩

set_option maxRecDepth 100000 in
set_option maxHeartbeats 3200000 in
theorem halt_any : DoesSaid 19 (fun _ => True) (fun _ => 1) (fun _ r s => ([⟨19, 0, 0, 0, 0, 0, 0, 0, s⟩], r)) := by
  intro w g base av r s l st A c hl _ _ hn _ _ _
  unfold SV.cells
  have hglt := hl.blk.lt
  go_enter Try.func19, Try.ntmps19
  go_wp2_with fail
  refine (add_one _ g (w.heap.size + 1) base av r s l _ _ _ _ _ _ _ _ _ _ ((hl.alloc _).alloc _) (Blk.newAt (by simp)) (by omega)).mono ?_
  rintro e w1 ⟨rfl, av', hl', hs'⟩
  go_wp2_with fail
  go_end0
  exact ⟨rfl, av', hl', ((((LS.refl w g av).alloc _).alloc _)).trans hs'⟩

/-- The instructions of a StepIn. -/
def inL (st : SV) (r s : Int) : List I9 × Int :=
  if st.ty = 1 then ([⟨9, 0, 0, r, 0, 0, st.reg, 0, s⟩, ⟨4, 7, 1, r + 1, r, 0, 0, 0, s⟩, putI st (r + 1) s], r + 2)
  else ([⟨9, 0, 0, r, 0, 0, st.reg, 0, s⟩, putI st r s], r + 1)

set_option maxRecDepth 100000 in
set_option maxHeartbeats 6400000 in
theorem in_any : DoesSaid 14 (fun _ => True) (fun _ => 3) inL := by
  intro w g base av r s l st A c hl hes _ hn hr0 hr1 _
  have hput := fun W AV R L => put_any W g base AV R s L st A c
  have HP := Lib.hid hput
  clear hput
  obtain ⟨op, line, var, addr, count, ty, es, func, reg, next, els⟩ := st
  unfold SV.cells at HP ⊢
  have hglt := hl.blk.lt
  go_enter Try.func14, Try.ntmps14
  go_wp2_with fail
  refine (fresh_any _ g base av r s l _ _ _ _ _ _ _ _ _ (hl.alloc _) (by omega) hr0 (by omega)).mono ?_
  rintro e w1 ⟨rfl, av1, hl1, hs1⟩
  have bS := hs1.blk (hl.alloc _) (Blk.newAt rfl) (by decide) (.inl (by decide))
  have hS1 := ((LS.refl w g av).alloc _).trans hs1
  have hz := hs1.keep.size
  simp at hz
  have hz0 : w.heap.size < w1.heap.size := by omega
  have s0 := bS.cell 0
  have s1 := bS.cell 1
  have s2 := bS.cell 2
  have s3 := bS.cell 3
  have s4 := bS.cell 4
  have s5 := bS.cell 5
  have s6 := bS.cell 6
  have s7 := bS.cell 7
  have s8 := bS.cell 8
  have s9 := bS.cell 9
  have s10 := bS.cell 10
  simp at s0 s1 s2 s3 s4 s5 s6 s7 s8 s9 s10
  by_cases ht : ty = 1
  · have t1 : (ty == 1) = true := by simpa using ht
    have HT := Lib.hid ht
    clear ht
    go_wp2_with fail
    refine (fresh_any _ g base av1 (r + 1) s _ _ _ _ _ _ _ _ _ _ hl1 (by simp; omega) (by omega) (by omega)).mono ?_
    rintro e w2 ⟨rfl, av2, hl2, hs2⟩
    have bS2 := hs2.blk hl1 bS (by decide) (.inl (by decide))
    clear s0 s1 s2 s3 s4 s5 s6 s7 s8 s9 s10
    have s0 := bS2.cell 0
    have s1 := bS2.cell 1
    have s2 := bS2.cell 2
    have s3 := bS2.cell 3
    have s4 := bS2.cell 4
    have s5 := bS2.cell 5
    have s6 := bS2.cell 6
    have s7 := bS2.cell 7
    have s8 := bS2.cell 8
    have s9 := bS2.cell 9
    have s10 := bS2.cell 10
    simp at s0 s1 s2 s3 s4 s5 s6 s7 s8 s9 s10
    go_wp2_with fail
    refine (HP.out _ av2 _ _ _ hl2 (by simp; omega)).mono ?_
    rintro e w3 ⟨rfl, av3, hl3, hs3⟩
    go_wp2_with fail
    go_end0
    exact ⟨rfl, av3, by simpa [inL, HT.out, Int.add_assoc] using hl3, (hS1.trans hs2).trans hs3⟩
  · have t1 : (ty == 1) = false := by simpa using ht
    have HT := Lib.hid ht
    clear ht
    go_wp2_with fail
    refine (HP.out _ av1 _ _ _ hl1 (by simp; omega)).mono ?_
    rintro e w3 ⟨rfl, av3, hl3, hs3⟩
    go_wp2_with fail
    go_end0
    exact ⟨rfl, av3, by simpa [inL, HT.out] using hl3, hS1.trans hs3⟩
end Go.Proofs.Ytekciedoldiieaa

/- live.uses: the table of what kinds of instructions read and make. No condition. -/
import Derived.Test.YtfmkfmcplffhdaaMaps
import Derived.Test.YtfmkfmcplffhdaaProg
namespace Go.Proofs.Ytfmkfmcplffhdaa
set_option linter.unusedVariables false
open Go.RowKit
theorem Blk.of {w : World} {g : Nat} {t : TypeId} {cs : Array Value} (h : w.heap[g]? = some (.cells cs t (0, 0))) : Blk w g t cs := h
theorem Blk.heap {w : World} {g : Nat} {t : TypeId} {cs : Array Value} (h : Blk w g t cs) : w.heap[g]? = some (.cells cs t (0, 0)) := h
attribute [local irreducible] Blk

/-- An instruction with three addresses. -/
structure I9 where
  op : Int
  op2 : Int
  ty : Int
  d : Int
  a : Int
  b : Int
  n : Int
  count : Int
  step : Int
  deriving DecidableEq
def I9.arr (i : I9) : Array Value := #[.int .i64 i.op, .int .i64 i.op2, .int .i64 i.ty, .int .i64 i.d, .int .i64 i.a, .int .i64 i.b, .int .i64 i.n, .int .i64 i.count, .int .i64 i.step]
/-- Its kind: how many operands it reads, whether it makes a value. -/
def kindU (op : Int) : Option (Nat × Bool) :=
  if op = 1 ∨ op = 5 ∨ op = 9 ∨ op = 13 then some (0, true) else
  if op = 2 ∨ op = 4 ∨ op = 7 then some (1, true) else
  if op = 3 then some (2, true) else
  if op = 6 ∨ op = 10 ∨ op = 11 ∨ op = 14 ∨ op = 16 then some (1, false) else
  if op = 8 then some (2, false) else none
def rawU (k : Nat) (a b : Int) : List Int := if k = 0 then [] else if k = 1 then [a] else [a, b]
def keep0 (l : List Int) : List Int := l.filter (fun v => decide (0 ≤ v))
/-- What it reads; what it makes, or -1. -/
def readsL (i : I9) : List Int := match kindU i.op with
  | some (k, _) => keep0 (rawU k i.a i.b)
  | none => []
def makesL (i : I9) : Int := match kindU i.op with
  | some (_, true) => max (-1) i.d
  | _ => -1
def iCells (l : List Int) : List Value := l.map (Value.int .i64)
theorem iCells_append (l m : List Int) : iCells (l ++ m) = iCells l ++ iCells m := by simp [iCells]
theorem iCells_length (l : List Int) : (iCells l).length = l.length := by simp [iCells]
theorem iCells_get {l : List Int} {k : Nat} {x : Int} (h : l[k]? = some x) : (iCells l)[k]? = some (.int .i64 x) := by simp [iCells, h]

theorem own_of_blk {w : World} {g base : Nat} {e : TypeId} {cs : Array Value} {n : Nat} {xs : List Value} (h : Blk w g e cs) (hb : base ≤ g) (hn : n ≤ maxLen) (hc : cs.toList = xs) (hl : cs.size = n) : w.ownsRow base e 1 (.slice (some ⟨g, 0, none⟩) n n) n xs := by
  refine ⟨by rw [← hc]; simp [hl], .inr ⟨g, n, cs, rfl, hb, h.heap, Nat.le_refl _, hn, by omega, ?_⟩⟩
  rw [← hc, List.take_of_length_le]
  simp [hl]

/-- The functions that the table holds, by the block of what each captured. -/
def fnU (N k : Nat) : Value := .func (.func 47) #[] #[.pointer (some ⟨N + k, 0, none⟩)]
def rowU (N : Nat) (key : Int) (k : Nat) (mk : Bool) (born : Nat) : MapEntry := ⟨.int .i64 key, .agg #[fnU N k, .bool mk], born⟩
def useES (N : Nat) : Array MapEntry := #[rowU N 1 0 true 0, rowU N 5 0 true 1, rowU N 9 0 true 2, rowU N 13 0 true 3, rowU N 2 1 true 4, rowU N 4 1 true 5, rowU N 7 1 true 6, rowU N 3 2 true 7, rowU N 6 1 false 8, rowU N 10 1 false 9, rowU N 11 1 false 10, rowU N 14 1 false 11, rowU N 16 1 false 12, rowU N 8 2 false 13]

set_option maxRecDepth 100000 in
theorem as_any (w : World) (g : Nat) :
    Calls Try.prog 37 #[.func (.func g) #[] #[]] w fun e w' => e = .returned (.func (.func 47) #[] #[.pointer (some ⟨w.heap.size, 0, none⟩)]) ∧ w.alloc (.cells #[.func (.func g) #[] #[]] 99) = w' := by
  go_enter Try.func37, Try.ntmps37
  go_wp2_with fail
  go_ret
  exact ⟨rfl, rfl⟩
/-- The map's key is new: it is put in. The map lies last. -/
theorem run_put {P : Program} (t kt e : TypeId) (ht : P.underlying t = some (.map kt e)) (hk : P.underlying kt = some (.int .i64)) (w : World) (k : Nat) (hkk : w.heap.size = k) (es : Array MapEntry) (c : Nat) (n : Int) (v : Value)
    (h : Instr.findNow (.int .i64) (.int .i64 n) es.toList 0 = some none) :
    (Instr.mapUpdate t (.map (some k)) (.int .i64 n) v).run P (w.alloc (.map es c)) = .ok () (w.alloc (.map (es.push { key := .int .i64 n, val := v, born := c }) (c + 1))) :=
  run_mapUpdate_at t kt e ht .i64 hk w k hkk es c n v h
set_option maxRecDepth 100000 in
set_option maxHeartbeats 3200000 in
theorem uses_made (w : World) :
    Calls Try.prog 23 #[] w fun e w' => e = .returned (.map (some (w.heap.size + 1 + 1 + 1))) ∧
      (((w.alloc (.cells #[.func (.func 38) #[] #[]] 99)).alloc (.cells #[.func (.func 39) #[] #[]] 99)).alloc (.cells #[.func (.func 40) #[] #[]] 99)).alloc (.map (useES w.heap.size) 14) = w' := by
  have hmm := @run_makeMap Try.prog
  have hins := fun W k hk es c n v h => run_put (P := Try.prog) 70 3 68 Try.underlying70 Try.underlying3 W k hk es c n v h
  go_enter Try.func23, Try.ntmps23
  go_wp2_with (first
    | (go_at_call 37; refine (as_any _ _).mono ?_; rintro e w1 ⟨rfl, rfl⟩)
    | (rw [hins]; rotate_left; (focus (simp; done)); (focus rfl)))
  go_ret
  exact ⟨rfl, rfl⟩
end Go.Proofs.Ytfmkfmcplffhdaa

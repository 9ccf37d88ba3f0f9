/- A map from values to their spans; slices of the code that was made. No condition. -/
import Derived.Test.YtfmkfmcplffhdaaLvT
import Derived.Test.YtfmkfmcplffhdaaLvAA
namespace Go.Proofs.Ytfmkfmcplffhdaa
set_option linter.unusedVariables false
open Go.RowKit
attribute [local irreducible] Blk

theorem btw {w a b : World} (h1 : Below w.heap.size w a) (h2 : Below a.heap.size a b) : Below w.heap.size w b := h1.trans (h2.mono h1.size)
theorem baw {w a : World} (h : Below w.heap.size w a) (o : Obj) : Below w.heap.size w (a.alloc o) := h.alloc h.size _
theorem RepSp.kpc {w w' : World} {A : Option Addr} {l : List Sp3} (h : RepSp w A l) (hb : KpC w w') : RepSp w' A l := fun hne => by
  obtain ⟨b, o, hA, hl, hall⟩ := h hne
  exact ⟨b, o, hA, Nat.lt_of_lt_of_le hl hb.size, fun k x hx j u hu => hb.cell (hall k x hx j u hu)⟩
theorem RepLo.kpc {w w' : World} {A : Option Addr} {l : List Lo4} (h : RepLo w A l) (hb : KpC w w') : RepLo w' A l := fun hne => by
  obtain ⟨b, o, hA, hl, hall⟩ := h hne
  exact ⟨b, o, hA, Nat.lt_of_lt_of_le hl hb.size, fun k x hx j u hu => hb.cell (hall k x hx j u hu)⟩
theorem RepI.of_own {w : World} {base : Nat} {v : Value} {l : List I9} (h : w.ownsRow base 33 9 v l.length (insCells l)) : ∃ A c, v = .slice A l.length c ∧ RepI w A l := by
  have hlt := h.lt
  have hc := fun g (hg : v.ownBlock = some g) => h.cells hg
  rcases h.2 with ⟨rfl, h0⟩ | ⟨g, cap, cur, rfl, _⟩
  · exact ⟨none, 0, by rw [h0], fun hne => absurd (List.length_eq_zero_iff.1 h0) hne⟩
  · refine ⟨_, cap, rfl, fun _ => ⟨g, 0, rfl, (hlt g rfl).2, fun k x hx j u hu => ?_⟩⟩
    have c0 := hc g rfl (k * 9 + j) u (flat_get (fun s : I9 => s.arr.toList) 9 (fun _ => rfl) l k x hx j u (by simpa using hu))
    rw [addr_add, ← Nat.add_assoc] at c0
    exact c0
theorem RepLo.of_own {w : World} {base : Nat} {v : Value} {l : List Lo4} (h : w.ownsRow base 57 4 v l.length (loCells l)) : ∃ A c, v = .slice A l.length c ∧ RepLo w A l := by
  have hlt := h.lt
  have hc := fun g (hg : v.ownBlock = some g) => h.cells hg
  rcases h.2 with ⟨rfl, h0⟩ | ⟨g, cap, cur, rfl, _⟩
  · exact ⟨none, 0, by rw [h0], fun hne => absurd (List.length_eq_zero_iff.1 h0) hne⟩
  · refine ⟨_, cap, rfl, fun _ => ⟨g, 0, rfl, (hlt g rfl).2, fun k x hx j u hu => ?_⟩⟩
    have c0 := hc g rfl (k * 4 + j) u (flat_get (fun s : Lo4 => s.arr.toList) 4 (fun _ => rfl) l k x hx j u (by simpa using hu))
    rw [addr_add, ← Nat.add_assoc] at c0
    exact c0
theorem RepSp.at {w : World} {b o : Nat} {l : List Sp3} (h : RepSp w (some ⟨b, o, none⟩) l) {k : Nat} {x : Sp3} (hx : l[k]? = some x) : w.cell? ⟨b, o + k * 3, none⟩ = some (.int .i64 x.v) ∧ w.cell? ⟨b, o + k * 3 + 1, none⟩ = some (.int .i64 x.fr) ∧ w.cell? ⟨b, o + k * 3 + 2, none⟩ = some (.int .i64 x.till) := by
  obtain ⟨b', o', hA, _, hall⟩ := h (fun e => by rw [e] at hx; simp at hx)
  cases hA
  exact ⟨hall k x hx 0 _ rfl, hall k x hx 1 _ rfl, hall k x hx 2 _ rfl⟩
theorem RepLo.at {w : World} {b o : Nat} {l : List Lo4} (h : RepLo w (some ⟨b, o, none⟩) l) {k : Nat} {x : Lo4} (hx : l[k]? = some x) : w.cell? ⟨b, o + k * 4 + 2, none⟩ = some (.int .i64 x.fr) ∧ w.cell? ⟨b, o + k * 4 + 3, none⟩ = some (.int .i64 x.till) := by
  obtain ⟨b', o', hA, _, hall⟩ := h (fun e => by rw [e] at hx; simp at hx)
  cases hA
  exact ⟨hall k x hx 2 _ rfl, hall k x hx 3 _ rfl⟩
/-- The map of spans. -/
def spV (s : Sp3) : Value := .agg #[.int .i64 s.v, .int .i64 s.fr, .int .i64 s.till]
def sp0 : Sp3 := ⟨0, 0, 0⟩
def ofK (sp : List Sp3) : List (Int × Sp3) := sp.foldl (fun k s => putA k s.v s) []
theorem ofK_snoc (sp : List Sp3) (s : Sp3) : ofK (sp ++ [s]) = putA (ofK sp) s.v s := by simp [ofK]
theorem ofK_get : ∀ (sp : List Sp3) (k : List (Int × Sp3)), sp.Pairwise (fun a b => a.v < b.v) → ∀ s ∈ sp, getA (sp.foldl (fun k s => putA k s.v s) k) s.v = some s
  | [], _, _, s, hs => by cases hs
  | x :: r, k, hp, s, hs => by
    obtain ⟨h1, h2⟩ := List.pairwise_cons.1 hp
    rcases List.mem_cons.1 hs with rfl | hs
    · have key : ∀ (r : List Sp3) (k : List (Int × Sp3)), (∀ y ∈ r, s.v < y.v) → getA k s.v = some s → getA (r.foldl (fun k s => putA k s.v s) k) s.v = some s := fun r => by
        induction r with
        | nil => exact fun k _ h => h
        | cons y t ih =>
          intro k hy h
          refine ih _ (fun z hz => hy z (List.mem_cons_of_mem _ hz)) ?_
          rw [getA_put, if_neg (by have := hy y (by simp); omega)]
          exact h
      exact key r _ h1 (by rw [getA_put, if_pos rfl])
    · exact ofK_get r _ h2 s hs
theorem ofK_at {sp : List Sp3} (hp : sp.Pairwise (fun a b => a.v < b.v)) {s : Sp3} (hs : s ∈ sp) : getX (mapA spV (ofK sp)) s.v = some (spV s) := by
  rw [getX_map, show getA (ofK sp) s.v = some s from ofK_get sp [] hp s hs]
  rfl
/-- Looking up a value's span. -/
theorem look_sp {w : World} {b : Nat} {sp : List Sp3} (hM : MapX w b (mapA spV (ofK sp))) (hp : sp.Pairwise (fun a b => a.v < b.v)) {s : Sp3} (hs : s ∈ sp) {v : Int} (hv : s.v = v) :
    (Instr.lookup 52 (.map (some b)) (.int .i64 v) false).run Try.prog w = .ok (.agg #[.int .i64 v, .int .i64 s.fr, .int .i64 s.till]) w ∧ (Instr.lookup 52 (.map (some b)) (.int .i64 v) true).run Try.prog w = .ok (.tuple #[.agg #[.int .i64 v, .int .i64 s.fr, .int .i64 s.till], .bool true]) w := by
  have h := look_x (P := Try.prog) 52 3 54 Try.underlying52 Try.underlying3 hM v _ (Try.zeroValue54 w)
  subst hv
  rw [ofK_at hp hs] at h
  exact h
end Go.Proofs.Ytfmkfmcplffhdaa

/- For the law CodeDoes: a row of chosen instructions beside both states; how a run goes on. Conditions: a block of its own. -/
import Derived.Test.YthkiajbgdamjgaaDoorDoM
import Derived.Test.YthkiajbgdamjgaaDoorDoI
import Derived.Test.YthkiajbgdamjgaaDoorWorks
namespace Go.Proofs.YthkiajbgdamjgaaDoor
set_option linter.unusedVariables false
open Go.RowKit

theorem selL_len4 (i : I9) (hs : List HV) (bs : Int) : (selL i hs bs).length ≤ 4 := by
  have r1 := readL_len hs bs i.a 6
  have r2 := readL_len hs bs i.b 7
  have v : (moveL i hs bs).length ≤ 2 := by
    have r3 := readL_len hs bs i.a (IntKind.u8.wrap (homeOf hs i.d).n)
    unfold moveL
    by_cases h1 : (homeOf hs i.d).isSlot = true
    · rw [if_pos h1]
      simp
      omega
    · rw [if_neg h1]
      by_cases h2 : (homeOf hs i.a).isSlot = true
      · rw [if_pos h2]
        omega
      · rw [if_neg h2]
        by_cases h3 : (homeOf hs i.d).n = (homeOf hs i.a).n
        · rw [if_pos h3]
          simp
        · rw [if_neg h3]
          simp
  by_cases h0 : i.op = 0
  · have e : selL i hs bs = [⟨0, 0, 0, 0, wrap32 i.n⟩] := by simp [selL, h0]
    rw [e]
    simp
  by_cases h1 : i.op = 1
  · have e : selL i hs bs = makeL hs bs i.d ⟨2, 0, 0, 0, wrap32 i.n⟩ := by simp [selL, h1]
    rw [e]
    have m := makeL_len hs bs i.d ⟨2, 0, 0, 0, wrap32 i.n⟩
    omega
  by_cases h2 : i.op = 2
  · have e : selL i hs bs = moveL i hs bs := by simp [selL, h2]
    rw [e]
    omega
  by_cases h3 : i.op = 3
  · have e : selL i hs bs = readL hs bs i.a 6 ++ (readL hs bs i.b 7 ++ makeL hs bs i.d ⟨4, 0, readR hs i.a 6, readR hs i.b 7, wrap32 (wrap64 (wrap64 (i.op2 * 4) + i.ty))⟩) := by simp [selL, h3]
    rw [e]
    have m := makeL_len hs bs i.d ⟨4, 0, readR hs i.a 6, readR hs i.b 7, wrap32 (wrap64 (wrap64 (i.op2 * 4) + i.ty))⟩
    simp only [List.length_append]
    omega
  by_cases h4 : i.op = 4
  · have e : selL i hs bs = readL hs bs i.a 6 ++ makeL hs bs i.d ⟨5, 0, readR hs i.a 6, 0, wrap32 (wrap64 (wrap64 (i.op2 * 4) + i.ty))⟩ := by simp [selL, h4]
    rw [e]
    have m := makeL_len hs bs i.d ⟨5, 0, readR hs i.a 6, 0, wrap32 (wrap64 (wrap64 (i.op2 * 4) + i.ty))⟩
    simp only [List.length_append]
    omega
  by_cases h5 : i.op = 5
  · have e : selL i hs bs = makeL hs bs i.d ⟨6, 0, 0, 0, wrap32 i.n⟩ := by simp [selL, h5]
    rw [e]
    have m := makeL_len hs bs i.d ⟨6, 0, 0, 0, wrap32 i.n⟩
    omega
  by_cases h6 : i.op = 6
  · have e : selL i hs bs = readL hs bs i.a 6 ++ [⟨7, readR hs i.a 6, 0, 0, wrap32 i.n⟩] := by simp [selL, h6]
    rw [e]
    simp only [List.length_append, List.length_cons, List.length_nil]
    omega
  by_cases h7 : i.op = 7
  · have e : selL i hs bs = readL hs bs i.a 6 ++ makeL hs bs i.d ⟨8, 0, readR hs i.a 6, 0, wrap32 (wrap64 (wrap64 (i.n * 128) + i.count))⟩ := by simp [selL, h7]
    rw [e]
    have m := makeL_len hs bs i.d ⟨8, 0, readR hs i.a 6, 0, wrap32 (wrap64 (wrap64 (i.n * 128) + i.count))⟩
    simp only [List.length_append]
    omega
  by_cases h8 : i.op = 8
  · have e : selL i hs bs = readL hs bs i.a 6 ++ (readL hs bs i.b 7 ++ [⟨9, readR hs i.b 7, readR hs i.a 6, 0, wrap32 (wrap64 (wrap64 (i.n * 128) + i.count))⟩]) := by simp [selL, h8]
    rw [e]
    simp only [List.length_append, List.length_cons, List.length_nil]
    omega
  by_cases h9 : i.op = 9
  · have e : selL i hs bs = makeL hs bs i.d ⟨10, 0, 0, 0, wrap32 i.n⟩ := by simp [selL, h9]
    rw [e]
    have m := makeL_len hs bs i.d ⟨10, 0, 0, 0, wrap32 i.n⟩
    omega
  by_cases h10 : i.op = 10
  · have e : selL i hs bs = readL hs bs i.a 6 ++ [⟨11, readR hs i.a 6, 0, 0, wrap32 i.n⟩] := by simp [selL, h10]
    rw [e]
    simp only [List.length_append, List.length_cons, List.length_nil]
    omega
  by_cases h11 : i.op = 11
  · have e : selL i hs bs = readL hs bs i.a 6 ++ [⟨14, readR hs i.a 6, 0, 0, wrap32 i.n⟩] := by simp [selL, h11]
    rw [e]
    simp only [List.length_append, List.length_cons, List.length_nil]
    omega
  by_cases h12 : i.op = 12
  · have e : selL i hs bs = [⟨15, 0, 0, 0, wrap32 i.n⟩] := by simp [selL, h12]
    rw [e]
    simp
  by_cases h13 : i.op = 13
  · have e : selL i hs bs = makeL hs bs i.d ⟨19, 0, 0, 0, 0⟩ := by simp [selL, h13]
    rw [e]
    have m := makeL_len hs bs i.d ⟨19, 0, 0, 0, 0⟩
    omega
  by_cases h14 : i.op = 14
  · have e : selL i hs bs = readL hs bs i.a 6 ++ [⟨17, readR hs i.a 6, 0, 0, wrap32 i.n⟩] := by simp [selL, h14]
    rw [e]
    simp only [List.length_append, List.length_cons, List.length_nil]
    omega
  by_cases h15 : i.op = 15
  · have e : selL i hs bs = [⟨20, 0, 0, 0, wrap32 i.n⟩] := by simp [selL, h15]
    rw [e]
    simp
  by_cases h16 : i.op = 16
  · have e : selL i hs bs = readL hs bs i.a 6 ++ [⟨21, readR hs i.a 6, 0, 0, wrap32 i.n⟩] := by simp [selL, h16]
    rw [e]
    simp only [List.length_append, List.length_cons, List.length_nil]
    omega
  by_cases h17 : i.op = 17
  · have e : selL i hs bs = [⟨22, 0, 0, 0, wrap32 i.n⟩] := by simp [selL, h17]
    rw [e]
    simp
  by_cases h18 : i.op = 18
  · have e : selL i hs bs = [⟨1, 0, 0, 0, wrap32 i.n⟩] := by simp [selL, h18]
    rw [e]
    simp
  by_cases h19 : i.op = 19
  · have e : selL i hs bs = [⟨23, 0, 0, 0, wrap32 i.n⟩] := by simp [selL, h19]
    rw [e]
    simp
  have e : selL i hs bs = [] := by simp [selL, h0, h1, h2, h3, h4, h5, h6, h7, h8, h9, h10, h11, h12, h13, h14, h15, h16, h17, h18, h19]
  rw [e]
  simp

attribute [local irreducible] Blk

/-- A row of chosen instructions, in a block that is neither the state's nor what was put out. -/
def CodesB (w : World) (A : Option Addr) (L : List C5) (os : Value) (G : Nat) : Prop :=
  L ≠ [] → ∃ b, A = some ⟨b, 0, none⟩ ∧ b < w.heap.size ∧ b ≠ G ∧ os.ownBlock ≠ some b ∧ ∀ k x, L[k]? = some x → ∀ i u, x.cells[i]? = some u → w.cell? ⟨b, k * 5 + i, none⟩ = some u
section
variable {w w' : World} {A : Option Addr} {L : List C5} {os os' ov : Value} {G : Nat}
theorem CodesB.of_own {B : Nat} (h : w.ownsRow B 49 5 ov L.length (codeCells L)) (hos : ∀ k, os.ownBlock = some k → k < B) (hG : G < B) : ∃ A c, ov = .slice A L.length c ∧ CodesB w A L os G := by
  rcases h.2 with ⟨rfl, h0⟩ | ⟨g, cap, cur, rfl, hb, hh, hr⟩
  · exact ⟨none, 0, by rw [h0], fun hne => absurd (List.length_eq_zero_iff.1 h0) hne⟩
  · have hlt := h.lt g rfl
    have hc := h.cells (g := g) rfl
    refine ⟨_, cap, rfl, fun _ => ⟨g, rfl, hlt.2, by omega, fun hk => by have := hos _ hk; omega, fun k x hx i u hi => ?_⟩⟩
    have := hc (k * 5 + i) u (codeCells_get L k x hx i u hi)
    rwa [addr_add, Nat.zero_add] at this
theorem CodesB.does (h : CodesB w A L os G) (hk : Keep w w' (fun k => k = G ∨ os.ownBlock = some k)) (hf : Fresh w os os') : CodesB w' A L os' G := fun hne => by
  obtain ⟨b, hA, hlt, hG, hos, hall⟩ := h hne
  have hn : ¬ (b = G ∨ os.ownBlock = some b) := by
    rintro (h | h)
    · exact hG h
    · exact hos h
  refine ⟨b, hA, Nat.lt_of_lt_of_le hlt hk.size, hG, fun hb => ?_, fun k x hx i u hi => (hk.cell (a := ⟨b, k * 5 + i, none⟩) hlt hn).trans (hall k x hx i u hi)⟩
  rcases hf b hb with h0 | h0
  · exact hos h0
  · omega
end
theorem min7 (ats : Array TypeId) (ty : TypeId) (z : Int) {r : Int} (h : (if z < 7 then z else 7) = r) : Builtin.min_ ats ty #[.int .i64 7, .int .i64 z] = pure (.int .i64 r) := by
  rw [← h]
  rfl
theorem runM_step {L : List C5} {k : Nat} {c : C5} {s s1 : M} (hk : L[k]? = some c) (h0 : s.tr = 0) (h : runM (L.drop k) s = s1) : runM (L.drop (k + 1)) (doM c s) = s1 := by
  obtain ⟨hlt, he⟩ := List.getElem?_eq_some_iff.1 hk
  rw [List.drop_eq_getElem_cons hlt, he] at h
  rw [← h]
  simp [runM, h0]
theorem runM_end {L : List C5} {k : Nat} {s s1 : M} (h : runM (L.drop k) s = s1) (hx : L.length ≤ k ∨ s.tr ≠ 0) : s = s1 := by
  rcases hx with hx | hx
  · rw [List.drop_eq_nil_of_le hx] at h
    exact h
  · rw [runM_stop _ _ hx] at h
    exact h
theorem get_ok {L : List C5} (h : ∀ c ∈ L, okC c) {k : Nat} {c : C5} (hk : L[k]? = some c) : okC c := h c (List.mem_of_getElem? hk)
end Go.Proofs.YthkiajbgdamjgaaDoor

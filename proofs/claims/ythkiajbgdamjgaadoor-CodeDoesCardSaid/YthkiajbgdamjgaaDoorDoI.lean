/- The law's drafts: an instruction of eight virtual registers. Conditions: numbers of eight bits. -/
import Derived.Test.YthkiajbgdamjgaaDoorDoP
namespace Go.Proofs.YthkiajbgdamjgaaDoor
open Go.RowKit
set_option linter.unusedVariables false
theorem Blk.heap {w : World} {g : Nat} {t : TypeId} {cs : Array Value} (h : Blk w g t cs) : w.heap[g]? = some (.cells cs t (0, 0)) := h
attribute [local irreducible] Blk

def opsL : List Int := [1, 2, 3, 4, 5, 6, 7, 8, 9, 10, 11, 13, 14, 16]
theorem nmod (z : Int) (m : Nat) (hm : 0 < m) : ∃ n : Nat, z % (m : Int) = (n : Int) ∧ n < m := ⟨(z % (m : Int)).toNat, by have := Int.emod_nonneg z (show (m : Int) ≠ 0 by omega); omega, by have := Int.emod_nonneg z (show (m : Int) ≠ 0 by omega); have := Int.emod_lt_of_pos z (show (0 : Int) < m by omega); omega⟩
set_option maxRecDepth 100000 in
set_option maxHeartbeats 6400000 in
theorem ins_any (w : World) (o p t d a b n m : Int) (o0 : 0 ≤ o) (o1 : o ≤ 255) (p0 : 0 ≤ p) (p1 : p ≤ 255) (t0 : 0 ≤ t) (t1 : t ≤ 255) (d0 : 0 ≤ d) (d1 : d ≤ 255) (a0 : 0 ≤ a) (a1 : a ≤ 255) (b0 : 0 ≤ b) (b1 : b ≤ 255) (n0 : 0 ≤ n) (n1 : n ≤ 255) (m0 : 0 ≤ m) (m1 : m ≤ 255) :
    Calls Tryd.prog 12 #[.agg #[.int .u8 o, .int .u8 p, .int .u8 t, .int .u8 d, .int .u8 a, .int .u8 b, .int .u8 n, .int .u8 m]] w fun e w' => ∃ x : D8, x.ok ∧ e = .returned (.agg #[.int .i64 (x.op : Int), .int .i64 (x.op2 : Int), .int .i64 (x.ty : Int), .int .i64 (x.d : Int), .int .i64 (x.a : Int), .int .i64 (x.b : Int), .int .i64 (x.n : Int), .int .i64 (x.count : Int), .int .i64 0]) ∧ Below w.heap.size w w' := by
  obtain ⟨k, hk, hk14⟩ := nmod o 14 (by decide)
  have k0 : (0 : Int) ≤ (k : Int) := by omega
  have k1 : (k : Int) < 14 := by omega
  have hk2 : o.tmod 14 = (k : Int) := (Int.tmod_eq_emod_of_nonneg o0).trans hk
  have hwo : IntKind.i64.wrap o = o := IntWalk.i64_in _ (by omega)
  have hops : ∃ v : Nat, (#[Value.int .i64 1, .int .i64 2, .int .i64 3, .int .i64 4, .int .i64 5, .int .i64 6, .int .i64 7, .int .i64 8, .int .i64 9, .int .i64 10, .int .i64 11, .int .i64 13, .int .i64 14, .int .i64 16] : Array Value)[k]? = some (.int .i64 (v : Int)) ∧ (v = 1 ∨ v = 2 ∨ v = 3 ∨ v = 4 ∨ v = 5 ∨ v = 6 ∨ v = 7 ∨ v = 8 ∨ v = 9 ∨ v = 10 ∨ v = 11 ∨ v = 13 ∨ v = 14 ∨ v = 16) := by
    have : k = 0 ∨ k = 1 ∨ k = 2 ∨ k = 3 ∨ k = 4 ∨ k = 5 ∨ k = 6 ∨ k = 7 ∨ k = 8 ∨ k = 9 ∨ k = 10 ∨ k = 11 ∨ k = 12 ∨ k = 13 := by omega
    rcases this with rfl | rfl | rfl | rfl | rfl | rfl | rfl | rfl | rfl | rfl | rfl | rfl | rfl | rfl
    · exact ⟨1, rfl, by decide⟩
    · exact ⟨2, rfl, by decide⟩
    · exact ⟨3, rfl, by decide⟩
    · exact ⟨4, rfl, by decide⟩
    · exact ⟨5, rfl, by decide⟩
    · exact ⟨6, rfl, by decide⟩
    · exact ⟨7, rfl, by decide⟩
    · exact ⟨8, rfl, by decide⟩
    · exact ⟨9, rfl, by decide⟩
    · exact ⟨10, rfl, by decide⟩
    · exact ⟨11, rfl, by decide⟩
    · exact ⟨13, rfl, by decide⟩
    · exact ⟨14, rfl, by decide⟩
    · exact ⟨16, rfl, by decide⟩
  obtain ⟨v, hv, hvs⟩ := hops
  have HVS := Lib.hid hvs
  have HV := Lib.hid hv
  have HK := Lib.hid hk
  clear hvs hv hk
  obtain ⟨t', ht, ht'⟩ := nmod t 2 (by decide)
  have ht2 : t % 2 = (t' : Int) := ht
  clear ht
  obtain ⟨d', hd, hd'⟩ := nmod d 8 (by decide)
  have hd2 : d % 8 = (d' : Int) := hd
  clear hd
  obtain ⟨a', ha, ha'⟩ := nmod a 8 (by decide)
  have ha2 : a % 8 = (a' : Int) := ha
  clear ha
  obtain ⟨b', hb, hb'⟩ := nmod b 8 (by decide)
  have hb2 : b % 8 = (b' : Int) := hb
  clear hb
  obtain ⟨n', hn, hn'⟩ := nmod n 16 (by decide)
  have hn2 : n % 16 = (n' : Int) := hn
  clear hn
  obtain ⟨m', hm, hm'⟩ := nmod m 9 (by decide)
  have hm2 : m % 9 = (m' : Int) := hm
  clear hm
  obtain ⟨q1, hp, hp'⟩ := nmod p 16 (by decide)
  have hp2 : p % 16 = (q1 : Int) := hp
  clear hp
  obtain ⟨q2, hq, hq'⟩ := nmod p 5 (by decide)
  have hq2 : p % 5 = (q2 : Int) := hq
  clear hq
  go_enter Tryd.func12, Tryd.ntmps12
  go_wp2_with fail
  have hX : Blk (((w.alloc (.cells #[Value.int .u8 o, Value.int .u8 p, Value.int .u8 t, Value.int .u8 d, Value.int .u8 a, Value.int .u8 b, Value.int .u8 n, Value.int .u8 m] 44)).alloc (.cells #[Value.int .i64 0, Value.int .i64 0, Value.int .i64 0, Value.int .i64 0, Value.int .i64 0, Value.int .i64 0, Value.int .i64 0, Value.int .i64 0, Value.int .i64 0] 23)).alloc (.cells #[Value.int .i64 1, Value.int .i64 2, Value.int .i64 3, Value.int .i64 4, Value.int .i64 5, Value.int .i64 6, Value.int .i64 7, Value.int .i64 8, Value.int .i64 9, Value.int .i64 10, Value.int .i64 11, Value.int .i64 13, Value.int .i64 14, Value.int .i64 16] 3)) w.heap.size 44 #[Value.int .u8 o, Value.int .u8 p, Value.int .u8 t, Value.int .u8 d, Value.int .u8 a, Value.int .u8 b, Value.int .u8 n, Value.int .u8 m] := ((Blk.new w _ _).alloc _).alloc _
  have hR : Blk (((w.alloc (.cells #[Value.int .u8 o, Value.int .u8 p, Value.int .u8 t, Value.int .u8 d, Value.int .u8 a, Value.int .u8 b, Value.int .u8 n, Value.int .u8 m] 44)).alloc (.cells #[Value.int .i64 0, Value.int .i64 0, Value.int .i64 0, Value.int .i64 0, Value.int .i64 0, Value.int .i64 0, Value.int .i64 0, Value.int .i64 0, Value.int .i64 0] 23)).alloc (.cells #[Value.int .i64 1, Value.int .i64 2, Value.int .i64 3, Value.int .i64 4, Value.int .i64 5, Value.int .i64 6, Value.int .i64 7, Value.int .i64 8, Value.int .i64 9, Value.int .i64 10, Value.int .i64 11, Value.int .i64 13, Value.int .i64 14, Value.int .i64 16] 3)) (w.heap.size + 1) 23 #[Value.int .i64 0, Value.int .i64 0, Value.int .i64 0, Value.int .i64 0, Value.int .i64 0, Value.int .i64 0, Value.int .i64 0, Value.int .i64 0, Value.int .i64 0] := (Blk.newAt (by simp)).alloc _
  have hO : Blk (((w.alloc (.cells #[Value.int .u8 o, Value.int .u8 p, Value.int .u8 t, Value.int .u8 d, Value.int .u8 a, Value.int .u8 b, Value.int .u8 n, Value.int .u8 m] 44)).alloc (.cells #[Value.int .i64 0, Value.int .i64 0, Value.int .i64 0, Value.int .i64 0, Value.int .i64 0, Value.int .i64 0, Value.int .i64 0, Value.int .i64 0, Value.int .i64 0] 23)).alloc (.cells #[Value.int .i64 1, Value.int .i64 2, Value.int .i64 3, Value.int .i64 4, Value.int .i64 5, Value.int .i64 6, Value.int .i64 7, Value.int .i64 8, Value.int .i64 9, Value.int .i64 10, Value.int .i64 11, Value.int .i64 13, Value.int .i64 14, Value.int .i64 16] 3)) (w.heap.size + 1 + 1) 3 #[Value.int .i64 1, Value.int .i64 2, Value.int .i64 3, Value.int .i64 4, Value.int .i64 5, Value.int .i64 6, Value.int .i64 7, Value.int .i64 8, Value.int .i64 9, Value.int .i64 10, Value.int .i64 11, Value.int .i64 13, Value.int .i64 14, Value.int .i64 16] := Blk.newAt (by simp)
  have hbl : Below w.heap.size w (((w.alloc (.cells #[Value.int .u8 o, Value.int .u8 p, Value.int .u8 t, Value.int .u8 d, Value.int .u8 a, Value.int .u8 b, Value.int .u8 n, Value.int .u8 m] 44)).alloc (.cells #[Value.int .i64 0, Value.int .i64 0, Value.int .i64 0, Value.int .i64 0, Value.int .i64 0, Value.int .i64 0, Value.int .i64 0, Value.int .i64 0, Value.int .i64 0] 23)).alloc (.cells #[Value.int .i64 1, Value.int .i64 2, Value.int .i64 3, Value.int .i64 4, Value.int .i64 5, Value.int .i64 6, Value.int .i64 7, Value.int .i64 8, Value.int .i64 9, Value.int .i64 10, Value.int .i64 11, Value.int .i64 13, Value.int .i64 14, Value.int .i64 16] 3)) := (((Below.refl _ _).alloc (Nat.le_refl _) _).alloc (by simp) _).alloc (by simp; omega) _
  have hsz : (((w.alloc (.cells #[Value.int .u8 o, Value.int .u8 p, Value.int .u8 t, Value.int .u8 d, Value.int .u8 a, Value.int .u8 b, Value.int .u8 n, Value.int .u8 m] 44)).alloc (.cells #[Value.int .i64 0, Value.int .i64 0, Value.int .i64 0, Value.int .i64 0, Value.int .i64 0, Value.int .i64 0, Value.int .i64 0, Value.int .i64 0, Value.int .i64 0] 23)).alloc (.cells #[Value.int .i64 1, Value.int .i64 2, Value.int .i64 3, Value.int .i64 4, Value.int .i64 5, Value.int .i64 6, Value.int .i64 7, Value.int .i64 8, Value.int .i64 9, Value.int .i64 10, Value.int .i64 11, Value.int .i64 13, Value.int .i64 14, Value.int .i64 16] 3)).heap.size = w.heap.size + 1 + 1 + 1 := by simp
  generalize (((w.alloc (.cells #[Value.int .u8 o, Value.int .u8 p, Value.int .u8 t, Value.int .u8 d, Value.int .u8 a, Value.int .u8 b, Value.int .u8 n, Value.int .u8 m] 44)).alloc (.cells #[Value.int .i64 0, Value.int .i64 0, Value.int .i64 0, Value.int .i64 0, Value.int .i64 0, Value.int .i64 0, Value.int .i64 0, Value.int .i64 0, Value.int .i64 0] 23)).alloc (.cells #[Value.int .i64 1, Value.int .i64 2, Value.int .i64 3, Value.int .i64 4, Value.int .i64 5, Value.int .i64 6, Value.int .i64 7, Value.int .i64 8, Value.int .i64 9, Value.int .i64 10, Value.int .i64 11, Value.int .i64 13, Value.int .i64 14, Value.int .i64 16] 3)) = wy at *
  have e0 := hX.cell 0
  have e1 := hX.cell 1
  have e2 := hX.cell 2
  have e3 := hX.cell 3
  have e4 := hX.cell 4
  have e5 := hX.cell 5
  have e6 := hX.cell 6
  have e7 := hX.cell 7
  simp at e0 e1 e2 e3 e4 e5 e6 e7
  have eo := cell_of_blk hO HV.out
  have hxl := hX.lt
  have hol := hO.lt
  have hrl := hR.lt
  go_region_held3 (fun w' => w'.cell? ⟨w.heap.size, 0, none⟩ = some (.int .u8 o) ∧ w'.cell? ⟨w.heap.size, 2, none⟩ = some (.int .u8 t) ∧ w'.cell? ⟨w.heap.size, 3, none⟩ = some (.int .u8 d) ∧ w'.cell? ⟨w.heap.size, 4, none⟩ = some (.int .u8 a) ∧ w'.cell? ⟨w.heap.size, 5, none⟩ = some (.int .u8 b) ∧ w'.cell? ⟨w.heap.size, 6, none⟩ = some (.int .u8 n) ∧ w'.cell? ⟨w.heap.size, 7, none⟩ = some (.int .u8 m) ∧ w'.cell? ⟨w.heap.size + 1 + 1, k, none⟩ = some (.int .i64 (v : Int)))
    (first
      | (go_keep; done))
    (fail)
  clear e0 e2 e3 e4 e5 e6 e7 eo
  have r0 := hR.cell 0
  have r1 := hR.cell 1
  have r2 := hR.cell 2
  have r3 := hR.cell 3
  have r4 := hR.cell 4
  have r5 := hR.cell 5
  have r6 := hR.cell 6
  have r7 := hR.cell 7
  have r8 := hR.cell 8
  simp at r0 r1 r2 r3 r4 r5 r6 r7 r8
  have rf0 := hR.frozen 0
  have rf1 := hR.frozen 1
  have rf2 := hR.frozen 2
  have rf3 := hR.frozen 3
  have rf4 := hR.frozen 4
  have rf5 := hR.frozen 5
  have rf6 := hR.frozen 6
  have rf7 := hR.frozen 7
  have rf8 := hR.frozen 8
  by_cases hv4 : v = 4
  · subst hv4
    go_wp2_with fail
    have hfin := (((((((((hR.set 0 (.int .i64 4)).set 1 (.int .i64 (4 + (q2 : Int)))).set 2 (.int .i64 (1 + (t' : Int)))).set 3 (.int .i64 (d' : Int))).set 4 (.int .i64 (a' : Int))).set 5 (.int .i64 (b' : Int))).set 6 (.int .i64 (n' : Int))).set 7 (.int .i64 (1 + (m' : Int)))).set 8 (.int .i64 0))
    refine bodyPost_ret (v := .agg #[.int .i64 4, .int .i64 (4 + (q2 : Int)), .int .i64 (1 + (t' : Int)), .int .i64 (d' : Int), .int .i64 (a' : Int), .int .i64 (b' : Int), .int .i64 (n' : Int), .int .i64 (1 + (m' : Int)), .int .i64 0]) (results_cell_row Tryd.results12 _ _ (w.heap.size + 1) 23 #[.int .i64 4, .int .i64 (4 + (q2 : Int)), .int .i64 (1 + (t' : Int)), .int .i64 (d' : Int), .int .i64 (a' : Int), .int .i64 (b' : Int), .int .i64 (n' : Int), .int .i64 (1 + (m' : Int)), .int .i64 0] (0, 0) _ (by rfl) (Blk.heap ((hfin.alloc _).drew)) Tryd.underlying23 (by rfl) (by kernel_rfl)) rfl ?_
    refine ⟨⟨4, 4 + q2, 1 + t', d', a', b', n', 1 + m'⟩, ⟨by simp, by simp, (show 4 + q2 ≤ 24 by omega), (show 1 ≤ 1 + t' ∧ 1 + t' ≤ 2 by omega), hd', ha', hb', hn', (show 1 ≤ 1 + m' ∧ 1 + m' ≤ 9 by omega)⟩, by simp, ?_⟩
    have hb9 := (((((((((hbl.setCell (p := ⟨w.heap.size + 1, 0, none⟩) (Nat.le_succ _) (.int .i64 4)).setCell (p := ⟨w.heap.size + 1, 1, none⟩) (Nat.le_succ _) (.int .i64 (4 + (q2 : Int)))).setCell (p := ⟨w.heap.size + 1, 2, none⟩) (Nat.le_succ _) (.int .i64 (1 + (t' : Int)))).setCell (p := ⟨w.heap.size + 1, 3, none⟩) (Nat.le_succ _) (.int .i64 (d' : Int))).setCell (p := ⟨w.heap.size + 1, 4, none⟩) (Nat.le_succ _) (.int .i64 (a' : Int))).setCell (p := ⟨w.heap.size + 1, 5, none⟩) (Nat.le_succ _) (.int .i64 (b' : Int))).setCell (p := ⟨w.heap.size + 1, 6, none⟩) (Nat.le_succ _) (.int .i64 (n' : Int))).setCell (p := ⟨w.heap.size + 1, 7, none⟩) (Nat.le_succ _) (.int .i64 (1 + (m' : Int)))).setCell (p := ⟨w.heap.size + 1, 8, none⟩) (Nat.le_succ _) (.int .i64 0))
    exact (hb9.alloc hb9.size _).drew
  · have g1 : decide ((v : Int) = 4) = false := by simp; omega
    have g2 : ((v : Int) == 4) = false := by simp; omega
    go_wp2_with fail
    have hfin := (((((((((hR.set 0 (.int .i64 (v : Int))).set 1 (.int .i64 (9 + (q1 : Int)))).set 2 (.int .i64 (1 + (t' : Int)))).set 3 (.int .i64 (d' : Int))).set 4 (.int .i64 (a' : Int))).set 5 (.int .i64 (b' : Int))).set 6 (.int .i64 (n' : Int))).set 7 (.int .i64 (1 + (m' : Int)))).set 8 (.int .i64 0))
    refine bodyPost_ret (v := .agg #[.int .i64 (v : Int), .int .i64 (9 + (q1 : Int)), .int .i64 (1 + (t' : Int)), .int .i64 (d' : Int), .int .i64 (a' : Int), .int .i64 (b' : Int), .int .i64 (n' : Int), .int .i64 (1 + (m' : Int)), .int .i64 0]) (results_cell_row Tryd.results12 _ _ (w.heap.size + 1) 23 #[.int .i64 (v : Int), .int .i64 (9 + (q1 : Int)), .int .i64 (1 + (t' : Int)), .int .i64 (d' : Int), .int .i64 (a' : Int), .int .i64 (b' : Int), .int .i64 (n' : Int), .int .i64 (1 + (m' : Int)), .int .i64 0] (0, 0) _ (by rfl) (Blk.heap ((hfin.alloc _).drew)) Tryd.underlying23 (by rfl) (by kernel_rfl)) rfl ?_
    refine ⟨⟨v, 9 + q1, 1 + t', d', a', b', n', 1 + m'⟩, ⟨by have := HVS.out; simp; omega, fun _ => (show 9 ≤ 9 + q1 ∧ 9 + q1 ≤ 24 by omega), (show 9 + q1 ≤ 24 by omega), (show 1 ≤ 1 + t' ∧ 1 + t' ≤ 2 by omega), hd', ha', hb', hn', (show 1 ≤ 1 + m' ∧ 1 + m' ≤ 9 by omega)⟩, by simp, ?_⟩
    have hb9 := (((((((((hbl.setCell (p := ⟨w.heap.size + 1, 0, none⟩) (Nat.le_succ _) (.int .i64 (v : Int))).setCell (p := ⟨w.heap.size + 1, 1, none⟩) (Nat.le_succ _) (.int .i64 (9 + (q1 : Int)))).setCell (p := ⟨w.heap.size + 1, 2, none⟩) (Nat.le_succ _) (.int .i64 (1 + (t' : Int)))).setCell (p := ⟨w.heap.size + 1, 3, none⟩) (Nat.le_succ _) (.int .i64 (d' : Int))).setCell (p := ⟨w.heap.size + 1, 4, none⟩) (Nat.le_succ _) (.int .i64 (a' : Int))).setCell (p := ⟨w.heap.size + 1, 5, none⟩) (Nat.le_succ _) (.int .i64 (b' : Int))).setCell (p := ⟨w.heap.size + 1, 6, none⟩) (Nat.le_succ _) (.int .i64 (n' : Int))).setCell (p := ⟨w.heap.size + 1, 7, none⟩) (Nat.le_succ _) (.int .i64 (1 + (m' : Int)))).setCell (p := ⟨w.heap.size + 1, 8, none⟩) (Nat.le_succ _) (.int .i64 0))
    exact (hb9.alloc hb9.size _).drew
end Go.Proofs.YthkiajbgdamjgaaDoor

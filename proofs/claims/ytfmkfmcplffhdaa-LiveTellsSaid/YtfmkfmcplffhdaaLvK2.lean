/- ploverlaw19.works: the chapter's example. No condition. -/
import Derived.Test.YtfmkfmcplffhdaaLvJ
namespace Go.Proofs.Ytfmkfmcplffhdaa
set_option linter.unusedVariables false
open Go.RowKit
attribute [local irreducible] Blk
def exS : List Sp3 := [⟨0, 0, 8⟩, ⟨1, 3, 8⟩, ⟨2, 1, 2⟩, ⟨3, 2, 3⟩]
theorem keys_sorted {k : Kn} (h : (k.map (·.1)).Pairwise (fun x y => decide (x ≤ y) = true)) : keysL k = k.map (·.1) := List.mergeSort_of_pairwise h
theorem ex_known : knownL 2 exI = [(2, ⟨1, 2, true, true⟩), (3, ⟨2, 3, true, true⟩)] := by decide +kernel
theorem ex_spans0 : spansL exI exL 1 = exS := by
  show localsL exI 1 0 exL ++ tempsL (knownL 2 exI) = exS
  rw [ex_known]
  unfold tempsL
  rw [keys_sorted (by decide)]
  decide +kernel
theorem ex_spans : decide (spansL exI exL 1 = exS) = true := by simpa using ex_spans0
theorem ex_b1 : (beginsN exI 1 : Int) = 4 := by decide +kernel
theorem ex_b3 : (beginsN exI 3 : Int) = 8 := by decide +kernel
theorem ex_reads : readsL ⟨3, 0, 0, 3, 0, 2, 0, 0, 0⟩ = [0, 2] := by decide +kernel
theorem ex_makes : makesL ⟨3, 0, 0, 3, 0, 2, 0, 0, 0⟩ = 3 := by decide +kernel
theorem exI_wf : ∀ i ∈ exI, WfI i := by
  intro i hi
  simp only [exI, List.mem_cons, List.mem_nil_iff, or_false] at hi
  unfold WfI
  rcases hi with rfl | rfl | rfl | rfl | rfl | rfl | rfl | rfl <;> decide
theorem exL_fr : ∀ x ∈ exL, -1000000 ≤ x.fr ∧ x.fr ≤ 1000000 := by
  intro x hx
  simp only [exL, List.mem_cons, List.mem_nil_iff, or_false] at hx
  rcases hx with rfl | rfl <;> simp
theorem RepSp.drewN {w : World} {A : Option Addr} {l : List Sp3} (h : RepSp w A l) (n : Nat) : RepSp (w.drewN n) A l := h
theorem RepI.drewN {w : World} {A : Option Addr} {l : List I9} (h : RepI w A l) (n : Nat) : RepI (w.drewN n) A l := h
theorem RepI.at_cells {w : World} {g o : Nat} {l : List I9} (h : RepI w (some ⟨g, o, none⟩) l) {k : Nat} {x : I9} (hx : l[k]? = some x) : ∀ (j : Nat) (u : Value), x.arr[j]? = some u → w.cell? ⟨g, o + k * 9 + j, none⟩ = some u := by
  obtain ⟨b, o', hA, _, hall⟩ := h (fun e => by rw [e] at hx; simp at hx)
  cases hA
  exact hall k x hx
theorem two_far {w w' : World} {b o : Nat} {x y : Int} (h : b < w.heap.size ∧ w.cell? ⟨b, o + 0, none⟩ = some (.int .i64 x) ∧ w.cell? ⟨b, o + 1, none⟩ = some (.int .i64 y)) (hb : Below w.heap.size w w') :
    b < w'.heap.size ∧ w'.cell? ⟨b, o + 0, none⟩ = some (.int .i64 x) ∧ w'.cell? ⟨b, o + 1, none⟩ = some (.int .i64 y) :=
  ⟨Nat.lt_of_lt_of_le h.1 hb.size, (hb.cell (p := ⟨b, _, none⟩) h.1).trans h.2.1, (hb.cell (p := ⟨b, _, none⟩) h.1).trans h.2.2⟩
def BeginsP (w : World) (n : Int) (e : Ending) (w' : World) : Prop := e = .returned (.int .i64 n) ∧ Below w.heap.size w w'
def OkP (w : World) (e : Ending) (w' : World) : Prop := e = .returned (.bool true) ∧ Below w.heap.size w w'
set_option maxRecDepth 100000 in
set_option maxHeartbeats 1600000 in
theorem works_any (w : World) : Calls Try.prog 18 #[] w (OkP w) := by
  have hU : ∀ W, Calls Try.prog 10 #[.agg #[.int .i64 3, .int .i64 0, .int .i64 0, .int .i64 3, .int .i64 0, .int .i64 2, .int .i64 0, .int .i64 0, .int .i64 0]] W fun e w' => ∃ v, e = .returned (.tuple #[v, .int .i64 3]) ∧ w'.ownsRow W.heap.size 3 1 v 2 (iCells [0, 2]) ∧ Below W.heap.size W w' := fun W => by
    have h := Uses_any W ⟨3, 0, 0, 3, 0, 2, 0, 0, 0⟩
    unfold UsesP at h
    rw [ex_reads, ex_makes] at h
    exact h
  have hS : ∀ W A B, RepI W A exI → RepLo W B exL → Calls Try.prog 16 #[.slice A 8 8, .slice B 2 2, .int .i64 1] W fun e w' => ∃ v, e = .returned v ∧ w'.ownsRow W.heap.size 54 3 v exS.length (spCells exS) ∧ Below W.heap.size W w' := fun W A B h1 h2 => by
    have h := Spans_any W A exI 8 B exL 2 1 (by decide) (by decide) h1 h2 exI_wf exL_fr
    rw [ex_spans0] at h
    exact h
  have hE : ∀ W A B, RepSp W A exS → RepSp W B exS → ∀ c, Calls Try.prog 15 #[.slice A 4 c, .slice B 4 4] W (EqP W true) := fun W A B h1 h2 c => by
    have h := spans_any W A B exS exS c 4 h1 h2 (by decide) (by decide)
    rw [decide_eq_true rfl] at h
    exact h
  have hB1 : ∀ W A, RepI W A exI → Calls Try.prog 13 #[.slice A 8 8, .int .i64 1] W (BeginsP W 4) := fun W A h1 => by
    have h := Begins_any W A exI 8 1 h1 (by decide)
    rw [ex_b1] at h
    exact h
  have hB3 : ∀ W A, RepI W A exI → Calls Try.prog 13 #[.slice A 8 8, .int .i64 3] W (BeginsP W 8) := fun W A h1 => by
    have h := Begins_any W A exI 8 3 h1 (by decide)
    rw [ex_b3] at h
    exact h
  have HU := Lib.hid hU
  have HS := Lib.hid hS
  have HE := Lib.hid hE
  have HB1 := Lib.hid hB1
  have HB3 := Lib.hid hB3
  clear hU hS hE hB1 hB3
  go_enter Try.func18, Try.ntmps18
  go_wp2_with (go_at_call 34; refine (example_any _).mono ?_; rintro e w1 ⟨ga, gb, rfl, hI1, hL1, hb1⟩; have cc := hI1.at_cells (k := 2) rfl; have c0 := cc 0 (.int .i64 3) rfl; have c1 := cc 1 (.int .i64 0) rfl; have c2 := cc 2 (.int .i64 0) rfl; have c3 := cc 3 (.int .i64 3) rfl; have c4 := cc 4 (.int .i64 0) rfl; have c5 := cc 5 (.int .i64 2) rfl; have c6 := cc 6 (.int .i64 0) rfl; have c7 := cc 7 (.int .i64 0) rfl; have c8 := cc 8 (.int .i64 0) rfl; clear cc; simp only [Nat.zero_add, Nat.reduceMul, Nat.reduceAdd] at c0 c1 c2 c3 c4 c5 c6 c7 c8; have HI1 := Lib.hid hI1; have HL1 := Lib.hid hL1; clear hI1 hL1)
  go_wp2_with (first
    | (go_at_call 10; refine (HU.out _).mono ?_; rintro e w2 ⟨v2, rfl, hown2, hb2⟩; obtain ⟨A2, q2, rfl, hints2⟩ := Ints.of_own hown2; have HI2 := Lib.hid (HI1.out.far hb2); have HL2 := Lib.hid (HL1.out.far hb2); obtain ⟨b2, o2, rfl, hl2, hall2⟩ := hints2 (List.cons_ne_nil _ _); have HN2 := Lib.hid (⟨hl2, hall2 0 0 rfl, hall2 1 2 rfl⟩ : _ ∧ _ ∧ _); clear hown2 hints2 hl2 hall2)
    | (go_at_call 16; refine (HS.out _ _ _ HI2.out HL2.out).mono ?_; rintro e w3 ⟨v3, rfl, hown3, hb3⟩; obtain ⟨A3, q3, rfl, hsp3⟩ := RepSp.of_own hown3; have HI3 := Lib.hid (HI2.out.far hb3); have HN3 := Lib.hid (two_far HN2.out hb3); have HP3 := Lib.hid hsp3; clear hown3 hsp3)
    | (go_at_call 15; refine (HE.out _ _ _ (HP3.out.far ((Below.refl _ _).alloc (Nat.le_refl _) _)) (RepSp.of_blk (Blk.new _ _ _)) _).mono ?_; rintro e w4 ⟨rfl, nn, rfl⟩; have hba : Below w3.heap.size w3 ((w3.alloc (.cells (spCells exS).toArray 54)).drewN nn) := below_drewN ((Below.refl _ _).alloc (Nat.le_refl _) _) nn; have HI4 := Lib.hid (HI3.out.far hba); have HN4 := Lib.hid (two_far HN3.out hba))
    | (go_at_call 13; refine (HB1.out _ _ HI4.out).mono ?_; rintro e w5 ⟨rfl, hb5⟩; have HI5 := Lib.hid (HI4.out.far hb5); have HN5 := Lib.hid (two_far HN4.out hb5); clear HB1)
    | (go_at_call 13; refine (HB3.out _ _ HI5.out).mono ?_; rintro e w6 ⟨rfl, hb6⟩; have HN6 := two_far HN5.out hb6; obtain ⟨n0, n1, n2⟩ := HN6; simp only [Nat.add_zero] at n1))
  go_ret
  exact ⟨rfl, hb1.trans ((hb2.mono hb1.size).trans ((hb3.mono (Nat.le_trans hb1.size hb2.size)).trans ((hba.mono (Nat.le_trans hb1.size (Nat.le_trans hb2.size hb3.size))).trans ((hb5.mono (Nat.le_trans hb1.size (Nat.le_trans hb2.size (Nat.le_trans hb3.size hba.size)))).trans (hb6.mono (Nat.le_trans hb1.size (Nat.le_trans hb2.size (Nat.le_trans hb3.size (Nat.le_trans hba.size hb5.size)))))))))⟩
end Go.Proofs.Ytfmkfmcplffhdaa

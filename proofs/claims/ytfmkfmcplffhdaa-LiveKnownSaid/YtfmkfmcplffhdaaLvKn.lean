/- ploverlaw19.LiveKnown: the closed statement returns true. No condition. -/
import Derived.Test.YtfmkfmcplffhdaaLvK2
namespace Go.Proofs.Ytfmkfmcplffhdaa
set_option linter.unusedVariables false
open Go.RowKit
attribute [local irreducible] Blk
def rdT : List Int := [0, 0, 1, 2, 1, 0, 1, 1, 2, 0, 1, 1, 0, 0, 1, 0, 1, 0, 0, 0]
def mkT : List Bool := [false, true, true, true, true, true, false, true, false, true, false, false, false, true, false, false, false, false, false, false]
def kI (k : Nat) : I9 := ⟨(k : Int), 0, 0, 5, 6, 7, 0, 0, 0⟩
theorem kn_all : ∀ k : Fin 20, (rdT.getD k.val 0 = 0 ∨ rdT.getD k.val 0 = 1 ∨ rdT.getD k.val 0 = 2) ∧ readsL (kI k.val) = ([6, 7] : List Int).take (rdT.getD k.val 0).toNat ∧ makesL (kI k.val) = if mkT.getD k.val false then 5 else -1 := by decide +kernel
theorem kn_at {k : Nat} (hk : k < 20) : ∃ (n : Nat) (mk : Bool), (n = 0 ∨ n = 1 ∨ n = 2) ∧ (iCells rdT).toArray[k]? = some (.int .i64 (n : Int)) ∧ (mkT.map Value.bool).toArray[k]? = some (.bool mk) ∧ readsL (kI k) = ([6, 7] : List Int).take n ∧ makesL (kI k) = if mk then 5 else -1 := by
  have h := kn_all ⟨k, hk⟩
  have h1 : k < rdT.length := hk
  have h2 : k < mkT.length := hk
  refine ⟨(rdT.getD k 0).toNat, mkT.getD k false, ?_, ?_, ?_, h.2.1, h.2.2⟩
  · rcases h.1 with e | e | e <;> simp only at e <;> rw [e] <;> simp
  · have hn : ((rdT.getD k 0).toNat : Int) = rdT.getD k 0 := by rcases h.1 with e | e | e <;> simp only at e <;> rw [e] <;> rfl
    rw [hn]
    simp [iCells, List.getD, List.getElem?_eq_getElem h1]
  · simp [List.getD, List.getElem?_eq_getElem h2]
def nvI : List I9 := [⟨10, 0, 0, 0, 4, 0, 0, 0, 0⟩, ⟨1, 0, 0, 5, 0, 0, 0, 0, 0⟩, ⟨10, 0, 0, 0, 4, 0, 0, 0, 1⟩]
def nvL : List Lo4 := [⟨⟨#[]⟩, 0, 1, 9⟩]
def nvS : List Sp3 := [⟨0, 2, 3⟩, ⟨4, 2, 2⟩, ⟨5, 1, 1⟩]
theorem nv_known : knownL 1 nvI = [(4, ⟨0, 2, false, true⟩), (5, ⟨1, 0, true, false⟩)] := by decide +kernel
theorem nv_spans : spansL nvI nvL 0 = nvS := by
  show localsL nvI 0 0 nvL ++ tempsL (knownL 1 nvI) = nvS
  rw [nv_known]
  unfold tempsL
  rw [keys_sorted (by decide)]
  decide +kernel
theorem nvI_wf : ∀ i ∈ nvI, WfI i := by
  intro i hi
  simp only [nvI, List.mem_cons, List.mem_nil_iff, or_false] at hi
  unfold WfI
  rcases hi with rfl | rfl | rfl <;> decide
theorem nvL_fr : ∀ x ∈ nvL, -1000000 ≤ x.fr ∧ x.fr ≤ 1000000 := by
  intro x hx
  simp only [nvL, List.mem_cons, List.mem_nil_iff, or_false] at hx
  rcases hx with rfl <;> simp
theorem nil_spans : spansL [] [] 3 = [] := by
  show [] ++ tempsL [] = []
  unfold tempsL
  rw [keys_sorted (by decide)]
  rfl
theorem gone_reads : readsL ⟨3, 0, 0, -4, -1, 3, 0, 0, 0⟩ = [3] := by decide +kernel
theorem gone_makes : makesL ⟨3, 0, 0, -4, -1, 3, 0, 0, 0⟩ = -1 := by decide +kernel
theorem bt {w a b : World} (h1 : Below w.heap.size w a) (h2 : Below a.heap.size a b) : Below w.heap.size w b := h1.trans (h2.mono h1.size)
theorem ba {w a : World} (h : Below w.heap.size w a) (o : Obj) : Below w.heap.size w (a.alloc o) := h.alloc h.size _
def UsP (w : World) (rs : List Int) (m : Int) (e : Ending) (w' : World) : Prop := ∃ v, e = .returned (.tuple #[v, .int .i64 m]) ∧ w'.ownsRow w.heap.size 3 1 v rs.length (iCells rs) ∧ Below w.heap.size w w'
theorem one_far {w w' : World} {b o : Nat} {x : Int} (h : b < w.heap.size ∧ w.cell? ⟨b, o + 0, none⟩ = some (.int .i64 x)) (hb : Below w.heap.size w w') : b < w'.heap.size ∧ w'.cell? ⟨b, o + 0, none⟩ = some (.int .i64 x) :=
  ⟨Nat.lt_of_lt_of_le h.1 hb.size, (hb.cell (p := ⟨b, _, none⟩) h.1).trans h.2⟩
set_option maxRecDepth 100000 in
set_option maxHeartbeats 3200000 in
theorem known_any (w : World) : Calls Try.prog 6 #[] w (OkP w) := by
  have hUs : ∀ W (k : Nat), Calls Try.prog 10 #[.agg #[.int .i64 (k : Int), .int .i64 0, .int .i64 0, .int .i64 5, .int .i64 6, .int .i64 7, .int .i64 0, .int .i64 0, .int .i64 0]] W (UsP W (readsL (kI k)) (makesL (kI k))) := fun W k => Uses_any W (kI k)
  have hU3 : ∀ W, Calls Try.prog 10 #[.agg #[.int .i64 3, .int .i64 0, .int .i64 0, .int .i64 (-4), .int .i64 (-1), .int .i64 3, .int .i64 0, .int .i64 0, .int .i64 0]] W (UsP W [3] (-1)) := fun W => by
    have h := Uses_any W ⟨3, 0, 0, -4, -1, 3, 0, 0, 0⟩
    unfold UsesP at h
    rw [gone_reads, gone_makes] at h
    exact h
  have hS : ∀ W A B, RepI W A nvI → RepLo W B nvL → Calls Try.prog 16 #[.slice A 3 3, .slice B 1 1, .int .i64 0] W (SpansP W nvS) := fun W A B h1 h2 => by
    have h := Spans_any W A nvI 3 B nvL 1 0 (by decide) (by decide) h1 h2 nvI_wf nvL_fr
    rw [nv_spans] at h
    exact h
  have hS0 : ∀ W, Calls Try.prog 16 #[.slice none 0 0, .slice none 0 0, .int .i64 3] W (SpansP W []) := fun W => by
    have h := Spans_any W none [] 0 none [] 0 3 (by decide) (by decide) (fun h => absurd rfl h) (fun h => absurd rfl h) (by simp) (by simp)
    rw [nil_spans] at h
    exact h
  have hE : ∀ W A B, RepSp W A nvS → RepSp W B nvS → ∀ c, Calls Try.prog 15 #[.slice A 3 c, .slice B 3 3] W (EqP W true) := fun W A B h1 h2 c => by
    have h := spans_any W A B nvS nvS c 3 h1 h2 (by decide) (by decide)
    rw [decide_eq_true rfl] at h
    exact h
  have hB0 : ∀ W, Calls Try.prog 13 #[.slice none 0 0, .int .i64 0] W (BeginsP W 0) := fun W => Begins_any W none [] 0 0 (fun h => absurd rfl h) (by decide)
  have HUs := Lib.hid hUs
  have HU3 := Lib.hid hU3
  have HS := Lib.hid hS
  have HS0 := Lib.hid hS0
  have HE := Lib.hid hE
  have HB0 := Lib.hid hB0
  clear hUs hU3 hS hS0 hE hB0
  go_enter Try.func6, Try.ntmps6
  go_wp2_with fail
  go_loopw [3] (fun op wr => ∃ k : Nat, k ≤ 20 ∧ op = .int .i64 (k : Int) ∧ Blk wr w.heap.size 3 (iCells rdT).toArray ∧ Blk wr (w.heap.size + 1) 4 (mkT.map Value.bool).toArray ∧ Below w.heap.size w wr) (fun op _ => 20 - (intOf op).toNat)
  case atStart => exact ⟨0, by omega, rfl, (Blk.new w _ _).alloc _, Blk.newAt (by simp), ((Below.refl _ _).alloc (Nat.le_refl _) _).alloc (by simp) _⟩
  case round =>
    obtain ⟨k, hk, rfl, hR, hM, hB⟩ := hrel
    have hRl := hR.lt
    have hMl := hM.lt
    by_cases hlt : k < 20
    · obtain ⟨n, mk, hn, hc1, hc2, hr, hm⟩ := kn_at hlt
      have hU := HUs.out wr k
      rw [hr, hm] at hU
      have k0 : (0 : Int) ≤ (k : Int) := by omega
      have k1 : (k : Int) < 20 := by omega
      have k2 : (k : Int) ≤ 19 := by omega
      clear hr hm
      rcases hn with rfl | rfl | rfl <;> cases mk
      · have hU2 : Calls Try.prog 10 #[.agg #[.int .i64 (k : Int), .int .i64 0, .int .i64 0, .int .i64 5, .int .i64 6, .int .i64 7, .int .i64 0, .int .i64 0, .int .i64 0]] wr (UsP wr ([] : List Int) (-1)) := hU
        have HU := Lib.hid hU2
        clear hU hU2
        go_wp2_with (go_at_call 10; refine HU.out.mono ?_; rintro e w2 ⟨v2, rfl, hown2, hb2⟩; obtain ⟨A2, q2, rfl, hints2⟩ := Ints.of_own hown2; have d1 := (hb2.cell (p := ⟨w.heap.size, k, none⟩) hRl).trans ((hR.cell k).trans hc1); have d2 := (hb2.cell (p := ⟨w.heap.size + 1, k, none⟩) hMl).trans ((hM.cell k).trans hc2); clear hown2 hints2)
        go_roundw
        case rel => exact ⟨k + 1, by omega, by go_num, hR.below hb2 hRl, hM.below hb2 hMl, hB.trans (hb2.mono hB.size)⟩
        case measure => simp [intOf]; omega
      · have hU2 : Calls Try.prog 10 #[.agg #[.int .i64 (k : Int), .int .i64 0, .int .i64 0, .int .i64 5, .int .i64 6, .int .i64 7, .int .i64 0, .int .i64 0, .int .i64 0]] wr (UsP wr ([] : List Int) 5) := hU
        have HU := Lib.hid hU2
        clear hU hU2
        go_wp2_with (go_at_call 10; refine HU.out.mono ?_; rintro e w2 ⟨v2, rfl, hown2, hb2⟩; obtain ⟨A2, q2, rfl, hints2⟩ := Ints.of_own hown2; have d1 := (hb2.cell (p := ⟨w.heap.size, k, none⟩) hRl).trans ((hR.cell k).trans hc1); have d2 := (hb2.cell (p := ⟨w.heap.size + 1, k, none⟩) hMl).trans ((hM.cell k).trans hc2); clear hown2 hints2)
        go_roundw
        case rel => exact ⟨k + 1, by omega, by go_num, hR.below hb2 hRl, hM.below hb2 hMl, hB.trans (hb2.mono hB.size)⟩
        case measure => simp [intOf]; omega
      · have hU2 : Calls Try.prog 10 #[.agg #[.int .i64 (k : Int), .int .i64 0, .int .i64 0, .int .i64 5, .int .i64 6, .int .i64 7, .int .i64 0, .int .i64 0, .int .i64 0]] wr (UsP wr [6] (-1)) := hU
        have HU := Lib.hid hU2
        clear hU hU2
        go_wp2_with (go_at_call 10; refine HU.out.mono ?_; rintro e w2 ⟨v2, rfl, hown2, hb2⟩; obtain ⟨A2, q2, rfl, hints2⟩ := Ints.of_own hown2; obtain ⟨b2, o2, rfl, hl2, hall2⟩ := hints2 (List.cons_ne_nil _ _); have e0 := hall2 0 6 rfl; rw [Nat.add_zero] at e0; clear hall2; have d1 := (hb2.cell (p := ⟨w.heap.size, k, none⟩) hRl).trans ((hR.cell k).trans hc1); have d2 := (hb2.cell (p := ⟨w.heap.size + 1, k, none⟩) hMl).trans ((hM.cell k).trans hc2); clear hown2 hints2)
        go_roundw
        case rel => exact ⟨k + 1, by omega, by go_num, hR.below hb2 hRl, hM.below hb2 hMl, hB.trans (hb2.mono hB.size)⟩
        case measure => simp [intOf]; omega
      · have hU2 : Calls Try.prog 10 #[.agg #[.int .i64 (k : Int), .int .i64 0, .int .i64 0, .int .i64 5, .int .i64 6, .int .i64 7, .int .i64 0, .int .i64 0, .int .i64 0]] wr (UsP wr [6] 5) := hU
        have HU := Lib.hid hU2
        clear hU hU2
        go_wp2_with (go_at_call 10; refine HU.out.mono ?_; rintro e w2 ⟨v2, rfl, hown2, hb2⟩; obtain ⟨A2, q2, rfl, hints2⟩ := Ints.of_own hown2; obtain ⟨b2, o2, rfl, hl2, hall2⟩ := hints2 (List.cons_ne_nil _ _); have e0 := hall2 0 6 rfl; rw [Nat.add_zero] at e0; clear hall2; have d1 := (hb2.cell (p := ⟨w.heap.size, k, none⟩) hRl).trans ((hR.cell k).trans hc1); have d2 := (hb2.cell (p := ⟨w.heap.size + 1, k, none⟩) hMl).trans ((hM.cell k).trans hc2); clear hown2 hints2)
        go_roundw
        case rel => exact ⟨k + 1, by omega, by go_num, hR.below hb2 hRl, hM.below hb2 hMl, hB.trans (hb2.mono hB.size)⟩
        case measure => simp [intOf]; omega
      · have hU2 : Calls Try.prog 10 #[.agg #[.int .i64 (k : Int), .int .i64 0, .int .i64 0, .int .i64 5, .int .i64 6, .int .i64 7, .int .i64 0, .int .i64 0, .int .i64 0]] wr (UsP wr [6, 7] (-1)) := hU
        have HU := Lib.hid hU2
        clear hU hU2
        go_wp2_with (go_at_call 10; refine HU.out.mono ?_; rintro e w2 ⟨v2, rfl, hown2, hb2⟩; obtain ⟨A2, q2, rfl, hints2⟩ := Ints.of_own hown2; obtain ⟨b2, o2, rfl, hl2, hall2⟩ := hints2 (List.cons_ne_nil _ _); have e0 := hall2 0 6 rfl; have e1 := hall2 1 7 rfl; rw [Nat.add_zero] at e0; clear hall2; have d1 := (hb2.cell (p := ⟨w.heap.size, k, none⟩) hRl).trans ((hR.cell k).trans hc1); have d2 := (hb2.cell (p := ⟨w.heap.size + 1, k, none⟩) hMl).trans ((hM.cell k).trans hc2); clear hown2 hints2)
        go_roundw
        case rel => exact ⟨k + 1, by omega, by go_num, hR.below hb2 hRl, hM.below hb2 hMl, hB.trans (hb2.mono hB.size)⟩
        case measure => simp [intOf]; omega
      · have hU2 : Calls Try.prog 10 #[.agg #[.int .i64 (k : Int), .int .i64 0, .int .i64 0, .int .i64 5, .int .i64 6, .int .i64 7, .int .i64 0, .int .i64 0, .int .i64 0]] wr (UsP wr [6, 7] 5) := hU
        have HU := Lib.hid hU2
        clear hU hU2
        go_wp2_with (go_at_call 10; refine HU.out.mono ?_; rintro e w2 ⟨v2, rfl, hown2, hb2⟩; obtain ⟨A2, q2, rfl, hints2⟩ := Ints.of_own hown2; obtain ⟨b2, o2, rfl, hl2, hall2⟩ := hints2 (List.cons_ne_nil _ _); have e0 := hall2 0 6 rfl; have e1 := hall2 1 7 rfl; rw [Nat.add_zero] at e0; clear hall2; have d1 := (hb2.cell (p := ⟨w.heap.size, k, none⟩) hRl).trans ((hR.cell k).trans hc1); have d2 := (hb2.cell (p := ⟨w.heap.size + 1, k, none⟩) hMl).trans ((hM.cell k).trans hc2); clear hown2 hints2)
        go_roundw
        case rel => exact ⟨k + 1, by omega, by go_num, hR.below hb2 hRl, hM.below hb2 hMl, hB.trans (hb2.mono hB.size)⟩
        case measure => simp [intOf]; omega
    · have hke : k = 20 := by omega
      subst hke
      clear hR hM
      go_wp2_with (first
        | (go_at_call 10; refine (HU3.out _).mono ?_; rintro e w2 ⟨v2, rfl, hown2, hb2⟩; obtain ⟨A2, q2, rfl, hints2⟩ := Ints.of_own hown2; obtain ⟨b2, o2, rfl, hl2, hall2⟩ := hints2 (List.cons_ne_nil _ _); have HN2 := Lib.hid (⟨hl2, hall2 0 3 rfl⟩ : _ ∧ _); clear hown2 hints2 hl2 hall2)
        | (go_at_call 18; refine (works_any _).mono ?_; rintro e w3 ⟨rfl, hb3⟩; have hba : Below w2.heap.size w2 w3 := ((Below.refl _ _).alloc (Nat.le_refl _) _).trans (hb3.mono (by simp)); have hI3 : RepI w3 (some ⟨w2.heap.size, 0, none⟩) nvI := (RepI.of_blk (Blk.new w2 _ _)).far hb3; have hn3 := one_far HN2.out hba; obtain ⟨n0, n1⟩ := hn3; rw [Nat.add_zero] at n1; have HI3 := Lib.hid hI3; clear hI3)
        | (go_at_call 16; refine (HS.out _ _ _ (HI3.out.far ((Below.refl _ _).alloc (Nat.le_refl _) _)) (RepLo.of_blk (Blk.new _ _ _))).mono ?_; rintro e w4 ⟨v4, rfl, hown4, hb4⟩; obtain ⟨A4, q4, rfl, hsp4⟩ := RepSp.of_own hown4; have HP4 := Lib.hid hsp4; clear hown4 hsp4 HS)
        | (go_at_call 15; refine (HE.out _ _ _ (HP4.out.far ((Below.refl _ _).alloc (Nat.le_refl _) _)) (RepSp.of_blk (Blk.new _ _ _)) _).mono ?_; rintro e w5 ⟨rfl, nn, rfl⟩)
        | (go_at_call 16; refine (HS0.out _).mono ?_; rintro e w6 ⟨v6, rfl, hown6, hb6⟩; obtain ⟨A6, q6, rfl, hsp6⟩ := RepSp.of_own hown6; clear hown6 hsp6)
        | (go_at_call 13; refine (HB0.out _).mono ?_; rintro e w7 ⟨rfl, hb7⟩))
      go_ret
      exact ⟨rfl, bt (bt (below_drewN (ba (bt (ba (bt (ba (bt hB hb2) _) hb3) _) hb4) _) nn) hb6) hb7⟩
end Go.Proofs.Ytfmkfmcplffhdaa

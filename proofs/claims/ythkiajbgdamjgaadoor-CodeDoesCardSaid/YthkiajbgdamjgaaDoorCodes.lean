/- The function codes of the law's package: are two rows of instructions alike? -/
import Derived.Test.YthkiajbgdamjgaaDoorCodA
namespace Go.Proofs.YthkiajbgdamjgaaDoor
set_option linter.unusedVariables false
open Go.RowKit

/-- A slice that reads as these instructions. -/
def Reads5 (w : World) (A : Option Addr) (l : List C5) : Prop :=
  l ≠ [] → ∃ b o, A = some ⟨b, o, none⟩ ∧ b < w.heap.size ∧ ∀ k x, l[k]? = some x → ∀ i u, x.cells[i]? = some u → w.cell? ⟨b, o + (k * 5 + i), none⟩ = some u

theorem codeCells_get : ∀ (l : List C5) (k : Nat) (x : C5), l[k]? = some x → ∀ i u, x.cells[i]? = some u → (codeCells l)[k * 5 + i]? = some u
  | [], k, x, h, _, _, _ => by simp at h
  | y :: t, 0, x, h, i, u, hi => by
    simp at h
    subst h
    have hl : i < y.cells.length := (List.getElem?_eq_some_iff.1 hi).1
    simp only [codeCells, List.flatMap_cons, Nat.zero_mul, Nat.zero_add]
    rw [List.getElem?_append_left hl]
    exact hi
  | y :: t, k + 1, x, h, i, u, hi => by
    have h' : t[k]? = some x := by simpa using h
    have ih := codeCells_get t k x h' i u hi
    simp only [codeCells, List.flatMap_cons]
    rw [List.getElem?_append_right (by simp [C5.cells]; omega)]
    have e : (k + 1) * 5 + i - y.cells.length = k * 5 + i := by simp [C5.cells]; omega
    rw [e]
    exact ih
theorem Reads5.of_own {w : World} {base : Nat} {gg cap : Nat} {l : List C5} (h : w.ownsRow base 49 5 (.slice (some ⟨gg, 0, none⟩) l.length cap) l.length (codeCells l)) : Reads5 w (some ⟨gg, 0, none⟩) l := fun _ => by
  have hlt := (h.lt gg rfl).2
  have hc := h.cells (g := gg) rfl
  refine ⟨gg, 0, rfl, hlt, fun k x hx i u hi => ?_⟩
  have := hc (k * 5 + i) u (codeCells_get l k x hx i u hi)
  rwa [addr_add] at this
theorem Reads5.of_blk {w : World} {g : Nat} {l : List C5} (h : Blk w g 49 (codeCells l).toArray) : Reads5 w (some ⟨g, 0, none⟩) l := fun _ =>
  ⟨g, 0, rfl, h.lt, fun k x hx i u hi => by rw [h.cell, Nat.zero_add]; simpa using codeCells_get l k x hx i u hi⟩
theorem Reads5.below {w w' : World} {B : Nat} {A : Option Addr} {l : List C5} (h : Reads5 w A l) (hb : Below B w w') (hB : w.heap.size ≤ B) : Reads5 w' A l := fun hne => by
  obtain ⟨b, o, hA, hlt, hall⟩ := h hne
  exact ⟨b, o, hA, by have := hb.size; omega, fun k x hx i u hi => (hb.cell (p := ⟨b, o + (k * 5 + i), none⟩) (by show b < B; omega)).trans (hall k x hx i u hi)⟩

theorem C5.ext_cells {x y : C5} (h : x.cells = y.cells) : x = y := by
  cases x; cases y
  simpa [C5.cells] using h

theorem guardCode : Tryd.prog.eqGuardType Tryd.prog.depth 49 = false := by kernel_rfl
set_option maxRecDepth 100000 in
set_option maxHeartbeats 3200000 in
theorem run_neq_code (x0 x1 x2 x3 x4 y0 y1 y2 y3 y4 : Int) (w : World) :
    (binOp .neq 49 (.agg #[.int .u8 x0, .int .u8 x1, .int .u8 x2, .int .u8 x3, .int .i32 x4]) (.agg #[.int .u8 y0, .int .u8 y1, .int .u8 y2, .int .u8 y3, .int .i32 y4])).run Tryd.prog w = .ok (.bool (!decide ((⟨x0, x1, x2, x3, x4⟩ : C5) = ⟨y0, y1, y2, y3, y4⟩))) w := by
  have u2 := Tryd.underlying5
  have a2 := Tryd.isAgg5
  have z2 := Tryd.sizeOf5
  have u3 := Tryd.underlying21
  have a3 := Tryd.isAgg21
  have z3 := Tryd.sizeOf21
  have hS : Tryd.prog.underlying 49 = some (.struct (Tryd.prog.fieldsOf 49)) := by kernel_rfl
  have hp : Tryd.prog.stoodInHeld 49 = false := by kernel_rfl
  rw [run_neq_struct, show (10000 : Nat) = 9999 + 1 from rfl, run_equalIn_agg w 9999 49 _ _ hS hp]
  simp only [Program.fieldsOf, Tryd.underlying49]
  go_simp

  (repeat' split) <;> simp_all

set_option maxRecDepth 100000 in
set_option maxHeartbeats 6400000 in
theorem codes_any (w : World) (A B : Option Addr) (la lb : List C5) (ca cb : Nat) (ha : Reads5 w A la) (hb : Reads5 w B lb) (hla : la.length < 1000000000000) (hlb : lb.length < 1000000000000) :
    Calls Tryd.prog 8 #[.slice A la.length ca, .slice B lb.length cb] w fun e w' => e = .returned (.bool (decide (la = lb))) ∧ ∃ n, w' = w.drewN n := by
  have HA := Lib.hid ha
  have HB := Lib.hid hb
  clear ha hb
  by_cases hlen : la.length = lb.length
  · have t1 : ((la.length : Int) != (lb.length : Int)) = false := by simp [hlen]
    have HLEN := Lib.hid hlen
    go_enter Tryd.func8, Tryd.ntmps8
    clear hlen
    go_wp2_with fail
    go_loopw [5] (fun i wr => ∃ k : Nat, k ≤ la.length ∧ i = .int .i64 k ∧ la.take k = lb.take k ∧ ∃ n, wr = w.drewN n) (fun i _ => la.length - (intOf i).toNat)
    case atStart => exact ⟨0, Nat.zero_le _, rfl, by simp, 0, rfl⟩
    case round =>
      obtain ⟨k, hk, rfl, htake, nn, rfl⟩ := hrel
      have HT := Lib.hid htake
      clear htake
      by_cases hlt : k < la.length
      · have hltb : k < lb.length := by rw [← HLEN.out]; exact hlt
        obtain ⟨x, hx⟩ : ∃ x, la[k]? = some x := ⟨la[k], by simp [hlt]⟩
        obtain ⟨y, hy⟩ : ∃ y, lb[k]? = some y := ⟨lb[k], by simp [hltb]⟩
        obtain ⟨b, o, rfl, hblt, hall⟩ := HA.out (by intro h; rw [h] at hlt; simp at hlt)
        obtain ⟨b', o', rfl, hblt', hall'⟩ := HB.out (by intro h; rw [h] at hltb; simp at hltb)
        have hc := hall k x hx
        have hd := hall' k y hy
        clear hall hall'
        obtain ⟨x0, x1, x2, x3, x4⟩ := x
        obtain ⟨y0, y1, y2, y3, y4⟩ := y
        simp only [C5.cells] at hc hd
        have c0 := hc 0 _ rfl
        have c1 := hc 1 _ rfl
        have c2 := hc 2 _ rfl
        have c3 := hc 3 _ rfl
        have c4 := hc 4 _ rfl
        have d0 := hd 0 _ rfl
        have d1 := hd 1 _ rfl
        have d2 := hd 2 _ rfl
        have d3 := hd 3 _ rfl
        have d4 := hd 4 _ rfl
        clear hc hd
        simp only [Nat.add_zero, ← Nat.add_assoc] at c0 c1 c2 c3 c4 d0 d1 d2 d3 d4
        have hi0 : (0 : Int) ≤ (k : Int) := by omega
        have hi1 : (k : Int) < (la.length : Int) := by omega
        have hi2 : (k : Int) < (lb.length : Int) := by omega
        have hg := guardCode
        have hne := fun W => run_neq_code x0 x1 x2 x3 x4 y0 y1 y2 y3 y4 W
        by_cases hxy : (⟨x0, x1, x2, x3, x4⟩ : C5) = ⟨y0, y1, y2, y3, y4⟩
        · have hxy' : decide ((⟨x0, x1, x2, x3, x4⟩ : C5) = ⟨y0, y1, y2, y3, y4⟩) = true := by simpa using hxy
          simp only [hxy', Bool.not_true] at hne
          have htk : la.take (k + 1) = lb.take (k + 1) := by
            rw [List.take_add_one, List.take_add_one, HT.out, hx, hy, hxy]
          have HTK := Lib.hid htk
          clear htk hxy hxy' hx hy
          go_wp2_with fail
          go_quiet (fail)
          go_wp2_with fail
          go_roundw
          case rel => exact ⟨k + 1, by omega, by go_num, HTK.out, _, rfl⟩
          case measure => simp [intOf]; omega
        · have hxy' : decide ((⟨x0, x1, x2, x3, x4⟩ : C5) = ⟨y0, y1, y2, y3, y4⟩) = false := by simpa using hxy
          simp only [hxy', Bool.not_false] at hne
          have hfin : decide (la = lb) = false := by
            simp only [decide_eq_false_iff_not]
            intro he
            rw [he, hy] at hx
            exact hxy (Option.some.inj hx).symm
          have HF := Lib.hid hfin
          clear hfin hxy hxy' hx hy
          go_wp2_with fail
          go_quiet (fail)
          go_wp2_with fail
          go_ret
          exact ⟨by rw [HF.out]; rfl, _, World.drewN_drewN _ _ _⟩
      · have hfin : decide (la = lb) = true := by
          simp only [decide_eq_true_eq]
          have h1 : la.take k = la := List.take_of_length_le (by omega)
          have h2 : lb.take k = lb := List.take_of_length_le (by have := HLEN.out; omega)
          rw [← h1, ← h2]
          exact HT.out
        have HF := Lib.hid hfin
        clear hfin
        go_wp2_with fail
        go_ret
        exact ⟨by rw [HF.out]; rfl, nn, rfl⟩
  · have t1 : ((la.length : Int) != (lb.length : Int)) = true := by simpa using (fun h => hlen (by omega))
    have hfin : decide (la = lb) = false := by
      simp only [decide_eq_false_iff_not]
      intro he
      exact hlen (by rw [he])
    have HF := Lib.hid hfin
    clear hfin hlen
    go_enter Tryd.func8, Tryd.ntmps8
    go_wp2_with fail
    go_ret
    exact ⟨by rw [HF.out]; rfl, 0, rfl⟩
end Go.Proofs.YthkiajbgdamjgaaDoor

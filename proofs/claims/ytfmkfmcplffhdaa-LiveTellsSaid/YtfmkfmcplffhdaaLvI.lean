/- ploverlaw19.spans: are two rows of spans alike? The chapter's example. No condition. -/
import Derived.Test.YtfmkfmcplffhdaaLvH
import Derived.BigQuiet
import Derived.Deep.QuietTactic
namespace Go.Proofs.Ytfmkfmcplffhdaa
set_option linter.unusedVariables false
open Go.RowKit
attribute [local irreducible] Blk

/-- A slice of spans. -/
def RepSp (w : World) (A : Option Addr) (l : List Sp3) : Prop :=
  l ≠ [] → ∃ b o, A = some ⟨b, o, none⟩ ∧ b < w.heap.size ∧ ∀ k x, l[k]? = some x → ∀ j u, x.arr[j]? = some u → w.cell? ⟨b, o + k * 3 + j, none⟩ = some u
theorem RepSp.far {w w' : World} {A : Option Addr} {l : List Sp3} (h : RepSp w A l) (hb : Below w.heap.size w w') : RepSp w' A l := fun hne => by
  obtain ⟨b, o, hA, hl, hall⟩ := h hne
  exact ⟨b, o, hA, Nat.lt_of_lt_of_le hl hb.size, fun k x hx j u hu => (hb.cell (p := ⟨b, _, none⟩) hl).trans (hall k x hx j u hu)⟩
theorem spCells_get : ∀ (l : List Sp3) (k : Nat) (x : Sp3), l[k]? = some x → ∀ j u, x.arr[j]? = some u → (spCells l)[k * 3 + j]? = some u
  | [], k, x, h, _, _, _ => by simp at h
  | y :: t, 0, x, h, j, u, hu => by
    simp at h
    subst h
    have hl : j < y.arr.size := (Array.getElem?_eq_some_iff.1 hu).1
    show (y.arr.toList ++ spCells t)[0 * 3 + j]? = some u
    rw [Nat.zero_mul, Nat.zero_add, List.getElem?_append_left (by simpa using hl)]
    simpa using hu
  | y :: t, k + 1, x, h, j, u, hu => by
    have ih := spCells_get t k x (by simpa using h) j u hu
    show (y.arr.toList ++ spCells t)[(k + 1) * 3 + j]? = some u
    rw [List.getElem?_append_right (by simp [Sp3.arr]; omega)]
    rw [show (k + 1) * 3 + j - y.arr.toList.length = k * 3 + j by simp [Sp3.arr]; omega]
    exact ih
theorem RepSp.of_own {w : World} {base : Nat} {v : Value} {l : List Sp3} (h : w.ownsRow base 54 3 v l.length (spCells l)) : ∃ A c, v = .slice A l.length c ∧ RepSp w A l := by
  have hlt := h.lt
  have hc := fun g (hg : v.ownBlock = some g) => h.cells hg
  rcases h.2 with ⟨rfl, h0⟩ | ⟨g, cap, cur, rfl, _⟩
  · exact ⟨none, 0, by rw [h0], fun hne => absurd (List.length_eq_zero_iff.1 h0) hne⟩
  · refine ⟨_, cap, rfl, fun _ => ⟨g, 0, rfl, (hlt g rfl).2, fun k x hx j u hu => ?_⟩⟩
    have c0 := hc g rfl (k * 3 + j) u (spCells_get l k x hx j u hu)
    rw [addr_add, ← Nat.add_assoc] at c0
    exact c0
theorem RepSp.of_blk {w : World} {g : Nat} {l : List Sp3} (h : Blk w g 54 (spCells l).toArray) : RepSp w (some ⟨g, 0, none⟩) l := fun _ =>
  ⟨g, 0, rfl, h.lt, fun k x hx i u hi => by rw [h.cell, Nat.zero_add]; simpa using spCells_get l k x hx i u hi⟩

theorem guardSpan : Try.prog.eqGuardType Try.prog.depth 54 = false := by kernel_rfl
set_option maxRecDepth 100000 in
set_option maxHeartbeats 3200000 in
theorem run_neq_span (x0 x1 x2 y0 y1 y2 : Int) (w : World) :
    (binOp .neq 54 (.agg #[.int .i64 x0, .int .i64 x1, .int .i64 x2]) (.agg #[.int .i64 y0, .int .i64 y1, .int .i64 y2])).run Try.prog w = .ok (.bool (!decide ((⟨x0, x1, x2⟩ : Sp3) = ⟨y0, y1, y2⟩))) w := by
  have u3 := Try.underlying3
  have a3 := Try.isAgg3
  have z3 := Try.sizeOf3
  have hS : Try.prog.underlying 54 = some (.struct (Try.prog.fieldsOf 54)) := by kernel_rfl
  have hp : Try.prog.stoodInHeld 54 = false := by kernel_rfl
  rw [run_neq_struct, show (10000 : Nat) = 9999 + 1 from rfl, run_equalIn_agg w 9999 54 _ _ hS hp]
  simp only [Program.fieldsOf, Try.underlying54]
  go_simp
  (repeat' split) <;> simp_all

def EqP (w : World) (b : Bool) (e : Ending) (w' : World) : Prop := e = .returned (.bool b) ∧ ∃ n, w' = w.drewN n
set_option maxRecDepth 100000 in
set_option maxHeartbeats 3200000 in
theorem spans_any (w : World) (A B : Option Addr) (la lb : List Sp3) (ca cb : Nat) (ha : RepSp w A la) (hb : RepSp w B lb) (hla : la.length < 1000000000000) (hlb : lb.length < 1000000000000) :
    Calls Try.prog 15 #[.slice A la.length ca, .slice B lb.length cb] w (EqP w (decide (la = lb))) := by
  have HA := Lib.hid ha
  have HB := Lib.hid hb
  clear ha hb
  by_cases hlen : la.length = lb.length
  · have t1 : ((la.length : Int) != (lb.length : Int)) = false := by simp [hlen]
    have HLEN := Lib.hid hlen
    go_enter Try.func15, Try.ntmps15
    clear hlen
    go_wp2_with fail
    go_loopw [5] (fun i wr => ∃ k : Nat, k ≤ la.length ∧ i = .int .i64 k ∧ la.take k = lb.take k ∧ ∃ n, wr = w.drewN n) (fun i _ => la.length - (intOf i).toNat)
    case atStart => exact ⟨0, Nat.zero_le _, rfl, by simp, 0, rfl⟩
    case round =>
      obtain ⟨k, hk, rfl, htake, nn, rfl⟩ := hrel
      have HT := Lib.hid htake
      clear htake
      by_cases hlt : k < la.length
      · have hltb : k < lb.length := by rw [← HLEN.out]; exact hlt
        obtain ⟨x, hx⟩ : ∃ x, la[k]? = some x := ⟨la[k], by simp [hlt]⟩
        obtain ⟨y, hy⟩ : ∃ y, lb[k]? = some y := ⟨lb[k], by simp [hltb]⟩
        obtain ⟨b, o, rfl, hblt, hall⟩ := HA.out (by intro h; rw [h] at hlt; simp at hlt)
        obtain ⟨b', o', rfl, hblt', hall'⟩ := HB.out (by intro h; rw [h] at hltb; simp at hltb)
        have hc := hall k x hx
        have hd := hall' k y hy
        clear hall hall'
        obtain ⟨x0, x1, x2⟩ := x
        obtain ⟨y0, y1, y2⟩ := y
        simp only [Sp3.arr] at hc hd
        have c0 := hc 0 _ rfl
        have c1 := hc 1 _ rfl
        have c2 := hc 2 _ rfl
        have d0 := hd 0 _ rfl
        have d1 := hd 1 _ rfl
        have d2 := hd 2 _ rfl
        clear hc hd
        simp only [Nat.add_zero] at c0 c1 c2 d0 d1 d2
        have hi0 : (0 : Int) ≤ (k : Int) := by omega
        have hi1 : (k : Int) < (la.length : Int) := by omega
        have hi2 : (k : Int) < (lb.length : Int) := by omega
        have hg := guardSpan
        have hne := fun W => run_neq_span x0 x1 x2 y0 y1 y2 W
        have HX := Lib.hid hx
        have HY := Lib.hid hy
        clear hx hy
        by_cases hxy : (⟨x0, x1, x2⟩ : Sp3) = ⟨y0, y1, y2⟩
        · have hxy' : decide ((⟨x0, x1, x2⟩ : Sp3) = ⟨y0, y1, y2⟩) = true := by simpa using hxy
          simp only [hxy', Bool.not_true] at hne
          have HXY := Lib.hid hxy
          clear hxy hxy'
          go_wp2_with fail
          go_quiet (fail)
          go_wp2_with fail
          go_roundw
          case rel =>
            refine ⟨k + 1, by omega, by go_num, ?_, nn + nq, by simp [World.drewN]⟩
            rw [take_snoc' HX.out, take_snoc' HY.out, HT.out, HXY.out]
          case measure => simp [intOf]; omega
        · have hxy' : decide ((⟨x0, x1, x2⟩ : Sp3) = ⟨y0, y1, y2⟩) = false := by simpa using hxy
          simp only [hxy', Bool.not_false] at hne
          have HXY := Lib.hid hxy
          clear hxy hxy'
          go_wp2_with fail
          go_quiet (fail)
          go_wp2_with fail
          go_ret
          unfold EqP
          have : la ≠ lb := fun e => HXY.out (by subst e; exact Option.some.inj (HX.out.symm.trans HY.out))
          exact ⟨by simp [this], nn + nq, by simp [World.drewN, Nat.add_assoc]⟩
      · have hn : ¬ ((k : Int) < (la.length : Int)) := by omega
        have hke : k = la.length := by omega
        go_wp2_with fail
        go_ret
        unfold EqP
        have : la = lb := by
          have h1 := HT.out
          rw [hke, List.take_length, HLEN.out, List.take_length] at h1
          exact h1
        exact ⟨by simp [this], nn, rfl⟩
  · have t1 : ((la.length : Int) != (lb.length : Int)) = true := by simp; omega
    have hne : la ≠ lb := fun e => hlen (by rw [e])
    have HN := Lib.hid hne
    clear hlen hne
    go_enter Try.func15, Try.ntmps15
    go_wp2_with fail
    go_ret
    unfold EqP
    exact ⟨by simp [HN.out], 0, rfl⟩
end Go.Proofs.Ytfmkfmcplffhdaa

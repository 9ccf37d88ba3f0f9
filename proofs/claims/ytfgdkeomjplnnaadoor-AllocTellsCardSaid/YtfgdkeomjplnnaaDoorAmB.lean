/- The drafts as spans. No condition. -/
import Derived.Test.YtfgdkeomjplnnaaDoorAmA
namespace Go.Proofs.YtfgdkeomjplnnaaDoor
set_option linter.unusedVariables false
open Go.RowKit
attribute [local irreducible] Blk
theorem infoSp : (Tryd.prog.info? 32).map (fun i => (i.zero, i.size, i.bytes)) = some (some (.agg #[.int .i64 0, .int .i64 0, .int .i64 0]), 3, 24) := by kernel_rfl
structure P2 where
  a : Int
  b : Int
def P2.arr (x : P2) : Array Value := #[.int .u8 x.a, .int .u8 x.b]
def RepP2 (w : World) (A : Option Addr) (l : List P2) : Prop :=
  l ≠ [] → ∃ b o, A = some ⟨b, o, none⟩ ∧ b < w.heap.size ∧ ∀ k x, l[k]? = some x → ∀ j u, x.arr[j]? = some u → w.cell? ⟨b, o + k * 2 + j, none⟩ = some u
theorem RepP2.far {w w' : World} {A : Option Addr} {l : List P2} (h : RepP2 w A l) (hb : Below w.heap.size w w') : RepP2 w' A l := fun hne => by
  obtain ⟨b, o, hA, hl, hall⟩ := h hne
  exact ⟨b, o, hA, Nat.lt_of_lt_of_le hl hb.size, fun k x hx j u hu => (hb.cell (p := ⟨b, _, none⟩) hl).trans (hall k x hx j u hu)⟩
def OkP2 (x : P2) : Prop := 0 ≤ x.a ∧ x.a ≤ 255 ∧ 0 ≤ x.b ∧ x.b ≤ 255
def p2At (l : List P2) (i : Nat) : P2 := (l[i]?).getD ⟨0, 0⟩
theorem p2At_of {l : List P2} {i : Nat} {x : P2} (h : l[i]? = some x) : p2At l i = x := by unfold p2At; rw [h]; rfl
def spanAt (l : List P2) (i : Nat) : Sp := ⟨i, (p2At l i).a, (p2At l i).a + (p2At l i).b⟩
def spsTo (f : Nat → Sp) (k : Nat) : List Sp := (List.range k).map f
theorem spsTo_succ (f : Nat → Sp) (k : Nat) : spsTo f (k + 1) = spsTo f k ++ [f k] := by
  unfold spsTo
  rw [List.range_succ, List.map_append]
  rfl
theorem spsTo_len (f : Nat → Sp) (k : Nat) : (spsTo f k).length = k := by unfold spsTo; simp
theorem spsTo_get {f : Nat → Sp} {k i : Nat} (h : i < k) : (spsTo f k)[i]? = some (f i) := by unfold spsTo; simp [h]
def spCells (l : List Sp) : List Value := l.flatMap (fun x => x.arr.toList)
theorem spCells_append (a b : List Sp) : spCells (a ++ b) = spCells a ++ spCells b := by simp [spCells]
theorem spCells_get : ∀ (l : List Sp) (k : Nat) (x : Sp), l[k]? = some x → ∀ (j : Nat) (u : Value), x.arr[j]? = some u → (spCells l)[k * 3 + j]? = some u
  | [], k, x, h => by simp at h
  | y :: r, 0, x, h => fun j u hu => by
    have : y = x := by simpa using h
    subst this
    have hj : j < 3 := (Array.getElem?_eq_some_iff.1 hu).1
    show (y.arr.toList ++ spCells r)[0 * 3 + j]? = _
    rw [List.getElem?_append_left (by show 0 * 3 + j < 3; omega), Nat.zero_mul, Nat.zero_add]
    simpa using hu
  | y :: r, k + 1, x, h => fun j u hu => by
    show (y.arr.toList ++ spCells r)[(k + 1) * 3 + j]? = _
    have h3 : y.arr.toList.length = 3 := rfl
    rw [List.getElem?_append_right (by omega), h3, show (k + 1) * 3 + j - 3 = k * 3 + j by omega]
    exact spCells_get r k x (by simpa using h) j u hu
theorem RepS.of_row {w : World} {base : Nat} {v : Value} {l : List Sp} (h : w.ownsRow base 32 3 v l.length (spCells l)) : ∃ A c, v = .slice A l.length c ∧ RepS w A l := by
  rcases h.2 with ⟨rfl, h0⟩ | ⟨g, cap, cur, rfl, hb, hh, h1, h2, h3, h4⟩
  · rw [List.length_eq_zero_iff.1 h0]
    exact ⟨none, 0, rfl, fun hne => absurd rfl hne⟩
  · have hc := h.cells (g := g) rfl
    exact ⟨_, cap, rfl, fun hne => ⟨g, 0, rfl, (h.lt g rfl).2, fun k x hx j u hu => by
      rw [Nat.zero_add]
      have h5 := spCells_get l k x hx j u hu
      have h6 := hc (k * 3 + j) u h5
      rw [Addr.add_lit, Nat.zero_add] at h6
      exact h6⟩⟩
def SpP (w : World) (sp : List Sp) (e : Ending) (w' : World) : Prop := ∃ A c, e = .returned (.slice A sp.length c) ∧ RepS w' A sp ∧ Below w.heap.size w w'
def spansL (l : List P2) : List Sp := spsTo (spanAt l) (min l.length 100)
set_option maxRecDepth 100000 in
set_option maxHeartbeats 3200000 in
theorem spans_law (w : World) (A : Option Addr) (l : List P2) (c : Nat) (hr : RepP2 w A l) (hok : ∀ x ∈ l, OkP2 x) (hll : l.length ≤ 9223372036854775807) :
    Calls Tryd.prog 9 #[.slice A l.length c] w (SpP w (spansL l)) := by
  have HR := Lib.hid hr
  have HOK := Lib.hid hok
  clear hr hok
  obtain ⟨i0, hi0, hz0, hz1, hz2⟩ := info_parts infoSp
  have HII := Lib.hid (⟨hi0, hz0, hz1, hz2⟩ : _ ∧ _ ∧ _ ∧ _)
  clear hi0 hz0 hz1 hz2
  go_enter Tryd.func9, Tryd.ntmps9
  go_wp2_with fail
  go_loopw [3, 4] (fun o ix wr => ∃ k : Nat, k ≤ l.length ∧ k ≤ 100 ∧ ix = .int .i64 (k : Int) ∧ wr.ownsRow w.heap.size 32 3 o k (spCells (spsTo (spanAt l) k)) ∧ Below w.heap.size w wr) (fun _ ix _ => 100 - (intOf ix).toNat)
  case atStart => exact ⟨0, Nat.zero_le _, Nat.zero_le _, rfl, World.ownsRow_nil _ _ _ _, Below.refl _ _⟩
  case round =>
    obtain ⟨k, hk, hk2, rfl, hown, hbr⟩ := hrel
    have hbs := hbr.size
    by_cases hlt : k < l.length
    · by_cases hlt2 : k < 100
      · obtain ⟨x, hx⟩ : ∃ x, l[k]? = some x := ⟨l[k], List.getElem?_eq_getElem hlt⟩
        obtain ⟨b, o, rfl, hb, hcs⟩ := HR.out (by intro h; rw [h] at hlt; simp at hlt)
        have k0 : (0 : Int) ≤ (k : Int) := by omega
        have k1 : (k : Int) < (l.length : Int) := by omega
        have k2 : (k : Int) < 100 := by omega
        have g1 : decide ((k : Int) < (l.length : Int)) = true := decide_eq_true k1
        have g2 : decide ((k : Int) < 100) = true := decide_eq_true k2
        have cc := fun j u hu => (hbr.cell (p := ⟨b, o + k * 2 + j, none⟩) hb).trans (hcs k x hx j u hu)
        have d0 := cc 0 (.int .u8 x.a) rfl
        have d1 := cc 1 (.int .u8 x.b) rfl
        rw [Nat.add_zero] at d0
        have hbw : b < wr.heap.size := by omega
        obtain ⟨o0, o1, o2, o3⟩ := HOK.out x (List.mem_of_getElem? hx)
        have HT := Lib.hid (show spCells (spsTo (spanAt l) (k + 1)) = spCells (spsTo (spanAt l) k) ++ [.int .i64 (k : Int), .int .i64 x.a, .int .i64 (x.a + x.b)] by
          rw [spsTo_succ, spCells_append]
          unfold spanAt
          rw [p2At_of hx]
          rfl)
        clear cc hcs hx
        obtain ⟨xa, xb⟩ := x
        simp only at *
        obtain ⟨gg, cap, w3, hrun, hown3, hgrow, hat, hlt3⟩ := run_append_lies (P := Tryd.prog) (wr.alloc (.cells #[.int .i64 (k : Int), .int .i64 xa, .int .i64 (xa + xb)] 32)) 24 24 w.heap.size 32 i0 _ 3 24 Tryd.underlying24 HII.out.1 HII.out.2.1 HII.out.2.2.1 HII.out.2.2.2 rfl (by omega) _ k _ (hown.alloc _) ⟨wr.heap.size, 0, none⟩ 1 1 [.int .i64 (k : Int), .int .i64 xa, .int .i64 (xa + xb)] (by rfl) (World.news_of_block (cs := #[.int .i64 (k : Int), .int .i64 xa, .int .i64 (xa + xb)]) (t := 32) (fr := (0, 0)) (Blk.heap (Blk.new wr _ _))) (by simp [Value.oneCell']) (by omega) (by unfold maxLen; omega) (by omega) (by simp; omega) (wr.heap.size + 1) (by simp)
        have HG := Lib.hid hgrow
        have HO3 := Lib.hid hown3
        clear hgrow hown3 hat hlt3
        simp [go_sem] at hrun
        go_wp2_with fail
        have hrow := fun j hj => (hown.lt j hj).1
        refine ⟨⟨k + 1, by omega, by omega, rfl, ?_, (hbr.alloc (by omega) _).grown HG.out (by simp; omega) hrow⟩, by simp [intOf]; omega⟩
        rw [HT.out]
        exact HO3.out
      · have g1 : decide ((k : Int) < (l.length : Int)) = true := decide_eq_true (by omega)
        have g2 : decide ((k : Int) < 100) = false := decide_eq_false (by omega)
        have hke : k = min l.length 100 := by omega
        go_wp2_with fail
        go_ret
        rw [hke, ← spsTo_len (spanAt l) (min l.length 100)] at hown
        obtain ⟨A2, c2, rfl, hrep⟩ := RepS.of_row (l := spsTo (spanAt l) (min l.length 100)) (by simpa [spsTo_len] using hown)
        exact ⟨A2, c2, rfl, hrep, hbr⟩
    · have g1 : decide ((k : Int) < (l.length : Int)) = false := decide_eq_false (by omega)
      have hke : k = min l.length 100 := by omega
      go_wp2_with fail
      go_ret
      rw [hke] at hown
      obtain ⟨A2, c2, rfl, hrep⟩ := RepS.of_row (l := spsTo (spanAt l) (min l.length 100)) (by simpa [spsTo_len] using hown)
      exact ⟨A2, c2, rfl, hrep, hbr⟩
end Go.Proofs.YtfgdkeomjplnnaaDoor

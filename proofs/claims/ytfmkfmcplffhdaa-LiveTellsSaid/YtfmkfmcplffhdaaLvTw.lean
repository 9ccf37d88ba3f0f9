/- ploverlaw19.rows, locals: instructions and locals out of what is drawn. No condition. -/
import Derived.Test.YtfmkfmcplffhdaaLvBa
import Derived.BigRegion
namespace Go.Proofs.Ytfmkfmcplffhdaa
set_option linter.unusedVariables false
open Go.RowKit
attribute [local irreducible] Blk
structure Rw5 where
  op : Int
  d : Int
  a : Int
  b : Int
  step : Int
def Rw5.arr (x : Rw5) : Array Value := #[.int .u8 x.op, .int .i8 x.d, .int .i8 x.a, .int .i8 x.b, .int .u8 x.step]
def RepRw (w : World) (A : Option Addr) (l : List Rw5) : Prop :=
  l ≠ [] → ∃ b o, A = some ⟨b, o, none⟩ ∧ b < w.heap.size ∧ ∀ k x, l[k]? = some x → ∀ j u, x.arr[j]? = some u → w.cell? ⟨b, o + k * 5 + j, none⟩ = some u
theorem RepRw.far {w w' : World} {A : Option Addr} {l : List Rw5} (h : RepRw w A l) (hb : Below w.heap.size w w') : RepRw w' A l := fun hne => by
  obtain ⟨b, o, hA, hl, hall⟩ := h hne
  exact ⟨b, o, hA, Nat.lt_of_lt_of_le hl hb.size, fun k x hx j u hu => (hb.cell (p := ⟨b, _, none⟩) hl).trans (hall k x hx j u hu)⟩
def OkRw (x : Rw5) : Prop := 0 ≤ x.op ∧ x.op ≤ 255 ∧ -128 ≤ x.d ∧ x.d ≤ 127 ∧ -128 ≤ x.a ∧ x.a ≤ 127 ∧ -128 ≤ x.b ∧ x.b ≤ 127 ∧ 0 ≤ x.step ∧ x.step ≤ 255
def rowI (x : Rw5) : I9 := ⟨x.op % 25 - 1, 0, 0, x.d.tmod 40 - 2, x.a.tmod 40 - 2, x.b.tmod 40 - 2, 0, 0, x.step % 30⟩
def rowsL (l : List Rw5) : List I9 := (l.take 100).map rowI
theorem tmod_bd (d : Int) : -39 ≤ d.tmod 40 ∧ d.tmod 40 ≤ 39 := by
  have h1 := Int.lt_tmod_of_pos d (show (0 : Int) < 40 by decide)
  have h2 := Int.tmod_lt_of_pos d (show (0 : Int) < 40 by decide)
  omega
def InsP (w : World) (l : List I9) (e : Ending) (w' : World) : Prop := ∃ v, e = .returned v ∧ w'.ownsRow w.heap.size 33 9 v l.length (insCells l) ∧ Below w.heap.size w w'
theorem insCells_append (a b : List I9) : insCells (a ++ b) = insCells a ++ insCells b := by simp [insCells]
set_option maxRecDepth 100000 in
set_option maxHeartbeats 3200000 in
theorem rows_any (w : World) (A : Option Addr) (l : List Rw5) (c : Nat) (hr : RepRw w A l) (hok : ∀ x ∈ l, OkRw x) (hll : l.length ≤ 9223372036854775807) :
    Calls Try.prog 8 #[.slice A l.length c] w (InsP w (rowsL l)) := by
  have HR := Lib.hid hr
  have HOK := Lib.hid hok
  have HM := Lib.hid tmod_bd
  clear hr hok
  obtain ⟨i0, hi0, hz0, hz1, hz2⟩ := info_parts infoIns
  have HII := Lib.hid (⟨hi0, hz0, hz1, hz2⟩ : _ ∧ _ ∧ _ ∧ _)
  clear hi0 hz0 hz1 hz2
  go_enter Try.func8, Try.ntmps8
  go_wp2_with fail
  go_loopw [3, 4] (fun o ix wr => ∃ k : Nat, k ≤ l.length ∧ k ≤ 100 ∧ ix = .int .i64 (k : Int) ∧ wr.ownsRow w.heap.size 33 9 o k (insCells ((l.take k).map rowI)) ∧ Below w.heap.size w wr) (fun _ ix _ => 100 - (intOf ix).toNat)
  case atStart => exact ⟨0, Nat.zero_le _, Nat.zero_le _, rfl, World.ownsRow_nil _ _ _ _, Below.refl _ _⟩
  case round =>
    obtain ⟨k, hk, hk2, rfl, hown, hbr⟩ := hrel
    have hbs := hbr.size
    by_cases hlt : k < l.length
    · by_cases hlt2 : k < 100
      · obtain ⟨x, hx⟩ : ∃ x, l[k]? = some x := ⟨l[k], List.getElem?_eq_getElem hlt⟩
        obtain ⟨b, o, rfl, hb, hcs⟩ := HR.out (by intro h; rw [h] at hlt; simp at hlt)
        have k0 : (0 : Int) ≤ (k : Int) := by omega
        have k1 : (k : Int) < (l.length : Int) := by omega
        have k2 : (k : Int) < 100 := by omega
        have g1 : decide ((k : Int) < (l.length : Int)) = true := decide_eq_true k1
        have g2 : decide ((k : Int) < 100) = true := decide_eq_true k2
        have cc := fun j u hu => (hbr.cell (p := ⟨b, o + k * 5 + j, none⟩) hb).trans (hcs k x hx j u hu)
        have d0 := cc 0 (.int .u8 x.op) rfl
        have d1 := cc 1 (.int .i8 x.d) rfl
        have d2 := cc 2 (.int .i8 x.a) rfl
        have d3 := cc 3 (.int .i8 x.b) rfl
        have d4 := cc 4 (.int .u8 x.step) rfl
        rw [Nat.add_zero] at d0
        obtain ⟨o0, o1, o2, o3, o4, o5, o6, o7, o8, o9⟩ := HOK.out x (List.mem_of_getElem? hx)
        have m1 := HM.out x.d
        have m2 := HM.out x.a
        have m3 := HM.out x.b
        have HT := Lib.hid (show insCells ((l.take (k + 1)).map rowI) = insCells ((l.take k).map rowI) ++ (rowI x).arr.toList by
          rw [take_snoc' hx, List.map_append, insCells_append]; simp [insCells])
        clear cc hcs hx
        obtain ⟨op, d, a, bb, st⟩ := x
        simp only at *
        have HR1 := Lib.hid (show (rowI ⟨op, d, a, bb, st⟩).arr.toList = [.int .i64 (op % 25 - 1), .int .i64 0, .int .i64 0, .int .i64 (d.tmod 40 - 2), .int .i64 (a.tmod 40 - 2), .int .i64 (bb.tmod 40 - 2), .int .i64 0, .int .i64 0, .int .i64 (st % 30)] from rfl)
        go_wp2_with (at_builtin; refine wpList_append_own _ rfl (.tmp 20) (.tmp 46) _ rfl w.heap.size 33 i0 _ 9 72 Try.underlying25 HII.out.1 HII.out.2.1 HII.out.2.2.1 HII.out.2.2.2 rfl (by omega) _ _ _ rfl ((hown.alloc _).alloc _) ⟨wr.heap.size + 1, 0, none⟩ 1 1 [.int .i64 (op % 25 - 1), .int .i64 0, .int .i64 0, .int .i64 (d.tmod 40 - 2), .int .i64 (a.tmod 40 - 2), .int .i64 (bb.tmod 40 - 2), .int .i64 0, .int .i64 0, .int .i64 (st % 30)] rfl rfl (World.news_of_block (cs := #[.int .i64 (op % 25 - 1), .int .i64 0, .int .i64 0, .int .i64 (d.tmod 40 - 2), .int .i64 (a.tmod 40 - 2), .int .i64 (bb.tmod 40 - 2), .int .i64 0, .int .i64 0, .int .i64 (st % 30)]) (t := 33) (fr := (0, 0)) (Blk.heap (Blk.newAt (by simp)))) (by simp [Value.oneCell']) (by unfold maxLen; omega) (by omega) (by simp; omega) ?_; intro v3 w3 hown3 hgrow hnil3; clear hnil3)
        have hrow := fun j hj => (hown.lt j hj).1
        refine ⟨⟨k + 1, by omega, by omega, rfl, ?_, ((hbr.alloc (by omega) _).alloc (by simp; omega) _).grown hgrow (by simp; omega) hrow⟩, by simp [intOf]; omega⟩
        rw [HT.out, HR1.out]
        exact hown3
      · have g1 : decide ((k : Int) < (l.length : Int)) = true := decide_eq_true (by omega)
        have g2 : decide ((k : Int) < 100) = false := decide_eq_false (by omega)
        have hke : k = 100 := by omega
        subst hke
        go_wp2_with fail
        go_ret
        refine ⟨_, rfl, ?_, hbr⟩
        unfold rowsL
        rw [List.length_map, List.length_take, Nat.min_eq_left hk]
        exact hown
    · have g1 : decide ((k : Int) < (l.length : Int)) = false := decide_eq_false (by omega)
      have hke : l.take k = l.take 100 := by rw [List.take_of_length_le (by omega), List.take_of_length_le (by omega)]
      have hkl : k = l.length := by omega
      rw [hke] at hown
      have HKL := Lib.hid hkl
      clear hke hkl
      go_wp2_with fail
      go_ret
      refine ⟨_, rfl, ?_, hbr⟩
      unfold rowsL
      rw [List.length_map, List.length_take, Nat.min_eq_right (by omega), ← HKL.out]
      exact hown
structure P2 where
  a : Int
  b : Int
def P2.arr (x : P2) : Array Value := #[.int .u8 x.a, .int .u8 x.b]
def RepP2 (w : World) (A : Option Addr) (l : List P2) : Prop :=
  l ≠ [] → ∃ b o, A = some ⟨b, o, none⟩ ∧ b < w.heap.size ∧ ∀ k x, l[k]? = some x → ∀ j u, x.arr[j]? = some u → w.cell? ⟨b, o + k * 2 + j, none⟩ = some u
theorem RepP2.far {w w' : World} {A : Option Addr} {l : List P2} (h : RepP2 w A l) (hb : Below w.heap.size w w') : RepP2 w' A l := fun hne => by
  obtain ⟨b, o, hA, hl, hall⟩ := h hne
  exact ⟨b, o, hA, Nat.lt_of_lt_of_le hl hb.size, fun k x hx j u hu => (hb.cell (p := ⟨b, _, none⟩) hl).trans (hall k x hx j u hu)⟩
def OkP2 (x : P2) : Prop := 0 ≤ x.a ∧ x.a ≤ 255 ∧ 0 ≤ x.b ∧ x.b ≤ 255
def locI (x : P2) : Lo4 := ⟨⟨#[]⟩, 0, x.a % 32, x.b % 32⟩
def locsL (l : List P2) : List Lo4 := (l.take 12).map locI
def LocP (w : World) (l : List Lo4) (e : Ending) (w' : World) : Prop := ∃ v, e = .returned v ∧ w'.ownsRow w.heap.size 57 4 v l.length (loCells l) ∧ Below w.heap.size w w'
theorem loCells_append (a b : List Lo4) : loCells (a ++ b) = loCells a ++ loCells b := by simp [loCells]
set_option maxRecDepth 100000 in
set_option maxHeartbeats 3200000 in
theorem locals_law (w : World) (A : Option Addr) (l : List P2) (c : Nat) (hr : RepP2 w A l) (hok : ∀ x ∈ l, OkP2 x) (hll : l.length ≤ 9223372036854775807) :
    Calls Try.prog 9 #[.slice A l.length c] w (LocP w (locsL l)) := by
  have HR := Lib.hid hr
  have HOK := Lib.hid hok
  clear hr hok
  obtain ⟨i0, hi0, hz0, hz1, hz2⟩ := info_parts infoLoc
  have HII := Lib.hid (⟨hi0, hz0, hz1, hz2⟩ : _ ∧ _ ∧ _ ∧ _)
  clear hi0 hz0 hz1 hz2
  go_enter Try.func9, Try.ntmps9
  go_wp2_with fail
  go_loopw [3, 4] (fun o ix wr => ∃ k : Nat, k ≤ l.length ∧ k ≤ 12 ∧ ix = .int .i64 (k : Int) ∧ wr.ownsRow w.heap.size 57 4 o k (loCells ((l.take k).map locI)) ∧ Below w.heap.size w wr) (fun _ ix _ => 12 - (intOf ix).toNat)
  case atStart => exact ⟨0, Nat.zero_le _, Nat.zero_le _, rfl, World.ownsRow_nil _ _ _ _, Below.refl _ _⟩
  case round =>
    obtain ⟨k, hk, hk2, rfl, hown, hbr⟩ := hrel
    have hbs := hbr.size
    by_cases hlt : k < l.length
    · by_cases hlt2 : k < 12
      · obtain ⟨x, hx⟩ : ∃ x, l[k]? = some x := ⟨l[k], List.getElem?_eq_getElem hlt⟩
        obtain ⟨b, o, rfl, hb, hcs⟩ := HR.out (by intro h; rw [h] at hlt; simp at hlt)
        have k0 : (0 : Int) ≤ (k : Int) := by omega
        have k1 : (k : Int) < (l.length : Int) := by omega
        have k2 : (k : Int) < 12 := by omega
        have g1 : decide ((k : Int) < (l.length : Int)) = true := decide_eq_true k1
        have g2 : decide ((k : Int) < 12) = true := decide_eq_true k2
        have cc := fun j u hu => (hbr.cell (p := ⟨b, o + k * 2 + j, none⟩) hb).trans (hcs k x hx j u hu)
        have d0 := cc 0 (.int .u8 x.a) rfl
        have d1 := cc 1 (.int .u8 x.b) rfl
        rw [Nat.add_zero] at d0
        have hbw : b < wr.heap.size := by omega
        obtain ⟨o0, o1, o2, o3⟩ := HOK.out x (List.mem_of_getElem? hx)
        have HT := Lib.hid (show loCells ((l.take (k + 1)).map locI) = loCells ((l.take k).map locI) ++ (locI x).arr.toList by
          rw [take_snoc' hx, List.map_append, loCells_append]; simp [loCells])
        clear cc hcs hx
        obtain ⟨xa, xb⟩ := x
        simp only at *
        have HR1 := Lib.hid (show (locI ⟨xa, xb⟩).arr.toList = [.string ⟨#[]⟩, .int .i64 0, .int .i64 (xa % 32), .int .i64 (xb % 32)] from rfl)
        obtain ⟨gg, cap, w3, hrun, hown3, hgrow, hat, hlt3⟩ := run_append_lies (P := Try.prog) ((wr.alloc (.cells #[.string ⟨#[]⟩, .int .i64 0, .int .i64 (xa % 32), .int .i64 (xb % 32)] 57)).drew) 27 27 w.heap.size 57 i0 _ 4 40 Try.underlying27 HII.out.1 HII.out.2.1 HII.out.2.2.1 HII.out.2.2.2 rfl (by omega) _ k _ (hown.alloc _) ⟨wr.heap.size, 0, none⟩ 1 1 [.string ⟨#[]⟩, .int .i64 0, .int .i64 (xa % 32), .int .i64 (xb % 32)] (by rfl) (World.news_of_block (cs := #[.string ⟨#[]⟩, .int .i64 0, .int .i64 (xa % 32), .int .i64 (xb % 32)]) (t := 57) (fr := (0, 0)) (Blk.heap (Blk.drew (Blk.new wr _ _)))) (by simp [Value.oneCell']) (by omega) (by unfold maxLen; omega) (by omega) (by simp; omega) (wr.heap.size + 1) (by simp)
        have HG := Lib.hid hgrow
        have HO3 := Lib.hid hown3
        clear hgrow hown3 hat hlt3
        simp [go_sem] at hrun
        go_wp2_with fail
        go_big_region
        clear hrun
        go_wp2_with fail
        have hrow := fun j hj => (hown.lt j hj).1
        refine ⟨⟨k + 1, by omega, by omega, rfl, ?_, ((hbr.alloc (by omega) _).drew).grown HG.out (by simp; omega) hrow⟩, by simp [intOf]; omega⟩
        rw [HT.out, HR1.out]
        exact HO3.out
      · have g1 : decide ((k : Int) < (l.length : Int)) = true := decide_eq_true (by omega)
        have g2 : decide ((k : Int) < 12) = false := decide_eq_false (by omega)
        have hke : k = 12 := by omega
        subst hke
        go_wp2_with fail
        go_ret
        refine ⟨_, rfl, ?_, hbr⟩
        unfold locsL
        rw [List.length_map, List.length_take, Nat.min_eq_left hk]
        exact hown
    · have g1 : decide ((k : Int) < (l.length : Int)) = false := decide_eq_false (by omega)
      have hke : l.take k = l.take 12 := by rw [List.take_of_length_le (by omega), List.take_of_length_le (by omega)]
      have hkl : k = l.length := by omega
      rw [hke] at hown
      have HKL := Lib.hid hkl
      clear hke hkl
      go_wp2_with fail
      go_ret
      refine ⟨_, rfl, ?_, hbr⟩
      unfold locsL
      rw [List.length_map, List.length_take, Nat.min_eq_right (by omega), ← HKL.out]
      exact hown
end Go.Proofs.Ytfmkfmcplffhdaa

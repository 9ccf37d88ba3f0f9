/- homes of the law's package: some homes, twenty at most. No condition. -/
import Derived.Test.YthkiajbgdamjgaaDoorCodA
namespace Go.Proofs.YthkiajbgdamjgaaDoor
set_option linter.unusedVariables false
open Go.RowKit
attribute [local irreducible] Blk

def hvCells (l : List HV) : List Value := l.flatMap fun h => [.bool h.isSlot, .int .i64 h.n]
theorem hvCells_append (l m : List HV) : hvCells (l ++ m) = hvCells l ++ hvCells m := by simp [hvCells]
theorem hvCells_length (l : List HV) : (hvCells l).length = l.length * 2 := by
  induction l with
  | nil => rfl
  | cons x t ih => simp only [hvCells, List.flatMap_cons, List.length_append, List.length_cons] at *; rw [ih]; simp; omega
theorem hvCells_get : ∀ (l : List HV) (k : Nat) (x : HV), l[k]? = some x → (hvCells l)[k * 2]? = some (.bool x.isSlot) ∧ (hvCells l)[k * 2 + 1]? = some (.int .i64 x.n)
  | [], k, x, h => by simp at h
  | y :: r, 0, x, h => by
    simp at h
    subst h
    exact ⟨rfl, rfl⟩
  | y :: r, k + 1, x, h => by
    have ih := hvCells_get r k x (by simpa using h)
    have e : ∀ j, (hvCells (y :: r))[(k + 1) * 2 + j]? = (hvCells r)[k * 2 + j]? := fun j => by
      simp only [hvCells, List.flatMap_cons]
      rw [List.getElem?_append_right (by simp; omega)]
      congr 1
      simp
      omega
    exact ⟨(e 0).trans ih.1, (e 1).trans ih.2⟩
theorem RepH.of_own {w : World} {base : Nat} {v : Value} {hs : List HV} (h : w.ownsRow base 36 2 v hs.length (hvCells hs)) : ∃ A c, v = .slice A hs.length c ∧ RepH w w.heap.size A hs := by
  have hlt := h.lt
  have hc := fun g (hg : v.ownBlock = some g) => h.cells hg
  rcases h.2 with ⟨rfl, h0⟩ | ⟨g, cap, cur, rfl, _⟩
  · exact ⟨none, 0, by rw [h0], fun hne => absurd (List.length_eq_zero_iff.1 h0) hne⟩
  · refine ⟨_, cap, rfl, fun _ => ⟨g, 0, rfl, (hlt g rfl).2, fun k x hx => ?_⟩⟩
    have e := hvCells_get hs k x hx
    have c0 := hc g rfl (k * 2) _ e.1
    have c1 := hc g rfl (k * 2 + 1) _ e.2
    rw [addr_add] at c0 c1
    exact ⟨c0, c1⟩
/-- A slice of drafts. -/
def DrH (w : World) (A : Option Addr) (l : List (Bool × Int)) : Prop :=
  l ≠ [] → ∃ b o, A = some ⟨b, o, none⟩ ∧ b < w.heap.size ∧ ∀ k x, l[k]? = some x → w.cell? ⟨b, o + k * 2, none⟩ = some (.bool x.1) ∧ w.cell? ⟨b, o + k * 2 + 1, none⟩ = some (.int .u8 x.2) ∧ 0 ≤ x.2 ∧ x.2 ≤ 255
theorem infoHome : (Tryd.prog.info? 36).map (fun i => (i.zero, i.size, i.bytes)) = some (some (.agg #[.bool false, .int .i64 0]), 2, 16) := by kernel_rfl

set_option maxRecDepth 100000 in
set_option maxHeartbeats 6400000 in
theorem homes_any (w : World) (A : Option Addr) (l : List (Bool × Int)) (c : Nat) (hd : DrH w A l) (hl : l.length ≤ 9223372036854775807) :
    Calls Tryd.prog 7 #[.slice A l.length c] w fun e w' => ∃ (v : Value) (hs : List HV), e = .returned v ∧ hs.length ≤ 20 ∧ w'.ownsRow w.heap.size 36 2 v hs.length (hvCells hs) ∧ Below w.heap.size w w' := by
  obtain ⟨i0, hi0, hz0, hz1, hz2⟩ := info_parts infoHome
  have HI := Lib.hid (⟨hi0, hz0, hz1, hz2⟩ : _ ∧ _ ∧ _ ∧ _)
  clear hi0 hz0 hz1 hz2
  have HD := Lib.hid hd
  clear hd
  go_enter Tryd.func7, Tryd.ntmps7
  go_wp2_with fail
  go_loopw [3, 4] (fun v i wr => ∃ (k : Nat) (hs : List HV), k ≤ l.length ∧ k ≤ 20 ∧ hs.length = k ∧ i = .int .i64 k ∧ wr.ownsRow w.heap.size 36 2 v k (hvCells hs) ∧ Below w.heap.size w wr) (fun _ i _ => 20 - (intOf i).toNat)
  case atStart => exact ⟨0, [], Nat.zero_le _, by omega, rfl, rfl, World.ownsRow_nil _ _ _ _, Below.refl _ _⟩
  case round =>
    obtain ⟨k, hs, hk, hk20, hhs, rfl, hown, hbr⟩ := hrel
    have hbs := hbr.size
    have HHS := Lib.hid hhs
    clear hhs
    by_cases hlt : k < l.length
    · by_cases h20 : k < 20
      · obtain ⟨x, hx⟩ : ∃ x, l[k]? = some x := ⟨l[k], List.getElem?_eq_getElem hlt⟩
        obtain ⟨b, o, rfl, hbl, hall⟩ := HD.out (by intro h; rw [h] at hlt; simp at hlt)
        obtain ⟨x0, x1, x2, x3⟩ := hall k x hx
        have y0 : wr.cell? ⟨b, o + k * 2, none⟩ = some (.bool x.1) := (hbr.cell (p := ⟨b, _, none⟩) hbl).trans x0
        have y1 : wr.cell? ⟨b, o + k * 2 + 1, none⟩ = some (.int .u8 x.2) := (hbr.cell (p := ⟨b, _, none⟩) hbl).trans x1
        clear hall hx x0 x1
        obtain ⟨s, n⟩ := x
        simp only at y0 y1 x2 x3
        have hi0 : (0 : Int) ≤ (k : Int) := by omega
        have hi1 : (k : Int) < (l.length : Int) := by omega
        have hbl2 : b < wr.heap.size := by omega
        cases s
        · go_wp2_with fail
          go_region_held3 (fun w' => w'.cell? ⟨b, o + k * 2, none⟩ = some (.bool false) ∧ w'.cell? ⟨b, o + k * 2 + 1, none⟩ = some (.int .u8 n))
            (first
              | (go_keep; done))
            (fail)
          all_goals
            go_wp2_with (at_builtin; refine wpList_append_lies _ rfl (.tmp 36) (.tmp 38) _ rfl w.heap.size 36 i0 _ 2 16 Tryd.underlying25 HI.out.1 HI.out.2.1 HI.out.2.2.1 HI.out.2.2.2 rfl (by omega) _ k _ rfl (((hown.alloc _).alloc _).drew) ⟨wr.heap.size + 1, 0, none⟩ 1 1 [.bool false, .int .i64 (n % 200 % 6)] rfl rfl (World.news_of_block (cs := #[.bool false, .int .i64 (n % 200 % 6)]) (t := 36) (fr := (0, 0)) (heap_alloc2_new wr _ _)) (by simp [Value.oneCell']) (by omega) (by unfold maxLen; omega) (by omega) (by simp; omega) (wr.heap.size + 2) (by simp) ?_; intro gg cap w3 hown3 hgrow hat hlt3; clear hat hlt3)
            go_roundw
            case rel =>
              have hlow := fun j hj => (hown.lt j hj).1
              refine ⟨k + 1, hs ++ [⟨false, n % 200 % 6⟩], by omega, by omega, by rw [List.length_append, HHS.out]; rfl, by go_num, ?_, (((hbr.alloc hbs _).alloc (by simp; omega) _).drew).grown hgrow (by simp; omega) hlow⟩
              rw [hvCells_append]
              exact hown3
            case measure => simp [intOf]; omega
        · go_wp2_with fail
          go_region_held3 (fun w' => w'.cell? ⟨b, o + k * 2, none⟩ = some (.bool true) ∧ w'.cell? ⟨b, o + k * 2 + 1, none⟩ = some (.int .u8 n))
            (first
              | (go_keep; done))
            (fail)
          all_goals
            go_wp2_with (at_builtin; refine wpList_append_lies _ rfl (.tmp 36) (.tmp 38) _ rfl w.heap.size 36 i0 _ 2 16 Tryd.underlying25 HI.out.1 HI.out.2.1 HI.out.2.2.1 HI.out.2.2.2 rfl (by omega) _ k _ rfl (((hown.alloc _).alloc _).drew) ⟨wr.heap.size + 1, 0, none⟩ 1 1 [.bool true, .int .i64 (n % 200)] rfl rfl (World.news_of_block (cs := #[.bool true, .int .i64 (n % 200)]) (t := 36) (fr := (0, 0)) (heap_alloc2_new wr _ _)) (by simp [Value.oneCell']) (by omega) (by unfold maxLen; omega) (by omega) (by simp; omega) (wr.heap.size + 2) (by simp) ?_; intro gg cap w3 hown3 hgrow hat hlt3; clear hat hlt3)
            go_roundw
            case rel =>
              have hlow := fun j hj => (hown.lt j hj).1
              refine ⟨k + 1, hs ++ [⟨true, n % 200⟩], by omega, by omega, by rw [List.length_append, HHS.out]; rfl, by go_num, ?_, (((hbr.alloc hbs _).alloc (by simp; omega) _).drew).grown hgrow (by simp; omega) hlow⟩
              rw [hvCells_append]
              exact hown3
            case measure => simp [intOf]; omega
      · have h20' : k = 20 := by omega
        subst h20'
        go_wp2_with fail
        go_ret
        exact ⟨_, hs, rfl, by have := HHS.out; omega, by rw [HHS.out]; exact hown, hbr⟩
    · have h20' : k = l.length := by omega
      go_wp2_with fail
      go_ret
      exact ⟨_, hs, rfl, by have := HHS.out; omega, by rw [HHS.out]; exact hown, hbr⟩
end Go.Proofs.YthkiajbgdamjgaaDoor

/- The method back of package lower: the value that is returned, or 0. -/
import Derived.Test.YtekciedoldiieaaLowStep4
namespace Go.Proofs.Ytekciedoldiieaa
open Go.RowKit

theorem infoExpr : (Try.prog.info? 25).map (fun i => (i.zero, i.size, i.bytes)) = some (some (.agg #[.int .i64 0, .int .i64 0, .string ByteArray.empty, .string ByteArray.empty, .int .i64 0, .int .i64 0, .int .i64 0, .slice none 0 0]), 8, 96) := by kernel_rfl

def backE (es : List EV) : EV := match es with | [] => .leaf 0 0 0 0 | x :: _ => x
def backL (st : SV) (r s : Int) : List I9 × Int :=
  (((backE st.es).lower s r).1 ++ [⟨14, 0, 0, 0, ((backE st.es).lower s r).2.1, 0, 0, 0, s⟩], ((backE st.es).lower s r).2.2)

set_option maxRecDepth 100000 in
set_option maxHeartbeats 6400000 in
theorem back_none (w : World) (g base : Nat) (av : Value) (r s : Int) (l : List I9) (op line var addr count ty func reg next els : Int) (A : Option Addr) (c : Nat)
    (hl : Low w g base av r s l) (hn : l.length + 2 < 1000000000000) (hr0 : 0 ≤ r) (hr1 : r + 1 < 1000000000000000) :
    Calls Try.prog 20 #[.pointer (some ⟨g, 0, none⟩), .agg (SV.cells ⟨op, line, var, addr, count, ty, [], func, reg, next, els⟩ A c)] w fun e w' =>
    e = .returned (.tuple #[]) ∧ ∃ av', Low w' g base av' (r + 1) s (l ++ [⟨1, 0, 0, r, 0, 0, 0, 0, s⟩, ⟨14, 0, 0, 0, r, 0, 0, 0, s⟩]) ∧ LS w w' g av av' := by
  have hval := value_any (.leaf 0 0 0 0) (.inl rfl)
  have HV := Lib.hid hval
  clear hval
  have hglt := hl.blk.lt
  have hbase := hl.low
  obtain ⟨i0, hi0, hz0, hz1, hz2⟩ := info_parts infoExpr
  have hsl := fun W => run_slice3 (P := Try.prog) 23 25 Try.underlying23 i0 hi0 A 0 c 0 0 (Nat.le_refl _) (Nat.zero_le _) .i64 .i64 W
  simp only [Int.natCast_zero, Int.ofNat_zero] at hsl
  unfold SV.cells
  go_enter Try.func20, Try.ntmps20
  go_wp2_with (at_builtin; refine wpList_append_grows _ rfl (.tmp 13) (.tmp 15) 23 rfl 25 i0 _ 8 96 Try.underlying23 hi0 hz0 hz1 hz2 rfl (by decide) A 0 0 [] rfl (fun _ => ⟨rfl, rfl⟩) rfl (by intro _ _ j u h; simp at h) ⟨w.heap.size + 1, 0, none⟩ 1 1 [.int .i64 0, .int .i64 0, .string ByteArray.empty, .string ByteArray.empty, .int .i64 0, .int .i64 0, .int .i64 0, .slice none 0 0] rfl rfl ?c1 ?c2 (by omega) (by unfold maxLen; omega) (by omega) ?grow)
  case c1 => exact World.news_of_block (cs := #[.int .i64 0, .int .i64 0, .string ByteArray.empty, .string ByteArray.empty, .int .i64 0, .int .i64 0, .int .i64 0, .slice none 0 0]) (t := 25) (fr := (0, 0)) (heap_alloc2_new w _ _)
  case c2 => simp [Value.oneCell']
  case grow =>
    intro v' w1 hown hgrow
    obtain ⟨gg, cap, rfl, hgg, hlt⟩ := hown.form (by omega)
    have hcl := hown.cells (g := gg) rfl
    try simp only [List.nil_append, Nat.zero_add] at hcl
    have d0 := hcl 0 _ rfl
    have d1 := hcl 1 _ rfl
    have d2 := hcl 2 _ rfl
    have d3 := hcl 3 _ rfl
    have d4 := hcl 4 _ rfl
    have d5 := hcl 5 _ rfl
    have d6 := hcl 6 _ rfl
    have d7 := hcl 7 _ rfl
    simp [Addr.add] at d0 d1 d2 d3 d4 d5 d6 d7
    clear hcl
    have hK := (((Keep.refl w (fun _ => False)).alloc _).alloc _).grown hgrow (fun _ h => by cases h)
    have hlA := hl.keep hK (fun h => h) (fun _ _ h => h)
    have hS1 : LS w w1 g av av := ⟨hK.mono (fun _ _ h => h.elim), Fresh.refl w av⟩
    go_wp2_with fail
    refine (HV.out w1 g base av r s l [.int .i64 0, .int .i64 0, .string ByteArray.empty, .string ByteArray.empty, .int .i64 0, .int .i64 0, .int .i64 0, .slice none 0 0] hlA ⟨0, ByteArray.empty, ByteArray.empty, none, 0, rfl⟩ (by simp [EV.size]; omega) hr0 (by simp [EV.size]; omega)).mono ?_
    rintro e w2 ⟨rfl, av2, hl2, hs2⟩
    have hS2 := hS1.trans hs2
    go_wp2_with fail
    refine (add_one _ g w2.heap.size base av2 _ s _ _ _ _ _ _ _ _ _ _ _ (hl2.alloc _) (Blk.newAt rfl) (by simp [EV.lower]; omega)).mono ?_
    rintro e w3 ⟨rfl, av3, hl3, hs3⟩
    go_wp2_with fail
    go_end0
    exact ⟨rfl, av3, by simpa [EV.lower] using hl3, (hS2.alloc _).trans hs3⟩

set_option maxRecDepth 100000 in
set_option maxHeartbeats 6400000 in
theorem back_one (w : World) (g base : Nat) (av : Value) (r s : Int) (l : List I9) (op line var addr count ty func reg next els : Int) (x : EV) (A : Option Addr) (c : Nat)
    (hl : Low w g base av r s l) (hes : RepEs w base A [x]) (hok : x.ok) (hcap : 1 ≤ c) (hn : l.length + x.size + 1 < 1000000000000) (hr0 : 0 ≤ r) (hr1 : r + x.size < 1000000000000000) :
    Calls Try.prog 20 #[.pointer (some ⟨g, 0, none⟩), .agg (SV.cells ⟨op, line, var, addr, count, ty, [x], func, reg, next, els⟩ A c)] w fun e w' =>
    e = .returned (.tuple #[]) ∧ ∃ av', Low w' g base av' (x.lower s r).2.2 s (l ++ ((x.lower s r).1 ++ [⟨14, 0, 0, 0, (x.lower s r).2.1, 0, 0, 0, s⟩])) ∧ LS w w' g av av' := by
  have hval := value_any x hok
  have HV := Lib.hid hval
  clear hval
  obtain ⟨b, o, rfl, hb, hall⟩ := hes (by simp)
  obtain ⟨cs, hr, hc⟩ := hall 0 x rfl
  clear hall hes
  obtain ⟨xop, xat, xnm, xfd, xn, xref, xA, xk, xc, rfl⟩ := hr.form
  have hglt := hl.blk.lt
  have hbase := hl.low
  have hblt : b < w.heap.size := by omega
  simp only [Nat.mul_zero, Nat.add_zero] at hc
  have HC := Lib.hid hc
  clear hc
  have hp := EV.lower_len s x r
  obtain ⟨i0, hi0, hz0, hz1, hz2⟩ := info_parts infoExpr
  have hsl := fun W => run_slice3 (P := Try.prog) 23 25 Try.underlying23 i0 hi0 (some ⟨b, o, none⟩) 1 c 1 1 (Nat.le_refl _) hcap .i64 .i64 W
  simp only [Int.natCast_one, Int.ofNat_one] at hsl
  unfold SV.cells
  go_enter Try.func20, Try.ntmps20
  go_wp2_with (at_builtin; refine wpList_append_grows _ rfl (.tmp 13) (.tmp 15) 23 rfl 25 i0 _ 8 96 Try.underlying23 hi0 hz0 hz1 hz2 rfl (by decide) (some ⟨b, o, none⟩) 1 1 [.int .i64 xop, .int .i64 xat, .string xnm, .string xfd, .int .i64 xn, .int .i64 x.ty, .int .i64 xref, .slice xA xk xc] rfl (fun h => by cases h) rfl ?olds ⟨w.heap.size + 1, 0, none⟩ 1 1 [.int .i64 0, .int .i64 0, .string ByteArray.empty, .string ByteArray.empty, .int .i64 0, .int .i64 0, .int .i64 0, .slice none 0 0] rfl rfl ?c1 ?c2 (by omega) (by unfold maxLen; omega) (by omega) ?grow)
  case olds =>
    intro b' hb' j u hu
    cases hb'
    have h1 := HC.out j u hu
    rw [addr_add, World.cell?_alloc_past _ _ _ (by simp; omega), World.cell?_alloc_past _ _ _ hblt]
    exact h1
  case c1 => exact World.news_of_block (cs := #[.int .i64 0, .int .i64 0, .string ByteArray.empty, .string ByteArray.empty, .int .i64 0, .int .i64 0, .int .i64 0, .slice none 0 0]) (t := 25) (fr := (0, 0)) (heap_alloc2_new w _ _)
  case c2 => simp [Value.oneCell']
  case grow =>
    intro v' w1 hown hgrow
    obtain ⟨gg, cap, rfl, hgg, hlt⟩ := hown.form (by omega)
    have hcl := hown.cells (g := gg) rfl
    try simp only [List.cons_append, List.nil_append, Nat.reduceAdd] at hcl
    have d0 := hcl 0 _ rfl
    have d1 := hcl 1 _ rfl
    have d2 := hcl 2 _ rfl
    have d3 := hcl 3 _ rfl
    have d4 := hcl 4 _ rfl
    have d5 := hcl 5 _ rfl
    have d6 := hcl 6 _ rfl
    have d7 := hcl 7 _ rfl
    simp [Addr.add] at d0 d1 d2 d3 d4 d5 d6 d7
    clear hcl
    have hK := (((Keep.refl w (fun _ => False)).alloc _).alloc _).grown hgrow (fun _ h => by cases h)
    have hlA := hl.keep hK (fun h => h) (fun _ _ h => h)
    have hS1 : LS w w1 g av av := ⟨hK.mono (fun _ _ h => h.elim), Fresh.refl w av⟩
    have hrA := hr.kept hK hl.low (fun _ _ h => h)
    go_wp2_with fail
    refine (HV.out w1 g base av r s l _ hlA hrA (by omega) hr0 (by omega)).mono ?_
    rintro e w2 ⟨rfl, av2, hl2, hs2⟩
    have hS2 := hS1.trans hs2
    go_wp2_with fail
    refine (add_one _ g w2.heap.size base av2 _ s _ _ _ _ _ _ _ _ _ _ _ (hl2.alloc _) (Blk.newAt rfl) (by simp; omega)).mono ?_
    rintro e w3 ⟨rfl, av3, hl3, hs3⟩
    go_wp2_with fail
    go_end0
    exact ⟨rfl, av3, by simpa using hl3, (hS2.alloc _).trans hs3⟩

theorem back_any : DoesSaid 20 (fun st => st.es = [] ∨ ∃ x, st.es = [x] ∧ x.ok) (fun st => sizes st.es + 2) backL := by
  rintro w g base av r s l ⟨op, line, var, addr, count, ty, es, func, reg, next, els⟩ A c hl hes hpre hn hr0 hr1 hcap
  simp only at hpre hes hn hr1 hcap
  rcases hpre with rfl | ⟨x, rfl, hok⟩
  · simpa [backL, backE, EV.lower] using back_none w g base av r s l op line var addr count ty func reg next els A c hl (by simp [sizes] at hn; omega) hr0 (by simp [sizes] at hr1; omega)
  · exact back_one w g base av r s l op line var addr count ty func reg next els x A c hl hes hok (by simpa using hcap) (by simp [sizes] at hn; omega) hr0 (by simp [sizes] at hr1; omega)
end Go.Proofs.Ytekciedoldiieaa

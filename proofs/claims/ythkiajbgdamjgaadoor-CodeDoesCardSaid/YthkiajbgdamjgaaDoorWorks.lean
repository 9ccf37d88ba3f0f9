/- The chapter's examples: works of the law's package. Conditions: two tables of the library as they are laid. -/
import Derived.Test.YthkiajbgdamjgaaDoorTxtC
import Derived.Test.YthkiajbgdamjgaaDoorCodes
import Derived.Test.YthkiajbgdamjgaaDoorCodE
namespace Go.Proofs.YthkiajbgdamjgaaDoor
open Go.RowKit
attribute [local irreducible] Blk

theorem reads_of_own {w : World} {base : Nat} {ov : Value} {l : List C5} (h : w.ownsRow base 49 5 ov l.length (codeCells l)) : ∃ A c, ov = .slice A l.length c ∧ Reads5 w A l := by
  rcases h.2 with ⟨rfl, h0⟩ | ⟨g, cap, cur, rfl, hb, hh, hr⟩
  · exact ⟨none, 0, by rw [h0], fun hne => absurd (List.length_eq_zero_iff.1 h0) hne⟩
  · exact ⟨_, cap, rfl, Reads5.of_own h⟩
/-- Select, whose answer is read. -/
theorem select_r (w : World) (i : I9) (A : Option Addr) (hs : List HV) (hc : Nat) (bs : Int) (l : List C5) (hl : selL i hs bs = l) (hh : RepH w w.heap.size A hs) (hm : hs.length < 1000000000000000000) :
    Calls Tryd.prog 9 #[.agg #[.int .i64 i.op, .int .i64 i.op2, .int .i64 i.ty, .int .i64 i.d, .int .i64 i.a, .int .i64 i.b, .int .i64 i.n, .int .i64 i.count, .int .i64 i.step], .slice A hs.length hc, .int .i64 bs] w fun e w' =>
      ∃ A' c, e = .returned (.slice A' l.length c) ∧ Reads5 w' A' l ∧ Below w.heap.size w w' := by
  refine (select_any w i A hs hc bs hh hm).mono fun e w' h => ?_
  obtain ⟨ov, rfl, ho, hb⟩ := h
  rw [hl] at ho
  obtain ⟨A', c, rfl, hr⟩ := reads_of_own ho
  exact ⟨A', c, rfl, hr, hb⟩
theorem RepH.of_blk {w : World} {g : Nat} {cs : Array Value} {hs : List HV} (h : Blk w g 36 cs) (hcs : ∀ k x, hs[k]? = some x → cs[k * 2]? = some (.bool x.isSlot) ∧ cs[k * 2 + 1]? = some (.int .i64 x.n)) : RepH w w.heap.size (some ⟨g, 0, none⟩) hs := fun _ =>
  ⟨g, 0, rfl, h.lt, fun k x hx => ⟨by rw [Nat.zero_add, h.cell, (hcs k x hx).1], by rw [Nat.zero_add, h.cell, (hcs k x hx).2]⟩⟩
theorem Reads5.far {w w' : World} {A : Option Addr} {l : List C5} (h : Reads5 w A l) (hb : Below w.heap.size w w') : Reads5 w' A l := h.below hb (Nat.le_refl _)
theorem Reads5.drewN {w : World} {A : Option Addr} {l : List C5} (h : Reads5 w A l) (n : Nat) : Reads5 (w.drewN n) A l := h
theorem below_drewN (w : World) (n : Nat) : Below w.heap.size w (w.drewN n) := ⟨rfl, rfl, rfl, Nat.le_refl _, fun _ _ => rfl⟩
theorem codes_same (w : World) (A B : Option Addr) (l : List C5) (ca cb : Nat) (ha : Reads5 w A l) (hb : Reads5 w B l) (hl : l.length < 1000000000000) :
    Calls Tryd.prog 8 #[.slice A l.length ca, .slice B l.length cb] w fun e w' => e = .returned (.bool true) ∧ Below w.heap.size w w' := by
  refine (codes_any w A B l l ca cb ha hb hl hl).mono fun e w' h => ?_
  obtain ⟨rfl, n, rfl⟩ := h
  exact ⟨by simp, below_drewN _ _⟩
def hs3 : List HV := [⟨false, 0⟩, ⟨true, 2⟩, ⟨false, 3⟩]
theorem text_ldi : textL ⟨2, 1, 0, 0, -7⟩ = [76, 68, 73, 32, 49, 32, 48, 32, 48, 32, 45, 55] := by
  unfold textL
  simp [opName, names, Lib.itoa, Lib.decDigits]
theorem sel_w0 : selL ⟨3, 12, 1, 1, 0, 2, 0, 0, 0⟩ hs3 4 = [⟨4, 6, 0, 3, 49⟩, ⟨13, 6, 0, 0, 6⟩] := by decide +kernel
theorem sel_w1 : selL ⟨3, 13, 2, 2, 1, 1, 0, 0, 0⟩ hs3 4 = [⟨12, 6, 0, 0, 6⟩, ⟨12, 7, 0, 0, 6⟩, ⟨4, 3, 6, 7, 54⟩] := by decide +kernel
theorem sel_w2 : selL ⟨2, 0, 0, 0, 1, 0, 0, 0, 0⟩ hs3 4 = [⟨12, 0, 0, 0, 6⟩] := by decide +kernel
theorem sel_w3 : selL ⟨2, 0, 0, 1, 0, 0, 0, 0, 0⟩ hs3 4 = [⟨13, 0, 0, 0, 6⟩] := by decide +kernel
theorem sel_w4 : selL ⟨2, 0, 0, 0, 0, 0, 0, 0, 0⟩ hs3 4 = [] := by decide +kernel
theorem sel_w5 : selL ⟨8, 0, 0, 0, 0, 1, 5, 3, 0⟩ hs3 4 = [⟨12, 7, 0, 0, 6⟩, ⟨9, 7, 0, 0, 643⟩] := by decide +kernel

theorem rep_hs3 {w : World} {g : Nat} (h : Blk w g 36 #[.bool false, .int .i64 0, .bool true, .int .i64 2, .bool false, .int .i64 3]) : RepH w w.heap.size (some ⟨g, 0, none⟩) hs3 :=
  RepH.of_blk h (fun k x hx => by
    match k, hx with
    | 0, hx => simp [hs3] at hx; subst hx; exact ⟨rfl, rfl⟩
    | 1, hx => simp [hs3] at hx; subst hx; exact ⟨rfl, rfl⟩
    | 2, hx => simp [hs3] at hx; subst hx; exact ⟨rfl, rfl⟩)
set_option maxRecDepth 100000 in
set_option maxHeartbeats 6400000 in
theorem works_any (B : Nat) (w : World) (hT : Tabs B w) (hB : B ≤ w.heap.size) :
    Calls Tryd.prog 11 #[] w fun e w' => e = .returned (.bool true) ∧ Below w.heap.size w w' := by
  have hH := Blk.new w 36 #[.bool false, .int .i64 0, .bool true, .int .i64 2, .bool false, .int .i64 3]
  have hb0 : Below w.heap.size w (w.alloc (.cells #[.bool false, .int .i64 0, .bool true, .int .i64 2, .bool false, .int .i64 3] 36)) := (Below.refl _ _).alloc (Nat.le_refl _) _
  go_enter Tryd.func11, Tryd.ntmps11
  go_wp2_with fail
  refine (select_r _ ⟨3, 12, 1, 1, 0, 2, 0, 0, 0⟩ _ hs3 3 4 _ sel_w0 (rep_hs3 hH) (by decide)).mono ?_
  rintro e w1 ⟨A1, c1, rfl, hr0, hbl1⟩
  have hH1 := hH.below hbl1 hH.lt
  have hb1 := bl_next hb0 hbl1 (Nat.le_refl _)
  go_wp2_with fail
  refine (select_r _ ⟨3, 13, 2, 2, 1, 1, 0, 0, 0⟩ _ hs3 3 4 _ sel_w1 (rep_hs3 hH1) (by decide)).mono ?_
  rintro e w2 ⟨A2, c2, rfl, hr1, hbl2⟩
  have hr0 := hr0.far hbl2
  have hH2 := hH1.below hbl2 hH1.lt
  have hb2 := bl_next hb1 hbl2 (Nat.le_refl _)
  go_wp2_with fail
  refine (select_r _ ⟨2, 0, 0, 0, 1, 0, 0, 0, 0⟩ _ hs3 3 4 _ sel_w2 (rep_hs3 hH2) (by decide)).mono ?_
  rintro e w3 ⟨A3, c3, rfl, hr2, hbl3⟩
  have hr0 := hr0.far hbl3
  have hr1 := hr1.far hbl3
  have hH3 := hH2.below hbl3 hH2.lt
  have hb3 := bl_next hb2 hbl3 (Nat.le_refl _)
  go_wp2_with fail
  refine (select_r _ ⟨2, 0, 0, 1, 0, 0, 0, 0, 0⟩ _ hs3 3 4 _ sel_w3 (rep_hs3 hH3) (by decide)).mono ?_
  rintro e w4 ⟨A4, c4, rfl, hr3, hbl4⟩
  have hr0 := hr0.far hbl4
  have hr1 := hr1.far hbl4
  have hr2 := hr2.far hbl4
  have hH4 := hH3.below hbl4 hH3.lt
  have hb4 := bl_next hb3 hbl4 (Nat.le_refl _)
  go_wp2_with fail
  refine (select_r _ ⟨2, 0, 0, 0, 0, 0, 0, 0, 0⟩ _ hs3 3 4 _ sel_w4 (rep_hs3 hH4) (by decide)).mono ?_
  rintro e w5 ⟨A5, c5, rfl, hr4, hbl5⟩
  have hr0 := hr0.far hbl5
  have hr1 := hr1.far hbl5
  have hr2 := hr2.far hbl5
  have hr3 := hr3.far hbl5
  have hH5 := hH4.below hbl5 hH4.lt
  have hb5 := bl_next hb4 hbl5 (Nat.le_refl _)
  go_wp2_with fail
  refine (select_r _ ⟨8, 0, 0, 0, 0, 1, 5, 3, 0⟩ _ hs3 3 4 _ sel_w5 (rep_hs3 hH5) (by decide)).mono ?_
  rintro e w6 ⟨A6, c6, rfl, hr5, hbl6⟩
  have hr0 := hr0.far hbl6
  have hr1 := hr1.far hbl6
  have hr2 := hr2.far hbl6
  have hr3 := hr3.far hbl6
  have hr4 := hr4.far hbl6
  have hH6 := hH5.below hbl6 hH5.lt
  have hb6 := bl_next hb5 hbl6 (Nat.le_refl _)
  go_wp2_with fail
  have hq7 := (hb6).alloc (Nat.le_trans (Nat.le_refl _) hb6.size) (.cells (codeCells [⟨4, 6, 0, 3, 49⟩, ⟨13, 6, 0, 0, 6⟩]).toArray 49)
  refine (codes_same _ A1 _ [⟨4, 6, 0, 3, 49⟩, ⟨13, 6, 0, 0, 6⟩] c1 _ (hr0.far ((Below.refl _ _).alloc (Nat.le_refl _) _)) (Reads5.of_blk (l := [⟨4, 6, 0, 3, 49⟩, ⟨13, 6, 0, 0, 6⟩]) (Blk.new _ _ _)) (by decide)).mono ?_
  rintro e w7 ⟨rfl, hbl7⟩
  have hz7 := bl_next ((Below.refl w6.heap.size w6).alloc (Nat.le_refl _) (.cells (codeCells [⟨4, 6, 0, 3, 49⟩, ⟨13, 6, 0, 0, 6⟩]).toArray 49)) hbl7 (Nat.le_refl _)
  have hr1 := hr1.far hz7
  have hr2 := hr2.far hz7
  have hr3 := hr3.far hz7
  have hr5 := hr5.far hz7
  have hb7 := bl_next hq7 hbl7 (Nat.le_refl _)
  clear hq7
  go_wp2_with fail
  have hq8 := (hb7).alloc (Nat.le_trans (Nat.le_refl _) hb7.size) (.cells (codeCells [⟨12, 6, 0, 0, 6⟩, ⟨12, 7, 0, 0, 6⟩, ⟨4, 3, 6, 7, 54⟩]).toArray 49)
  refine (codes_same _ A2 _ [⟨12, 6, 0, 0, 6⟩, ⟨12, 7, 0, 0, 6⟩, ⟨4, 3, 6, 7, 54⟩] c2 _ (hr1.far ((Below.refl _ _).alloc (Nat.le_refl _) _)) (Reads5.of_blk (l := [⟨12, 6, 0, 0, 6⟩, ⟨12, 7, 0, 0, 6⟩, ⟨4, 3, 6, 7, 54⟩]) (Blk.new _ _ _)) (by decide)).mono ?_
  rintro e w8 ⟨rfl, hbl8⟩
  have hz8 := bl_next ((Below.refl w7.heap.size w7).alloc (Nat.le_refl _) (.cells (codeCells [⟨12, 6, 0, 0, 6⟩, ⟨12, 7, 0, 0, 6⟩, ⟨4, 3, 6, 7, 54⟩]).toArray 49)) hbl8 (Nat.le_refl _)
  have hr2 := hr2.far hz8
  have hr3 := hr3.far hz8
  have hr5 := hr5.far hz8
  have hb8 := bl_next hq8 hbl8 (Nat.le_refl _)
  clear hq8
  go_wp2_with fail
  have hq9 := (hb8).alloc (Nat.le_trans (Nat.le_refl _) hb8.size) (.cells (codeCells [⟨12, 0, 0, 0, 6⟩]).toArray 49)
  refine (codes_same _ A3 _ [⟨12, 0, 0, 0, 6⟩] c3 _ (hr2.far ((Below.refl _ _).alloc (Nat.le_refl _) _)) (Reads5.of_blk (l := [⟨12, 0, 0, 0, 6⟩]) (Blk.new _ _ _)) (by decide)).mono ?_
  rintro e w9 ⟨rfl, hbl9⟩
  have hz9 := bl_next ((Below.refl w8.heap.size w8).alloc (Nat.le_refl _) (.cells (codeCells [⟨12, 0, 0, 0, 6⟩]).toArray 49)) hbl9 (Nat.le_refl _)
  have hr3 := hr3.far hz9
  have hr5 := hr5.far hz9
  have hb9 := bl_next hq9 hbl9 (Nat.le_refl _)
  clear hq9
  go_wp2_with fail
  have hq10 := (hb9).alloc (Nat.le_trans (Nat.le_refl _) hb9.size) (.cells (codeCells [⟨13, 0, 0, 0, 6⟩]).toArray 49)
  refine (codes_same _ A4 _ [⟨13, 0, 0, 0, 6⟩] c4 _ (hr3.far ((Below.refl _ _).alloc (Nat.le_refl _) _)) (Reads5.of_blk (l := [⟨13, 0, 0, 0, 6⟩]) (Blk.new _ _ _)) (by decide)).mono ?_
  rintro e w10 ⟨rfl, hbl10⟩
  have hz10 := bl_next ((Below.refl w9.heap.size w9).alloc (Nat.le_refl _) (.cells (codeCells [⟨13, 0, 0, 0, 6⟩]).toArray 49)) hbl10 (Nat.le_refl _)
  have hr5 := hr5.far hz10
  have hb10 := bl_next hq10 hbl10 (Nat.le_refl _)
  clear hq10
  go_wp2_with fail
  have hq11 := (hb10).alloc (Nat.le_trans (Nat.le_refl _) hb10.size) (.cells (codeCells [⟨12, 7, 0, 0, 6⟩, ⟨9, 7, 0, 0, 643⟩]).toArray 49)
  refine (codes_same _ A6 _ [⟨12, 7, 0, 0, 6⟩, ⟨9, 7, 0, 0, 643⟩] c6 _ (hr5.far ((Below.refl _ _).alloc (Nat.le_refl _) _)) (Reads5.of_blk (l := [⟨12, 7, 0, 0, 6⟩, ⟨9, 7, 0, 0, 643⟩]) (Blk.new _ _ _)) (by decide)).mono ?_
  rintro e w11 ⟨rfl, hbl11⟩
  have hz11 := bl_next ((Below.refl w10.heap.size w10).alloc (Nat.le_refl _) (.cells (codeCells [⟨12, 7, 0, 0, 6⟩, ⟨9, 7, 0, 0, 643⟩]).toArray 49)) hbl11 (Nat.le_refl _)
  have hb11 := bl_next hq11 hbl11 (Nat.le_refl _)
  clear hq11
  go_wp2_with fail
  refine (text_any B _ ⟨2, 1, 0, 0, -7⟩ (hT.below (hb11.mono hB)) (Nat.le_trans hB hb11.size) (by decide) (by decide) (by decide) (by decide) (by decide) (by decide) (by decide) (by decide) (by decide) (by decide)).mono ?_
  rintro e w12 ⟨rfl, hbl12⟩
  rw [text_ldi]
  go_wp2_with fail
  go_ret
  exact ⟨rfl, bl_next hb11 hbl12 (Nat.le_refl _)⟩
end Go.Proofs.YthkiajbgdamjgaaDoor

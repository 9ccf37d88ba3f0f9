/- Package code: Text. Conditions: bytes, a number of 32 bits, two tables of the library as they are laid. -/
import Derived.Test.YthkiajbgdamjgaaDoorTxtB
import Derived.Deep.DeepCutAuto
namespace Go.Proofs.YthkiajbgdamjgaaDoor
open Go.RowKit
attribute [local irreducible] Blk

/-- The two tables of the library that Text's callees read, below block B. -/
structure Tabs (B : Nat) (w : World) : Prop where
  asp : Lib.TabIs Tryd.prog w "strings.asciiSpace" .u8 Lib.asciiSpaceTab
  pow : Lib.TabIs Tryd.prog w "internal/strconv.uint64pow10" .u64 Lib.pow10Tab
  lasp : ∀ g, Tryd.prog.globalNamed "strings.asciiSpace" = some g → g < B
  lpow : ∀ g, Tryd.prog.globalNamed "internal/strconv.uint64pow10" = some g → g < B
theorem tab_keep {w w' : World} {B : Nat} {n : String} {k : IntKind} {zs : List Int} (h : Lib.TabIs Tryd.prog w n k zs) (hl : ∀ g, Tryd.prog.globalNamed n = some g → g < B) (hb : Below B w w') : Lib.TabIs Tryd.prog w' n k zs := by
  unfold Lib.TabIs World.var? at *
  rcases hg : Tryd.prog.globalNamed n with _ | g
  · rw [hg] at h; exact h
  · rw [hg] at h
    simp only [Option.bind_some] at h ⊢
    rw [hb.block g (hl g hg)]
    exact h
theorem Tabs.below {w w' : World} {B : Nat} (h : Tabs B w) (hb : Below B w w') : Tabs B w' :=
  ⟨tab_keep h.asp h.lasp hb, tab_keep h.pow h.lpow hb, h.lasp, h.lpow⟩

theorem infoStr : (Tryd.prog.info? 9).map (fun i => (i.zero, i.size, i.bytes)) = some (some (.string ⟨#[]⟩), 1, 16) := by kernel_rfl
theorem bl_next_itoa (n : Int) (h0 : -9223372036854775808 ≤ n) (h1 : n ≤ 9223372036854775807) (W : World) (B : Nat) (hT : Tabs B W) :
    Calls Tryd.prog 51 #[.int .i64 n] W fun e w' => e = .returned (.string ⟨(Lib.itoa n).toArray⟩) ∧ Below W.heap.size W w' :=
  (Tryd.strconv_Itoa n h0 h1 W hT.pow).mono fun e w' h => by
    obtain ⟨rfl, k, os, rfl⟩ := h
    refine ⟨rfl, ?_⟩
    refine ⟨rfl, rfl, rfl, by simp, fun j hj => ?_⟩
    show ((W.drewN k).heap ++ os)[j]? = _
    rw [Array.getElem?_append_left (by simpa using hj)]
    rfl
set_option maxRecDepth 100000 in
theorem fields_names (W : World) (B : Nat) (hT : Tabs B W) :
    Calls Tryd.prog 50 #[.string ⟨#[83, 84, 79, 80, 32, 87, 65, 73, 84, 32, 76, 68, 73, 32, 77, 79, 86, 32, 66, 73, 78, 32, 85, 78, 32, 76, 68, 71, 32, 83, 84, 71, 32, 76, 68, 88, 32, 83, 84, 88, 32, 73, 78, 32, 79, 85, 84, 32, 76, 68, 83, 32, 83, 84, 83, 32, 65, 82, 71, 32, 67, 65, 76, 76, 32, 69, 78, 84, 69, 82, 32, 82, 69, 84, 32, 82, 69, 84, 73, 32, 82, 69, 83, 85, 76, 84, 32, 74, 77, 80, 32, 74, 90, 32, 67, 82, 73, 84, 32, 72, 65, 76, 84]⟩] W fun e w' => e = .returned (.slice (some ⟨W.heap.size, 0, none⟩) 24 24) ∧
      Blk w' W.heap.size 9 (names.map strV).toArray ∧ w'.heap.size = W.heap.size + 1 ∧ Below W.heap.size W w' := by
  have h := Tryd.strings_Fields_laid ⟨#[83, 84, 79, 80, 32, 87, 65, 73, 84, 32, 76, 68, 73, 32, 77, 79, 86, 32, 66, 73, 78, 32, 85, 78, 32, 76, 68, 71, 32, 83, 84, 71, 32, 76, 68, 88, 32, 83, 84, 88, 32, 73, 78, 32, 79, 85, 84, 32, 76, 68, 83, 32, 83, 84, 83, 32, 65, 82, 71, 32, 67, 65, 76, 76, 32, 69, 78, 84, 69, 82, 32, 82, 69, 84, 32, 82, 69, 84, 73, 32, 82, 69, 83, 85, 76, 84, 32, 74, 77, 80, 32, 74, 90, 32, 67, 82, 73, 84, 32, 72, 65, 76, 84]⟩ W (by decide) (fun j b hb => (by decide : ∀ b ∈ (#[83, 84, 79, 80, 32, 87, 65, 73, 84, 32, 76, 68, 73, 32, 77, 79, 86, 32, 66, 73, 78, 32, 85, 78, 32, 76, 68, 71, 32, 83, 84, 71, 32, 76, 68, 88, 32, 83, 84, 88, 32, 73, 78, 32, 79, 85, 84, 32, 76, 68, 83, 32, 83, 84, 83, 32, 65, 82, 71, 32, 67, 65, 76, 76, 32, 69, 78, 84, 69, 82, 32, 82, 69, 84, 32, 82, 69, 84, 73, 32, 82, 69, 83, 85, 76, 84, 32, 74, 77, 80, 32, 74, 90, 32, 67, 82, 73, 84, 32, 72, 65, 76, 84] : Array UInt8).toList, b.toNat < 128) b (List.mem_of_getElem? hb)) hT.asp
  rw [show Lib.fields (⟨#[83, 84, 79, 80, 32, 87, 65, 73, 84, 32, 76, 68, 73, 32, 77, 79, 86, 32, 66, 73, 78, 32, 85, 78, 32, 76, 68, 71, 32, 83, 84, 71, 32, 76, 68, 88, 32, 83, 84, 88, 32, 73, 78, 32, 79, 85, 84, 32, 76, 68, 83, 32, 83, 84, 83, 32, 65, 82, 71, 32, 67, 65, 76, 76, 32, 69, 78, 84, 69, 82, 32, 82, 69, 84, 32, 82, 69, 84, 73, 32, 82, 69, 83, 85, 76, 84, 32, 74, 77, 80, 32, 74, 90, 32, 67, 82, 73, 84, 32, 72, 65, 76, 84]⟩ : ByteArray).data.toList = names by decide] at h
  refine h.mono fun e w' hh => ?_
  obtain ⟨rfl, rfl⟩ := hh
  exact ⟨rfl, Blk.new _ _ _, by simp, (Below.refl _ _).alloc (Nat.le_refl _) _⟩

set_option maxRecDepth 100000 in
set_option maxHeartbeats 1600000 in
theorem text_any (B : Nat) (w : World) (x : C5) (hT : Tabs B w) (hB : B ≤ w.heap.size) (h0 : 0 ≤ x.op) (h1 : x.op ≤ 255) (a0 : 0 ≤ x.a) (a1 : x.a ≤ 255) (b0 : 0 ≤ x.b) (b1 : x.b ≤ 255) (c0 : 0 ≤ x.c) (c1 : x.c ≤ 255) (n0 : -2147483648 ≤ x.n) (n1 : x.n ≤ 2147483647) :
    Calls Tryd.prog 19 #[.agg #[.int .u8 x.op, .int .u8 x.a, .int .u8 x.b, .int .u8 x.c, .int .i32 x.n]] w fun e w' => e = .returned (.string ⟨(textL x).toArray⟩) ∧ Below w.heap.size w w' := by
  obtain ⟨op, a, b, c, n⟩ := x
  simp only at *
  go_enter Tryd.func19, Tryd.ntmps19
  go_wp2_with fail
  refine (fields_names _ B (hT.below ((Below.refl _ _).alloc hB _))).mono ?_
  rintro e w1 ⟨rfl, hN, hsz, hb1⟩
  have hb1' : Below w.heap.size w w1 := bl_next ((Below.refl _ _).alloc (Nat.le_refl _) _) hb1 (Nat.le_refl _)
  have hbox : Blk w1 w.heap.size 49 #[.int .u8 op, .int .u8 a, .int .u8 b, .int .u8 c, .int .i32 n] := (Blk.new _ _ _).below hb1 (by simp)
  have e1 : (w.alloc (.cells #[.int .u8 op, .int .u8 a, .int .u8 b, .int .u8 c, .int .i32 n] 49)).heap.size = w.heap.size + 1 := by simp
  rw [e1] at hN hsz
  have HSZ := Lib.hid hsz
  clear hsz e1
  have x0 := hbox.cell 0
  have hbl := hbox.lt
  have hNl := hN.lt
  simp at x0 hNl
  have xN := hN.cell
  have XN := Lib.hid xN
  clear xN
  go_upto_if 14 with (fail)
  go_cut [4] (fun s wx => ∃ g, s = .slice (some ⟨g, 0, none⟩) 1 1 ∧ w.heap.size < g ∧ Blk wx g 9 #[strV (opName op)] ∧ Blk wx w.heap.size 49 #[.int .u8 op, .int .u8 a, .int .u8 b, .int .u8 c, .int .i32 n] ∧ Below w.heap.size w wx)
  case first =>
    by_cases h : op < 24
    · obtain ⟨k, rfl⟩ := Int.eq_ofNat_of_zero_le h0
      have hk : k < (names.map strV).length := by simp [names]; omega
      have xk : w1.cell? ⟨w.heap.size + 1, k, none⟩ = some (.string ⟨(opName (k : Int)).toArray⟩) := by
        rw [XN.out k, List.getElem?_toArray, List.getElem?_eq_getElem hk, opName_in hk]
        rfl
      go_wp2_with fail
      go_meet
      exact ⟨_, rfl, hbl, Blk.new w1 9 #[strV (opName (k : Int))], hbox.alloc _, hb1'.alloc (by omega) _⟩
    · have e := opName_out (k := op) (by omega)
      have E := Lib.hid e
      clear e
      go_wp2_with fail
      go_meet
      exact ⟨_, rfl, hbl, by rw [E.out]; exact Blk.new w1 9 #[strV [63]], hbox.alloc _, hb1'.alloc (by omega) _⟩
  case rest =>
    obtain ⟨g, rfl, hg, hW, hbx, hbw⟩ := hcut
    clear hN XN hb1 hb1' hbox x0 hbl hNl HSZ
    have hown : wc.ownsRow (w.heap.size + 1) 9 1 (.slice (some ⟨g, 0, none⟩) 1 1) 1 [strV (opName op)] := ⟨rfl, .inr ⟨g, 1, _, rfl, hg, (by unfold Blk at hW; exact hW), Nat.le_refl _, (by unfold maxLen; omega), rfl, rfl⟩⟩
    have b0' := hbx.cell 1
    have b1' := hbx.cell 2
    have b2' := hbx.cell 3
    have b3' := hbx.cell 4
    simp at b0' b1' b2' b3'
    have hbl := hbx.lt
    have hWl := hW.lt
    obtain ⟨i0, hi0, hz0, hz1, hz2⟩ := info_parts infoStr
    have HI := Lib.hid (⟨hi0, hz0, hz1, hz2⟩ : _ ∧ _ ∧ _ ∧ _)
    clear hi0 hz0 hz1 hz2
    go_wp2_with fail
    go_loopw [4, 36] (fun v i wr => ∃ k : Nat, k ≤ 4 ∧ i = .int .i64 k ∧ wr.ownsRow (w.heap.size + 1) 9 1 v (k + 1) (strV (opName op) :: (([a, b, c, n].take k).map fun z => strV (Lib.itoa z))) ∧ Blk wr wc.heap.size 3 #[.int .i64 a, .int .i64 b, .int .i64 c, .int .i64 n] ∧ Below w.heap.size w wr) (fun _ i _ => 4 - (intOf i).toNat)
    case atStart => exact ⟨0, by omega, rfl, hown.alloc _, Blk.new _ _ _, hbw.alloc (by omega) _⟩
    case round =>
      clear hown hbw hW hbx b0' b1' b2' b3' hbl hWl
      obtain ⟨k, hk, rfl, hown, hI, hbr⟩ := hrel
      have hIl := hI.lt
      have hbs := hbr.size
      by_cases hlt : k < 4
      · obtain ⟨z, hz, hz0, hz1⟩ : ∃ z, [a, b, c, n][k]? = some z ∧ -9223372036854775808 ≤ z ∧ z ≤ 9223372036854775807 := by
          match k, hlt with
          | 0, _ => exact ⟨a, rfl, by omega, by omega⟩
          | 1, _ => exact ⟨b, rfl, by omega, by omega⟩
          | 2, _ => exact ⟨c, rfl, by omega, by omega⟩
          | 3, _ => exact ⟨n, rfl, by omega, by omega⟩
        have ck : wr.cell? ⟨wc.heap.size, k, none⟩ = some (.int .i64 z) := by
          rw [hI.cell k]
          match k, hlt, hz with
          | 0, _, hz => simpa using hz
          | 1, _, hz => simpa using hz
          | 2, _, hz => simpa using hz
          | 3, _, hz => simpa using hz
        have HZ := Lib.hid hz
        clear hz
        go_wp2_with fail
        refine (bl_next_itoa z hz0 hz1 _ B (hT.below (hbr.mono hB))).mono ?_
        rintro e w2 ⟨rfl, hb2⟩
        have hown2 := (Keep.of_below hb2).row hown (fun j hj => by have := (hown.lt j hj).2; omega)
        have hI2 := hI.below hb2 hIl
        have hb2s := hb2.size
        go_wp2_with (at_builtin; refine wpList_append_lies _ rfl (.tmp 40) (.tmp 43) _ rfl (w.heap.size + 1) 9 i0 _ 1 16 Tryd.underlying83 HI.out.1 HI.out.2.1 HI.out.2.2.1 HI.out.2.2.2 rfl (by omega) _ (k + 1) _ rfl (hown2.alloc _) ⟨w2.heap.size, 0, none⟩ 1 1 [strV (Lib.itoa z)] rfl rfl (World.news_of_block (cs := #[strV (Lib.itoa z)]) (t := 9) (fr := (0, 0)) (heap_alloc_new w2 _)) (by simp [strV, Value.oneCell']) (by omega) (by unfold maxLen; omega) (by omega) (by simp; omega) (w2.heap.size + 1) (by simp) ?_; intro gg cap w3 hown3 hgrow hat hlt3; clear hat hlt3)
        go_roundw
        case rel =>
          have hne := hI2.ne_own hown2 (by decide)
          have hlow := fun j hj => Nat.le_trans (Nat.le_succ _) (hown2.lt j hj).1
          refine ⟨k + 1, by omega, by go_num, ?_, (hI2.alloc _).grown hgrow (Ne.symm hne), ((hbr.trans (hb2.mono hbs)).alloc (by omega) _).grown hgrow (by simp; omega) hlow⟩
          rw [List.take_add_one, HZ.out]
          simpa using hown3
        case measure => simp [intOf]; omega
      · have h4 : k = 4 := by omega
        subst h4
        obtain ⟨g', cap', rfl, hg', hglt⟩ := hown.form (by omega)
        have hcells := hown.cellAt
        have hcapl : 5 ≤ cap' := by
          rcases hown.2 with ⟨h, _⟩ | ⟨_, _, _, h, _, _, h2, _⟩
          · cases h
          · cases h; omega
        have HC := Lib.hid hcells
        clear hcells hown
        go_wp2_with fail
        have q0 := opName_len op
        have q1 := itoa_len (n := a) (by omega) (by omega)
        have q2 := itoa_len (n := b) (by omega) (by omega)
        have q3 := itoa_len (n := c) (by omega) (by omega)
        have q4 := itoa_len (n := n) (by omega) (by omega)
        refine (Tryd.strings_Join g' 0 cap' [⟨(opName op).toArray⟩, ⟨(Lib.itoa a).toArray⟩, ⟨(Lib.itoa b).toArray⟩, ⟨(Lib.itoa c).toArray⟩, ⟨(Lib.itoa n).toArray⟩] ⟨#[32]⟩ _ ?k1 hglt (by simp) (by simpa using hcapl) ?k2).mono ?k3
        case k1 =>
          intro j x hx
          rw [Nat.zero_add, HC.out j (by have := (List.getElem?_eq_some_iff.1 hx).1; simpa using this)]
          match j, hx with
          | 0, hx => simpa [strV] using hx
          | 1, hx => simpa [strV] using hx
          | 2, hx => simpa [strV] using hx
          | 3, hx => simpa [strV] using hx
          | 4, hx => simpa [strV] using hx
        case k2 => simp [Lib.join, List.intercalate]; omega
        case k3 =>
          rintro e w4 ⟨rfl, hb4⟩
          go_wp2_with fail
          go_ret
          refine ⟨?_, bl_next hbr hb4 (Nat.le_refl _)⟩
          simp [Lib.join, List.intercalate, textL]
end Go.Proofs.YthkiajbgdamjgaaDoor

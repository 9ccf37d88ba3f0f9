/- The reference's Text: a name and four numerals. Conditions: bytes, and a number of 32 bits. -/
import Derived.Test.YthkiajbgdamjgaaDoorTxtA
import Derived.Test.YthkiajbgdamjgaaDoorCodA
import Derived.Deep.DeepCutAuto
namespace Go.Proofs.YthkiajbgdamjgaaDoor
open Go.RowKit
attribute [local irreducible] Blk

theorem bl_next {B : Nat} {w a b : World} (h : Below B w a) (hb : Below a.heap.size a b) (hB : B ≤ w.heap.size) : Below B w b := h.trans (hb.mono (Nat.le_trans hB h.size))
/-- The names of the machine's instructions. -/
def names : List (List UInt8) := [[83, 84, 79, 80], [87, 65, 73, 84], [76, 68, 73], [77, 79, 86], [66, 73, 78], [85, 78], [76, 68, 71], [83, 84, 71], [76, 68, 88], [83, 84, 88], [73, 78], [79, 85, 84], [76, 68, 83], [83, 84, 83], [65, 82, 71], [67, 65, 76, 76], [69, 78, 84, 69, 82], [82, 69, 84], [82, 69, 84, 73], [82, 69, 83, 85, 76, 84], [74, 77, 80], [74, 90], [67, 82, 73, 84], [72, 65, 76, 84]]
def strV (l : List UInt8) : Value := .string ⟨l.toArray⟩
/-- The name of one. -/
def opName (k : Int) : List UInt8 := (names[k.toNat]?).getD [63]
theorem opName_in {k : Nat} (h : k < (names.map strV).length) : (names.map strV)[k] = strV (opName (k : Int)) := by
  have h' : k < names.length := by simpa using h
  simp [opName, List.getElem?_eq_getElem h']
theorem opName_out {k : Int} (h : 24 ≤ k) : opName k = [63] := by
  unfold opName
  rw [List.getElem?_eq_none (by simp [names]; omega)]
  rfl
theorem opName_len (k : Int) : (opName k).length ≤ 6 := by
  unfold opName
  rcases h : names[k.toNat]? with _ | l
  · simp
  · have hm := List.mem_of_getElem? h
    have hall : ∀ l ∈ names, l.length ≤ 6 := by decide
    exact hall l hm
/-- An instruction's line. -/
def textL (x : C5) : List UInt8 := opName x.op ++ [32] ++ Lib.itoa x.a ++ [32] ++ Lib.itoa x.b ++ [32] ++ Lib.itoa x.c ++ [32] ++ Lib.itoa x.n

set_option maxRecDepth 100000 in
set_option maxHeartbeats 1600000 in
theorem rtext_any (w : World) (x : C5) (h0 : 0 ≤ x.op) (h1 : x.op ≤ 255) (a0 : 0 ≤ x.a) (a1 : x.a ≤ 255) (b0 : 0 ≤ x.b) (b1 : x.b ≤ 255) (c0 : 0 ≤ x.c) (c1 : x.c ≤ 255) (n0 : -2147483648 ≤ x.n) (n1 : x.n ≤ 2147483647) :
    Calls Tryd.prog 20 #[.agg #[.int .u8 x.op, .int .u8 x.a, .int .u8 x.b, .int .u8 x.c, .int .i32 x.n]] w fun e w' => e = .returned (.string ⟨(textL x).toArray⟩) ∧ Below w.heap.size w w' := by
  obtain ⟨op, a, b, c, n⟩ := x
  simp only at *
  have hfin : (⟨(textL ⟨op, a, b, c, n⟩).toArray⟩ : ByteArray) = ⟨(opName op).toArray⟩ ++ ⟨#[32]⟩ ++ ⟨(Lib.itoa a).toArray⟩ ++ ⟨#[32]⟩ ++ ⟨(Lib.itoa b).toArray⟩ ++ ⟨#[32]⟩ ++ ⟨(Lib.itoa c).toArray⟩ ++ ⟨#[32]⟩ ++ ⟨(Lib.itoa n).toArray⟩ := by
    unfold textL
    simp only [← ba_append]
  have HF := Lib.hid hfin
  clear hfin
  have q0 := opName_len op
  have q1 := itoa_len (n := a) (by omega) (by omega)
  have q2 := itoa_len (n := b) (by omega) (by omega)
  have q3 := itoa_len (n := c) (by omega) (by omega)
  have q4 := itoa_len (n := n) (by omega) (by omega)
  go_enter Tryd.func20, Tryd.ntmps20
  go_upto_if 11 with (fail)
  go_cut [4] (fun s wx => s = .string ⟨(opName op).toArray⟩ ∧ Blk wx w.heap.size 49 #[.int .u8 op, .int .u8 a, .int .u8 b, .int .u8 c, .int .i32 n] ∧ Below w.heap.size w wx)
  case first =>
    by_cases h : op < 24
    · go_wp2_with fail
      go_meet
      refine ⟨?_, (Blk.newAt rfl).alloc _, ((Below.refl _ _).alloc (Nat.le_refl _) _).alloc (by simp) _⟩
      obtain ⟨k, rfl⟩ := Int.eq_ofNat_of_zero_le h0
      exact opName_in (k := k) (by simp [names]; omega)
    · have e := opName_out (k := op) (by omega)
      have E := Lib.hid e
      clear e
      go_wp2_with fail
      go_meet
      exact ⟨by rw [E.out], (Blk.newAt rfl).alloc _, ((Below.refl _ _).alloc (Nat.le_refl _) _).alloc (by simp) _⟩
  case rest =>
    obtain ⟨rfl, hB, hw⟩ := hcut
    have hblt := hB.lt
    have z2 : ¬ 9223372036854775807 < (opName op).length + 1 := by omega
    have z3 : ¬ 9223372036854775807 < (opName op).length + 1 + (Lib.itoa a).length := by omega
    have z4 : ¬ 9223372036854775807 < (opName op).length + 1 + (Lib.itoa a).length + 1 := by omega
    have z5 : ¬ 9223372036854775807 < (opName op).length + 1 + (Lib.itoa a).length + 1 + (Lib.itoa b).length := by omega
    have z6 : ¬ 9223372036854775807 < (opName op).length + 1 + (Lib.itoa a).length + 1 + (Lib.itoa b).length + 1 := by omega
    have z7 : ¬ 9223372036854775807 < (opName op).length + 1 + (Lib.itoa a).length + 1 + (Lib.itoa b).length + 1 + (Lib.itoa c).length := by omega
    have z8 : ¬ 9223372036854775807 < (opName op).length + 1 + (Lib.itoa a).length + 1 + (Lib.itoa b).length + 1 + (Lib.itoa c).length + 1 := by omega
    have z9 : ¬ 9223372036854775807 < (opName op).length + 1 + (Lib.itoa a).length + 1 + (Lib.itoa b).length + 1 + (Lib.itoa c).length + 1 + (Lib.itoa n).length := by omega
    have D := fun v W h0 h1 => digits_any v W h0 h1
    have DH := Lib.hid D
    clear D
    go_wp2_with fail
    have ya : IntKind.i64.wrap a = a := IntWalk.i64_in _ (by omega)
    have yb : IntKind.i64.wrap b = b := IntWalk.i64_in _ (by omega)
    have yc : IntKind.i64.wrap c = c := IntWalk.i64_in _ (by omega)
    have yn : IntKind.i64.wrap n = n := IntWalk.i64_in _ (by omega)
    go_region_held3 (fun w' => w'.cell? ⟨w.heap.size, 1, none⟩ = some (.int .u8 a) ∧ w'.cell? ⟨w.heap.size, 2, none⟩ = some (.int .u8 b) ∧ w'.cell? ⟨w.heap.size, 3, none⟩ = some (.int .u8 c) ∧ w'.cell? ⟨w.heap.size, 4, none⟩ = some (.int .i32 n))
      (first
        | (refine ⟨cell_of_blk hB4 (by rfl), cell_of_blk hB4 (by rfl), cell_of_blk hB4 (by rfl), cell_of_blk hB4 (by rfl)⟩)
        | (refine ⟨cell_of_blk hB3 (by rfl), cell_of_blk hB3 (by rfl), cell_of_blk hB3 (by rfl), cell_of_blk hB3 (by rfl)⟩)
        | (refine ⟨cell_of_blk hB2 (by rfl), cell_of_blk hB2 (by rfl), cell_of_blk hB2 (by rfl), cell_of_blk hB2 (by rfl)⟩)
        | (refine ⟨cell_of_blk hB1 (by rfl), cell_of_blk hB1 (by rfl), cell_of_blk hB1 (by rfl), cell_of_blk hB1 (by rfl)⟩)
        | (refine ⟨cell_of_blk (Blk.drew hB) (by rfl), cell_of_blk (Blk.drew hB) (by rfl), cell_of_blk (Blk.drew hB) (by rfl), cell_of_blk (Blk.drew hB) (by rfl)⟩))
      (first
        | (go_at_call_of 53 (Value.int .i64 a); refine (DH.out a _ (by omega) (by omega)).mono ?_; rintro e w1 ⟨rfl, hb1⟩; have hB1 := (Blk.drew hB).below hb1 (by simpa using hblt))
        | (go_at_call_of 53 (Value.int .i64 b); refine (DH.out b _ (by omega) (by omega)).mono ?_; rintro e w2 ⟨rfl, hb2⟩; have hB2 := hB1.below hb2 hB1.lt)
        | (go_at_call_of 53 (Value.int .i64 c); refine (DH.out c _ (by omega) (by omega)).mono ?_; rintro e w3 ⟨rfl, hb3⟩; have hB3 := hB2.below hb3 hB2.lt)
        | (go_at_call_of 53 (Value.int .i64 n); refine (DH.out n _ (by omega) (by omega)).mono ?_; rintro e w4 ⟨rfl, hb4⟩; have hB4 := hB3.below hb4 hB3.lt))
    all_goals go_wp2_with fail
    go_ret
    refine ⟨?_, ?_⟩
    · rw [HF.out]
      rfl
    · exact bl_next (bl_next (bl_next (bl_next hw.drew hb1 (Nat.le_refl _)) hb2 (Nat.le_refl _)) hb3 (Nat.le_refl _)) hb4 (Nat.le_refl _)
end Go.Proofs.YthkiajbgdamjgaaDoor

/- math/bits.TrailingZeros; what release does of one span. Conditions: the table is as it is laid; sizes. -/
import Derived.Test.YtfgdkeomjplnnaaDoorAlE
import Derived.Shelf.Spec.TrailingZeros
namespace Go.Proofs.YtfgdkeomjplnnaaDoor
set_option linter.unusedVariables false
open Go.RowKit
attribute [local irreducible] Blk
set_option maxRecDepth 100000 in
theorem tz_core (x k idx : Nat) (w : World) (hx0 : ((x : Int) == 0) = false)
    (key : IntKind.u64.wrap (bits BinOp.and IntKind.u64 (x : Int) (IntKind.u64.wrap (-(x : Int))) * 285870213051353865) / 288230376151711744 = (idx : Int))
    (hi : idx < 64) (hk : k < 64) (hcell : w.cell? ⟨1, idx, none⟩ = some (.int .u8 k)) :
    Calls Tryd.prog 54 #[.int .u64 x] w fun e w' => e = .returned (.int .i64 k) ∧ w = w' := by
  go_enter Tryd.func54, Tryd.ntmps54
  go_wp2_with (simp only [key])
  go_ret
  exact ⟨rfl, rfl⟩
set_option maxRecDepth 100000 in
theorem tz_any (x : Nat) (hx : x < 18446744073709551616) (hx0 : x ≠ 0) (w : World) (hT : TabAt 1 Lib.deBruijn64tab w) :
    Calls Tryd.prog 43 #[.int .u64 x] w fun e w' => e = .returned (.int .i64 (Lib.ctz 64 x : Nat)) ∧ w = w' := by
  obtain ⟨hlow, hk⟩ := Lib.lowest_bit 64 x hx0 hx
  obtain ⟨hi, htab⟩ := Lib.deBruijn64_at _ hk
  have hcell := hT _ hi
  rw [htab] at hcell
  have HC := Lib.hid (tz_core x _ _ w (by simp; omega) (tz64_key x _ hx hx0 hlow) hi hk hcell)
  clear hcell htab hi hk hlow hT
  go_enter Tryd.func43, Tryd.ntmps43
  go_wp2_with fail
  refine HC.out.mono ?_
  rintro e w' ⟨rfl, rfl⟩
  go_wp2_with fail
  go_ret
  exact ⟨rfl, rfl⟩
def gone (at' : Int) (x : Hd) : Bool := decide (x.en ≤ at')
def hmN (hs : List Hm) (i : Nat) : Nat := ((hs[i]?).map (fun h => h.n.toNat)).getD 0
def relF (at' : Int) (hs : List Hm) (fr : Nat) (x : Hd) : Nat := if gone at' x then fr ||| 2 ^ hmN hs x.i else fr
/-- The span has a register. -/
def HasReg (hs : List Hm) (x : Hd) : Prop := ∃ r : Nat, r < 6 ∧ hs[x.i]? = some ⟨false, (r : Int)⟩
structure RlW (B0 : Nat) (W : World) (Ba Bh : Nat) (ev : Value) (es : List Hd) (fr : Nat) (hs : List Hm) (sl b2 b3 : Nat) (at' : Int) : Prop where
  al : AlW B0 W Ba Bh ev es fr hs sl
  p2 : Blk W b2 48 #[.pointer (some ⟨Ba, 0, none⟩)]
  p3 : Blk W b3 3 #[.int .i64 at']
section
variable {B0 : Nat} {W : World} {Ba Bh : Nat} {ev : Value} {es : List Hd} {fr : Nat} {hs : List Hm} {sl b2 b3 : Nat} {at' : Int}
theorem RlW.alloc (h : RlW B0 W Ba Bh ev es fr hs sl b2 b3 at') (o : Obj) : RlW B0 (W.alloc o) Ba Bh ev es fr hs sl b2 b3 at' := ⟨h.al.alloc o, h.p2.alloc o, h.p3.alloc o⟩
theorem RlW.drew (h : RlW B0 W Ba Bh ev es fr hs sl b2 b3 at') : RlW B0 W.drew Ba Bh ev es fr hs sl b2 b3 at' := ⟨h.al.drew, h.p2.drew, h.p3.drew⟩
theorem RlW.setF (h : RlW B0 W Ba Bh ev es fr hs sl b2 b3 at') (f : Nat) : RlW B0 (W.setCell ⟨Ba, 1, none⟩ (.int .u64 (f : Int))) Ba Bh ev es f hs sl b2 b3 at' :=
  ⟨h.al.setF f, h.p2.far (by exact h.p2.ne_ty h.al.blk (by decide)) _, h.p3.far (by exact h.p3.ne_ty h.al.blk (by decide)) _⟩
theorem RlW.set (h : RlW B0 W Ba Bh ev es fr hs sl b2 b3 at') {g : Nat} (hg : ev.ownBlock = some g) {k : Nat} (hk : k < es.length) (x : Hd) : RlW B0 ((W.setCell ⟨g, k * 2, none⟩ (.int .i64 (x.i : Int))).setCell ⟨g, k * 2 + 1, none⟩ (.int .i64 x.en)) Ba Bh ev (es.set k x) fr hs sl b2 b3 at' := by
  have n2 : b2 ≠ g := fun e => h.p2.ne_own h.al.row (by decide) (by rw [hg, e])
  have n3 : b3 ≠ g := fun e => h.p3.ne_own h.al.row (by decide) (by rw [hg, e])
  exact ⟨h.al.set hg hk x, (h.p2.far (by exact n2) _).far (by exact n2) _, (h.p3.far (by exact n3) _).far (by exact n3) _⟩
def Rel1P (B0 : Nat) (W : World) (Ba Bh : Nat) (ev : Value) (es : List Hd) (fr : Nat) (hs : List Hm) (sl b2 b3 : Nat) (at' : Int) (x : Hd) (e : Ending) (w' : World) : Prop :=
  e = .returned (.bool (gone at' x)) ∧ RlW B0 w' Ba Bh ev es (relF at' hs fr x) hs sl b2 b3 at' ∧ Below B0 W w' ∧ Keep W w' (fun k => k = Ba)
theorem or_u64 (a b : Nat) (ha : a < 64) (hb : b < 64) : bits .or .u64 (a : Int) (b : Int) = ((a ||| b : Nat) : Int) ∧ a ||| b < 64 := by
  have h1 : a ||| b < 2 ^ 6 := Nat.or_lt_two_pow ha hb
  refine ⟨?_, h1⟩
  have h2 : (BitVec.ofInt 64 (a : Int)).toNat = a := by
    rw [BitVec.ofInt_natCast, BitVec.toNat_ofNat]; exact Nat.mod_eq_of_lt (by omega)
  have h3 : (BitVec.ofInt 64 (b : Int)).toNat = b := by
    rw [BitVec.ofInt_natCast, BitVec.toNat_ofNat]; exact Nat.mod_eq_of_lt (by omega)
  show IntKind.u64.wrap ((BitVec.ofInt 64 (a : Int) ||| BitVec.ofInt 64 (b : Int)).toNat : Int) = _
  rw [BitVec.toNat_or, h2, h3, IntKind.wrap_u64]
  omega
theorem pow6 {r : Nat} (h : r < 6) : 2 ^ r < 64 ∧ IntKind.u64.wrap ((2 : Int) ^ r) = ((2 ^ r : Nat) : Int) := by
  match r, h with
  | 0, _ => exact ⟨by decide, by decide⟩
  | 1, _ => exact ⟨by decide, by decide⟩
  | 2, _ => exact ⟨by decide, by decide⟩
  | 3, _ => exact ⟨by decide, by decide⟩
  | 4, _ => exact ⟨by decide, by decide⟩
  | 5, _ => exact ⟨by decide, by decide⟩
set_option maxRecDepth 100000 in
set_option maxHeartbeats 1600000 in
theorem rel1_any (h : RlW B0 W Ba Bh ev es fr hs sl b2 b3 at') (x : Hd) (hx : HasReg hs x) (hf : fr < 64) (hl : hs.length ≤ 1000000) :
    Calls Tryd.prog 38 #[.agg #[.int .i64 (x.i : Int), .int .i64 x.en], .pointer (some ⟨b3, 0, none⟩), .pointer (some ⟨b2, 0, none⟩)] W (Rel1P B0 W Ba Bh ev es fr hs sl b2 b3 at' x) := by
  have H := Lib.hid (h.alloc (.cells #[.int .i64 (x.i : Int), .int .i64 x.en] 58))
  have HS := Lib.hid (fun f => h.setF f)
  have HSB := Lib.hid (fun f : Nat => (Below.refl B0 W).setCell (p := ⟨Ba, 1, none⟩) (by exact h.al.b0) (.int .u64 (f : Int)))
  have HB := Lib.hid ((Below.refl B0 W).alloc (by have := h.al.b0; have := h.al.blk.lt; omega) (.cells #[.int .i64 (x.i : Int), .int .i64 x.en] 58))
  obtain ⟨f0, f1, f2, f3, ff⟩ := h.al.facts
  have c2 := (h.p2.cell 0).trans (show _ = some (Value.pointer (some ⟨Ba, 0, none⟩)) from rfl)
  have c3 := (h.p3.cell 0).trans (show _ = some (Value.int .i64 at') from rfl)
  obtain ⟨r, hr, hxr⟩ := hx
  obtain ⟨q0, q1⟩ := hmCells_get hs x.i _ hxr
  have hil : x.i < hs.length := (List.getElem?_eq_some_iff.1 hxr).1
  have h0 := (h.al.hom.cell (x.i * 2)).trans (show _ = some (Value.bool false) by simpa using q0)
  have h1 := (h.al.hom.cell (x.i * 2 + 1)).trans (show _ = some (Value.int .i64 (r : Int)) by simpa using q1)
  have lBa := h.al.blk.lt
  have lBh := h.al.hom.lt
  have l2 := h.p2.lt
  have l3 := h.p3.lt
  have hb0 := h.al.b0
  have hN := Lib.hid (show hmN hs x.i = r by unfold hmN; rw [hxr]; simp)
  clear h q0 q1
  obtain ⟨xi, xe⟩ := x
  simp only at *
  by_cases hg : xe ≤ at'
  · have HG := Lib.hid (show gone at' ⟨xi, xe⟩ = true from decide_eq_true hg)
    have HF := Lib.hid (show relF at' hs fr ⟨xi, xe⟩ = fr ||| 2 ^ r by unfold relF; rw [HG.out, if_pos rfl, hN.out])
    obtain ⟨p1, p2⟩ := pow6 hr
    obtain ⟨o1, _⟩ := or_u64 fr (2 ^ r) hf p1
    have r0 : (0 : Int) ≤ (r : Int) := by omega
    have r1 : (r : Int) ≤ 64 := by omega
    have i0 : (0 : Int) ≤ (xi : Int) := by omega
    have i1 : (xi : Int) < (hs.length : Int) := by omega
    generalize hm : (2 : Nat) ^ r = m at *
    generalize hfm : fr ||| m = fm at *
    have HM := Lib.hid hm
    clear hm hfm hxr hN p1
    unfold Rel1P
    rw [HG.out, HF.out]
    go_enter Tryd.func38, Tryd.ntmps38
    go_wp2_with fail
    go_big_region
    go_wp2_with fail
    go_ret
    refine ⟨rfl, ?_, ?_, ?_⟩
    · first | exact ((HS.out _).alloc _).drew | exact (HS.out _).drew.alloc _
    · first | exact ((HSB.out _).alloc (by simp; omega) _).drew | exact (HSB.out _).drew.alloc (by simp; omega) _
    · exact (((Keep.refl W (fun k => k = Ba)).setCell ⟨Ba, 1, none⟩ (fun _ => rfl) _).alloc _).drew
  · have HG := Lib.hid (show gone at' ⟨xi, xe⟩ = false from decide_eq_false hg)
    have HF := Lib.hid (show relF at' hs fr ⟨xi, xe⟩ = fr by unfold relF; rw [HG.out]; rfl)
    have hg2 : decide (xe ≤ at') = false := decide_eq_false hg
    unfold Rel1P
    rw [HG.out, HF.out]
    clear hxr hN HS HSB
    go_enter Tryd.func38, Tryd.ntmps38
    go_wp2_with fail
    go_ret
    exact ⟨rfl, H.out, HB.out, (Keep.refl W _).alloc _⟩
end
end Go.Proofs.YtfgdkeomjplnnaaDoor

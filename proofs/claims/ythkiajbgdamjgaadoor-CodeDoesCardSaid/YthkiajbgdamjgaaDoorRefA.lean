/- The reference's chooser: low, home, add. -/
import Derived.Test.YthkiajbgdamjgaaDoorCodC
namespace Go.Proofs.YthkiajbgdamjgaaDoor
open Go.RowKit

theorem wrap64_in (x : Int) (h0 : -9223372036854775808 ≤ x) (h1 : x ≤ 9223372036854775807) : wrap64 x = x := by
  unfold wrap64; omega
theorem low_mid (n : Int) : ∃ q : Int, (wrap64 (n.tmod 4294967296 + 4294967296)).tmod 4294967296 = n + 4294967296 * q ∧ 0 ≤ n + 4294967296 * q ∧ n + 4294967296 * q < 4294967296 := by
  have a0 := Int.tmod_lt_of_pos n (b := 4294967296) (by decide)
  have a1 := Int.lt_tmod_of_pos n (b := 4294967296) (by decide)
  have a2 := Int.mul_tdiv_add_tmod n 4294967296
  rw [wrap64_in _ (by omega) (by omega), Int.tmod_eq_emod_of_nonneg (by omega)]
  refine ⟨(n.tmod 4294967296 + 4294967296 - n) / 4294967296 - (n.tmod 4294967296 + 4294967296) / 4294967296, ?_⟩
  omega
theorem low_big (n : Int) : wrap32 (wrap64 ((wrap64 (n.tmod 4294967296 + 4294967296)).tmod 4294967296 - 4294967296)) = wrap32 n := by
  obtain ⟨q, h, h0, h1⟩ := low_mid n
  rw [h, wrap64_in _ (by omega) (by omega)]
  unfold wrap32
  omega
theorem low_small (n : Int) : wrap32 ((wrap64 (n.tmod 4294967296 + 4294967296)).tmod 4294967296) = wrap32 n := by
  obtain ⟨q, h, h0, h1⟩ := low_mid n
  rw [h]
  unfold wrap32
  omega

set_option maxRecDepth 100000 in
set_option maxHeartbeats 3200000 in
theorem low_any (w : World) (n : Int) :
    Calls Tryd.prog 49 #[.int .i64 n] w fun e w' => e = .returned (.int .i32 (wrap32 n)) ∧ w = w' := by
  have e1 := low_big n
  have e2 := low_small n
  have E1 := Lib.hid e1
  have E2 := Lib.hid e2
  clear e1 e2
  go_enter Tryd.func49, Tryd.ntmps49
  go_wp2
  · go_ret
    rw [E1.out]
    exact ⟨rfl, rfl⟩
  · go_ret
    rw [E2.out]
    exact ⟨rfl, rfl⟩

/-- The block g is the reference's chooser. -/
structure RCho (w : World) (g base : Nat) (A : Option Addr) (hs : List HV) (hc : Nat) (bs : Int) (ov : Value) (out : List C5) : Prop where
  blk : Blk w g 69 #[.slice A hs.length hc, .int .i64 bs, ov]
  own : w.ownsRow base 49 5 ov out.length (codeCells out)
  homes : RepH w base A hs
  low : base ≤ w.heap.size
  lowg : base ≤ g
  many : hs.length < 1000000000000000000
section
variable {w w' : World} {S : Nat → Prop} {g base hc : Nat} {A : Option Addr} {hs : List HV} {bs : Int} {ov ov' : Value} {out : List C5}
theorem RCho.keep (h : RCho w g base A hs hc bs ov out) (hk : Keep w w' S) (hg : ¬ S g) (ha : ∀ k, ov.ownBlock = some k → ¬ S k) (hb : ∀ k, k < base → ¬ S k) : RCho w' g base A hs hc bs ov out :=
  ⟨hk.blk h.blk hg, hk.row h.own ha, h.homes.kept hk h.low hb, Nat.le_trans h.low hk.size, h.lowg, h.many⟩
theorem RCho.alloc (h : RCho w g base A hs hc bs ov out) (o : Obj) : RCho (w.alloc o) g base A hs hc bs ov out :=
  h.keep (S := fun _ => False) ((Keep.refl w _).alloc o) (fun h => h) (fun _ _ h => h) (fun _ _ h => h)
theorem RCho.drew (h : RCho w g base A hs hc bs ov out) : RCho w.drew g base A hs hc bs ov out := ⟨h.blk, h.own, h.homes, h.low, h.lowg, h.many⟩
theorem RCho.drewN (h : RCho w g base A hs hc bs ov out) (n : Nat) : RCho (w.drewN n) g base A hs hc bs ov out := ⟨h.blk, h.own, h.homes, h.low, h.lowg, h.many⟩
/-- A block of the caller's own is none of the chooser's. -/
theorem CS.rblk (h : CS w w' g ov ov') (hl : RCho w g base A hs hc bs ov out) {k : Nat} {t : TypeId} {cs : Array Value} (hb : Blk w k t cs)
    (h1 : t ≠ 69) (h2 : t ≠ 49 ∨ ov.ownBlock ≠ some k) : Blk w' k t cs :=
  h.keep.blk hb (fun hc => by
    rcases hc with hc | hc
    · exact hb.ne_ty hl.blk h1 hc
    · rcases h2 with h2 | h2
      · exact hb.ne_own hl.own (fun e => h2 e.symm) hc
      · exact h2 hc)
end

set_option maxRecDepth 100000 in
set_option maxHeartbeats 3200000 in
theorem rhome_any (w : World) (g base : Nat) (A : Option Addr) (hs : List HV) (hc : Nat) (bs : Int) (ov : Value) (out : List C5) (v : Int)
    (hl : RCho w g base A hs hc bs ov out) :
    Calls Tryd.prog 62 #[.pointer (some ⟨g, 0, none⟩), .int .i64 v] w fun e w' => e = .returned (.agg #[.bool (homeOf hs v).isSlot, .int .i64 (homeOf hs v).n]) ∧ w.alloc (.cells #[.bool (homeOf hs v).isSlot, .int .i64 (homeOf hs v).n] 36) = w' := by
  have hglt := hl.blk.lt
  have l9 := hl.blk.cell 0
  simp at l9
  have hmany := hl.many
  have hlow := hl.low
  by_cases h0 : 0 ≤ v
  · by_cases h1 : v < hs.length
    · obtain ⟨k, rfl⟩ := Int.eq_ofNat_of_zero_le h0
      have hk : k < hs.length := by omega
      obtain ⟨b, o, rfl, hb, hall⟩ := hl.homes (by intro h; rw [h] at hk; simp at hk)
      obtain ⟨x, hx⟩ : ∃ x, hs[k]? = some x := ⟨hs[k], by simp [hk]⟩
      obtain ⟨c0, c1⟩ := hall k x hx
      have hh : homeOf hs (k : Int) = x := by simp [homeOf, hx]
      rw [hh]
      have hblt : b < w.heap.size := by omega
      clear hall hx hh
      go_enter Tryd.func62, Tryd.ntmps62
      go_wp2
      exact bodyPost_ret (v := .agg #[.bool x.isSlot, .int .i64 x.n]) (by simp [results, Tryd.results62, go_sem]) rfl ⟨rfl, rfl⟩
    · have hh : homeOf hs v = ⟨false, 0⟩ := by
        unfold homeOf
        rw [if_pos h0, List.getElem?_eq_none (by omega)]
        rfl
      rw [hh]
      clear hh
      go_enter Tryd.func62, Tryd.ntmps62
      go_wp2
      exact bodyPost_ret (v := .agg #[.bool false, .int .i64 0]) (by simp [results, Tryd.results62, go_sem]) rfl ⟨rfl, rfl⟩
  · have hh : homeOf hs v = ⟨false, 0⟩ := by
      unfold homeOf
      rw [if_neg h0]
    rw [hh]
    clear hh
    go_enter Tryd.func62, Tryd.ntmps62
    go_wp2
    exact bodyPost_ret (v := .agg #[.bool false, .int .i64 0]) (by simp [results, Tryd.results62, go_sem]) rfl ⟨rfl, rfl⟩
end Go.Proofs.YthkiajbgdamjgaaDoor

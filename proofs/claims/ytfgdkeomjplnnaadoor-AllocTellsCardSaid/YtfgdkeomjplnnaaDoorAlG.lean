/- slices.IndexFunc and DeleteFunc over the allocator's row, with release's closure. Conditions: sizes. -/
import Derived.Test.YtfgdkeomjplnnaaDoorAlF
import Derived.Laws.IdiomCopy
import Derived.Lib.SliceRun
namespace Go.Proofs.YtfgdkeomjplnnaaDoor
set_option linter.unusedVariables false
open Go.RowKit
attribute [local irreducible] Blk
theorem take_snoc' {α : Type} {l : List α} {k : Nat} {x : α} (h : l[k]? = some x) : l.take (k + 1) = l.take k ++ [x] := by
  obtain ⟨hk, rfl⟩ := List.getElem?_eq_some_iff.1 h
  rw [List.take_succ_eq_append_getElem hk]
def keptL (at' : Int) (es : List Hd) : List Hd := es.filter (fun x => !gone at' x)
def relL (at' : Int) (hs : List Hm) (fr : Nat) (es : List Hd) : Nat := es.foldl (relF at' hs) fr
theorem kept_snoc {at' : Int} {es : List Hd} {k : Nat} {x : Hd} (h : es[k]? = some x) : keptL at' (es.take (k + 1)) = keptL at' (es.take k) ++ (if gone at' x then [] else [x]) := by
  unfold keptL
  rw [take_snoc' h, List.filter_append]
  cases hg : gone at' x <;> simp [hg]
theorem rel_snoc {at' : Int} {hs : List Hm} {fr : Nat} {es : List Hd} {k : Nat} {x : Hd} (h : es[k]? = some x) : relL at' hs fr (es.take (k + 1)) = relF at' hs (relL at' hs fr (es.take k)) x := by
  unfold relL
  rw [take_snoc' h, List.foldl_append]
  rfl
theorem relF_lt {at' : Int} {hs : List Hm} {fr : Nat} {x : Hd} (hx : HasReg hs x) (hf : fr < 64) : relF at' hs fr x < 64 := by
  obtain ⟨r, hr, hxr⟩ := hx
  unfold relF
  split
  · rw [show hmN hs x.i = r by unfold hmN; rw [hxr]; simp]
    exact (or_u64 fr (2 ^ r) hf (pow6 hr).1).2
  · exact hf
theorem relL_lt {at' : Int} {hs : List Hm} : ∀ (es : List Hd) {fr : Nat}, (∀ x ∈ es, HasReg hs x) → fr < 64 → relL at' hs fr es < 64
  | [], fr, _, hf => hf
  | x :: r, fr, h, hf => relL_lt r (fr := relF at' hs fr x) (fun y hy => h y (List.mem_cons_of_mem _ hy)) (relF_lt (h x (by simp)) hf)
theorem rel_none {at' : Int} {hs : List Hm} : ∀ (es : List Hd) (fr : Nat), (∀ x ∈ es, gone at' x = false) → relL at' hs fr es = fr ∧ keptL at' es = es
  | [], fr, _ => ⟨rfl, rfl⟩
  | x :: r, fr, h => by
    have h1 := h x (by simp)
    obtain ⟨h2, h3⟩ := rel_none (hs := hs) r fr (fun y hy => h y (List.mem_cons_of_mem _ hy))
    refine ⟨?_, ?_⟩
    · show relL at' hs (relF at' hs fr x) r = fr
      rw [show relF at' hs fr x = fr by unfold relF; rw [h1]; rfl]
      exact h2
    · unfold keptL at *
      rw [List.filter_cons, h1]
      simp only [Bool.not_false, if_true]
      rw [h3]
section
variable {B0 : Nat} {W : World} {Ba Bh : Nat} {ev : Value} {es : List Hd} {fr : Nat} {hs : List Hm} {sl b2 b3 : Nat} {at' : Int}
def IdxP (B0 : Nat) (W : World) (Ba Bh : Nat) (ev : Value) (es : List Hd) (fr : Nat) (hs : List Hm) (sl b2 b3 : Nat) (at' : Int) (e : Ending) (w' : World) : Prop :=
  ((e = .returned (.int .i64 (-1)) ∧ (∀ x ∈ es, gone at' x = false) ∧ RlW B0 w' Ba Bh ev es fr hs sl b2 b3 at') ∨
    ∃ (k : Nat) (x : Hd), es[k]? = some x ∧ e = .returned (.int .i64 (k : Int)) ∧ gone at' x = true ∧ (∀ y ∈ es.take k, gone at' y = false) ∧ RlW B0 w' Ba Bh ev es (relF at' hs fr x) hs sl b2 b3 at') ∧ Below B0 W w'
theorem mem_take_snoc {es : List Hd} {k : Nat} {x y : Hd} (h : es[k]? = some x) (hy : y ∈ es.take (k + 1)) : y ∈ es.take k ∨ y = x := by
  rw [take_snoc' h, List.mem_append, List.mem_singleton] at hy
  exact hy
set_option maxRecDepth 100000 in
set_option maxHeartbeats 1600000 in
theorem idx_any (h : RlW B0 W Ba Bh ev es fr hs sl b2 b3 at') (hx : ∀ x ∈ es, HasReg hs x) (hf : fr < 64) (hl : hs.length ≤ 1000000) (hn : es.length ≤ 6) :
    Calls Tryd.prog 51 #[ev, .func (.func 38) #[] #[.pointer (some ⟨b3, 0, none⟩), .pointer (some ⟨b2, 0, none⟩)]] W (IdxP B0 W Ba Bh ev es fr hs sl b2 b3 at') := by
  have H := Lib.hid h
  have HX := Lib.hid hx
  obtain ⟨a0, cp0, rfl⟩ := h.al.ev_slice
  clear h hx
  go_enter Tryd.func51, Tryd.ntmps51
  go_wp2_with fail
  go_loopw [8] (fun kv wr => ∃ k : Nat, kv = .int .i64 (k : Int) ∧ k ≤ es.length ∧ Hid (∀ y ∈ es.take k, gone at' y = false) ∧ Hid (RlW B0 wr Ba Bh (.slice a0 es.length cp0) es fr hs sl b2 b3 at' ∧ Below B0 W wr)) (fun kv _ => es.length - (intOf kv).toNat)
  case atStart => exact ⟨0, rfl, Nat.zero_le _, Lib.hid (fun y hy => by simp at hy), Lib.hid ⟨H.out, Below.refl _ _⟩⟩
  case round =>
    obtain ⟨k, rfl, hk, HG, HA⟩ := hrel
    by_cases hlt : k < es.length
    · obtain ⟨x, hx⟩ : ∃ x, es[k]? = some x := ⟨es[k], List.getElem?_eq_getElem hlt⟩
      obtain ⟨g, cap, hev, hcap, hg0, hg1, hga, hgh, hcs, hfz⟩ := HA.out.1.al.form (by intro e; rw [e] at hlt; simp at hlt)
      obtain ⟨rfl, rfl⟩ : a0 = some ⟨g, 0, none⟩ ∧ cp0 = cap := by simpa using hev
      obtain ⟨x0, x1⟩ := hcs k x hx
      have HR := Lib.hid (rel1_any HA.out.1 x (HX.out x (List.mem_of_getElem? hx)) hf hl)
      have k0 : (0 : Int) ≤ (k : Int) := by omega
      have k1 : (k : Int) < (es.length : Int) := by omega
      have HXX := Lib.hid hx
      clear hev hcs hfz hx
      unfold Rel1P at HR
      cases hgn : gone at' x with
      | true =>
        rw [hgn] at HR
        have HGN := Lib.hid hgn
        clear hgn
        obtain ⟨xi, xe⟩ := x
        simp only at x0 x1 HR
        go_wp2_with fail
        refine HR.out.mono ?_
        rintro e w2 ⟨rfl, h2, hb2, _⟩
        have H2 := Lib.hid h2
        have HB2 := Lib.hid hb2
        clear h2 hb2
        go_wp2_with fail
        go_ret
        exact ⟨.inr ⟨k, _, HXX.out, rfl, HGN.out, HG.out, H2.out⟩, HA.out.2.trans HB2.out⟩
      | false =>
        rw [hgn] at HR
        have HGN := Lib.hid hgn
        have HF := Lib.hid (show relF at' hs fr x = fr by unfold relF; rw [hgn]; rfl)
        clear hgn
        obtain ⟨xi, xe⟩ := x
        simp only at x0 x1 HR HF
        rw [HF.out] at HR
        go_wp2_with fail
        refine HR.out.mono ?_
        rintro e w2 ⟨rfl, h2, hb2, _⟩
        have H2 := Lib.hid h2
        have HB2 := Lib.hid hb2
        clear h2 hb2
        go_wp2_with fail
        refine ⟨⟨k + 1, rfl, by omega, Lib.hid (fun y hy => ?_), Lib.hid ⟨H2.out, HA.out.2.trans HB2.out⟩⟩, by simp [intOf]; omega⟩
        rcases mem_take_snoc HXX.out hy with h | rfl
        · exact HG.out y h
        · exact HGN.out
    · have hke : k = es.length := by omega
      subst hke
      go_wp2_with fail
      go_ret
      refine ⟨.inl ⟨rfl, ?_, HA.out.1⟩, HA.out.2⟩
      have := HG.out
      rw [List.take_length] at this
      exact this
end
end Go.Proofs.YtfgdkeomjplnnaaDoor

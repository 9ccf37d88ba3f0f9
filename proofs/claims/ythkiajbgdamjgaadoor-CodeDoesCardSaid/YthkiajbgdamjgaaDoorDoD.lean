/- The law's means and do, each of whatever kind, as one contract; the chosen instructions are in range. Conditions: drawn instructions; homes in range. -/
import Derived.Test.YthkiajbgdamjgaaDoorDoC2
import Derived.Test.YthkiajbgdamjgaaDoorDoP
namespace Go.Proofs.YthkiajbgdamjgaaDoor
open Go.RowKit
set_option linter.unusedVariables false
set_option linter.unusedSimpArgs false
attribute [local irreducible] Blk

theorem means_o {w w' : World} {g gv base : Nat} {f : Nat → Int} {ov : Value} {os : List Int} {tr : Int} {vf : Nat → Int} {e : Ending} (h : Means w g gv f ov tr vf e w') (hO : OutR w base ov os) (hog : ov.ownBlock ≠ some g) (hogv : ov.ownBlock ≠ some gv) : MeansO w g gv base ov f os tr vf e w' :=
  ⟨h.1, ov, h.2.1, h.2.2.1, hO.keep h.2.2.2 (fun k hk hc => by rcases hc with rfl | rfl; exact hog hk; exact hogv hk), h.2.2.2.mono (fun k _ hc => by rcases hc with hc | hc; exact .inl hc; exact .inr (.inl hc)), Fresh.refl _ _⟩
theorem does_o {w w' : World} {g base : Nat} {f : Nat → Int} {ov : Value} {os : List Int} {tr : Int} {e : Ending} (h : Does w g f ov tr e w') (hO : OutR w base ov os) (hog : ov.ownBlock ≠ some g) : DoesO w g base ov f os tr e w' :=
  ⟨h.1, ov, h.2.1, hO.keep h.2.2 (fun k hk hc => by subst hc; exact hog hk), h.2.2.mono (fun k _ hc => .inl hc), Fresh.refl _ _⟩
theorem cellOk_iff (n i : Int) (n0 : 0 ≤ n) : cellOk n i = true ↔ (0 ≤ i ∧ i < n % 128) := by
  unfold cellOk
  rw [Int.tmod_eq_emod_of_nonneg n0]
  simp
theorem cellOk_no (n i : Int) (n0 : 0 ≤ n) (h : ¬ cellOk n i = true) : i < 0 ∨ n % 128 ≤ i := by
  rw [cellOk_iff n i n0] at h
  omega
theorem nof {z : Int} (h0 : 0 ≤ z) (h1 : z < 8) : ∃ n : Nat, z = (n : Int) ∧ n < 8 := ⟨z.toNat, by omega, by omega⟩
theorem nof2 {z : Int} {m : Nat} (h0 : 0 ≤ z) (h1 : z < (m : Int)) : ∃ n : Nat, z = (n : Int) ∧ n < m := ⟨z.toNat, by omega, by omega⟩
/-- An instruction of the machine that do takes. -/
structure okC (c : C5) : Prop where
  a0 : 0 ≤ c.a
  a1 : c.a < 8
  b0 : 0 ≤ c.b
  b1 : c.b < 8
  c0 : 0 ≤ c.c
  c1 : c.c < 8
  rest : (c.op = 2 ∧ -2147483648 ≤ c.n ∧ c.n ≤ 2147483647) ∨ (c.op = 3 ∧ -2147483648 ≤ c.n ∧ c.n ≤ 2147483647) ∨ (c.op = 4 ∧ 36 ≤ c.n ∧ c.n < 100) ∨ (c.op = 5 ∧ 0 ≤ c.n ∧ c.n < 100) ∨ (c.op = 6 ∧ 0 ≤ c.n ∧ c.n < 16) ∨ (c.op = 7 ∧ 0 ≤ c.n ∧ c.n < 16) ∨ (c.op = 8 ∧ 0 ≤ c.n ∧ c.n ≤ 2147483647) ∨ (c.op = 9 ∧ 0 ≤ c.n ∧ c.n ≤ 2147483647) ∨ (c.op = 10 ∧ 0 ≤ c.n ∧ c.n < 16) ∨ (c.op = 19 ∧ 0 ≤ c.n ∧ c.n < 16) ∨ (c.op = 11 ∧ 0 ≤ c.n ∧ c.n < 16) ∨ (c.op = 17 ∧ 0 ≤ c.n ∧ c.n < 16) ∨ (c.op = 21 ∧ 0 ≤ c.n ∧ c.n < 16) ∨ (c.op = 14 ∧ 0 ≤ c.n ∧ c.n < 16) ∨ (c.op = 12 ∧ 0 ≤ c.n ∧ c.n < 40) ∨ (c.op = 13 ∧ 0 ≤ c.n ∧ c.n < 40)
set_option maxHeartbeats 1600000 in
theorem do_any (w : World) (g base : Nat) (c : C5) (hc : okC c) (s : M) (ov : Value) (hS : StF w g s.f ov s.tr) (hO : OutR w base ov s.os) (hog : ov.ownBlock ≠ some g) (hol : s.os.length < 1000000000) :
    Calls Tryd.prog 14 #[.pointer (some ⟨g, 0, none⟩), .agg #[.int .u8 c.op, .int .u8 c.a, .int .u8 c.b, .int .u8 c.c, .int .i32 c.n]] w (DoesO w g base ov (doM c s).f (doM c s).os (doM c s).tr) := by
  obtain ⟨op, a, b, d, n⟩ := c
  obtain ⟨f, os, tr⟩ := s
  obtain ⟨a0, a1, b0, b1, c0, c1, hr⟩ := hc
  simp only at a0 a1 b0 b1 c0 c1 hr hS hO hol ⊢
  obtain ⟨a, rfl, ha⟩ := nof a0 a1
  obtain ⟨b, rfl, hb⟩ := nof b0 b1
  obtain ⟨d, rfl, hd⟩ := nof c0 c1
  clear a0 a1 b0 b1 c0 c1
  rcases hr with ⟨rfl, n0, n1⟩ | ⟨rfl, n0, n1⟩ | ⟨rfl, n0, n1⟩ | ⟨rfl, n0, n1⟩ | ⟨rfl, n0, n1⟩ | ⟨rfl, n0, n1⟩ | ⟨rfl, n0, n1⟩ | ⟨rfl, n0, n1⟩ | ⟨rfl, n0, n1⟩ | ⟨rfl, n0, n1⟩ | ⟨rfl, n0, n1⟩ | ⟨rfl, n0, n1⟩ | ⟨rfl, n0, n1⟩ | ⟨rfl, n0, n1⟩ | ⟨rfl, n0, n1⟩ | ⟨rfl, n0, n1⟩
  · have e : doM ⟨2, (a : Int), (b : Int), (d : Int), n⟩ ⟨f, os, tr⟩ = ⟨upd f a n, os, tr⟩ := by simp [doM]
    rw [e]
    exact (do_2 w g f ov tr a b d n ha hb hd n0 n1 hS).mono fun e w' h => does_o h hO hog
  · have e : doM ⟨3, (a : Int), (b : Int), (d : Int), n⟩ ⟨f, os, tr⟩ = ⟨upd f a (f b), os, tr⟩ := by simp [doM]
    rw [e]
    exact (do_3 w g f ov tr a b d n ha hb hd n0 n1 hS).mono fun e w' h => does_o h hO hog
  · by_cases hbb : binB (n / 4) (f d) = true
    · have e : doM ⟨4, (a : Int), (b : Int), (d : Int), n⟩ ⟨f, os, tr⟩ = ⟨upd f a (binV (n / 4) (n % 4) (f b) (f d)), os, tr⟩ := by simp [doM, hbb]
      rw [e]
      exact (do_4y w g f ov tr a b d n ha hb hd n0 n1 hbb hS).mono fun e w' h => does_o h hO hog
    · have e : doM ⟨4, (a : Int), (b : Int), (d : Int), n⟩ ⟨f, os, tr⟩ = ⟨f, os, 2⟩ := by simp [doM, hbb]
      rw [e]
      exact (do_4n w g f ov tr a b d n ha hb hd n0 n1 (by simpa using hbb) hS).mono fun e w' h => does_o h hO hog
  · have e : doM ⟨5, (a : Int), (b : Int), (d : Int), n⟩ ⟨f, os, tr⟩ = ⟨upd f a (unF (n / 4) (n % 4) (f b)), os, tr⟩ := by simp [doM]
    rw [e]
    exact (do_5 w g f ov tr a b d n ha hb hd n0 n1 hS).mono fun e w' h => does_o h hO hog
  · obtain ⟨n, rfl, hn⟩ := nof2 (m := 16) n0 n1
    clear n0 n1
    have e : doM ⟨6, (a : Int), (b : Int), (d : Int), (n : Int)⟩ ⟨f, os, tr⟩ = ⟨upd f a (f (48 + n)), os, tr⟩ := by simp [doM]
    rw [e]
    exact (do_6 w g f ov tr a b d n ha hb hd hn hS).mono fun e w' h => does_o h hO hog
  · obtain ⟨n, rfl, hn⟩ := nof2 (m := 16) n0 n1
    clear n0 n1
    have e : doM ⟨7, (a : Int), (b : Int), (d : Int), (n : Int)⟩ ⟨f, os, tr⟩ = ⟨upd f (48 + n) (f a), os, tr⟩ := by simp [doM]
    rw [e]
    exact (do_7 w g f ov tr a b d n ha hb hd hn hS).mono fun e w' h => does_o h hO hog
  · by_cases hbb : cellOk n (f b) = true
    · have e : doM ⟨8, (a : Int), (b : Int), (d : Int), n⟩ ⟨f, os, tr⟩ = ⟨upd f a (f (48 + (cellAt n (f b)).toNat)), os, tr⟩ := by simp [doM, hbb]
      rw [e]
      exact (do_8y w g f ov tr a b d n ha hb hd n0 n1 ((cellOk_iff _ _ n0).1 hbb).1 ((cellOk_iff _ _ n0).1 hbb).2 hS).mono fun e w' h => does_o h hO hog
    · have e : doM ⟨8, (a : Int), (b : Int), (d : Int), n⟩ ⟨f, os, tr⟩ = ⟨f, os, 3⟩ := by simp [doM, hbb]
      rw [e]
      exact (do_8n w g f ov tr a b d n ha hb hd n0 n1 (cellOk_no _ _ n0 hbb) hS).mono fun e w' h => does_o h hO hog
  · by_cases hbb : cellOk n (f b) = true
    · have e : doM ⟨9, (a : Int), (b : Int), (d : Int), n⟩ ⟨f, os, tr⟩ = ⟨upd f (48 + (cellAt n (f b)).toNat) (f a), os, tr⟩ := by simp [doM, hbb]
      rw [e]
      exact (do_9y w g f ov tr a b d n ha hb hd n0 n1 ((cellOk_iff _ _ n0).1 hbb).1 ((cellOk_iff _ _ n0).1 hbb).2 hS).mono fun e w' h => does_o h hO hog
    · have e : doM ⟨9, (a : Int), (b : Int), (d : Int), n⟩ ⟨f, os, tr⟩ = ⟨f, os, 3⟩ := by simp [doM, hbb]
      rw [e]
      exact (do_9n w g f ov tr a b d n ha hb hd n0 n1 (cellOk_no _ _ n0 hbb) hS).mono fun e w' h => does_o h hO hog
  · obtain ⟨n, rfl, hn⟩ := nof2 (m := 16) n0 n1
    clear n0 n1
    have e : doM ⟨10, (a : Int), (b : Int), (d : Int), (n : Int)⟩ ⟨f, os, tr⟩ = ⟨upd f a (1000 + (n : Int) * 7), os, tr⟩ := by simp [doM]
    rw [e]
    exact (do_10 w g f ov tr a b d n ha hb hd hn hS).mono fun e w' h => does_o h hO hog
  · obtain ⟨n, rfl, hn⟩ := nof2 (m := 16) n0 n1
    clear n0 n1
    have e : doM ⟨19, (a : Int), (b : Int), (d : Int), (n : Int)⟩ ⟨f, os, tr⟩ = ⟨upd f a (1000 + (n : Int) * 7), os, tr⟩ := by simp [doM]
    rw [e]
    exact (do_19 w g f ov tr a b d n ha hb hd hn hS).mono fun e w' h => does_o h hO hog
  · obtain ⟨n, rfl, hn⟩ := nof2 (m := 16) n0 n1
    clear n0 n1
    have e : doM ⟨11, (a : Int), (b : Int), (d : Int), (n : Int)⟩ ⟨f, os, tr⟩ = ⟨f, os ++ [f a, (n : Int)], tr⟩ := by simp [doM]
    rw [e]
    exact do_11 w g f ov tr a b d base os n ha hb hd hn hO hog hol hS
  · obtain ⟨n, rfl, hn⟩ := nof2 (m := 16) n0 n1
    clear n0 n1
    have e : doM ⟨17, (a : Int), (b : Int), (d : Int), (n : Int)⟩ ⟨f, os, tr⟩ = ⟨f, os ++ [f a, (n : Int)], tr⟩ := by simp [doM]
    rw [e]
    exact do_17 w g f ov tr a b d base os n ha hb hd hn hO hog hol hS
  · obtain ⟨n, rfl, hn⟩ := nof2 (m := 16) n0 n1
    clear n0 n1
    have e : doM ⟨21, (a : Int), (b : Int), (d : Int), (n : Int)⟩ ⟨f, os, tr⟩ = ⟨f, os ++ [f a, (n : Int)], tr⟩ := by simp [doM]
    rw [e]
    exact do_21 w g f ov tr a b d base os n ha hb hd hn hO hog hol hS
  · obtain ⟨n, rfl, hn⟩ := nof2 (m := 16) n0 n1
    clear n0 n1
    have e : doM ⟨14, (a : Int), (b : Int), (d : Int), (n : Int)⟩ ⟨f, os, tr⟩ = ⟨upd f (64 + n % 8) (f a), os, tr⟩ := by simp [doM]
    rw [e]
    exact (do_14 w g f ov tr a b d n ha hb hd hn hS).mono fun e w' h => does_o h hO hog
  · obtain ⟨n, rfl, hn⟩ := nof2 (m := 40) n0 n1
    clear n0 n1
    have e : doM ⟨12, (a : Int), (b : Int), (d : Int), (n : Int)⟩ ⟨f, os, tr⟩ = ⟨upd f a (f (8 + n)), os, tr⟩ := by simp [doM]
    rw [e]
    exact (do_12 w g f ov tr a b d n ha hb hd hn hS).mono fun e w' h => does_o h hO hog
  · obtain ⟨n, rfl, hn⟩ := nof2 (m := 40) n0 n1
    clear n0 n1
    have e : doM ⟨13, (a : Int), (b : Int), (d : Int), (n : Int)⟩ ⟨f, os, tr⟩ = ⟨upd f (8 + n) (f a), os, tr⟩ := by simp [doM]
    rw [e]
    exact (do_13 w g f ov tr a b d n ha hb hd hn hS).mono fun e w' h => does_o h hO hog

set_option maxHeartbeats 1600000 in
theorem means_any (w : World) (g gv cap base : Nat) (x : D8) (hx : x.ok) (t : M) (vf : Nat → Int) (ov : Value) (hS : StF w g t.f ov t.tr) (hV : VR w gv vf) (hO : OutR w base ov t.os) (hne : g ≠ gv) (hog : ov.ownBlock ≠ some g) (hogv : ov.ownBlock ≠ some gv) (hol : t.os.length < 1000000000) :
    Calls Tryd.prog 13 #[.pointer (some ⟨g, 0, none⟩), .agg #[.int .i64 (x.op : Int), .int .i64 (x.op2 : Int), .int .i64 (x.ty : Int), .int .i64 (x.d : Int), .int .i64 (x.a : Int), .int .i64 (x.b : Int), .int .i64 (x.n : Int), .int .i64 (x.count : Int), .int .i64 0], .slice (some ⟨gv, 0, none⟩) 8 cap] w
      (MeansO w g gv base ov (meansM x t vf).1.f (meansM x t vf).1.os (meansM x t vf).1.tr (meansM x t vf).2) := by
  obtain ⟨op, op2, ty, d, a, b, n, m⟩ := x
  obtain ⟨f, os, tr⟩ := t
  obtain ⟨hop, hbin, hop2, hty, hd, ha, hb, hn, hc⟩ := hx
  simp only at hop hbin hop2 hty hd ha hb hn hc hS hO hol ⊢
  have n0 : (0 : Int) ≤ (n : Int) := by omega
  have n1 : (n : Int) < 16 := by omega
  have hnn : (0 : Int) ≤ 128 * (n : Int) + (m : Int) := by omega
  have hmm : (128 * (n : Int) + (m : Int)) % 128 = (m : Int) := by omega
  rcases hop with rfl | rfl | rfl | rfl | rfl | rfl | rfl | rfl | rfl | rfl | rfl | rfl | rfl | rfl
  · have e : meansM ⟨1, op2, ty, d, a, b, n, m⟩ ⟨f, os, tr⟩ vf = (⟨f, os, tr⟩, upd vf d (wrap32 n)) := by simp [meansM]
    rw [e]
    exact (means_1 w g gv cap f ov tr vf d a b op2 ty n m 0 hd ha hb hS hV hne).mono fun e w' h => means_o h hO hog hogv
  · have e : meansM ⟨2, op2, ty, d, a, b, n, m⟩ ⟨f, os, tr⟩ vf = (⟨f, os, tr⟩, upd vf d (vf a)) := by simp [meansM]
    rw [e]
    exact (means_2 w g gv cap f ov tr vf d a b op2 ty n m 0 hd ha hb hS hV hne).mono fun e w' h => means_o h hO hog hogv
  · by_cases hbb : binB op2 (vf b) = true
    · have e : meansM ⟨3, op2, ty, d, a, b, n, m⟩ ⟨f, os, tr⟩ vf = (⟨f, os, tr⟩, upd vf d (binV op2 ty (vf a) (vf b))) := by simp [meansM, hbb]
      rw [e]
      exact (means_3y w g gv cap f ov tr vf d a b op2 ty n m 0 hd ha hb (by have := hbin rfl; omega) (by omega) hbb hS hV hne).mono fun e w' h => means_o h hO hog hogv
    · have e : meansM ⟨3, op2, ty, d, a, b, n, m⟩ ⟨f, os, tr⟩ vf = (⟨f, os, 2⟩, vf) := by simp [meansM, hbb]
      rw [e]
      exact (means_3n w g gv cap f ov tr vf d a b op2 ty n m 0 hd ha hb (by have := hbin rfl; omega) (by omega) (by simpa using hbb) hS hV hne).mono fun e w' h => means_o h hO hog hogv
  · have e : meansM ⟨4, op2, ty, d, a, b, n, m⟩ ⟨f, os, tr⟩ vf = (⟨f, os, tr⟩, upd vf d (unF op2 ty (vf a))) := by simp [meansM]
    rw [e]
    exact (means_4 w g gv cap f ov tr vf d a b op2 ty n m 0 hd ha hb hS hV hne).mono fun e w' h => means_o h hO hog hogv
  · have e : meansM ⟨5, op2, ty, d, a, b, n, m⟩ ⟨f, os, tr⟩ vf = (⟨f, os, tr⟩, upd vf d (f (48 + n))) := by simp [meansM]
    rw [e]
    exact (means_5 w g gv cap f ov tr vf d a b n op2 ty m 0 hd ha hb hn hS hV hne).mono fun e w' h => means_o h hO hog hogv
  · have e : meansM ⟨6, op2, ty, d, a, b, n, m⟩ ⟨f, os, tr⟩ vf = (⟨upd f (48 + n) (vf a), os, tr⟩, vf) := by simp [meansM]
    rw [e]
    exact (means_6 w g gv cap f ov tr vf d a b n op2 ty m 0 hd ha hb hn hS hV hne).mono fun e w' h => means_o h hO hog hogv
  · by_cases hbb : cellOk (128 * (n : Int) + (m : Int)) (vf a) = true
    · have e : meansM ⟨7, op2, ty, d, a, b, n, m⟩ ⟨f, os, tr⟩ vf = (⟨f, os, tr⟩, upd vf d (f (48 + (cellAt (128 * (n : Int) + (m : Int)) (vf a)).toNat))) := by simp [meansM, hbb]
      rw [e]
      exact (means_7y w g gv cap f ov tr vf d a b n m op2 ty 0 hd ha hb hn (by omega) ((cellOk_iff _ _ hnn).1 hbb).1 (by have := ((cellOk_iff _ _ hnn).1 hbb).2; omega) hS hV hne).mono fun e w' h => means_o h hO hog hogv
    · have e : meansM ⟨7, op2, ty, d, a, b, n, m⟩ ⟨f, os, tr⟩ vf = (⟨f, os, 3⟩, vf) := by simp [meansM, hbb]
      rw [e]
      exact (means_7n w g gv cap f ov tr vf d a b n m op2 ty 0 hd ha hb hn (by omega) (by have := cellOk_no _ _ hnn hbb; omega) hS hV hne).mono fun e w' h => means_o h hO hog hogv
  · by_cases hbb : cellOk (128 * (n : Int) + (m : Int)) (vf a) = true
    · have e : meansM ⟨8, op2, ty, d, a, b, n, m⟩ ⟨f, os, tr⟩ vf = (⟨upd f (48 + (cellAt (128 * (n : Int) + (m : Int)) (vf a)).toNat) (vf b), os, tr⟩, vf) := by simp [meansM, hbb]
      rw [e]
      exact (means_8y w g gv cap f ov tr vf d a b n m op2 ty 0 hd ha hb hn (by omega) ((cellOk_iff _ _ hnn).1 hbb).1 (by have := ((cellOk_iff _ _ hnn).1 hbb).2; omega) hS hV hne).mono fun e w' h => means_o h hO hog hogv
    · have e : meansM ⟨8, op2, ty, d, a, b, n, m⟩ ⟨f, os, tr⟩ vf = (⟨f, os, 3⟩, vf) := by simp [meansM, hbb]
      rw [e]
      exact (means_8n w g gv cap f ov tr vf d a b n m op2 ty 0 hd ha hb hn (by omega) (by have := cellOk_no _ _ hnn hbb; omega) hS hV hne).mono fun e w' h => means_o h hO hog hogv
  · have e : meansM ⟨9, op2, ty, d, a, b, n, m⟩ ⟨f, os, tr⟩ vf = (⟨f, os, tr⟩, upd vf d (1000 + n * 7)) := by simp [meansM]
    rw [e]
    exact (means_9 w g gv cap f ov tr vf d a b op2 ty n m 0 hd ha hb n0 n1 hS hV hne).mono fun e w' h => means_o h hO hog hogv
  · have e : meansM ⟨10, op2, ty, d, a, b, n, m⟩ ⟨f, os, tr⟩ vf = (⟨f, os ++ [vf a, (n : Int)], tr⟩, vf) := by simp [meansM]
    rw [e]
    exact means_10 w g gv cap f ov tr vf d a b n m op2 ty 0 hd ha hb hn (by omega) base os hO hog hogv hol hS hV hne
  · have e : meansM ⟨11, op2, ty, d, a, b, n, m⟩ ⟨f, os, tr⟩ vf = (⟨upd f (64 + n % 8) (vf a), os, tr⟩, vf) := by simp [meansM]
    rw [e]
    exact (means_11 w g gv cap f ov tr vf d a b n (n % 8) op2 ty m 0 hd ha hb hn rfl hS hV hne).mono fun e w' h => means_o h hO hog hogv
  · have e : meansM ⟨13, op2, ty, d, a, b, n, m⟩ ⟨f, os, tr⟩ vf = (⟨f, os, tr⟩, upd vf d 1000) := by simp [meansM]
    rw [e]
    exact (means_13 w g gv cap f ov tr vf d a b op2 ty n m 0 hd ha hb hS hV hne).mono fun e w' h => means_o h hO hog hogv
  · have e : meansM ⟨14, op2, ty, d, a, b, n, m⟩ ⟨f, os, tr⟩ vf = (⟨f, os ++ [vf a, (n : Int)], tr⟩, vf) := by simp [meansM]
    rw [e]
    exact means_14 w g gv cap f ov tr vf d a b n m op2 ty 0 hd ha hb hn (by omega) base os hO hog hogv hol hS hV hne
  · have e : meansM ⟨16, op2, ty, d, a, b, n, m⟩ ⟨f, os, tr⟩ vf = (⟨f, os ++ [vf a, (n : Int)], tr⟩, vf) := by simp [meansM]
    rw [e]
    exact means_16 w g gv cap f ov tr vf d a b n m op2 ty 0 hd ha hb hn (by omega) base os hO hog hogv hol hS hV hne

theorem readR_ok {hs : List HV} (h : HOk hs) {k : Nat} (hk : k < 8) (into : Int) (hi : 0 ≤ into) (hi2 : into < 8) : 0 ≤ readR hs k into ∧ readR hs k into < 8 := by
  unfold readR
  rcases h.each k hk with ⟨e0, e1, e2⟩ | ⟨e0, e1⟩
  · rw [e0, if_neg (by decide), wreg e1 e2]; omega
  · rw [e0, if_pos rfl]; omega
theorem readL_ok {hs : List HV} (h : HOk hs) {k : Nat} (hk : k < 8) (into : Int) (hi : 0 ≤ into) (hi2 : into < 8) : ∀ c ∈ readL hs 5 k into, okC c := by
  intro c hc
  unfold readL at hc
  rcases h.each k hk with ⟨e0, e1, e2⟩ | ⟨e0, e1⟩
  · rw [e0, if_neg (by decide)] at hc; simp at hc
  · rw [e0, if_pos rfl, e1, wslot hk] at hc
    simp only [List.mem_singleton] at hc
    subst hc
    exact ⟨hi, hi2, by simp, by simp, by simp, by simp, by simp; omega⟩
theorem makeL_ok {hs : List HV} (h : HOk hs) {d : Nat} (hd : d < 8) (X : C5) (hX : ∀ r : Int, 0 ≤ r → r < 8 → okC ⟨X.op, r, X.b, X.c, X.n⟩) : ∀ c ∈ makeL hs 5 d X, okC c := by
  intro c hc
  unfold makeL at hc
  rcases h.each d hd with ⟨e0, e1, e2⟩ | ⟨e0, e1⟩
  · rw [e0, if_neg (by decide), wreg e1 e2] at hc
    simp only [List.mem_singleton] at hc
    subst hc
    exact hX _ e1 (by omega)
  · rw [e0, if_pos rfl, e1, wslot hd] at hc
    simp only [List.mem_cons, List.mem_nil_iff, or_false] at hc
    rcases hc with rfl | rfl
    · exact hX 6 (by decide) (by decide)
    · exact ⟨by simp, by simp, by simp, by simp, by simp, by simp, by simp; omega⟩
theorem app_ok {a b : List C5} (ha : ∀ c ∈ a, okC c) (hb : ∀ c ∈ b, okC c) : ∀ c ∈ a ++ b, okC c := by
  intro c hc
  rcases List.mem_append.1 hc with h | h
  · exact ha c h
  · exact hb c h
theorem one_ok {x : C5} (h : okC x) : ∀ c ∈ [x], okC c := by
  intro c hc
  simp only [List.mem_singleton] at hc
  subst hc
  exact h
theorem w32b (v : Int) : -2147483648 ≤ wrap32 v ∧ wrap32 v ≤ 2147483647 := by unfold wrap32; omega
theorem selL_ok {hs : List HV} (h : HOk hs) (x : D8) (hx : x.ok) : ∀ c ∈ selL x.ins hs 5, okC c := by
  obtain ⟨op, op2, ty, d, a, b, n, count⟩ := x
  obtain ⟨hop, hbin, hop2, hty, hd, ha, hb, hn, hc⟩ := hx
  simp only at hop hbin hop2 hty hd ha hb hn hc
  have A1 := readL_ok h ha 6 (by decide) (by decide)
  have A2 := readR_ok h ha 6 (by decide) (by decide)
  have B1 := readL_ok h hb 7 (by decide) (by decide)
  have B2 := readR_ok h hb 7 (by decide) (by decide)
  have hw := w32b (n : Int)
  rcases hop with rfl | rfl | rfl | rfl | rfl | rfl | rfl | rfl | rfl | rfl | rfl | rfl | rfl | rfl
  · have e : selL (D8.ins ⟨1, op2, ty, d, a, b, n, count⟩) hs 5 = makeL hs 5 d ⟨2, 0, 0, 0, wrap32 n⟩ := by simp [selL, D8.ins]
    rw [e]
    exact makeL_ok h hd _ (fun r r0 r1 => ⟨r0, r1, by simp, by simp, by simp, by simp, .inl ⟨rfl, hw⟩⟩)
  · have e : selL (D8.ins ⟨2, op2, ty, d, a, b, n, count⟩) hs 5 = moveL (D8.ins ⟨2, op2, ty, d, a, b, n, count⟩) hs 5 := by simp [selL, D8.ins]
    rw [e]
    rcases h.each d hd with ⟨e0, e1, e2⟩ | ⟨e0, e1⟩
    · have w1 := wreg e1 e2
      rcases h.each a ha with ⟨a0, a1, a2⟩ | ⟨a0, a1⟩
      · have w2 := wreg a1 a2
        by_cases hda : (homeOf hs d).n = (homeOf hs a).n
        · have ev : moveL (D8.ins ⟨2, op2, ty, d, a, b, n, count⟩) hs 5 = [] := by simp [moveL, D8.ins, e0, a0, hda]
          rw [ev]
          intro c hc
          simp at hc
        · have ev : moveL (D8.ins ⟨2, op2, ty, d, a, b, n, count⟩) hs 5 = [⟨3, (homeOf hs d).n, (homeOf hs a).n, 0, 0⟩] := by simp [moveL, D8.ins, e0, a0, hda, w1, w2]
          rw [ev]
          exact one_ok ⟨e1, by simp only; omega, a1, by simp only; omega, by simp, by simp, by simp⟩
      · have ev : moveL (D8.ins ⟨2, op2, ty, d, a, b, n, count⟩) hs 5 = readL hs 5 a (homeOf hs d).n := by simp [moveL, D8.ins, e0, a0, w1]
        rw [ev]
        exact readL_ok h ha _ e1 (by omega)
    · have w1 := wslot hd
      have ev : moveL (D8.ins ⟨2, op2, ty, d, a, b, n, count⟩) hs 5 = readL hs 5 a 6 ++ [⟨13, readR hs a 6, 0, 0, 5 + 3 * (d : Int)⟩] := by simp [moveL, D8.ins, e0, e1, w1]
      rw [ev]
      exact app_ok A1 (one_ok ⟨A2.1, A2.2, by simp, by simp, by simp, by simp, by simp; omega⟩)
  · have e : selL (D8.ins ⟨3, op2, ty, d, a, b, n, count⟩) hs 5 = readL hs 5 a 6 ++ (readL hs 5 b 7 ++ makeL hs 5 d ⟨4, 0, readR hs a 6, readR hs b 7, 4 * (op2 : Int) + ty⟩) := by rw [← wpack hop2 hty.2]; simp [selL, D8.ins]
    rw [e]
    exact app_ok A1 (app_ok B1 (makeL_ok h hd _ (fun r r0 r1 => ⟨r0, r1, A2.1, A2.2, B2.1, B2.2, by have := hbin rfl; simp; omega⟩)))
  · have e : selL (D8.ins ⟨4, op2, ty, d, a, b, n, count⟩) hs 5 = readL hs 5 a 6 ++ makeL hs 5 d ⟨5, 0, readR hs a 6, 0, 4 * (op2 : Int) + ty⟩ := by rw [← wpack hop2 hty.2]; simp [selL, D8.ins]
    rw [e]
    exact app_ok A1 (makeL_ok h hd _ (fun r r0 r1 => ⟨r0, r1, A2.1, A2.2, by simp, by simp, by simp; omega⟩))
  · have e : selL (D8.ins ⟨5, op2, ty, d, a, b, n, count⟩) hs 5 = makeL hs 5 d ⟨6, 0, 0, 0, (n : Int)⟩ := by rw [← wn hn]; simp [selL, D8.ins]
    rw [e]
    exact makeL_ok h hd _ (fun r r0 r1 => ⟨r0, r1, by simp, by simp, by simp, by simp, by simp; omega⟩)
  · have e : selL (D8.ins ⟨6, op2, ty, d, a, b, n, count⟩) hs 5 = readL hs 5 a 6 ++ [⟨7, readR hs a 6, 0, 0, (n : Int)⟩] := by rw [← wn hn]; simp [selL, D8.ins]
    rw [e]
    exact app_ok A1 (one_ok ⟨A2.1, A2.2, by simp, by simp, by simp, by simp, by simp; omega⟩)
  · have e : selL (D8.ins ⟨7, op2, ty, d, a, b, n, count⟩) hs 5 = readL hs 5 a 6 ++ makeL hs 5 d ⟨8, 0, readR hs a 6, 0, 128 * (n : Int) + count⟩ := by rw [← wcell hn hc.2]; simp [selL, D8.ins]
    rw [e]
    exact app_ok A1 (makeL_ok h hd _ (fun r r0 r1 => ⟨r0, r1, A2.1, A2.2, by simp, by simp, by simp; omega⟩))
  · have e : selL (D8.ins ⟨8, op2, ty, d, a, b, n, count⟩) hs 5 = readL hs 5 a 6 ++ (readL hs 5 b 7 ++ [⟨9, readR hs b 7, readR hs a 6, 0, 128 * (n : Int) + count⟩]) := by rw [← wcell hn hc.2]; simp [selL, D8.ins]
    rw [e]
    exact app_ok A1 (app_ok B1 (one_ok ⟨B2.1, B2.2, A2.1, A2.2, by simp, by simp, by simp; omega⟩))
  · have e : selL (D8.ins ⟨9, op2, ty, d, a, b, n, count⟩) hs 5 = makeL hs 5 d ⟨10, 0, 0, 0, (n : Int)⟩ := by rw [← wn hn]; simp [selL, D8.ins]
    rw [e]
    exact makeL_ok h hd _ (fun r r0 r1 => ⟨r0, r1, by simp, by simp, by simp, by simp, by simp; omega⟩)
  · have e : selL (D8.ins ⟨10, op2, ty, d, a, b, n, count⟩) hs 5 = readL hs 5 a 6 ++ [⟨11, readR hs a 6, 0, 0, (n : Int)⟩] := by rw [← wn hn]; simp [selL, D8.ins]
    rw [e]
    exact app_ok A1 (one_ok ⟨A2.1, A2.2, by simp, by simp, by simp, by simp, by simp; omega⟩)
  · have e : selL (D8.ins ⟨11, op2, ty, d, a, b, n, count⟩) hs 5 = readL hs 5 a 6 ++ [⟨14, readR hs a 6, 0, 0, (n : Int)⟩] := by rw [← wn hn]; simp [selL, D8.ins]
    rw [e]
    exact app_ok A1 (one_ok ⟨A2.1, A2.2, by simp, by simp, by simp, by simp, by simp; omega⟩)
  · have e : selL (D8.ins ⟨13, op2, ty, d, a, b, n, count⟩) hs 5 = makeL hs 5 d ⟨19, 0, 0, 0, 0⟩ := by simp [selL, D8.ins]
    rw [e]
    exact makeL_ok h hd _ (fun r r0 r1 => ⟨r0, r1, by simp, by simp, by simp, by simp, by simp⟩)
  · have e : selL (D8.ins ⟨14, op2, ty, d, a, b, n, count⟩) hs 5 = readL hs 5 a 6 ++ [⟨17, readR hs a 6, 0, 0, (n : Int)⟩] := by rw [← wn hn]; simp [selL, D8.ins]
    rw [e]
    exact app_ok A1 (one_ok ⟨A2.1, A2.2, by simp, by simp, by simp, by simp, by simp; omega⟩)
  · have e : selL (D8.ins ⟨16, op2, ty, d, a, b, n, count⟩) hs 5 = readL hs 5 a 6 ++ [⟨21, readR hs a 6, 0, 0, (n : Int)⟩] := by rw [← wn hn]; simp [selL, D8.ins]
    rw [e]
    exact app_ok A1 (one_ok ⟨A2.1, A2.2, by simp, by simp, by simp, by simp, by simp; omega⟩)
theorem ite_len {p : Prop} [Decidable p] {a b : M} {n : Nat} (ha : a.os.length ≤ n) (hb : b.os.length ≤ n) : (if p then a else b).os.length ≤ n := by split <;> assumption
theorem ite_len2 {p : Prop} [Decidable p] {a b : M × (Nat → Int)} {n : Nat} (ha : a.1.os.length ≤ n) (hb : b.1.os.length ≤ n) : (if p then a else b).1.os.length ≤ n := by split <;> assumption
theorem doM_len (c : C5) (s : M) : (doM c s).os.length ≤ s.os.length + 2 := by
  unfold doM
  repeat' (first | apply ite_len | exact Nat.le_add_right _ _ | (rw [List.length_append]; exact Nat.le_refl _))
theorem meansM_len (x : D8) (t : M) (vf : Nat → Int) : (meansM x t vf).1.os.length ≤ t.os.length + 2 := by
  unfold meansM
  repeat' (first | apply ite_len2 | exact Nat.le_add_right _ _ | (rw [List.length_append]; exact Nat.le_refl _))
end Go.Proofs.YthkiajbgdamjgaaDoor

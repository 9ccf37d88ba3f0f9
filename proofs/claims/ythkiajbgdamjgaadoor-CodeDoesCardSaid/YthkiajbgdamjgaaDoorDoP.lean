/- The simulation of CodeDoes in plain numbers: what the chosen instructions do to homes is what the instruction does to virtual registers. Conditions: eight homes, apart from each other. -/
import Derived.Test.YthkiajbgdamjgaaDoorDoA
import Derived.Test.YthkiajbgdamjgaaDoorCodE
namespace Go.Proofs.YthkiajbgdamjgaaDoor
open Go.RowKit
set_option linter.unusedVariables false
set_option linter.unusedSimpArgs false

/-- 72 numbers, what was put out, the trap. -/
structure M where
  f : Nat → Int
  os : List Int
  tr : Int
/-- One instruction of the machine. -/
def doM (c : C5) (s : M) : M :=
  if c.op = 2 then ⟨upd s.f c.a.toNat c.n, s.os, s.tr⟩ else
  if c.op = 3 then ⟨upd s.f c.a.toNat (s.f c.b.toNat), s.os, s.tr⟩ else
  if c.op = 4 then (if binB (c.n / 4) (s.f c.c.toNat) = true then ⟨upd s.f c.a.toNat (binV (c.n / 4) (c.n % 4) (s.f c.b.toNat) (s.f c.c.toNat)), s.os, s.tr⟩ else ⟨s.f, s.os, 2⟩) else
  if c.op = 5 then ⟨upd s.f c.a.toNat (unF (c.n / 4) (c.n % 4) (s.f c.b.toNat)), s.os, s.tr⟩ else
  if c.op = 6 then ⟨upd s.f c.a.toNat (s.f (48 + c.n.toNat)), s.os, s.tr⟩ else
  if c.op = 7 then ⟨upd s.f (48 + c.n.toNat) (s.f c.a.toNat), s.os, s.tr⟩ else
  if c.op = 8 then (if cellOk c.n (s.f c.b.toNat) = true then ⟨upd s.f c.a.toNat (s.f (48 + (cellAt c.n (s.f c.b.toNat)).toNat)), s.os, s.tr⟩ else ⟨s.f, s.os, 3⟩) else
  if c.op = 9 then (if cellOk c.n (s.f c.b.toNat) = true then ⟨upd s.f (48 + (cellAt c.n (s.f c.b.toNat)).toNat) (s.f c.a.toNat), s.os, s.tr⟩ else ⟨s.f, s.os, 3⟩) else
  if c.op = 10 then ⟨upd s.f c.a.toNat (1000 + c.n * 7), s.os, s.tr⟩ else
  if c.op = 19 then ⟨upd s.f c.a.toNat (1000 + c.n * 7), s.os, s.tr⟩ else
  if c.op = 11 then ⟨s.f, s.os ++ [s.f c.a.toNat, c.n], s.tr⟩ else
  if c.op = 17 then ⟨s.f, s.os ++ [s.f c.a.toNat, c.n], s.tr⟩ else
  if c.op = 21 then ⟨s.f, s.os ++ [s.f c.a.toNat, c.n], s.tr⟩ else
  if c.op = 14 then ⟨upd s.f (64 + c.n.toNat % 8) (s.f c.a.toNat), s.os, s.tr⟩ else
  if c.op = 12 then ⟨upd s.f c.a.toNat (s.f (8 + c.n.toNat)), s.os, s.tr⟩ else
  ⟨upd s.f (8 + c.n.toNat) (s.f c.a.toNat), s.os, s.tr⟩
/-- A run, up to a trap. -/
def runM : List C5 → M → M
  | [], s => s
  | c :: r, s => if s.tr = 0 then runM r (doM c s) else s
theorem runM_stop (l : List C5) (s : M) (h : s.tr ≠ 0) : runM l s = s := by cases l <;> simp [runM, h]
theorem runM_append : ∀ (a b : List C5) (s : M), runM (a ++ b) s = runM b (runM a s)
  | [], b, s => rfl
  | c :: r, b, s => by
    by_cases h : s.tr = 0
    · simp [runM, h, runM_append r b]
    · have e : runM (c :: r) s = s := runM_stop _ _ h
      rw [List.cons_append, runM_stop _ _ h, e, runM_stop _ _ h]
/-- An instruction as it is drawn, in numbers. -/
structure D8 where
  op : Nat
  op2 : Nat
  ty : Nat
  d : Nat
  a : Nat
  b : Nat
  n : Nat
  count : Nat
def D8.ins (x : D8) : I9 := ⟨x.op, x.op2, x.ty, x.d, x.a, x.b, x.n, x.count, 0⟩
structure D8.ok (x : D8) : Prop where
  op : x.op = 1 ∨ x.op = 2 ∨ x.op = 3 ∨ x.op = 4 ∨ x.op = 5 ∨ x.op = 6 ∨ x.op = 7 ∨ x.op = 8 ∨ x.op = 9 ∨ x.op = 10 ∨ x.op = 11 ∨ x.op = 13 ∨ x.op = 14 ∨ x.op = 16
  bin : x.op = 3 → 9 ≤ x.op2 ∧ x.op2 ≤ 24
  op2 : x.op2 ≤ 24
  ty : 1 ≤ x.ty ∧ x.ty ≤ 2
  d : x.d < 8
  a : x.a < 8
  b : x.b < 8
  n : x.n < 16
  count : 1 ≤ x.count ∧ x.count ≤ 9
/-- One instruction of three addresses. -/
def meansM (x : D8) (t : M) (vf : Nat → Int) : M × (Nat → Int) :=
  if x.op = 1 then (t, upd vf x.d (wrap32 x.n)) else
  if x.op = 2 then (t, upd vf x.d (vf x.a)) else
  if x.op = 3 then (if binB x.op2 (vf x.b) = true then (t, upd vf x.d (binV x.op2 x.ty (vf x.a) (vf x.b))) else (⟨t.f, t.os, 2⟩, vf)) else
  if x.op = 4 then (t, upd vf x.d (unF x.op2 x.ty (vf x.a))) else
  if x.op = 5 then (t, upd vf x.d (t.f (48 + x.n))) else
  if x.op = 6 then (⟨upd t.f (48 + x.n) (vf x.a), t.os, t.tr⟩, vf) else
  if x.op = 7 then (if cellOk (128 * x.n + x.count) (vf x.a) = true then (t, upd vf x.d (t.f (48 + (cellAt (128 * x.n + x.count) (vf x.a)).toNat))) else (⟨t.f, t.os, 3⟩, vf)) else
  if x.op = 8 then (if cellOk (128 * x.n + x.count) (vf x.a) = true then (⟨upd t.f (48 + (cellAt (128 * x.n + x.count) (vf x.a)).toNat) (vf x.b), t.os, t.tr⟩, vf) else (⟨t.f, t.os, 3⟩, vf)) else
  if x.op = 9 then (t, upd vf x.d (1000 + x.n * 7)) else
  if x.op = 13 then (t, upd vf x.d 1000) else
  if x.op = 11 then (⟨upd t.f (64 + x.n % 8) (vf x.a), t.os, t.tr⟩, vf) else
  (⟨t.f, t.os ++ [vf x.a, (x.n : Int)], t.tr⟩, vf)
/-- The cell of a home. -/
def locH (hs : List HV) (k : Nat) : Nat := if (homeOf hs k).isSlot then (13 + (homeOf hs k).n).toNat else (homeOf hs k).n.toNat
structure HOk (hs : List HV) : Prop where
  each : ∀ k : Nat, k < 8 → ((homeOf hs k).isSlot = false ∧ 0 ≤ (homeOf hs k).n ∧ (homeOf hs k).n < 6) ∨ ((homeOf hs k).isSlot = true ∧ (homeOf hs k).n = 3 * k)
  inj : ∀ j k : Nat, j < 8 → k < 8 → j ≠ k → locH hs j ≠ locH hs k
structure Rel (hs : List HV) (s t : M) (vf : Nat → Int) : Prop where
  home : ∀ k, k < 8 → s.f (locH hs k) = vf k
  rest : ∀ j, 48 ≤ j → j < 72 → s.f j = t.f j
  os : s.os = t.os
  tr : s.tr = t.tr
theorem upd_same (f : Nat → Int) (k : Nat) (v : Int) : upd f k v k = v := by simp [upd]
theorem upd_ne (f : Nat → Int) {k j : Nat} (v : Int) (h : j ≠ k) : upd f k v j = f j := by simp [upd, h]
section
variable {hs : List HV} {s t : M} {vf : Nat → Int}
theorem HOk.loc (h : HOk hs) {k : Nat} (hk : k < 8) : locH hs k < 6 ∨ (8 ≤ locH hs k ∧ locH hs k < 48) := by
  unfold locH
  rcases h.each k hk with ⟨h0, h1, h2⟩ | ⟨h0, h1⟩
  · rw [h0, if_neg (by decide)]
    left
    omega
  · rw [h0, if_pos rfl, h1]
    right
    omega
theorem wslot {k : Nat} (hk : k < 8) : wrap32 (wrap64 (5 + 3 * (k : Int))) = 5 + 3 * (k : Int) := by unfold wrap32 wrap64; omega
theorem wreg {n : Int} (h0 : 0 ≤ n) (h1 : n < 6) : IntKind.u8.wrap n = n := by
  have : n = 0 ∨ n = 1 ∨ n = 2 ∨ n = 3 ∨ n = 4 ∨ n = 5 := by omega
  rcases this with rfl | rfl | rfl | rfl | rfl | rfl <;> rfl
/-- A read: the register that has a virtual one's value. -/
theorem read_sim (h : HOk hs) (hR : Rel hs s t vf) (h0 : s.tr = 0) {k : Nat} (hk : k < 8) (into : Int) (hi : 6 ≤ into) (hi2 : into < 8) :
    Rel hs (runM (readL hs 5 k into) s) t vf ∧ (runM (readL hs 5 k into) s).tr = 0 ∧ (runM (readL hs 5 k into) s).f (readR hs k into).toNat = vf k ∧ 0 ≤ readR hs k into ∧ readR hs k into < 8 ∧ (readR hs k into < 6 ∨ readR hs k into = into) ∧
      (∀ j, j ≠ into.toNat → (runM (readL hs 5 k into) s).f j = s.f j) := by
  unfold readL readR
  rcases h.each k hk with ⟨e0, e1, e2⟩ | ⟨e0, e1⟩
  · rw [e0, if_neg (by decide), if_neg (by decide), wreg e1 e2]
    have hl : locH hs k = (homeOf hs k).n.toNat := by unfold locH; rw [e0, if_neg (by decide)]
    refine ⟨hR, h0, ?_, e1, by omega, .inl e2, fun j _ => rfl⟩
    show s.f _ = _
    rw [← hl]
    exact hR.home k hk
  · rw [e0, if_pos rfl, if_pos rfl, e1, wslot hk]
    have hl : locH hs k = 8 + (5 + 3 * (k : Int)).toNat := by unfold locH; rw [e0, if_pos rfl, e1]; omega
    have hd : runM [⟨12, into, 0, 0, 5 + 3 * (k : Int)⟩] s = ⟨upd s.f into.toNat (s.f (locH hs k)), s.os, s.tr⟩ := by rw [hl]; simp [runM, h0, doM]
    rw [hd]
    refine ⟨⟨fun j hj => ?_, fun j h1 h2 => ?_, hR.os, hR.tr⟩, h0, ?_, by omega, by omega, .inr rfl, fun j hj => upd_ne _ _ hj⟩
    · show upd s.f _ _ _ = _
      rw [upd_ne _ _ (by have := h.loc hj; omega)]
      exact hR.home j hj
    · show upd s.f _ _ _ = _
      rw [upd_ne _ _ (by omega)]
      exact hR.rest j h1 h2
    · show upd s.f _ _ _ = _
      rw [upd_same]
      exact hR.home k hk
theorem Rel.make (h : HOk hs) (hR : Rel hs s t vf) {d : Nat} (hd : d < 8) (v : Int) : Rel hs ⟨upd s.f (locH hs d) v, s.os, s.tr⟩ t (upd vf d v) := by
  refine ⟨fun j hj => ?_, fun j h1 h2 => ?_, hR.os, hR.tr⟩
  · show upd s.f _ _ _ = _
    by_cases e : j = d
    · subst e
      rw [upd_same, upd_same]
    · rw [upd_ne _ _ (h.inj j d hj hd e), upd_ne _ _ e]
      exact hR.home j hj
  · show upd s.f _ _ _ = _
    rw [upd_ne _ _ (by have := h.loc hd; omega)]
    exact hR.rest j h1 h2
theorem Rel.scratch (h : HOk hs) (hR : Rel hs s t vf) (v : Int) : Rel hs ⟨upd s.f 6 v, s.os, s.tr⟩ t vf := by
  refine ⟨fun j hj => ?_, fun j h1 h2 => ?_, hR.os, hR.tr⟩
  · show upd s.f _ _ _ = _
    rw [upd_ne _ _ (by have := h.loc hj; omega)]
    exact hR.home j hj
  · show upd s.f _ _ _ = _
    rw [upd_ne _ _ (by omega)]
    exact hR.rest j h1 h2
theorem make_sim (h : HOk hs) (hR : Rel hs s t vf) (h0 : s.tr = 0) {d : Nat} (hd : d < 8) (X : C5) (v : Int)
    (hX : ∀ r : Int, 0 ≤ r → r < 8 → doM ⟨X.op, r, X.b, X.c, X.n⟩ s = ⟨upd s.f r.toNat v, s.os, s.tr⟩) :
    Rel hs (runM (makeL hs 5 d X) s) t (upd vf d v) := by
  unfold makeL
  rcases h.each d hd with ⟨e0, e1, e2⟩ | ⟨e0, e1⟩
  · rw [e0, if_neg (by decide), wreg e1 e2]
    have hl : locH hs d = (homeOf hs d).n.toNat := by unfold locH; rw [e0, if_neg (by decide)]
    have hr : runM [⟨X.op, (homeOf hs d).n, X.b, X.c, X.n⟩] s = ⟨upd s.f (locH hs d) v, s.os, s.tr⟩ := by
      rw [hl]
      simp only [runM, h0, if_true]
      rw [hX _ e1 (by omega), h0]
    rw [hr]
    exact hR.make h hd v
  · rw [e0, if_pos rfl, e1, wslot hd]
    have hl : locH hs d = 8 + (5 + 3 * (d : Int)).toNat := by unfold locH; rw [e0, if_pos rfl, e1]; omega
    have hr : runM [⟨X.op, 6, X.b, X.c, X.n⟩, ⟨13, 6, 0, 0, 5 + 3 * (d : Int)⟩] s = ⟨upd (upd s.f 6 v) (locH hs d) v, s.os, s.tr⟩ := by
      rw [hl]
      simp only [runM, h0, if_true]
      rw [hX 6 (by omega) (by omega)]
      simp [h0, doM, upd_same]
    rw [hr]
    exact (hR.scratch h v).make h hd v
theorem make_trap (hR : Rel hs s t vf) (h0 : s.tr = 0) (d : Nat) (X : C5) (q : Int) (hq : q ≠ 0)
    (hX : ∀ r : Int, doM ⟨X.op, r, X.b, X.c, X.n⟩ s = ⟨s.f, s.os, q⟩) :
    Rel hs (runM (makeL hs 5 d X) s) ⟨t.f, t.os, q⟩ vf := by
  unfold makeL
  split
  · simp only [runM, h0, if_true]
    rw [hX, if_neg (by simpa using hq)]
    exact ⟨hR.home, hR.rest, hR.os, rfl⟩
  · simp only [runM, h0, if_true]
    rw [hX]
    exact ⟨hR.home, hR.rest, hR.os, rfl⟩
theorem wpack {a b : Nat} (ha : a ≤ 24) (hb : b ≤ 2) : wrap32 (wrap64 (wrap64 ((a : Int) * 4) + (b : Int))) = 4 * (a : Int) + b := by unfold wrap32 wrap64; omega
theorem wcell {a b : Nat} (ha : a < 16) (hb : b ≤ 9) : wrap32 (wrap64 (wrap64 ((a : Int) * 128) + (b : Int))) = 128 * (a : Int) + b := by unfold wrap32 wrap64; omega
theorem wn {a : Nat} (ha : a < 16) : wrap32 (a : Int) = (a : Int) := by unfold wrap32; omega
theorem pdiv (a b : Nat) (hb : b ≤ 2) : (4 * (a : Int) + b) / 4 = a := by omega
theorem pmod (a b : Nat) (hb : b ≤ 2) : (4 * (a : Int) + b) % 4 = b := by omega
theorem cellAt_bd {n i : Int} : 0 ≤ cellAt n i ∧ cellAt n i < 16 := by unfold cellAt; omega
/-- The simulation. -/
theorem sim (h : HOk hs) (x : D8) (hx : x.ok) (hR : Rel hs s t vf) (h0 : s.tr = 0) :
    Rel hs (runM (selL x.ins hs 5) s) (meansM x t vf).1 (meansM x t vf).2 := by
  obtain ⟨op, op2, ty, d, a, b, n, count⟩ := x
  obtain ⟨hop, hbin, hop2, hty, hd, ha, hb, hn, hc⟩ := hx
  simp only at hop hbin hop2 hty hd ha hb hn hc
  obtain ⟨A1, A2, A3, A4, A5, A6, A7⟩ := read_sim h hR h0 ha 6 (by omega) (by omega)
  obtain ⟨B1, B2, B3, B4, B5, B6, B7⟩ := read_sim h A1 A2 hb 7 (by omega) (by omega)
  have A8 : (runM (readL hs 5 b 7) (runM (readL hs 5 a 6) s)).f (readR hs a 6).toNat = vf a := by rw [B7 _ (by omega)]; exact A3
  rcases hop with rfl | rfl | rfl | rfl | rfl | rfl | rfl | rfl | rfl | rfl | rfl | rfl | rfl | rfl
  · have e : selL (D8.ins ⟨1, op2, ty, d, a, b, n, count⟩) hs 5 = makeL hs 5 d ⟨2, 0, 0, 0, wrap32 n⟩ := by simp [selL, D8.ins]
    rw [e]
    exact make_sim h hR h0 hd _ _ (fun r r0 r1 => by simp [doM])
  · have e : selL (D8.ins ⟨2, op2, ty, d, a, b, n, count⟩) hs 5 = moveL (D8.ins ⟨2, op2, ty, d, a, b, n, count⟩) hs 5 := by simp [selL, D8.ins]
    have em : meansM ⟨2, op2, ty, d, a, b, n, count⟩ t vf = (t, upd vf d (vf a)) := by simp [meansM]
    rw [e, em]
    rcases h.each d hd with ⟨e0, e1, e2⟩ | ⟨e0, e1⟩
    · have hl : locH hs d = (homeOf hs d).n.toNat := by unfold locH; rw [e0, if_neg (by decide)]
      have w1 := wreg e1 e2
      rcases h.each a ha with ⟨a0, a1, a2⟩ | ⟨a0, a1⟩
      · have hla : locH hs a = (homeOf hs a).n.toNat := by unfold locH; rw [a0, if_neg (by decide)]
        have w2 := wreg a1 a2
        by_cases hda : (homeOf hs d).n = (homeOf hs a).n
        · have ev : moveL (D8.ins ⟨2, op2, ty, d, a, b, n, count⟩) hs 5 = [] := by simp [moveL, D8.ins, e0, a0, hda]
          have : d = a := by
            by_cases q : d = a
            · exact q
            · exact absurd (by rw [hl, hla, hda]) (h.inj d a hd ha q)
          subst this
          have eu : upd vf d (vf d) = vf := by funext j; unfold upd; split <;> simp_all
          rw [ev, eu]
          exact hR
        · have ev : moveL (D8.ins ⟨2, op2, ty, d, a, b, n, count⟩) hs 5 = [⟨3, (homeOf hs d).n, (homeOf hs a).n, 0, 0⟩] := by simp [moveL, D8.ins, e0, a0, hda, w1, w2]
          have hr : runM [⟨3, (homeOf hs d).n, (homeOf hs a).n, 0, 0⟩] s = ⟨upd s.f (locH hs d) (vf a), s.os, s.tr⟩ := by
            rw [hl, ← hR.home a ha, hla]
            simp [runM, h0, doM]
          rw [ev, hr]
          exact hR.make h hd _
      · have hla : locH hs a = 8 + (5 + 3 * (a : Int)).toNat := by unfold locH; rw [a0, if_pos rfl, a1]; omega
        have w2 := wslot ha
        have ev : moveL (D8.ins ⟨2, op2, ty, d, a, b, n, count⟩) hs 5 = [⟨12, (homeOf hs d).n, 0, 0, 5 + 3 * (a : Int)⟩] := by simp [moveL, readL, D8.ins, e0, a0, w1, a1, w2]
        have hr : runM [⟨12, (homeOf hs d).n, 0, 0, 5 + 3 * (a : Int)⟩] s = ⟨upd s.f (locH hs d) (vf a), s.os, s.tr⟩ := by
          rw [hl, ← hR.home a ha, hla]
          simp [runM, h0, doM]
        rw [ev, hr]
        exact hR.make h hd _
    · have hl : locH hs d = 8 + (5 + 3 * (d : Int)).toNat := by unfold locH; rw [e0, if_pos rfl, e1]; omega
      have w1 := wslot hd
      have ev : moveL (D8.ins ⟨2, op2, ty, d, a, b, n, count⟩) hs 5 = readL hs 5 a 6 ++ [⟨13, readR hs a 6, 0, 0, 5 + 3 * (d : Int)⟩] := by simp [moveL, D8.ins, e0, e1, w1]
      rw [ev, runM_append]
      have hr : runM [⟨13, readR hs a 6, 0, 0, 5 + 3 * (d : Int)⟩] (runM (readL hs 5 a 6) s) = ⟨upd (runM (readL hs 5 a 6) s).f (locH hs d) (vf a), (runM (readL hs 5 a 6) s).os, (runM (readL hs 5 a 6) s).tr⟩ := by
        rw [hl, ← A3]
        simp [runM, A2, doM]
      rw [hr]
      exact A1.make h hd _
  · have e : selL (D8.ins ⟨3, op2, ty, d, a, b, n, count⟩) hs 5 = readL hs 5 a 6 ++ (readL hs 5 b 7 ++ makeL hs 5 d ⟨4, 0, readR hs a 6, readR hs b 7, 4 * (op2 : Int) + ty⟩) := by
      rw [← wpack hop2 hty.2]
      simp [selL, D8.ins]
    rw [e, runM_append, runM_append]
    by_cases hbb : binB op2 (vf b) = true
    · have em : meansM ⟨3, op2, ty, d, a, b, n, count⟩ t vf = (t, upd vf d (binV op2 ty (vf a) (vf b))) := by simp [meansM, hbb]
      rw [em]
      exact make_sim h B1 B2 hd _ _ (fun r r0 r1 => by simp [doM, pdiv _ _ hty.2, pmod _ _ hty.2, A8, B3, hbb])
    · have em : meansM ⟨3, op2, ty, d, a, b, n, count⟩ t vf = (⟨t.f, t.os, 2⟩, vf) := by simp [meansM, hbb]
      rw [em]
      exact make_trap B1 B2 d _ 2 (by decide) (fun r => by simp [doM, pdiv _ _ hty.2, pmod _ _ hty.2, A8, B3, hbb])
  · have e : selL (D8.ins ⟨4, op2, ty, d, a, b, n, count⟩) hs 5 = readL hs 5 a 6 ++ makeL hs 5 d ⟨5, 0, readR hs a 6, 0, 4 * (op2 : Int) + ty⟩ := by
      rw [← wpack hop2 hty.2]
      simp [selL, D8.ins]
    have em : meansM ⟨4, op2, ty, d, a, b, n, count⟩ t vf = (t, upd vf d (unF op2 ty (vf a))) := by simp [meansM]
    rw [e, em, runM_append]
    exact make_sim h A1 A2 hd _ _ (fun r r0 r1 => by simp [doM, pdiv _ _ hty.2, pmod _ _ hty.2, A3])
  · have e : selL (D8.ins ⟨5, op2, ty, d, a, b, n, count⟩) hs 5 = makeL hs 5 d ⟨6, 0, 0, 0, (n : Int)⟩ := by
      rw [← wn hn]
      simp [selL, D8.ins]
    have em : meansM ⟨5, op2, ty, d, a, b, n, count⟩ t vf = (t, upd vf d (s.f (48 + n))) := by simp [meansM, hR.rest (48 + n) (by omega) (by omega)]
    rw [e, em]
    exact make_sim h hR h0 hd _ _ (fun r r0 r1 => by simp [doM])
  · have e : selL (D8.ins ⟨6, op2, ty, d, a, b, n, count⟩) hs 5 = readL hs 5 a 6 ++ [⟨7, readR hs a 6, 0, 0, (n : Int)⟩] := by
      rw [← wn hn]
      simp [selL, D8.ins]
    have em : meansM ⟨6, op2, ty, d, a, b, n, count⟩ t vf = (⟨upd t.f (48 + n) (vf a), t.os, t.tr⟩, vf) := by simp [meansM]
    rw [e, em, runM_append]
    have hr : runM [⟨7, readR hs a 6, 0, 0, (n : Int)⟩] (runM (readL hs 5 a 6) s) = ⟨upd (runM (readL hs 5 a 6) s).f (48 + n) (vf a), (runM (readL hs 5 a 6) s).os, (runM (readL hs 5 a 6) s).tr⟩ := by
      rw [← A3]
      simp [runM, A2, doM]
    rw [hr]
    refine ⟨fun j hj => ?_, fun j h1 h2 => ?_, A1.os, A1.tr⟩
    · show upd _ _ _ _ = _
      rw [upd_ne _ _ (by have := h.loc hj; omega)]
      exact A1.home j hj
    · show upd _ _ _ _ = upd _ _ _ _
      by_cases q : j = 48 + n
      · rw [q, upd_same, upd_same]
      · rw [upd_ne _ _ q, upd_ne _ _ q]
        exact A1.rest j h1 h2
  · have e : selL (D8.ins ⟨7, op2, ty, d, a, b, n, count⟩) hs 5 = readL hs 5 a 6 ++ makeL hs 5 d ⟨8, 0, readR hs a 6, 0, 128 * (n : Int) + count⟩ := by
      rw [← wcell hn hc.2]
      simp [selL, D8.ins]
    rw [e, runM_append]
    by_cases hbb : cellOk (128 * (n : Int) + count) (vf a) = true
    · have hcb := @cellAt_bd (128 * (n : Int) + count) (vf a)
      have em : meansM ⟨7, op2, ty, d, a, b, n, count⟩ t vf = (t, upd vf d ((runM (readL hs 5 a 6) s).f (48 + (cellAt (128 * (n : Int) + count) (vf a)).toNat))) := by
        rw [A1.rest _ (by omega) (by omega)]
        simp [meansM, hbb]
      rw [em]
      exact make_sim h A1 A2 hd _ _ (fun r r0 r1 => by simp [doM, A3, hbb])
    · have em : meansM ⟨7, op2, ty, d, a, b, n, count⟩ t vf = (⟨t.f, t.os, 3⟩, vf) := by simp [meansM, hbb]
      rw [em]
      exact make_trap A1 A2 d _ 3 (by decide) (fun r => by simp [doM, A3, hbb])
  · have e : selL (D8.ins ⟨8, op2, ty, d, a, b, n, count⟩) hs 5 = readL hs 5 a 6 ++ (readL hs 5 b 7 ++ [⟨9, readR hs b 7, readR hs a 6, 0, 128 * (n : Int) + count⟩]) := by
      rw [← wcell hn hc.2]
      simp [selL, D8.ins]
    rw [e, runM_append, runM_append]
    by_cases hbb : cellOk (128 * (n : Int) + count) (vf a) = true
    · have hcb := @cellAt_bd (128 * (n : Int) + count) (vf a)
      have em : meansM ⟨8, op2, ty, d, a, b, n, count⟩ t vf = (⟨upd t.f (48 + (cellAt (128 * (n : Int) + count) (vf a)).toNat) (vf b), t.os, t.tr⟩, vf) := by simp [meansM, hbb]
      rw [em]
      generalize hW : runM (readL hs 5 b 7) (runM (readL hs 5 a 6) s) = W at *
      have hr : runM [⟨9, readR hs b 7, readR hs a 6, 0, 128 * (n : Int) + count⟩] W = ⟨upd W.f (48 + (cellAt (128 * (n : Int) + count) (vf a)).toNat) (vf b), W.os, W.tr⟩ := by simp [runM, B2, doM, A8, B3, hbb]
      rw [hr]
      refine ⟨fun j hj => ?_, fun j h1 h2 => ?_, B1.os, B1.tr⟩
      · show upd _ _ _ _ = _
        rw [upd_ne _ _ (by have := h.loc hj; omega)]
        exact B1.home j hj
      · show upd _ _ _ _ = upd _ _ _ _
        by_cases q : j = 48 + (cellAt (128 * (n : Int) + count) (vf a)).toNat
        · rw [q, upd_same, upd_same]
        · rw [upd_ne _ _ q, upd_ne _ _ q]
          exact B1.rest j h1 h2
    · have em : meansM ⟨8, op2, ty, d, a, b, n, count⟩ t vf = (⟨t.f, t.os, 3⟩, vf) := by simp [meansM, hbb]
      rw [em]
      generalize hW : runM (readL hs 5 b 7) (runM (readL hs 5 a 6) s) = W at *
      have hr : runM [⟨9, readR hs b 7, readR hs a 6, 0, 128 * (n : Int) + count⟩] W = ⟨W.f, W.os, 3⟩ := by simp [runM, B2, doM, A8, B3, hbb]
      rw [hr]
      exact ⟨B1.home, B1.rest, B1.os, rfl⟩
  · have e : selL (D8.ins ⟨9, op2, ty, d, a, b, n, count⟩) hs 5 = makeL hs 5 d ⟨10, 0, 0, 0, (n : Int)⟩ := by
      rw [← wn hn]
      simp [selL, D8.ins]
    have em : meansM ⟨9, op2, ty, d, a, b, n, count⟩ t vf = (t, upd vf d (1000 + n * 7)) := by simp [meansM]
    rw [e, em]
    exact make_sim h hR h0 hd _ _ (fun r r0 r1 => by simp [doM])
  · have e : selL (D8.ins ⟨10, op2, ty, d, a, b, n, count⟩) hs 5 = readL hs 5 a 6 ++ [⟨11, readR hs a 6, 0, 0, (n : Int)⟩] := by
      rw [← wn hn]
      simp [selL, D8.ins]
    have em : meansM ⟨10, op2, ty, d, a, b, n, count⟩ t vf = (⟨t.f, t.os ++ [vf a, (n : Int)], t.tr⟩, vf) := by simp [meansM]
    rw [e, em, runM_append]
    have hr : runM [⟨11, readR hs a 6, 0, 0, (n : Int)⟩] (runM (readL hs 5 a 6) s) = ⟨(runM (readL hs 5 a 6) s).f, (runM (readL hs 5 a 6) s).os ++ [vf a, (n : Int)], (runM (readL hs 5 a 6) s).tr⟩ := by
      rw [← A3]
      simp [runM, A2, doM]
    rw [hr]
    exact ⟨A1.home, A1.rest, by show _ ++ _ = _ ++ _; rw [A1.os], A1.tr⟩
  · have e : selL (D8.ins ⟨11, op2, ty, d, a, b, n, count⟩) hs 5 = readL hs 5 a 6 ++ [⟨14, readR hs a 6, 0, 0, (n : Int)⟩] := by
      rw [← wn hn]
      simp [selL, D8.ins]
    have em : meansM ⟨11, op2, ty, d, a, b, n, count⟩ t vf = (⟨upd t.f (64 + n % 8) (vf a), t.os, t.tr⟩, vf) := by simp [meansM]
    rw [e, em, runM_append]
    have hr : runM [⟨14, readR hs a 6, 0, 0, (n : Int)⟩] (runM (readL hs 5 a 6) s) = ⟨upd (runM (readL hs 5 a 6) s).f (64 + n % 8) (vf a), (runM (readL hs 5 a 6) s).os, (runM (readL hs 5 a 6) s).tr⟩ := by
      rw [← A3]
      simp [runM, A2, doM]
    rw [hr]
    refine ⟨fun j hj => ?_, fun j h1 h2 => ?_, A1.os, A1.tr⟩
    · show upd _ _ _ _ = _
      rw [upd_ne _ _ (by have := h.loc hj; omega)]
      exact A1.home j hj
    · show upd _ _ _ _ = upd _ _ _ _
      by_cases q : j = 64 + n % 8
      · rw [q, upd_same, upd_same]
      · rw [upd_ne _ _ q, upd_ne _ _ q]
        exact A1.rest j h1 h2
  · have e : selL (D8.ins ⟨13, op2, ty, d, a, b, n, count⟩) hs 5 = makeL hs 5 d ⟨19, 0, 0, 0, 0⟩ := by simp [selL, D8.ins]
    have em : meansM ⟨13, op2, ty, d, a, b, n, count⟩ t vf = (t, upd vf d 1000) := by simp [meansM]
    rw [e, em]
    exact make_sim h hR h0 hd _ _ (fun r r0 r1 => by simp [doM])
  · have e : selL (D8.ins ⟨14, op2, ty, d, a, b, n, count⟩) hs 5 = readL hs 5 a 6 ++ [⟨17, readR hs a 6, 0, 0, (n : Int)⟩] := by
      rw [← wn hn]
      simp [selL, D8.ins]
    have em : meansM ⟨14, op2, ty, d, a, b, n, count⟩ t vf = (⟨t.f, t.os ++ [vf a, (n : Int)], t.tr⟩, vf) := by simp [meansM]
    rw [e, em, runM_append]
    have hr : runM [⟨17, readR hs a 6, 0, 0, (n : Int)⟩] (runM (readL hs 5 a 6) s) = ⟨(runM (readL hs 5 a 6) s).f, (runM (readL hs 5 a 6) s).os ++ [vf a, (n : Int)], (runM (readL hs 5 a 6) s).tr⟩ := by
      rw [← A3]
      simp [runM, A2, doM]
    rw [hr]
    exact ⟨A1.home, A1.rest, by show _ ++ _ = _ ++ _; rw [A1.os], A1.tr⟩
  · have e : selL (D8.ins ⟨16, op2, ty, d, a, b, n, count⟩) hs 5 = readL hs 5 a 6 ++ [⟨21, readR hs a 6, 0, 0, (n : Int)⟩] := by
      rw [← wn hn]
      simp [selL, D8.ins]
    have em : meansM ⟨16, op2, ty, d, a, b, n, count⟩ t vf = (⟨t.f, t.os ++ [vf a, (n : Int)], t.tr⟩, vf) := by simp [meansM]
    rw [e, em, runM_append]
    have hr : runM [⟨21, readR hs a 6, 0, 0, (n : Int)⟩] (runM (readL hs 5 a 6) s) = ⟨(runM (readL hs 5 a 6) s).f, (runM (readL hs 5 a 6) s).os ++ [vf a, (n : Int)], (runM (readL hs 5 a 6) s).tr⟩ := by
      rw [← A3]
      simp [runM, A2, doM]
    rw [hr]
    exact ⟨A1.home, A1.rest, by show _ ++ _ = _ ++ _; rw [A1.os], A1.tr⟩
end
end Go.Proofs.YthkiajbgdamjgaaDoor

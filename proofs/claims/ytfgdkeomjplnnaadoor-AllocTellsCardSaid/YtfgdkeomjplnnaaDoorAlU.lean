/- slices.SortStableFunc over the places of spans: they are put in order. Conditions: sizes. -/
import Derived.Test.YtfgdkeomjplnnaaDoorAlT
namespace Go.Proofs.YtfgdkeomjplnnaaDoor
set_option linter.unusedVariables false
open Go.RowKit
attribute [local irreducible] Blk
/-- A range is in order, and holds just its own places. -/
def Seg (sp : List Sp) (c : List Nat) (x y : Nat) : Prop := SortedOn sp c x y ∧ ∀ p, x ≤ p → p < y → x ≤ gN c p ∧ gN c p < y
theorem Seg.congr {sp : List Sp} {c c' : List Nat} {x y : Nat} (h : Seg sp c x y) (he : ∀ p, x ≤ p → p < y → gN c' p = gN c p) : Seg sp c' x y :=
  ⟨fun p q h1 h2 h3 => by rw [he p h1 (by omega), he q (by omega) h3]; exact h.1 p q h1 h2 h3, fun p h1 h2 => by rw [he p h1 h2]; exact h.2 p h1 h2⟩
theorem Seg.none {sp : List Sp} {c : List Nat} {x y : Nat} (h : y ≤ x) : Seg sp c x y := ⟨fun p q h1 h2 h3 => by omega, fun p h1 h2 => by omega⟩
theorem Seg.pre {sp : List Sp} {c : List Nat} {x m y : Nat} (h1 : Seg sp c x m) (h2 : Seg sp c m y) (hxm : x < m) (hmy : m < y) : MergePre sp c x m y :=
  ⟨h1.1, h2.1, fun p q a b d e => by have := h1.2 p a b; have := h2.2 q d e; omega, hxm, hmy⟩
theorem Seg.merged {sp : List Sp} {c c' : List Nat} {x m y : Nat} (h1 : Seg sp c x m) (h2 : Seg sp c m y) (hxm : x < m) (hmy : m < y) (hS : SortR sp c x y c') : Seg sp c' x y :=
  ⟨hS.2.2.1, fun p a b => by
    obtain ⟨q, q1, q2, q3⟩ := hS.2.2.2 p a b
    rw [q3]
    rcases Nat.lt_or_ge q m with h | h
    · have := h1.2 q q1 h; omega
    · have := h2.2 q h q2; omega⟩
def AllSeg (sp : List Sp) (c : List Nat) (bs n : Nat) : Prop := ∀ k, Seg sp c (k * bs) (min ((k + 1) * bs) n)
/-- Pairs of ranges are merged, up to pair t. -/
structure Pairs (sp : List Sp) (c : List Nat) (bs n t : Nat) : Prop where
  low : ∀ k, k < t → Seg sp c (k * (2 * bs)) ((k + 1) * (2 * bs))
  high : ∀ k, 2 * t ≤ k → Seg sp c (k * bs) (min ((k + 1) * bs) n)
  le : t * (2 * bs) ≤ n
theorem Pairs.start {sp : List Sp} {c : List Nat} {bs n : Nat} (h : AllSeg sp c bs n) : Pairs sp c bs n 0 := ⟨fun k hk => by omega, fun k _ => h k, by omega⟩
theorem two_mul_bs (t bs : Nat) : 2 * t * bs = t * (2 * bs) := by rw [Nat.mul_comm 2 t, Nat.mul_assoc]
theorem Pairs.segs {sp : List Sp} {c : List Nat} {bs n t : Nat} (h : Pairs sp c bs n t) (hb : t * (2 * bs) + bs < n) : Seg sp c (t * (2 * bs)) (t * (2 * bs) + bs) ∧ Seg sp c (t * (2 * bs) + bs) (min (t * (2 * bs) + 2 * bs) n) := by
  have h1 := h.high (2 * t) (Nat.le_refl _)
  have h2 := h.high (2 * t + 1) (by omega)
  have e0 := two_mul_bs t bs
  have e1 : (2 * t + 1) * bs = 2 * t * bs + bs := Nat.succ_mul _ _
  have e2 : (2 * t + 1 + 1) * bs = (2 * t + 1) * bs + bs := Nat.succ_mul _ _
  rw [e1, e0, show min (t * (2 * bs) + bs) n = t * (2 * bs) + bs by omega] at h1
  rw [e2, e1, e0, show t * (2 * bs) + bs + bs = t * (2 * bs) + 2 * bs by omega] at h2
  exact ⟨h1, h2⟩
theorem Pairs.step {sp : List Sp} {c c' : List Nat} {bs n t : Nat} (h : Pairs sp c bs n t) (hbs : 0 < bs) (hb : t * (2 * bs) + 2 * bs ≤ n) (hS : SortR sp c (t * (2 * bs)) (t * (2 * bs) + 2 * bs) c') : Pairs sp c' bs n (t + 1) := by
  obtain ⟨s1, s2⟩ := h.segs (by omega)
  rw [show min (t * (2 * bs) + 2 * bs) n = t * (2 * bs) + 2 * bs by omega] at s2
  have hm := s1.merged s2 (by omega) (by omega) hS
  have e3 : (t + 1) * (2 * bs) = t * (2 * bs) + 2 * bs := Nat.succ_mul _ _
  refine ⟨fun k hk => ?_, fun k hk => ?_, by omega⟩
  · by_cases hkt : k = t
    · subst hkt
      rw [e3]
      exact hm
    · have hle : (k + 1) * (2 * bs) ≤ t * (2 * bs) := Nat.mul_le_mul_right _ (by omega)
      exact (h.low k (by omega)).congr (fun p p1 p2 => hS.2.1 p (by omega))
  · have hle : (2 * (t + 1)) * bs ≤ k * bs := Nat.mul_le_mul_right _ hk
    rw [two_mul_bs, e3] at hle
    exact (h.high k (by omega)).congr (fun p p1 p2 => hS.2.1 p (by omega))
theorem Pairs.done {sp : List Sp} {c c' : List Nat} {bs n t : Nat} (h : Pairs sp c bs n t) (hbs : 0 < bs) (hb : n < t * (2 * bs) + 2 * bs) (hS : (t * (2 * bs) + bs < n ∧ SortR sp c (t * (2 * bs)) n c') ∨ (n ≤ t * (2 * bs) + bs ∧ c' = c)) : AllSeg sp c' (2 * bs) n := by
  have e3 : (t + 1) * (2 * bs) = t * (2 * bs) + 2 * bs := Nat.succ_mul _ _
  have hle := h.le
  have hmid : Seg sp c' (t * (2 * bs)) n := by
    rcases hS with ⟨h1, h2⟩ | ⟨h1, rfl⟩
    · obtain ⟨s1, s2⟩ := h.segs h1
      rw [show min (t * (2 * bs) + 2 * bs) n = n by omega] at s2
      exact s1.merged s2 (by omega) h1 h2
    · have h1' := h.high (2 * t) (Nat.le_refl _)
      have e1 : (2 * t + 1) * bs = 2 * t * bs + bs := Nat.succ_mul _ _
      rw [e1, two_mul_bs, show min (t * (2 * bs) + bs) n = n by omega] at h1'
      exact h1'
  intro k
  rcases Nat.lt_trichotomy k t with hk | hk | hk
  · have hle2 : (k + 1) * (2 * bs) ≤ t * (2 * bs) := Nat.mul_le_mul_right _ (by omega)
    rw [show min ((k + 1) * (2 * bs)) n = (k + 1) * (2 * bs) by omega]
    refine (h.low k hk).congr (fun p p1 p2 => ?_)
    rcases hS with ⟨_, h2⟩ | ⟨_, rfl⟩
    · exact h2.2.1 p (by omega)
    · rfl
  · subst hk
    rw [e3, show min (k * (2 * bs) + 2 * bs) n = n by omega]
    exact hmid
  · have hle2 : (t + 1) * (2 * bs) ≤ k * (2 * bs) := Nat.mul_le_mul_right _ (by omega)
    exact Seg.none (by omega)
/-- Blocks of twenty are put in order, up to block t. -/
structure Twenty (sp : List Sp) (l c : List Nat) (t : Nat) : Prop where
  perm : c.Perm l
  low : ∀ k, k < t → Seg sp c (k * 20) (k * 20 + 20)
  high : ∀ p, t * 20 ≤ p → gN c p = gN l p
  le : t * 20 ≤ l.length
theorem Twenty.start (sp : List Sp) (l : List Nat) : Twenty sp l l 0 := ⟨List.Perm.refl _, fun k hk => by omega, fun _ _ => rfl, by omega⟩
theorem seg_of_sort {sp : List Sp} {l c c' : List Nat} {x y : Nat} (hid : ∀ p, p < l.length → gN l p = p) (hh : ∀ p, x ≤ p → gN c p = gN l p) (hy : y ≤ l.length) (hS : SortR sp c x y c') : Seg sp c' x y :=
  ⟨hS.2.2.1, fun p a b => by
    obtain ⟨q, q1, q2, q3⟩ := hS.2.2.2 p a b
    rw [q3, hh q q1, hid q (by omega)]
    exact ⟨q1, q2⟩⟩
theorem Twenty.step {sp : List Sp} {l c c' : List Nat} {t : Nat} (hid : ∀ p, p < l.length → gN l p = p) (h : Twenty sp l c t) (hb : t * 20 + 20 ≤ l.length) (hS : SortR sp c (t * 20) (t * 20 + 20) c') : Twenty sp l c' (t + 1) := by
  refine ⟨hS.1.trans h.perm, fun k hk => ?_, fun p hp => ?_, by omega⟩
  · by_cases hkt : k = t
    · subst hkt
      exact seg_of_sort hid h.high hb hS
    · exact (h.low k (by omega)).congr (fun p p1 p2 => hS.2.1 p (by omega))
  · rw [hS.2.1 p (by omega)]
    exact h.high p (by omega)
theorem Twenty.done {sp : List Sp} {l c c' : List Nat} {t : Nat} (hid : ∀ p, p < l.length → gN l p = p) (h : Twenty sp l c t) (hb : l.length < t * 20 + 20) (hS : SortR sp c (t * 20) l.length c') : AllSeg sp c' 20 l.length := by
  have hle := h.le
  intro k
  rcases Nat.lt_trichotomy k t with hk | hk | hk
  · rw [show min ((k + 1) * 20) l.length = k * 20 + 20 by omega]
    exact (h.low k hk).congr (fun p p1 p2 => hS.2.1 p (by omega))
  · subst hk
    rw [show min ((k + 1) * 20) l.length = l.length by omega]
    exact seg_of_sort hid h.high (Nat.le_refl _) hS
  · exact Seg.none (by omega)
section
variable {W : World} {Bo Bl : Nat} {A : Option Addr} {cA : Nat} {sp : List Sp} {l : List Nat}
/-- The places are in order. -/
def StabP (W : World) (Bo Bl : Nat) (A : Option Addr) (cA : Nat) (sp : List Sp) (l : List Nat) (e : Ending) (w' : World) : Prop :=
  e = .returned (.tuple #[]) ∧ ∃ l', l'.Perm l ∧ SortedOn sp l' 0 l.length ∧ OrW w' Bo Bl A cA sp l' ∧ Keep W w' (fun k => k = Bo)
set_option maxRecDepth 100000 in
set_option maxHeartbeats 3200000 in
theorem stable_any (h : OrW W Bo Bl A cA sp l) (hl : l.length ≤ 100000) (hsp : sp.length ≤ 1000000) (hid : ∀ p, p < l.length → gN l p = p) (co : Nat) :
    Calls Tryd.prog 35 #[.slice (some ⟨Bo, 0, none⟩) l.length co, .int .i64 (l.length : Int), .func (.func 21) #[] #[.pointer (some ⟨Bl, 0, none⟩)]] W (StabP W Bo Bl A cA sp l) := by
  have H := Lib.hid h
  have HID := Lib.hid hid
  have HIN := Lib.hid (fun (W' : World) (c : List Nat) (hc : OrW W' Bo Bl A cA sp c) (hcl : c.length = l.length) (a b : Nat) (hab : a ≤ b) (hb : b ≤ l.length) (hasc : ∀ p q, a ≤ p → p < q → q < b → gN c p < gN c q) (ai bi : Int) (ea : ai = (a : Int)) (eb : bi = (b : Int)) => (by
    have := insertion_any hc (by omega) hsp a b hab (by omega) hasc co ai bi ea eb
    rw [hcl] at this
    exact this : Calls Tryd.prog 49 #[.slice (some ⟨Bo, 0, none⟩) l.length co, .int .i64 ai, .int .i64 bi, .func (.func 21) #[] #[.pointer (some ⟨Bl, 0, none⟩)]] W' (SortP W' Bo Bl A cA sp c a b)))
  have HSY := Lib.hid (symMerge_any (Bo := Bo) (Bl := Bl) (A := A) (cA := cA) hsp l.length co (by omega) (l.length + 1))
  clear h hid
  go_enter Tryd.func35, Tryd.ntmps35
  go_wp2_with fail
  go_loopw [7, 8] (fun av bv wr => ∃ (t : Nat) (c : List Nat), av = .int .i64 ((t * 20 : Nat) : Int) ∧ bv = .int .i64 ((t * 20 + 20 : Nat) : Int) ∧ Hid (Twenty sp l c t) ∧ Hid (OrW wr Bo Bl A cA sp c ∧ Keep W wr (fun k => k = Bo))) (fun av _ _ => l.length - (intOf av).toNat)
  case atStart => exact ⟨0, l, rfl, rfl, Lib.hid (Twenty.start sp l), Lib.hid ⟨H.out, Keep.refl _ _⟩⟩
  case round =>
    obtain ⟨t, c, rfl, rfl, HT, HX⟩ := hrel
    have hle := HT.out.le
    have HCL := Lib.hid HT.out.perm.length_eq
    obtain ⟨x, hx⟩ : ∃ x, t * 20 = x := ⟨_, rfl⟩
    have HXE := Lib.hid hx
    rw [hx] at hle ⊢
    clear hx
    have ex : ((x + 20 : Nat) : Int) = (x : Int) + 20 := by omega
    rw [ex]
    clear ex
    have x0 : (0 : Int) ≤ (x : Int) := by omega
    have x1 : (x : Int) ≤ 1000000 := by omega
    by_cases hlt : x + 20 ≤ l.length
    · have n1 : (x : Int) + 20 ≤ (l.length : Int) := by omega
      have HI := Lib.hid (fun ai bi ea eb => HIN.out _ c HX.out.1 HCL.out x (x + 20) (by omega) hlt (fun p q h1 h2 h3 => by
        have := HXE.out
        rw [HT.out.high p (by omega), HT.out.high q (by omega), HID.out p (by omega), HID.out q (by omega)]
        exact h2) ai bi ea eb)
      go_wp2_with fail
      refine (HI.out _ _ rfl (by omega)).mono ?_
      rintro e w2 ⟨rfl, c', hS, hW2, hK2⟩
      have HT2 := Lib.hid (HT.out.step HID.out (by have := HXE.out; omega) (by rw [HXE.out]; exact hS))
      have HX2 := Lib.hid (show OrW w2 Bo Bl A cA sp c' ∧ Keep W w2 (fun k => k = Bo) from ⟨hW2, HX.out.2.trans hK2 (fun _ _ h => h)⟩)
      clear hS hW2 hK2
      go_wp2_with fail
      exact ⟨⟨t + 1, c', congrArg (Value.int .i64) (by have := HXE.out; omega), congrArg (Value.int .i64) (by have := HXE.out; omega), HT2, HX2⟩, by simp [intOf]; omega⟩
    · have n1 : ¬ (x : Int) + 20 ≤ (l.length : Int) := by omega
      have HI := Lib.hid (fun ai bi ea eb => HIN.out _ c HX.out.1 HCL.out x l.length hle (Nat.le_refl _) (fun p q h1 h2 h3 => by
        have := HXE.out
        rw [HT.out.high p (by omega), HT.out.high q (by omega), HID.out p (by omega), HID.out q (by omega)]
        exact h2) ai bi ea eb)
      go_wp2_with fail
      refine (HI.out _ _ rfl rfl).mono ?_
      rintro e w2 ⟨rfl, c', hS, hW2, hK2⟩
      have HAS := Lib.hid (HT.out.done HID.out (by have := HXE.out; omega) (by rw [HXE.out]; exact hS))
      have HPM := Lib.hid (hS.1.trans HT.out.perm)
      have HX2 := Lib.hid (show OrW w2 Bo Bl A cA sp c' ∧ Keep W w2 (fun k => k = Bo) from ⟨hW2, HX.out.2.trans hK2 (fun _ _ h => h)⟩)
      clear hS hW2 hK2 HI HX HT HIN
      go_wp2_with fail
      go_loopw [6] (fun sv wr => ∃ (bs : Nat) (c : List Nat), sv = .int .i64 (bs : Int) ∧ 20 ≤ bs ∧ bs ≤ 1000000 ∧ Hid (c.Perm l ∧ AllSeg sp c bs l.length) ∧ Hid (OrW wr Bo Bl A cA sp c ∧ Keep W wr (fun k => k = Bo))) (fun sv _ => l.length - (intOf sv).toNat)
      case atStart => exact ⟨20, c', rfl, Nat.le_refl _, by omega, Lib.hid ⟨HPM.out, HAS.out⟩, HX2⟩
      case round =>
        clear HX2 HAS HPM
        obtain ⟨bs, d, rfl, hbs, hbs2, HS, HX⟩ := hrel
        have s0 : (0 : Int) ≤ (bs : Int) := by omega
        have s1 : (bs : Int) ≤ 1000000 := by omega
        by_cases hlt2 : bs < l.length
        · have m1 : (bs : Int) < (l.length : Int) := by omega
          go_wp2_with fail
          go_loopw [7, 8] (fun av bv wr => ∃ (t : Nat) (c : List Nat), av = .int .i64 ((t * (2 * bs) : Nat) : Int) ∧ bv = .int .i64 ((t * (2 * bs) + 2 * bs : Nat) : Int) ∧ Hid (c.Perm l ∧ Pairs sp c bs l.length t) ∧ Hid (OrW wr Bo Bl A cA sp c ∧ Keep W wr (fun k => k = Bo))) (fun av _ _ => l.length - (intOf av).toNat)
          case atStart => exact ⟨0, d, congrArg (Value.int .i64) (by simp), congrArg (Value.int .i64) (by simp), Lib.hid ⟨HS.out.1, Pairs.start HS.out.2⟩, HX⟩
          case round =>
            clear HX HS
            obtain ⟨t, c, rfl, rfl, HP, HX⟩ := hrel
            have hle := HP.out.2.le
            have HCL := Lib.hid HP.out.1.length_eq
            have HST := Lib.hid (fun (c' : List Nat) (hb : t * (2 * bs) + 2 * bs ≤ l.length) (hS : SortR sp c (t * (2 * bs)) (t * (2 * bs) + 2 * bs) c') => HP.out.2.step (by omega) hb hS)
            have HDN := Lib.hid (fun (c' : List Nat) (hb : l.length < t * (2 * bs) + 2 * bs) hS => HP.out.2.done (c' := c') (by omega) hb hS)
            have HSG := Lib.hid (fun (hb : t * (2 * bs) + bs < l.length) => HP.out.2.segs hb)
            have HE3 := Lib.hid (show (t + 1) * (2 * bs) = t * (2 * bs) + 2 * bs from Nat.succ_mul _ _)
            have HPP := Lib.hid HP.out.1
            clear HP
            generalize hx : t * (2 * bs) = x at *
            have ex : ((x + 2 * bs : Nat) : Int) = (x : Int) + 2 * (bs : Int) := by omega
            rw [ex]
            clear ex hx
            have x0 : (0 : Int) ≤ (x : Int) := by omega
            have x1 : (x : Int) ≤ 1000000 := by omega
            by_cases hlt3 : x + 2 * bs ≤ l.length
            · have n1 : (x : Int) + 2 * (bs : Int) ≤ (l.length : Int) := by omega
              have hsg := HSG.out (by omega)
              rw [show min (x + 2 * bs) l.length = x + 2 * bs by omega] at hsg
              have HI := Lib.hid (fun ai mi bi ea em eb => HSY.out _ c x (x + bs) (x + 2 * bs) (by omega) HX.out.1 HCL.out hlt3 (hsg.1.pre hsg.2 (by omega) (by omega)) ai mi bi ea em eb)
              clear hsg
              go_wp2_with fail
              refine (HI.out _ _ _ rfl (by omega) (by omega)).mono ?_
              rintro e w3 ⟨rfl, c2, hS, hW3, hK3⟩
              have HP2 := Lib.hid (show c2.Perm l ∧ Pairs sp c2 bs l.length (t + 1) from ⟨hS.1.trans HPP.out, HST.out c2 hlt3 hS⟩)
              have HX3 := Lib.hid (show OrW w3 Bo Bl A cA sp c2 ∧ Keep W w3 (fun k => k = Bo) from ⟨hW3, HX.out.2.trans hK3 (fun _ _ h => h)⟩)
              clear hS hW3 hK3
              go_wp2_with fail
              exact ⟨⟨t + 1, c2, congrArg (Value.int .i64) (by rw [HE3.out]; omega), congrArg (Value.int .i64) (by rw [HE3.out]; omega), HP2, HX3⟩, by simp [intOf]; omega⟩
            · have n1 : ¬ (x : Int) + 2 * (bs : Int) ≤ (l.length : Int) := by omega
              by_cases hm : x + bs < l.length
              · have n2 : (x : Int) + (bs : Int) < (l.length : Int) := by omega
                have hsg := HSG.out hm
                rw [show min (x + 2 * bs) l.length = l.length by omega] at hsg
                have HI := Lib.hid (fun ai mi bi ea em eb => HSY.out _ c x (x + bs) l.length (by omega) HX.out.1 HCL.out (Nat.le_refl _) (hsg.1.pre hsg.2 (by omega) hm) ai mi bi ea em eb)
                clear hsg
                go_wp2_with fail
                refine (HI.out _ _ _ rfl (by omega) rfl).mono ?_
                rintro e w3 ⟨rfl, c2, hS, hW3, hK3⟩
                have HP2 := Lib.hid (show c2.Perm l ∧ AllSeg sp c2 (2 * bs) l.length from ⟨hS.1.trans HPP.out, HDN.out c2 (by omega) (.inl ⟨hm, hS⟩)⟩)
                have HX3 := Lib.hid (show OrW w3 Bo Bl A cA sp c2 ∧ Keep W w3 (fun k => k = Bo) from ⟨hW3, HX.out.2.trans hK3 (fun _ _ h => h)⟩)
                clear hS hW3 hK3
                go_wp2_with fail
                exact ⟨⟨2 * bs, c2, congrArg (Value.int .i64) (by omega), by omega, by omega, HP2, HX3⟩, by simp [intOf]; omega⟩
              · have n2 : ¬ (x : Int) + (bs : Int) < (l.length : Int) := by omega
                have HP2 := Lib.hid (show c.Perm l ∧ AllSeg sp c (2 * bs) l.length from ⟨HPP.out, HDN.out c (by omega) (.inr ⟨by omega, rfl⟩)⟩)
                go_wp2_with fail
                exact ⟨⟨2 * bs, c, congrArg (Value.int .i64) (by omega), by omega, by omega, HP2, HX⟩, by simp [intOf]; omega⟩
        · have m1 : ¬ (bs : Int) < (l.length : Int) := by omega
          have HF := Lib.hid (show SortedOn sp d 0 l.length from by
            have := (HS.out.2 0).1
            rw [Nat.zero_mul, show min ((0 + 1) * bs) l.length = l.length by rw [Nat.zero_add, Nat.one_mul]; omega] at this
            exact this)
          go_wp2_with fail
          go_end0
          exact ⟨rfl, d, HS.out.1, HF.out, HX.out⟩
set_option maxRecDepth 100000 in
theorem sortStable_any (h : OrW W Bo Bl A cA sp l) (hl : l.length ≤ 100000) (hsp : sp.length ≤ 1000000) (hid : ∀ p, p < l.length → gN l p = p) (co : Nat) :
    Calls Tryd.prog 20 #[.slice (some ⟨Bo, 0, none⟩) l.length co, .func (.func 21) #[] #[.pointer (some ⟨Bl, 0, none⟩)]] W (StabP W Bo Bl A cA sp l) := by
  have HS := Lib.hid (stable_any h hl hsp hid co)
  clear h hid
  go_enter Tryd.func20, Tryd.ntmps20
  go_wp2_with fail
  refine HS.out.mono ?_
  rintro e w2 ⟨rfl, hr⟩
  have HR := Lib.hid hr
  clear hr
  go_wp2_with fail
  go_end0
  exact ⟨rfl, HR.out⟩
end
end Go.Proofs.YtfgdkeomjplnnaaDoor

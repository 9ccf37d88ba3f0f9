/- live.Spans: what is known of values, and the span of each. Conditions: none but sizes. -/
import Derived.Test.YtfmkfmcplffhdaaLvG
namespace Go.Proofs.Ytfmkfmcplffhdaa
set_option linter.unusedVariables false
open Go.RowKit Go.Shelf
attribute [local go_sem] Oper.semAt_some
attribute [local irreducible] Blk

def updS (s : Sn4) (t : T3) : Sn4 :=
  if t.made then (if s.isMade then s else { s with made := t.at', isMade := true }) else { s with read := t.at', isIn := true }
abbrev Kn := List (Int × Sn4)
def atS (k : Kn) (v : Int) : Sn4 := (getA k v).getD sn0
def knowStep (n : Nat) (k : Kn) (t : T3) : Kn := if t.v < (n : Int) then k else putA k t.v (updS (atS k t.v) t)
def knownL (n : Nat) (l : List I9) : Kn := (touchL l).foldl (knowStep n) []
def keysL (k : Kn) : List Int := (k.map (·.1)).mergeSort (fun x y => decide (x ≤ y))
def tempsL (k : Kn) : List Sp3 := (keysL k).map (fun v => spanS (atS k v) v)
def localsL (l : List I9) (params : Int) : Nat → List Lo4 → List Sp3
  | _, [] => []
  | i, x :: r => localL l (i : Int) x (decide ((i : Int) < params)) :: localsL l params (i + 1) r
def spansL (l : List I9) (xs : List Lo4) (params : Int) : List Sp3 := localsL l params 0 xs ++ tempsL (knownL xs.length l)
def snV (s : Sn4) : Value := .agg s.arr
def spCells (l : List Sp3) : List Value := l.flatMap (fun s => s.arr.toList)
theorem spCells_append (a b : List Sp3) : spCells (a ++ b) = spCells a ++ spCells b := by simp [spCells]
theorem spCells_length (a : List Sp3) : (spCells a).length = a.length * 3 := by
  induction a with
  | nil => rfl
  | cons s r ih =>
    show (s.arr.toList ++ spCells r).length = _
    rw [List.length_append, ih, List.length_cons]
    show 3 + _ = _
    omega
/-- A slice of locals. -/
def RepLo (w : World) (A : Option Addr) (l : List Lo4) : Prop :=
  l ≠ [] → ∃ b o, A = some ⟨b, o, none⟩ ∧ b < w.heap.size ∧ ∀ k x, l[k]? = some x → ∀ j u, x.arr[j]? = some u → w.cell? ⟨b, o + k * 4 + j, none⟩ = some u
theorem RepLo.far {w w' : World} {A : Option Addr} {l : List Lo4} (h : RepLo w A l) (hb : Below w.heap.size w w') : RepLo w' A l := fun hne => by
  obtain ⟨b, o, hA, hl, hall⟩ := h hne
  exact ⟨b, o, hA, Nat.lt_of_lt_of_le hl hb.size, fun k x hx j u hu => (hb.cell (p := ⟨b, _, none⟩) hl).trans (hall k x hx j u hu)⟩
theorem localsL_snoc (l : List I9) (params : Int) : ∀ (i : Nat) (xs : List Lo4) (x : Lo4), localsL l params i (xs ++ [x]) = localsL l params i xs ++ [localL l ((i + xs.length : Nat) : Int) x (decide (((i + xs.length : Nat) : Int) < params))]
  | i, [], x => by simp [localsL]
  | i, y :: r, x => by
    simp only [List.cons_append, localsL, localsL_snoc l params (i + 1) r x, List.length_cons]
    rw [show i + 1 + r.length = i + (r.length + 1) by omega]
theorem localsL_take (l : List I9) (params : Int) {xs : List Lo4} {k : Nat} {x : Lo4} (h : xs[k]? = some x) : localsL l params 0 (xs.take (k + 1)) = localsL l params 0 (xs.take k) ++ [localL l (k : Int) x (decide ((k : Int) < params))] := by
  have hk := (List.getElem?_eq_some_iff.1 h).1
  rw [take_snoc' h, localsL_snoc, List.length_take, Nat.min_eq_left (by omega), Nat.zero_add]
theorem localsL_len (l : List I9) (params : Int) : ∀ (i : Nat) (xs : List Lo4), (localsL l params i xs).length = xs.length
  | _, [] => rfl
  | i, x :: r => by simp [localsL, localsL_len l params (i + 1) r]
theorem know_nodup (n : Nat) : ∀ (ts : List T3) (k : Kn), (k.map (·.1)).Nodup → ((ts.foldl (knowStep n) k).map (·.1)).Nodup
  | [], k, h => h
  | t :: r, k, h => know_nodup n r _ (by unfold knowStep; split; exact h; exact nodup_put _ _ _ h)
theorem know_len (n : Nat) : ∀ (ts : List T3) (k : Kn), (ts.foldl (knowStep n) k).length ≤ k.length + ts.length
  | [], k => Nat.le_refl _
  | t :: r, k => by
    have h1 := know_len n r (knowStep n k t)
    have h2 : (knowStep n k t).length ≤ k.length + 1 := by
      unfold knowStep
      split
      · omega
      · exact putA_length_le _ _ _
    simp only [List.foldl_cons, List.length_cons]
    omega
theorem know_wf (n : Nat) (p : Int → Prop) : ∀ (ts : List T3) (k : Kn), (∀ t ∈ ts, p t.v) → (∀ v ∈ k.map (·.1), p v) → ∀ v ∈ (ts.foldl (knowStep n) k).map (·.1), p v
  | [], k, _, h => h
  | t :: r, k, ht, h => know_wf n p r _ (fun t' h' => ht t' (List.mem_cons_of_mem _ h')) (by
      unfold knowStep
      split
      · exact h
      · intro v hv
        rcases (keys_put _ _ _ _).1 hv with rfl | hv
        · exact ht t (by simp)
        · exact h v hv)
theorem touchI_len (k : Nat) (i : I9) : (touchI k i).length ≤ 3 := by
  have := readsL_len i
  unfold touchI touchR
  split <;> simp <;> omega
theorem touchFrom_len : ∀ (k : Nat) (l : List I9), (touchFrom k l).length ≤ 3 * l.length
  | _, [] => by simp [touchFrom]
  | k, i :: r => by
    have h1 := touchI_len k i
    have h2 := touchFrom_len (k + 1) r
    simp only [touchFrom, List.length_append, List.length_cons]
    omega
/-- The numbers of an instruction's values fit. -/
def WfI (i : I9) : Prop := (Lit.int .i64 i.d).wf = true ∧ (Lit.int .i64 i.a).wf = true ∧ (Lit.int .i64 i.b).wf = true
theorem wf_max {d : Int} (h : (Lit.int .i64 d).wf = true) : (Lit.int .i64 (max (-1) d)).wf = true := by
  rw [Int.max_def]
  split
  · exact h
  · decide
theorem touch_wf {l : List I9} (hl : ∀ i ∈ l, WfI i) {t : T3} (h : t ∈ touchL l) : (Lit.int .i64 t.v).wf = true := by
  obtain ⟨i, hi, ht⟩ := touch_at h
  obtain ⟨hd, ha, hb⟩ := hl i (List.mem_of_getElem? hi)
  unfold touchI touchR at ht
  rcases List.mem_append.1 ht with ht | ht
  · obtain ⟨v, hv, he⟩ := List.mem_map.1 ht
    rw [show t.v = v by rw [← he]]
    unfold readsL at hv
    split at hv
    · have := (List.mem_filter.1 hv).1
      unfold rawU at this
      split at this
      · cases this
      split at this
      · simp only [List.mem_singleton] at this; subst this; exact ha
      · simp only [List.mem_cons, List.mem_nil_iff, or_false] at this
        rcases this with rfl | rfl
        · exact ha
        · exact hb
    · cases hv
  · split at ht
    · simp only [List.mem_singleton] at ht
      rw [show t.v = makesL i by rw [ht]]
      unfold makesL
      split
      · exact wf_max hd
      · decide
    · cases ht
theorem own_below {w w' : World} {base : Nat} {e : TypeId} {size n : Nat} {v : Value} {xs : List Value} (h : w.ownsRow base e size v n xs) (hb : Below w.heap.size w w') : w'.ownsRow base e size v n xs :=
  Keep.row (Keep.of_below hb) h (fun k hk => by have := (h.lt k hk).2; omega)
theorem mapx_own {β : Type} (B M : Nat) (hB : M < B) (f : β → List (Int × Value)) : OwnFrom B (fun s W => MapX W M (f s)) := fun s X Y row hs hg hr =>
  hs.kept hg (fun e => by have := (hr _ e.symm).1; omega)
theorem KpC.row {w w' : World} (h : KpC w w') {base e size : Nat} {v : Value} {n : Nat} {xs : List Value} (ho : w.ownsRow base e size v n xs) : w'.ownsRow base e size v n xs := by
  refine ⟨ho.1, ?_⟩
  rcases ho.2 with h0 | ⟨g, cap, cur, hv, hb, hg, h1, h2, h3, h4⟩
  · exact .inl h0
  · exact .inr ⟨g, cap, cur, hv, hb, h.same g _ hg rfl, h1, h2, h3, h4⟩
theorem row_ne_obj {w : World} {base e size : Nat} {v : Value} {n : Nat} {xs : List Value} (ho : w.ownsRow base e size v n xs) {g : Nat} {o : Obj} (hg : w.heap[g]? = some o) (hc : o.isCells = false) : v.ownBlock ≠ some g := by
  rcases ho.2 with ⟨rfl, _⟩ | ⟨g', cap, cur, rfl, _, hh, _⟩
  · simp [Value.ownBlock]
  · intro he
    have : g' = g := by simpa [Value.ownBlock] using he
    subst this
    rw [hg] at hh
    cases hh
    cases hc
def KeysP (w : World) (ks : List Int) (e : Ending) (w' : World) : Prop := ∃ v, e = .returned v ∧ w'.ownsRow w.heap.size 3 1 v ks.length (iCells ks) ∧ Below w.heap.size w w'
def SpansP (w : World) (s : List Sp3) (e : Ending) (w' : World) : Prop := ∃ v, e = .returned v ∧ w'.ownsRow w.heap.size 54 3 v s.length (spCells s) ∧ Below w.heap.size w w'
theorem infoSpan : (Try.prog.info? 54).map (fun i => (i.zero, i.size, i.bytes)) = some (some (.agg #[.int .i64 0, .int .i64 0, .int .i64 0]), 3, 24) := by kernel_rfl

set_option maxRecDepth 100000 in
set_option maxHeartbeats 3200000 in
theorem Spans_any (w : World) (A : Option Addr) (l : List I9) (c : Nat) (B : Option Addr) (xs : List Lo4) (c2 : Nat) (params : Int) (hll : l.length ≤ 1000000) (hxl : xs.length ≤ 1000000) (hr : RepI w A l) (hrx : RepLo w B xs) (hwf : ∀ i ∈ l, WfI i)
    (hfr : ∀ x ∈ xs, -1000000 ≤ x.fr ∧ x.fr ≤ 1000000) :
    Calls Try.prog 16 #[.slice A l.length c, .slice B xs.length c2, .int .i64 params] w (SpansP w (spansL l xs params)) := by
  have HR := Lib.hid hr
  have HX := Lib.hid hrx
  have HW := Lib.hid hwf
  have HF := Lib.hid hfr
  clear hr hrx hwf hfr
  obtain ⟨i0, hi0, hz0, hz1, hz2⟩ := info_parts infoSpan
  have HII := Lib.hid (⟨hi0, hz0, hz1, hz2⟩ : _ ∧ _ ∧ _ ∧ _)
  clear hi0 hz0 hz1 hz2
  have hmm := @run_makeMap Try.prog
  refine (callsIn_wide (n := 6)).1 ?_
  refine callsIn_of_wp_marks Try.func16 rfl trivial ?_ rfl
  simp only [Try.ntmps16, List.size_toArray, List.length_cons, List.length_nil, Nat.reduceAdd, Nat.reduceSub, Array.replicate_succ, Array.replicate_zero, List.push_toArray, List.append_toArray, List.nil_append, List.cons_append]
  refine wpIn_wide.2 ?_
  go_wp2_with fail
  go_loopw [6, 16] (fun o ix wr => ∃ k : Nat, k ≤ xs.length ∧ ix = .int .i64 (k : Int) ∧ wr.ownsRow w.heap.size 54 3 o k (spCells (localsL l params 0 (xs.take k))) ∧ Below w.heap.size w wr ∧ Blk wr w.heap.size 27 #[.slice B xs.length c2]) (fun _ ix _ => xs.length - (intOf ix).toNat)
  case atStart => exact ⟨0, Nat.zero_le _, rfl, World.ownsRow_nil _ _ _ _, (Below.refl _ _).alloc (Nat.le_refl _) _, Blk.new w _ _⟩
  case round =>
    obtain ⟨k, hk, rfl, hown, hbr, h4⟩ := hrel
    have hbs := hbr.size
    by_cases hlt : k < xs.length
    · obtain ⟨x, hx⟩ : ∃ x, xs[k]? = some x := ⟨xs[k], List.getElem?_eq_getElem hlt⟩
      obtain ⟨b, o2, rfl, hb, hcs⟩ := HX.out (by intro h; rw [h] at hlt; simp at hlt)
      have k0 : (0 : Int) ≤ (k : Int) := by omega
      have k1 : (k : Int) < (xs.length : Int) := by omega
      have cc := fun j u hu => (hbr.cell (p := ⟨b, o2 + k * 4 + j, none⟩) hb).trans (hcs k x hx j u hu)
      have d0 := cc 0 (.string x.name) rfl
      have d1 := cc 1 (.int .i64 x.ty) rfl
      have d2 := cc 2 (.int .i64 x.fr) rfl
      have d3 := cc 3 (.int .i64 x.till) rfl
      rw [Nat.add_zero] at d0
      have HT := Lib.hid (localsL_take l params hx)
      obtain ⟨hf0, hf1⟩ := HF.out x (List.mem_of_getElem? hx)
      have hRr : RepI wr A l := HR.out.far hbr
      obtain ⟨s, hs⟩ : ∃ s, localL l (k : Int) x (decide ((k : Int) < params)) = s := ⟨_, rfl⟩
      have hL := fun W (hRW : RepI W A l) => local_any W A l c (k : Int) x (decide ((k : Int) < params)) (by omega) hRW hf0 hf1
      rw [hs] at hL
      have HS := Lib.hid hs
      unfold SpanP Sp3.arr Lo4.arr at hL
      have HL := Lib.hid hL
      have HRr := Lib.hid hRr
      clear hL hRr hs cc hcs hx
      go_wp2_with (first
        | (go_at_call 26; refine (HL.out _ ?_).mono ?_; (focus (exact HRr.out.far ((Below.refl _ _).alloc (Nat.le_refl _) _))); rintro e w2 ⟨rfl, hb2⟩; have hb2' : Below wr.heap.size wr w2 := ((Below.refl _ wr).alloc (Nat.le_refl _) _).trans (hb2.mono (by simp)); have hown2 := own_below hown hb2'; have hs2 := hb2'.size)
        | (at_builtin; refine wpList_append_own _ rfl (.tmp 21) (.tmp 29) _ rfl w.heap.size 54 i0 _ 3 24 Try.underlying38 HII.out.1 HII.out.2.1 HII.out.2.2.1 HII.out.2.2.2 rfl (by omega) _ _ _ rfl (hown2.alloc _) ⟨w2.heap.size, 0, none⟩ 1 1 [.int .i64 s.v, .int .i64 s.fr, .int .i64 s.till] rfl rfl (World.news_of_block (cs := #[.int .i64 s.v, .int .i64 s.fr, .int .i64 s.till]) (t := 54) (fr := (0, 0)) (heap_alloc_new w2 _)) (by simp [Value.oneCell']) (by unfold maxLen; omega) (by omega) (by simp; omega) ?_; intro v3 w3 hown3 hgrow hnil3; clear hnil3))
      have h42 := (h4.below hb2' h4.lt).alloc (.cells #[.int .i64 s.v, .int .i64 s.fr, .int .i64 s.till] 54)
      have hne := h42.ne_own (hown2.alloc _) (by decide)
      have hrow := fun j hj => (hown2.lt j hj).1
      go_roundw
      case rel =>
        refine ⟨k + 1, by omega, by go_num, ?_, ((hbr.trans (hb2'.mono hbs)).alloc (by omega) _).grown hgrow (by simp; omega) hrow, h42.grown hgrow (fun e => hne e.symm)⟩
        rw [HT.out, HS.out, spCells_append]
        exact hown3
      case measure => simp [intOf]; omega
    · have hn : ¬ ((k : Int) < (xs.length : Int)) := by omega
      have hke : k = xs.length := by omega
      subst hke
      rw [List.take_length] at hown
      have h40 := h4.cell 0
      simp at h40
      have h4l := h4.lt
      go_wp2_with (go_at_call 27; refine (callsIn_wide.1 (touches_in _ 6 A l.length c)).mono ?_; rintro e w1 ⟨rfl, rfl⟩)
      have hs0 := hbr.size
      have hsz0 : (((wr.alloc (.map #[] 0)).alloc (.cells #[.map (some wr.heap.size)] 75)).alloc (.cells #[.slice A l.length c] 25)).heap.size = wr.heap.size + 3 := by simp
      have hbx : Below wr.heap.size wr (((wr.alloc (.map #[] 0)).alloc (.cells #[.map (some wr.heap.size)] 75)).alloc (.cells #[.slice A l.length c] 25)) := (((Below.refl _ wr).alloc (Nat.le_refl _) _).alloc (by simp) _).alloc (by simp; omega) _
      have hM0 : MapX (((wr.alloc (.map #[] 0)).alloc (.cells #[.map (some wr.heap.size)] 75)).alloc (.cells #[.slice A l.length c] 25)) wr.heap.size [] := ((MapX.made rfl).alloc _).alloc _
      have hG0 : Blk (((wr.alloc (.map #[] 0)).alloc (.cells #[.map (some wr.heap.size)] 75)).alloc (.cells #[.slice A l.length c] 25)) (wr.heap.size + 1) 75 #[.map (some wr.heap.size)] := (Blk.newAt (by simp)).alloc _
      have hI0 : Blk (((wr.alloc (.map #[] 0)).alloc (.cells #[.map (some wr.heap.size)] 75)).alloc (.cells #[.slice A l.length c] 25)) (wr.heap.size + 1 + 1) 25 #[.slice A l.length c] := Blk.newAt (by simp)
      obtain ⟨W0, hW0⟩ : ∃ W0, ((wr.alloc (.map #[] 0)).alloc (.cells #[.map (some wr.heap.size)] 75)).alloc (.cells #[.slice A l.length c] 25) = W0 := ⟨_, rfl⟩
      rw [hW0] at hsz0 hbx hM0 hG0 hI0 ⊢
      have hR0 : RepI W0 A l := (HR.out.far hbr).far hbx
      have hB0 : Below w.heap.size w W0 := hbr.trans (hbx.mono hs0)
      have h400 := h4.below hbx h4l
      have hown0 := own_below hown hbx
      clear hW0 h40 h4 hbx
      have HOWN := Lib.hid hown0
      clear hown hown0
      refine (wpIn_wide (n := 6)).1 ?_
      refine wpIn_rangeFunc_ownH rfl (by omega) (gf := 42) (lb := #[.pointer (some ⟨wr.heap.size + 1 + 1, 0, none⟩)]) rfl trivial (enters_of Try.func42 (by kernel_rfl) rfl)
        (touches_stops (6 - 1) (by omega) (wr.heap.size + 1 + 1) A l c (by omega) W0 (by omega) (cell_of_blk hI0 (by rfl)) hR0) KpC.trans kpc_b (Below.refl _ _) (fun _ => rfl)
        (fun (pre : List (TA l)) W => (MapX W wr.heap.size (mapA snV ((pre.map (·.1)).foldl (knowStep xs.length) [])) ∧ KpC W0 W) ∧ Below w.heap.size w W)
        (fun _ _ _ => False)
        (OwnFrom.and (OwnFrom.and (mapx_own W0.heap.size wr.heap.size (by omega) (fun pre : List (TA l) => mapA snV ((pre.map (·.1)).foldl (knowStep xs.length) []))) (Own.from (kpc_own _) _)) (ownFrom_below (Nat.le_refl _) (by omega)))
        (fun cd => fun _ _ _ _ hs _ _ => hs)
        ⟨⟨hM0, KpC.refl _⟩, hB0⟩
        (fun t a' W => ∃ Bx, Blk W Bx 80 t.1.arr ∧ a' = { tmps := #[.slice A l.length c, .slice B xs.length c2, .int .i64 params, undef, .pointer (some ⟨w.heap.size, 0, none⟩), undef, u6, u7, u8, .pointer (some ⟨wr.heap.size + 1, 0, none⟩), .pointer (some ⟨Bx, 0, none⟩), undef, undef, undef, .slice B xs.length c2, .int .i64 (xs.length : Int), .int .i64 (xs.length : Int), .bool false, u18, u19, u20, u21, u22, u23, u24, u25, u26, u27, u28, u29, u30, u31, .map (some wr.heap.size), .slice A l.length c, .func (.func 42) #[] #[.pointer (some ⟨wr.heap.size + 1 + 1, 0, none⟩)], .agg t.1.arr, undef, undef, undef, undef, undef, undef, undef, undef, undef, undef, undef, undef, undef, undef, undef, undef, undef, undef, undef, undef, undef, undef, undef, undef, undef, undef, undef, undef, undef, undef, undef, undef, undef, undef, undef, undef, undef, undef, undef, undef, undef, undef, undef, undef, undef, undef, undef], defers := [] })
        (fun t a' _ X Y row hs hg hr => by obtain ⟨Bx, e1, e2⟩ := hs; exact ⟨Bx, blk_own _ _ (fun (_ : Unit) => _) () X Y row e1 hg (fun r e => (hr r e).2), e2⟩)
        ?assign ?body ?done ?stop
      case assign =>
        rintro q pre t W K ⟨⟨hM, hkp⟩, hBW⟩ hK
        unfold T3.arr at hK ⊢
        gi_wp2
        exact hK _ _ ((KeepsOthers.alloc _ _).from _) (KpC.of_below ((Below.refl _ W).alloc (Nat.le_refl _) _)) ⟨⟨hM.alloc _, hkp.trans (KpC.of_below ((Below.refl _ W).alloc (Nat.le_refl _) _))⟩, hBW.alloc hBW.size _⟩ ⟨W.heap.size, Blk.new W _ _, rfl⟩
      case body =>
        rintro q pre t a' W hq ⟨r, hrr⟩ ⟨⟨hM, hkp⟩, hBW⟩ ⟨Bx, bX, rfl⟩ hlt
        have a4 := hkp.cell (cell_of_blk h400 (i := 0) (by rfl))
        have g9 := hkp.cell (cell_of_blk hG0 (i := 0) (by rfl))
        have t0 := cell_of_blk bX (i := 0) (u := .int .i64 t.1.v) (by rfl)
        have t1 := cell_of_blk bX (i := 1) (u := .int .i64 (t.1.at' : Int)) (by rfl)
        have t2 := cell_of_blk bX (i := 2) (u := .bool t.1.made) (by rfl)
        have bXl := bX.lt
        have hwv := touch_wf HW.out t.2
        have HK := Lib.hid (show ((pre ++ [t]).map (·.1)).foldl (knowStep xs.length) [] = knowStep xs.length ((pre.map (·.1)).foldl (knowStep xs.length) []) t.1 by simp)
        have HK2 := Lib.hid (show ∀ k : Kn, knowStep xs.length k t.1 = if t.1.v < (xs.length : Int) then k else putA k t.1.v (updS (atS k t.1.v) t.1) from fun _ => rfl)
        have HU := Lib.hid (show ∀ s : Sn4, updS s t.1 = if t.1.made then (if s.isMade then s else { s with made := t.1.at', isMade := true }) else { s with read := t.1.at', isIn := true } from fun _ => rfl)
        generalize (pre.map (·.1)).foldl (knowStep xs.length) [] = k at *
        generalize t.1.v = tv at *
        generalize t.1.made = tm at *
        generalize t.1.at' = ta at *
        clear hlt
        have hWW : W.heap.size ≤ W.heap.size := Nat.le_refl _
        have hMl := hM.lt
        have hg9l : wr.heap.size + 1 < W.heap.size := by have := hkp.size; omega
        by_cases hvt : tv < (xs.length : Int)
        · gi_wp2
          refine ⟨KeepsFrom.refl _ _, KpC.refl _, ⟨⟨?_, hkp⟩, hBW⟩⟩
          rw [HK.out, HK2.out, if_pos hvt]
          exact hM
        · have hvt2 : (xs.length : Int) ≤ tv := by omega
          have hgx : ((getX (mapA snV k) tv).getD (snV sn0)) = snV (atS k tv) := by
            rw [getX_map]
            unfold atS
            cases getA k tv <;> rfl
          have HK3 := HK2.out k
          rw [if_neg hvt] at HK3
          have HK3 := Lib.hid HK3
          generalize hS : atS k tv = s at *
          have HS := Lib.hid hS
          have HGX := Lib.hid hgx
          have HU2 := Lib.hid (HU.out s)
          clear hS hgx hvt
          obtain ⟨sm, sr, sim, sii⟩ := s
          have hkl : k.length ≤ 3000000 ∨ True := .inr trivial
          cases tm <;> cases sim
          all_goals
            gi_wp2_with (first
              | (gi_at_lookup; refine wpListIn_lookX _ rfl _ _ 75 rfl 3 82 Try.underlying75 Try.underlying3 (snV sn0) (Try.zeroValue82 _) wr.heap.size (mapA snV k) rfl hM tv rfl (.agg #[.int .i64 (sm : Int), .int .i64 (sr : Int), .bool _, .bool sii]) HGX.out ?_)
              | (gi_at_mapUpdate; refine wpListIn_updX _ rfl _ _ _ 75 rfl 3 82 Try.underlying75 Try.underlying3 wr.heap.size (mapA snV k) rfl (hM.alloc _) tv _ rfl hwv rfl ?_; intro w5 hM5 hgrow5))
            have hkW : KpC W w5 := (KpC.of_below ((Below.refl _ W).alloc (Nat.le_refl _) _)).trans (KpC.of_grown hgrow5 (hM.alloc _) rfl)
            refine ⟨((KeepsOthers.alloc W _).from _).trans (KeepsFrom.of_grownBy hgrow5 (fun j e => by cases e; omega)), hkW, ⟨⟨?_, hkp.trans hkW⟩, (hBW.alloc hBW.size _).grown hgrow5 (by have := hBW.size; simp; omega) (fun j e => by cases e; exact hs0)⟩⟩
            show MapX w5 wr.heap.size (mapA snV (((pre ++ [t]).map (·.1)).foldl (knowStep xs.length) []))
            rw [HK.out, HK3.out, HU2.out, ← putX_map]
            exact hM5
      case done =>
        rintro D ys W hD hys ⟨⟨hM, hkp⟩, hBW⟩ hK
        have hkn : (ys.map (·.1)).foldl (knowStep xs.length) [] = knownL xs.length l := by rw [hys]; rfl
        rw [hkn] at hM
        have hWD : D < W.heap.size := (Array.getElem?_eq_some_iff.1 hK).1
        have g9 := hkp.cell (cell_of_blk hG0 (i := 0) (by rfl))
        have hg9l : wr.heap.size + 1 < W.heap.size := by have := hkp.size; omega
        have hnd : ((mapA snV (knownL xs.length l)).map (·.1)).Nodup := by rw [mapA_keys]; exact know_nodup _ _ _ (by simp)
        have hkw : ∀ n ∈ (mapA snV (knownL xs.length l)).map (·.1), (Lit.int .i64 n).wf = true := by rw [mapA_keys]; exact know_wf _ _ _ _ (fun t ht => touch_wf HW.out ht) (by simp)
        have hklen : (knownL xs.length l).length ≤ 3000000 := by
          have h1 := know_len xs.length (touchL l) []
          have h2 := touchFrom_len 0 l
          show ((touchL l).foldl (knowStep xs.length) []).length ≤ _
          unfold touchL at h1 ⊢
          simp only [List.length_nil] at h1
          omega
        have hksort : (keysL (knownL xs.length l)).length = (knownL xs.length l).length := by simp [keysL]
        have hSC : Calls Try.prog 28 #[.func (.func 45) #[] #[.pointer (some ⟨W.heap.size, 0, none⟩)]] (W.alloc (.cells #[.map (some wr.heap.size)] 75)) (KeysP (W.alloc (.cells #[.map (some wr.heap.size)] 75)) (keysL (knownL xs.length l))) := by
          have h := sortedCall (W.alloc (.cells #[.map (some wr.heap.size)] 75)) W.heap.size wr.heap.size (mapA snV (knownL xs.length l)) (hM.alloc _) (cell_of_blk (Blk.new W _ _) (by rfl)) (by simp) hnd hkw (by rw [mapA_length]; omega)
          rw [mapA_keys] at h
          exact h
        have HM := Lib.hid hM
        have hMl := hM.lt
        have hkeylen : (keysL (knownL xs.length l)).length ≤ 3000000 := by rw [hksort]; exact hklen
        have HDEF := Lib.hid (show spansL l xs params = localsL l params 0 xs ++ (keysL (knownL xs.length l)).map (fun v => spanS (atS (knownL xs.length l) v) v) from rfl)
        have HKW : Hid (∀ n ∈ keysL (knownL xs.length l), (Lit.int .i64 n).wf = true) := Lib.hid (fun n hn => hkw n (by rw [mapA_keys]; exact (List.mergeSort_perm _ _).subset hn))
        clear hkn hys hnd hkw hksort hM hklen
        generalize keysL (knownL xs.length l) = ks at *
        generalize knownL xs.length l = kn at *
        unfold KeysP at hSC
        go_wp2_with (first
          | (go_at_call 29; refine (keysCall _ _).mono ?_; rintro e w2 ⟨rfl, rfl⟩)
          | (go_at_call 28; refine hSC.mono ?_; clear hSC; rintro e w3 ⟨v3, rfl, hown3, hb3⟩; have hlt3 := hown3.lt; obtain ⟨A3, c3, rfl, hints⟩ := Ints.of_own hown3))
        have HLT3 := Lib.hid hlt3
        have h6 := hkp.row HOWN.out
        have h6l := Lib.hid h6.lt
        have hb3' : Below W.heap.size W w3 := ((Below.refl _ W).alloc (Nat.le_refl _) _).trans (hb3.mono (by simp))
        have h63 := own_below h6 hb3'
        have hM3 := HM.out.below hb3' hMl
        have hGW := hkp.blk hG0
        have hG3 := hGW.below hb3' hg9l
        have hD3 := (hb3'.block D hWD).trans hK
        have nM : u6.ownBlock ≠ some wr.heap.size := row_ne_obj h63 hM3 rfl
        have nG : u6.ownBlock ≠ some (wr.heap.size + 1) := hG3.ne_own h63 (by decide)
        have nD : u6.ownBlock ≠ some D := row_ne_obj h63 hD3 rfl
        have NS := Lib.hid (⟨nM, nG, nD⟩ : _ ∧ _ ∧ _)
        have hB3 : Below w.heap.size w w3 := hBW.trans (hb3'.mono hBW.size)
        have hs3 := hb3'.size
        have H63 := Lib.hid h63
        have HM3 := Lib.hid hM3
        have HG3 := Lib.hid hG3
        have HD3 := Lib.hid hD3
        clear hlt3 hown3 h6 h63 hM3 hGW hG3 hD3 nM nG nD hb3 g9
        generalize wr.heap.size = M at *
        generalize u6 = o3 at *
        clear hbr
        go_loopw [6, 69] (fun o ix wr => ∃ j : Nat, j ≤ ks.length ∧ ix = .int .i64 (j : Int) ∧ wr.ownsRow w.heap.size 54 3 o (xs.length + j) (spCells (localsL l params 0 xs ++ (ks.take j).map (fun v => spanS (atS kn v) v))) ∧ Keep w3 wr (fun k => o3.ownBlock = some k) ∧ Fresh w3 o3 o ∧ Below w.heap.size w wr) (fun _ ix _ => ks.length - (intOf ix).toNat)
        case atStart => exact ⟨0, Nat.zero_le _, rfl, by simpa using H63.out, Keep.refl _ _, Fresh.refl _ _, hB3⟩
        case round =>
          obtain ⟨j, hj, rfl, hown, hkq, hfq, hBr⟩ := hrel
          by_cases hjl : j < ks.length
          · obtain ⟨v, hv⟩ : ∃ v, ks[j]? = some v := ⟨ks[j], List.getElem?_eq_getElem hjl⟩
            obtain ⟨b2, o2, rfl, hb2, hall⟩ := hints (by intro h; rw [h] at hjl; simp at hjl)
            have j0 : (0 : Int) ≤ (j : Int) := by omega
            have j1 : (j : Int) < (ks.length : Int) := by omega
            have hqs := hkq.size
            have nb2 : ¬ (o3.ownBlock = some b2) := fun e => by
              have e1 := (h6l.out b2 e).2
              have e2 := (HLT3.out b2 rfl).1
              simp at e2
              omega
            have cv := (hkq.cell (a := ⟨b2, o2 + j, none⟩) hb2 nb2).trans (hall j v hv)
            have hwv := HKW.out v (List.mem_of_getElem? hv)
            have hMq : MapX wr M (mapA snV kn) := (hkq.block M (by omega) NS.out.1).trans HM3.out
            have gq := (hkq.cell (a := ⟨M + 1, 0, none⟩) (by simp; omega) NS.out.2.1).trans (cell_of_blk HG3.out (i := 0) (by rfl))
            have hgx : ((getX (mapA snV kn) v).getD (snV sn0)) = snV (atS kn v) := by
              rw [getX_map]
              unfold atS
              cases getA kn v <;> rfl
            have HT := Lib.hid (take_snoc' hv)
            obtain ⟨s, hS⟩ : ∃ s, atS kn v = s := ⟨_, rfl⟩
            rw [hS] at hgx
            have HS := Lib.hid hS
            have HGX := Lib.hid hgx
            have hsp := fun W => span_any W s v
            obtain ⟨sm, sr, sim, sii⟩ := s
            obtain ⟨r, hR⟩ : ∃ r, spanS ⟨sm, sr, sim, sii⟩ v = r := ⟨_, rfl⟩
            rw [hR] at hsp
            have HRR := Lib.hid hR
            unfold SpanP Sn4.arr Sp3.arr at hsp
            have HSP := Lib.hid hsp
            have hrow := Lib.hid (fun j hj => (hown.lt j hj).1)
            clear hsp hR hS hgx hall hv nb2
            go_wp2_with (first
              | (at_lookup; refine wpList_lookX _ rfl _ _ 75 rfl 3 82 Try.underlying75 Try.underlying3 (snV sn0) (Try.zeroValue82 _) M (mapA snV kn) rfl hMq v rfl (.agg #[.int .i64 (sm : Int), .int .i64 (sr : Int), .bool sim, .bool sii]) HGX.out ?_)
              | (go_at_call 30; refine (HSP.out _).mono ?_; rintro e w4 ⟨rfl, hb4⟩; have hs4 := hb4.size; have hown4 := own_below hown hb4)
              | (at_builtin; refine wpList_append_lies _ rfl (.tmp 73) (.tmp 79) _ rfl w.heap.size 54 i0 _ 3 24 Try.underlying38 HII.out.1 HII.out.2.1 HII.out.2.2.1 HII.out.2.2.2 rfl (by omega) _ _ _ rfl (hown4.alloc _) ⟨w4.heap.size, 0, none⟩ 1 1 [.int .i64 r.v, .int .i64 r.fr, .int .i64 r.till] rfl rfl (World.news_of_block (cs := #[.int .i64 r.v, .int .i64 r.fr, .int .i64 r.till]) (t := 54) (fr := (0, 0)) (heap_alloc_new w4 _)) (by simp [Value.oneCell']) (by omega) (by unfold maxLen; omega) (by omega) (by have := hBr.size; simp; omega) (w4.heap.size + 1) (by simp) ?_; intro gg cap w5 hown5 hgrow hat hlt5))
            go_roundw
            case rel =>
              have hk4 : Keep w3 w4 (fun k => o3.ownBlock = some k) := hkq.trans (Keep.of_below hb4) (fun k hk h => by omega)
              refine ⟨j + 1, by omega, by go_num, ?_, (hk4.alloc _).grown hgrow (fun k hk hlt => (hfq k hk).elim id (fun h => by omega)), ?_, ?_⟩
              · rw [HT.out, List.map_append, ← List.append_assoc, spCells_append, ← Nat.add_assoc]
                simp only [List.map_cons, List.map_nil, HS.out, HRR.out]
                exact hown5
              · intro k hk
                have hkg : gg = k := by simpa [Value.ownBlock] using hk
                subst hkg
                rcases hat with h | h
                · exact hfq gg h
                · exact .inr (by omega)
              · exact ((hBr.trans (hb4.mono hBr.size)).alloc (by have := hBr.size; omega) _).grown hgrow (by have := hBr.size; simp; omega) hrow.out
            case measure => simp [intOf]; omega
          · have hn : ¬ ((j : Int) < (ks.length : Int)) := by omega
            have hje : j = ks.length := by omega
            subst hje
            rw [List.take_length] at hown
            have hDq := (hkq.block D (by have := hb3'.size; omega) NS.out.2.2).trans HD3.out
            go_wp2_with fail
            refine ret_mark (D := D) (v := u6) hDq ?_ rfl ?_
            · exact results_tmp Try.results16 _ _ _
            unfold SpansP
            rw [HDEF.out]
            refine ⟨u6, rfl, ?_, below_put hBr (by omega) _⟩
            rw [List.length_append, localsL_len, List.length_map]
            exact ownsRow_putObj hown _ hDq rfl
      case stop =>
        rintro D cd pre W hD hpre h hK
        exact h.elim
end Go.Proofs.Ytfmkfmcplffhdaa

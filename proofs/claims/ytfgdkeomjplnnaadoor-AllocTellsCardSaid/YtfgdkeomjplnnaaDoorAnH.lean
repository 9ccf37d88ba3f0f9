/- Ranging over the map of homes: a step, whichever entry comes; a group sorted. No condition. -/
import Derived.Test.YtfgdkeomjplnnaaDoorAnF
import Derived.Test.YtfgdkeomjplnnaaDoorSlSort
namespace Go.Proofs.YtfgdkeomjplnnaaDoor
set_option linter.unusedVariables false
open Go.RowKit
open Go.Sort (grow HoldsK PermIn SortedIn SWO flatK putRowK)
open Go.ChangeMaps (setBlock heap_setBlock_same heap_setBlock_other)
attribute [local irreducible] Blk
theorem setB_same {w : World} {b : Nat} {o : Obj} (h : w.heap[b]? = some o) (o' : Obj) : (setBlock w b o').heap[b]? = some o' := by
  have := (Array.getElem?_eq_some_iff.1 h).1
  simp [setBlock, this]
theorem setB_keep {w : World} {b : Nat} {o : Obj} (h : w.heap[b]? = some o) (o' : Obj) : Keep w (setBlock w b o') (fun q => q = b) :=
  ⟨rfl, rfl, rfl, by simp [setBlock], fun k _ hk => by
    show (w.heap.setIfInBounds b o')[k]? = _
    rw [Array.getElem?_setIfInBounds, if_neg (fun e => hk e.symm)]⟩
theorem setB_size (w : World) (b : Nat) (o : Obj) : (setBlock w b o).heap.size = w.heap.size := by simp [setBlock]
theorem setB_below {w0 w : World} {b : Nat} {o : Obj} (h : Below b w0 w) (hb : w.heap[b]? = some o) (o' : Obj) : Below b w0 (setBlock w b o') :=
  ⟨h.os, h.tape, h.output, by rw [setB_size]; exact h.size, fun k hk => by
    show (w.heap.setIfInBounds b o')[k]? = _
    rw [Array.getElem?_setIfInBounds, if_neg (by omega)]
    exact h.block k hk⟩
/-- What holds while the map is ranged over. -/
structure RInv (w0 w : World) (b r : Nat) (Z : List (Sp × Hm)) (G : List (Hm × Value)) (seen : Array Nat) (c0 : Nat) : Prop where
  m : w.heap[b]? = some (mapObj G)
  it : w.heap[r]? = some (.mapIter (some b) G.length seen c0)
  c : G.length ≤ c0
  ok : ∀ (j : Nat) p, G[j]? = some p → seen.contains j = true → groupOk (selZ Z p.1)
  row : ∀ (j : Nat) p, G[j]? = some p → seen.contains j = false → w.ownsRow (b + 1) 32 3 p.2 (selZ Z p.1).length (spCells (selZ Z p.1))
  bel : Below b w0 w
theorem RInv.start {w0 w1 : World} {b : Nat} {Z : List (Sp × Hm)} {G : List (Hm × Value)} (hg : GInv w1 (b + 1) Z G) (hm : MapHX w1 b G) (hb : Below b w0 w1) (hbl : b < w1.heap.size) : RInv w0 (w1.alloc (.mapIter (some b) G.length #[] G.length)) b w1.heap.size Z G #[] G.length :=
  ⟨(heap_alloc_old w1 _ hbl).trans hm, heap_alloc_new w1 _, Nat.le_refl _, (fun j p _ h => by simp at h), fun j p hp _ => (hg.row p (List.mem_of_getElem? hp)).2.alloc _, hb.alloc (by omega) _⟩
theorem contains_pushN (seen : Array Nat) (b y : Nat) : (seen.push b).contains y = (seen.contains y || y == b) := Array.contains_push ..
theorem RInv.next {w0 w1 w : World} {b r c0 : Nat} {Z : List (Sp × Hm)} {G : List (Hm × Value)} {seen : Array Nat} (h : RInv w0 w b r Z G seen c0) (hg : GInv w1 (b + 1) Z G) (hr : r = w1.heap.size) (hbr : b < r) (ty : TypeId) :
    ((∀ p ∈ G, groupOk (selZ Z p.1)) ∧ (Instr.next (.pointer (some ⟨r, 0, none⟩)) false ty).run Tryd.prog w = .ok (.tuple #[.bool false]) w) ∨
    ∃ (j : Nat) (hm : Hm) (v : Value) (g cap n : Nat) (W1 : World), G[j]? = some (hm, v) ∧ n = (selZ Z hm).length ∧ 0 < n ∧ v = .slice (some ⟨g, 0, none⟩) n cap ∧
      (Instr.next (.pointer (some ⟨r, 0, none⟩)) false ty).run Tryd.prog w = .ok (.tuple #[.bool true, hm.key, v]) W1 ∧ (Instr.entry (.pointer (some ⟨r, 0, none⟩))).run Tryd.prog W1 = .ok (.tuple #[hm.key, v]) W1 ∧
      W1.ownsRow (b + 1) 32 3 v n (spCells (selZ Z hm)) ∧ g < W1.heap.size ∧ b < g ∧ Below b w0 W1 ∧
      ∀ w3, Keep W1 w3 (fun q => q = g) → groupOk (selZ Z hm) → RInv w0 w3 b r Z G (seen.push j) G.length ∧ w3.rangeLeft b r < w.rangeLeft b r := by
  have hm' : w.heap[b]? = some (.map (entsH 0 G).toArray G.length) := h.m
  have hold : ∀ x ∈ ((entsH 0 G).toArray).toList, x.born < G.length := fun x hx => by
    obtain ⟨j, p, hp, rfl⟩ := entsH_mem (by simpa using hx)
    exact (List.getElem?_eq_some_iff.1 hp).1
  rcases run_next_at (P := Tryd.prog) w ty r b G.length c0 seen (entsH 0 G).toArray G.length h.it hm' hold h.c with ⟨h0, hrun⟩ | ⟨e, he, w2, hw2, hrun⟩
  · left
    refine ⟨fun p hp => ?_, hrun⟩
    obtain ⟨j, hj⟩ := List.getElem?_of_mem hp
    have := all_seen (entsH 0 G).toArray seen h0 ⟨p.1.key, p.2, j⟩ (by
      show _ ∈ entsH 0 G
      exact List.mem_of_getElem? (i := j) (by rw [entsH_get, hj]; simp))
    exact h.ok j p hj this
  · right
    obtain ⟨he1, he2⟩ := mem_left he
    obtain ⟨j, p, hp, rfl⟩ := entsH_mem (show e ∈ entsH 0 G by simpa using he1)
    obtain ⟨hm, v⟩ := p
    simp only at hrun he2
    have hrow := h.row j (hm, v) hp he2
    have hgr := hg.row (hm, v) (List.mem_of_getElem? hp)
    simp only at hrow hgr
    have hpos : 0 < (selZ Z hm).length := List.length_pos_iff.2 hgr.1
    obtain ⟨g, cap, hv, _, hgl⟩ := hrow.form hpos
    have hvo : v.ownBlock = some g := by rw [hv]; rfl
    have hg1 := hgr.2.lt g hvo
    have hw2K : Keep w w2 (fun _ => False) := by
      rcases hw2 with rfl | rfl
      · exact Keep.refl _ _
      · exact (Keep.refl _ _).drew
    have hit2 : w2.heap[r]? = some (.mapIter (some b) G.length seen c0) := by
      rcases hw2 with rfl | rfl <;> exact h.it
    have hrl : r < w.heap.size := (Array.getElem?_eq_some_iff.1 h.it).1
    have hbl : b < w.heap.size := by omega
    have hK1 : Keep w (setBlock w2 r (.mapIter (some b) G.length (seen.push j) G.length)) (fun q => q = r) := (hw2K.mono (fun _ _ h => h.elim)).trans (setB_keep hit2 _) (fun _ _ h => h)
    have hI1 := setB_same hit2 (.mapIter (some b) G.length (seen.push j) G.length)
    have hB1 : Below b w0 (setBlock w2 r (.mapIter (some b) G.length (seen.push j) G.length)) := h.bel.trans (hK1.below (by omega) (fun q hq => by omega))
    have hen := run_entry_at (P := Tryd.prog) (setBlock w2 r (.mapIter (some b) G.length (seen.push j) G.length)) r b G.length seen (entsH 0 G).toArray G.length ⟨hm.key, v, j⟩ hI1 ((hK1.block b hbl (by omega)).trans hm') he1 (by simpa using entsH_nodup G)
    have hs1 : w.heap.size ≤ (setBlock w2 r (.mapIter (some b) G.length (seen.push j) G.length)).heap.size := hK1.size
    have hown : ∀ (j' : Nat) p, G[j']? = some p → seen.contains j' = false → (setBlock w2 r (.mapIter (some b) G.length (seen.push j) G.length)).ownsRow (b + 1) 32 3 p.2 (selZ Z p.1).length (spCells (selZ Z p.1)) := fun j' p hp' hs' => by
      refine Keep.row hK1 (h.row j' p hp' hs') (fun q hq e => ?_)
      have := ((hg.row p (List.mem_of_getElem? hp')).2.lt q hq).2
      omega
    generalize setBlock w2 r (.mapIter (some b) G.length (seen.push j) G.length) = W1 at *
    refine ⟨j, hm, v, g, cap, _, W1, hp, rfl, hpos, hv, hrun, hen, hown j _ hp he2, by omega, by omega, hB1, fun w3 hk3 hok => ⟨⟨?_, ?_, Nat.le_refl _, fun j' p hp' hs' => ?_, fun j' p hp' hs' => ?_, ?_⟩, ?_⟩⟩
    · exact (hk3.block b (by omega) (by omega)).trans ((hK1.block b hbl (by omega)).trans h.m)
    · exact (hk3.block r (by omega) (by omega)).trans hI1
    · rw [contains_pushN] at hs'
      by_cases e : j' = j
      · subst e
        rw [hp] at hp'
        obtain rfl : (hm, v) = p := by simpa using hp'
        exact hok
      · have : (j' == j) = false := by simpa using e
        rw [this, Bool.or_false] at hs'
        exact h.ok j' p hp' hs'
    · rw [contains_pushN] at hs'
      simp only [Bool.or_eq_false_iff] at hs'
      have hne : j' ≠ j := by simpa using hs'.2
      refine Keep.row hk3 (hown j' p hp' hs'.1) (fun q hq e => ?_)
      subst e
      obtain ⟨jl, ej⟩ := List.getElem?_eq_some_iff.1 hp
      obtain ⟨jl', ej'⟩ := List.getElem?_eq_some_iff.1 hp'
      rcases Nat.lt_or_gt_of_ne hne with hlt | hlt
      · have := (List.pairwise_iff_getElem.1 hg.sep) j' j jl' jl hlt q (by rw [ej']; exact hq)
        rw [ej] at this
        exact this hvo
      · have := (List.pairwise_iff_getElem.1 hg.sep) j j' jl jl' hlt q (by rw [ej]; exact hvo)
        rw [ej'] at this
        exact this hq
    · exact hB1.trans (hk3.below (by omega) (fun q hq => by omega))
    · have a1 : w3.heap[b]? = some (.map (entsH 0 G).toArray G.length) := (hk3.block b (by omega) (by omega)).trans ((hK1.block b hbl (by omega)).trans h.m)
      have a2 := (hk3.block r (by omega) (by omega)).trans hI1
      unfold World.rangeLeft
      rw [a1, a2, hm', h.it]
      exact left_shrinks (entsH 0 G).toArray seen ⟨hm.key, v, j⟩ he
/-- A group of spans, sorted by where they begin. -/
theorem sortS_any (w : World) (base g cap n : Nat) (L : List Sp) (hown : w.ownsRow base 32 3 (.slice (some ⟨g, 0, none⟩) n cap) n (spCells L)) (hn : n = L.length) (hs : n < 4611686018427387904) :
    Calls Tryd.prog 33 #[.slice (some ⟨g, 0, none⟩) n cap, .func (.func 34) #[] #[]] w fun e w' => e = .returned (.tuple #[]) ∧ ∃ L', L'.Perm L ∧ L'.Pairwise (fun x y => x.fr ≤ y.fr) ∧ RepS w' (some ⟨g, 0, none⟩) L' ∧ Keep w w' (fun q => q = g) := by
  have hsz : L.toArray.size = n := by simp [hn]
  have hlt := (hown.lt g rfl).2
  have hown2 : w.ownsRow base 32 3 (.slice (some ⟨g, 0, none⟩) L.toArray.size cap) L.toArray.size (L.toArray.toList.flatMap encS) := by rw [hsz]; exact hown
  have hH := holds_row encS (fun _ => rfl) L.toArray hown2
  have eg : ∀ args w, (callFunc 34 args).run Tryd.prog w = .ok (.enter 34 args) w := enters_of Tryd.func34 (by kernel_rfl) rfl
  have hcon := Tryd.slices_SortFunc_f33 3 Tryd.isAgg32 Tryd.sizeOf32 encS (fun _ => rfl) (fun x v hv => by simp [encS, Sp.arr] at hv; rcases hv with rfl | rfl | rfl <;> rfl) cmpS swoS 34 #[] g 0 cap L.toArray w eg (fun _ _ _ _ x y => cmpS_any _ x y) hH hlt (by omega)
  rw [hsz] at hcon
  refine hcon.mono ?_
  rintro e w' ⟨rfl, d', m, os, hp, hsd, rfl⟩
  rw [← hsz] at hp hsd
  obtain ⟨k1, k2, k3⟩ := sorted_list hp hsd
  refine ⟨rfl, d'.toList, by simpa using k1, k3.imp (fun {x y} h => by rw [ltS_eq] at h; simp only [decide_eq_false_iff_not] at h; omega), fun _ => ⟨g, 0, rfl, Nat.lt_of_lt_of_le hlt (size_sortWorldK_c encS 3 w g 0 m d' os), fun k x hx j u hu => ?_⟩, ?_⟩
  · have hk : k < d'.size := by
      have := (List.getElem?_eq_some_iff.1 hx).1
      simpa using this
    have hj : j < 3 := (Array.getElem?_eq_some_iff.1 hu).1
    have hHd := holdsK_sortWorldK_c encS 3 w g 0 L.toArray d' m os hH hlt k2
    have c0 := (Go.Sort.HoldsK.cell hHd hk hj).1
    have hx2 : d'[k]! = x := by
      rw [getElem!_pos d' k hk]
      have := (List.getElem?_eq_some_iff.1 hx).2
      simpa using this
    rw [hx2] at c0
    rw [c0]
    have hu2 : (encS x)[j]? = some u := by unfold encS; simpa using hu
    rw [getElem!_pos (encS x) j hj]
    exact (List.getElem?_eq_getElem hj).symm.trans hu2
  · refine ⟨rfl, rfl, rfl, size_sortWorldK_c encS 3 w g 0 m d' os, fun b hb hbg => ?_⟩
    have hbl : b < (putRowK encS 3 (Sort.ahead w m) g 0 d').heap.size := by rw [Go.Sort.size_putRowK]; exact hb
    unfold sortWorldK
    rw [Go.Sort.heap_grow_old _ _ hbl]
    show ((Sort.ahead w m).heap.modify g _)[b]? = _
    rw [Array.getElem?_modify, if_neg (fun e => hbg e.symm)]
    rfl
end Go.Proofs.YtfgdkeomjplnnaaDoor

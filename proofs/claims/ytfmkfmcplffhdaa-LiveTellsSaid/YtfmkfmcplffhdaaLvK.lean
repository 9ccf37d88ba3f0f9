/- slices.Sorted(maps.Keys(m)) at a map with keys of the kind int: its keys, sorted. Conditions: the keys differ, each fits. -/
import Derived.Test.YtfmkfmcplffhdaaLvS
import Derived.Test.YtfmkfmcplffhdaaLvC
import Derived.Test.YtfmkfmcplffhdaaMapX
namespace Go.Proofs.Ytfmkfmcplffhdaa
open Go.RowKit Go.Maps Go.Sort Go.Shelf Go.WideElems

/-- Slices.Sort's two contracts at this dump, at the fence that asks nothing. -/
theorem sorts_here (m : Nat) : AnyZI.SortsIn Try.prog Try.sortedA_ren Fence.wide m :=
  ⟨fun blk off cap ss W hH hblk hsz => callsIn_wide.2 (AnyM.slices_Sort_int Try.laysSlM5_f44 blk off cap ss W hH hblk hsz),
   fun p cap W => callsIn_wide.2 (AnyM.slices_Sort_int_none Try.laysSlM5_f44 p cap W)⟩
/-- No element is read. -/
def noR : Value → Option (DataW Unit × List MemPlace) := fun _ => some (.nil, [])
theorem ents_keys : ∀ (i : Nat) (k : List (Int × Value)), (entsFrom i k).map (·.key) = k.map (fun p => .int .i64 p.1)
  | _, [] => rfl
  | i, (n, v) :: r => by simp [entsFrom, ents_keys (i + 1) r]
theorem ents_born : ∀ (i : Nat) (k : List (Int × Value)), (entsFrom i k).map (·.born) = List.range' i k.length
  | _, [] => rfl
  | i, (n, v) :: r => by simp [entsFrom, ents_born (i + 1) r, List.range'_succ]
theorem fit_x {k : List (Int × Value)} (hk : Try.prog.underlying 3 = some (.int .i64)) (hnd : (k.map (·.1)).Nodup) (hwf : ∀ n ∈ k.map (·.1), (Lit.int .i64 n).wf = true) (hl : k.length ≤ maxLen) : Fit Try.prog 3 noR (entsFrom 0 k).toArray k.length := by
  refine ⟨by simpa [entsFrom_length] using hl, ⟨fun x hx => ?_, ?_, ?_⟩, fun x hx => ?_⟩
  · have : x.born ∈ (entsFrom 0 k).map (·.born) := List.mem_map.2 ⟨x, by simpa using hx, rfl⟩
    rw [ents_born] at this
    have := List.mem_range'.1 this
    omega
  · simp only [ents_born]
    exact List.nodup_range'
  · simp only [ents_keys]
    rw [show k.map (fun p => Value.int .i64 p.1) = (k.map (·.1)).map (Value.int .i64) by simp]
    exact List.pairwise_map.2 (List.Pairwise.imp (fun {a b} h e => h (by simpa using e)) hnd)
  · have hx2 : x ∈ entsFrom 0 k := by simpa using hx
    have : x.key ∈ (entsFrom 0 k).map (·.key) := List.mem_map.2 ⟨x, hx2, rfl⟩
    rw [ents_keys] at this
    obtain ⟨p, hp, he⟩ := List.mem_map.1 this
    have hkey : keyOf Try.prog 3 x.key = some (.int .i64 p.1) := by rw [← he]; exact Maps.keyOf_int_mk hk (hwf _ (List.mem_map.2 ⟨p, hp, rfl⟩))
    exact ⟨_, rd_mk (born := x.born) hkey (show noR x.val = _ from rfl)⟩
theorem rg_key {k : List (Int × Value)} (hk : Try.prog.underlying 3 = some (.int .i64)) (hwf : ∀ n ∈ k.map (·.1), (Lit.int .i64 n).wf = true) : ∀ x ∈ entsFrom 0 k, ∃ n, x.key = .int .i64 n ∧ (rg Try.prog 3 noR x).1 = .int .i64 n := fun x hx => by
  have : x.key ∈ (entsFrom 0 k).map (·.key) := List.mem_map.2 ⟨x, hx, rfl⟩
  rw [ents_keys] at this
  obtain ⟨p, hp, he⟩ := List.mem_map.1 this
  have hkey : keyOf Try.prog 3 x.key = some (.int .i64 p.1) := by rw [← he]; exact Maps.keyOf_int_mk hk (hwf _ (List.mem_map.2 ⟨p, hp, rfl⟩))
  have := rd_mk (born := x.born) hkey (show noR x.val = _ from rfl)
  exact ⟨p.1, he.symm, by rw [rg_of this]⟩
theorem keys_of {k : List (Int × Value)} (hk : Try.prog.underlying 3 = some (.int .i64)) (hwf : ∀ n ∈ k.map (·.1), (Lit.int .i64 n).wf = true) :
    (intKeys (.map (((entsFrom 0 k).map (rg Try.prog 3 noR)).foldr DataW.insert []))).Perm (k.map (·.1)) := by
  show ((((entsFrom 0 k).map (rg Try.prog 3 noR)).foldr DataW.insert []).map fun p => Go.intOf p.1).Perm _
  refine ((WideShapes.sorted_perm _).map _).trans ?_
  rw [List.map_map]
  have h1 : (entsFrom 0 k).map ((fun p => Go.intOf p.1) ∘ rg Try.prog 3 noR) = (entsFrom 0 k).map (fun x => match x.key with | .int _ n => n | _ => 0) := by
    refine List.map_congr_left fun x hx => ?_
    obtain ⟨n, h1, h2⟩ := rg_key hk hwf x hx
    simp only [Function.comp, h2, h1, Go.intOf]
  rw [h1]
  have h2 : (entsFrom 0 k).map (fun x => match x.key with | .int _ n => n | _ => 0) = ((entsFrom 0 k).map (·.key)).map (fun v => match v with | .int _ n => n | _ => 0) := by rw [List.map_map]; rfl
  rw [h2, ents_keys, List.map_map]
  exact List.Perm.of_eq (List.map_congr_left fun p _ => rfl)
theorem keysCall (w : World) (mb : Option Nat) : Calls Try.prog 29 #[.map mb] w fun e w' => e = .returned (.func (.func 45) #[] #[.pointer (some ⟨w.heap.size, 0, none⟩)]) ∧ w.alloc (.cells #[.map mb] 75) = w' := by
  have cK : CallsIn Fence.wide 5 Try.prog 29 #[.map mb] w fun e w' => e = .returned (.func (.func 45) #[] #[.pointer (some ⟨w.heap.size, 0, none⟩)]) ∧ w' = w.alloc (.cells #[.map mb] 75) := AnyZI.keys_in Try.keysA Fence.wide 5 trivial rfl mb w
  exact (callsIn_wide.1 cK).mono fun e w' h => ⟨h.1, h.2.symm⟩
def SortedP (w : World) (ks : List Int) (e : Ending) (w' : World) : Prop := ∃ v, e = .returned v ∧ w'.ownsRow w.heap.size 3 1 v (ks.mergeSort (fun x y => decide (x ≤ y))).length (iCells (ks.mergeSort (fun x y => decide (x ≤ y)))) ∧ Below w.heap.size w w'
theorem sortedCall (w : World) (Bm b : Nat) (k : List (Int × Value)) (hm : MapX w b k) (hB : w.cell? ⟨Bm, 0, none⟩ = some (.map (some b))) (hBl : Bm < w.heap.size) (hnd : (k.map (·.1)).Nodup) (hwf : ∀ n ∈ k.map (·.1), (Lit.int .i64 n).wf = true) (hl : k.length ≤ 10000000) :
    Calls Try.prog 28 #[.func (.func 45) #[] #[.pointer (some ⟨Bm, 0, none⟩)]] w (SortedP w (k.map (·.1))) := by
  have hk : Try.prog.underlying 3 = some (.int .i64) := Try.underlying3
  have hf := fit_x hk hnd hwf (by unfold maxLen; omega)
  have hown : w.ownsMap Try.prog 3 noR b k.length (.map (((entsFrom 0 k).map (rg Try.prog 3 noR)).foldr DataW.insert [])) :=
    ⟨_, _, hm, hf, by simp [entsFrom_length], by simp⟩
  have hsize : Maps.size (.map (((entsFrom 0 k).map (rg Try.prog 3 noR)).foldr DataW.insert [])) = k.length := by
    simp [Maps.size, length_sorted, entsFrom_length]
  have hseq : SeqGives Fence.wide 2 Try.prog 45 #[.pointer (some ⟨Bm, 0, none⟩)] encZ (fun ss => ss.Perm (intKeys (.map (((entsFrom 0 k).map (rg Try.prog 3 noR)).foldr DataW.insert [])))) (Maps.size (.map (((entsFrom 0 k).map (rg Try.prog 3 noR)).foldr DataW.insert []))) w :=
    AnyZI.keys_gives (ρ := Try.keysA_ren) { Try.keysA with } Fence.wide _ trivial rfl (by omega) Bm b k.length _ w hBl hB hown
  have cS := AnyZI.sorted_in Try.sortedA Fence.wide 5 trivial trivial trivial trivial rfl (by omega) (sorts_here _) (enters_of Try.func44 (by kernel_rfl) rfl) 45 #[.pointer (some ⟨Bm, 0, none⟩)] trivial (enters_of Try.func45 (by kernel_rfl) rfl) _ _ (by rw [hsize]; unfold maxLen; omega) (by rw [hsize]; omega) _ hseq
  change CallsIn _ _ Try.prog 28 _ _ _ at cS
  refine (callsIn_wide.1 cS).mono ?_
  rintro e w' ⟨v, ss, rfl, hS, hrow, hnil, hb⟩
  have hp := hS.trans (keys_of hk hwf)
  refine ⟨v, rfl, ?_, hb⟩
  rw [← mergeSort_of_perm_i hp]
  rw [show (ss.mergeSort leI).length = ss.length by simp]
  exact hrow
end Go.Proofs.Ytfmkfmcplffhdaa

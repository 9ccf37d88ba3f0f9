/- A map of the call's own, with keys of the kind int: a new key is put in, a key is looked up. Conditions: the map's block is the last one. -/
import Derived.Test.YtfmkfmcplffhdaaMem
namespace Go.Proofs.Ytfmkfmcplffhdaa
open Go.RowKit

section
variable {P : Program}
theorem run_checkKey_int (kt : TypeId) (kd : IntKind) (hk : P.underlying kt = some (.int kd)) (b : Bool) (d : Nat) (n : Int) (w : World) : (Instr.checkKey b (d + 1) kt (.int kd n)).run P w = .ok () w := by
  simp [Instr.checkKey, run_underlying hk]
theorem heap_last (w : World) (o o' : Obj) : ({ (w.alloc o) with heap := (w.alloc o).heap.setIfInBounds w.heap.size o' } : World) = w.alloc o' := by
  simp only [World.alloc]
  congr 1
  apply Array.ext
  · simp
  · intro i h1 h2
    rw [Array.getElem_setIfInBounds (by simpa using h1)]
    by_cases hi : i = w.heap.size
    · subst hi; simp
    · rw [if_neg (by omega)]
      have hl : i < w.heap.size := by simp at h2; omega
      rw [Array.getElem_push_lt hl, Array.getElem_push_lt hl]
theorem run_mapUpdate_new (t kt e : TypeId) (ht : P.underlying t = some (.map kt e)) (kd : IntKind) (hk : P.underlying kt = some (.int kd)) (w : World) (es : Array MapEntry) (c : Nat) (n : Int) (v : Value)
    (h : Instr.findNow (.int kd) (.int kd n) es.toList 0 = some none) :
    (Instr.mapUpdate t (.map (some w.heap.size)) (.int kd n) v).run P (w.alloc (.map es c)) = .ok () (w.alloc (.map (es.push { key := .int kd n, val := v, born := c }) (c + 1))) := by
  have hg : (w.alloc (.map es c)).heap[w.heap.size]? = some (.map es c) := heap_alloc_new w _
  have e1 := run_checkKey_int (P := P) kt kd hk false 9999 n (w.alloc (.map es c))
  have e2 : ({ (w.alloc (.map es c)) with heap := (w.alloc (.map es c)).heap.setIfInBounds w.heap.size (.map (es.push { key := .int kd n, val := v, born := c }) (c + 1)) } : World) = w.alloc (.map (es.push { key := .int kd n, val := v, born := c }) (c + 1)) := heap_last w _ _
  simp [Instr.mapUpdate, run_underlying ht, MapKept.run_getObj_map hg, e1, Instr.findKey, run_underlying hk, h, MapKept.run_setObj_map _ hg]
  exact e2
theorem run_lookup_last (t kt e : TypeId) (ht : P.underlying t = some (.map kt e)) (kd : IntKind) (hk : P.underlying kt = some (.int kd)) (w : World) (es : Array MapEntry) (c : Nat) (n : Int) (i : Nat) (v : Value)
    (h : Instr.findNow (.int kd) (.int kd n) es.toList 0 = some (some (i, v))) :
    (Instr.lookup t (.map (some w.heap.size)) (.int kd n) true).run P (w.alloc (.map es c)) = .ok (.tuple #[v, .bool true]) (w.alloc (.map es c)) := by
  have hg : (w.alloc (.map es c)).heap[w.heap.size]? = some (.map es c) := heap_alloc_new w _
  have e1 := run_checkKey_int (P := P) kt kd hk es.isEmpty 9999 n (w.alloc (.map es c))
  simp [Instr.lookup, run_underlying ht, MapKept.run_getObj_map hg, e1, Instr.findKey, run_underlying hk, h]
theorem run_lookup_none (t kt e : TypeId) (ht : P.underlying t = some (.map kt e)) (kd : IntKind) (hk : P.underlying kt = some (.int kd)) (w : World) (es : Array MapEntry) (c : Nat) (n : Int) (z : Value)
    (hz : (zeroValue e).run P (w.alloc (.map es c)) = .ok z (w.alloc (.map es c)))
    (h : Instr.findNow (.int kd) (.int kd n) es.toList 0 = some none) :
    (Instr.lookup t (.map (some w.heap.size)) (.int kd n) true).run P (w.alloc (.map es c)) = .ok (.tuple #[z, .bool false]) (w.alloc (.map es c)) := by
  have hg : (w.alloc (.map es c)).heap[w.heap.size]? = some (.map es c) := heap_alloc_new w _
  have e1 := run_checkKey_int (P := P) kt kd hk es.isEmpty 9999 n (w.alloc (.map es c))
  simp [Instr.lookup, run_underlying ht, MapKept.run_getObj_map hg, e1, Instr.findKey, run_underlying hk, h, hz]
theorem run_mapUpdate_at (t kt e : TypeId) (ht : P.underlying t = some (.map kt e)) (kd : IntKind) (hk : P.underlying kt = some (.int kd)) (w : World) (k : Nat) (hkk : w.heap.size = k) (es : Array MapEntry) (c : Nat) (n : Int) (v : Value)
    (h : Instr.findNow (.int kd) (.int kd n) es.toList 0 = some none) :
    (Instr.mapUpdate t (.map (some k)) (.int kd n) v).run P (w.alloc (.map es c)) = .ok () (w.alloc (.map (es.push { key := .int kd n, val := v, born := c }) (c + 1))) := by
  subst hkk
  exact run_mapUpdate_new t kt e ht kd hk w es c n v h
theorem run_lookup_at (t kt e : TypeId) (ht : P.underlying t = some (.map kt e)) (kd : IntKind) (hk : P.underlying kt = some (.int kd)) (w : World) (k : Nat) (hkk : w.heap.size = k) (es : Array MapEntry) (c : Nat) (n : Int) (i : Nat) (v : Value)
    (h : Instr.findNow (.int kd) (.int kd n) es.toList 0 = some (some (i, v))) :
    (Instr.lookup t (.map (some k)) (.int kd n) true).run P (w.alloc (.map es c)) = .ok (.tuple #[v, .bool true]) (w.alloc (.map es c)) := by
  subst hkk
  exact run_lookup_last t kt e ht kd hk w es c n i v h
theorem run_lookup_none_at (t kt e : TypeId) (ht : P.underlying t = some (.map kt e)) (kd : IntKind) (hk : P.underlying kt = some (.int kd)) (w : World) (k : Nat) (hkk : w.heap.size = k) (es : Array MapEntry) (c : Nat) (n : Int) (z : Value)
    (hz : (zeroValue e).run P (w.alloc (.map es c)) = .ok z (w.alloc (.map es c)))
    (h : Instr.findNow (.int kd) (.int kd n) es.toList 0 = some none) :
    (Instr.lookup t (.map (some k)) (.int kd n) true).run P (w.alloc (.map es c)) = .ok (.tuple #[z, .bool false]) (w.alloc (.map es c)) := by
  subst hkk
  exact run_lookup_none t kt e ht kd hk w es c n z hz h
end
end Go.Proofs.Ytfmkfmcplffhdaa

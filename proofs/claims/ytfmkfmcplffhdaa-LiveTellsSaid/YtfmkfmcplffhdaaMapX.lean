/- Maps with keys of the kind int, told exactly: entries in the order in which they came. Looking up, storing. No condition. -/
import Derived.Test.YtfmkfmcplffhdaaMaps
import Derived.Maps.OwnIn
import Derived.Maps.OwnOps
namespace Go.Proofs.Ytfmkfmcplffhdaa
open Go.RowKit Go.ChangeMaps

def entsFrom : Nat → List (Int × Value) → List MapEntry
  | _, [] => []
  | i, (n, v) :: r => ⟨.int .i64 n, v, i⟩ :: entsFrom (i + 1) r
def getX : List (Int × Value) → Int → Option Value
  | [], _ => none
  | (m, v) :: r, n => if m = n then some v else getX r n
def putX : List (Int × Value) → Int → Value → List (Int × Value)
  | [], n, v => [(n, v)]
  | (m, u) :: r, n, v => if m = n then (n, v) :: r else (m, u) :: putX r n v
/-- Block b is a map of just these entries. -/
def MapX (w : World) (b : Nat) (k : List (Int × Value)) : Prop := w.heap[b]? = some (.map (entsFrom 0 k).toArray k.length)

theorem entsFrom_length : ∀ (i : Nat) (k : List (Int × Value)), (entsFrom i k).length = k.length
  | _, [] => rfl
  | i, (n, v) :: r => by simp [entsFrom, entsFrom_length (i + 1) r]
theorem putX_length_le : ∀ (k : List (Int × Value)) (n : Int) (v : Value), (putX k n v).length ≤ k.length + 1
  | [], n, v => by simp [putX]
  | (m, u) :: r, n, v => by
    unfold putX
    split
    · simp
    · simpa using putX_length_le r n v
theorem getX_put : ∀ (k : List (Int × Value)) (n : Int) (v : Value) (m : Int), getX (putX k n v) m = if n = m then some v else getX k m
  | [], n, v, m => by simp [putX, getX]
  | (q, u) :: r, n, v, m => by
    unfold putX
    by_cases h : q = n
    · subst h
      simp only [getX]
      by_cases h2 : q = m
      · simp [h2, getX]
      · simp [h2, getX]
    · simp only [if_neg h, getX]
      by_cases h2 : q = m
      · subst h2
        simp [Ne.symm h]
      · simp [h2, getX_put r n v m]
theorem find_get : ∀ (k : List (Int × Value)) (n : Int) (i j : Nat), (getX k n = none ∧ Instr.findNow (.int .i64) (.int .i64 n) (entsFrom i k) j = some none) ∨
    ∃ p v, getX k n = some v ∧ p < k.length ∧ Instr.findNow (.int .i64) (.int .i64 n) (entsFrom i k) j = some (some (j + p, v)) ∧ (entsFrom i k)[p]? = some ⟨.int .i64 n, v, i + p⟩ ∧
      ∀ u, (entsFrom i k).modify p (fun e => { e with key := .int .i64 n, val := u }) = entsFrom i (putX k n u) ∧ (putX k n u).length = k.length
  | [], n, i, j => .inl ⟨rfl, rfl⟩
  | (m, v) :: r, n, i, j => by
    by_cases h : m = n
    · subst h
      exact .inr ⟨0, v, by simp [getX], by simp, by simp [entsFrom, Instr.findNow, Instr.sameNow], by simp [entsFrom], fun u => ⟨by simp [entsFrom, putX], by simp [putX]⟩⟩
    · have hb : ((n : Int) == m) = false := by simpa using Ne.symm h
      rcases find_get r n (i + 1) (j + 1) with ⟨h1, h2⟩ | ⟨p, u, h1, h0, h2, h3, h4⟩
      · exact .inl ⟨by simp [getX, h, h1], by simp [entsFrom, Instr.findNow, Instr.sameNow, hb, h2]⟩
      · refine .inr ⟨p + 1, u, by simp [getX, h, h1], by simpa using h0, ?_, ?_, fun z => ⟨?_, ?_⟩⟩
        · simp only [entsFrom, Instr.findNow, Instr.sameNow, if_true, hb, h2]
          simp
          omega
        · simp only [entsFrom, List.getElem?_cons_succ, h3]
          simp
          omega
        · simp [entsFrom, putX, h, (h4 z).1]
        · simp [putX, h, (h4 z).2]
theorem ents_push : ∀ (k : List (Int × Value)) (n : Int) (v : Value) (i : Nat), getX k n = none → entsFrom i k ++ [⟨.int .i64 n, v, i + k.length⟩] = entsFrom i (putX k n v) ∧ (putX k n v).length = k.length + 1
  | [], n, v, i, _ => by simp [entsFrom, putX]
  | (m, u) :: r, n, v, i, h => by
    have hm : m ≠ n := fun e => by simp [getX, e] at h
    have hr : getX r n = none := by simpa [getX, hm] using h
    obtain ⟨h1, h2⟩ := ents_push r n v (i + 1) hr
    refine ⟨?_, by simp [putX, hm, h2]⟩
    simp only [entsFrom, putX, if_neg hm, List.cons_append, ← h1, List.length_cons]
    congr 4
    omega

/-! What stands at a key, of lists of whatever. -/
def getA {β : Type} : List (Int × β) → Int → Option β
  | [], _ => none
  | (m, v) :: r, n => if m = n then some v else getA r n
def putA {β : Type} : List (Int × β) → Int → β → List (Int × β)
  | [], n, v => [(n, v)]
  | (m, u) :: r, n, v => if m = n then (n, v) :: r else (m, u) :: putA r n v
def mapA {β : Type} (f : β → Value) (k : List (Int × β)) : List (Int × Value) := k.map (fun p => (p.1, f p.2))
section
variable {β : Type}
theorem getX_map (f : β → Value) : ∀ (k : List (Int × β)) (n : Int), getX (mapA f k) n = (getA k n).map f
  | [], n => rfl
  | (m, v) :: r, n => by
    show (if m = n then some (f v) else getX (mapA f r) n) = (if m = n then some v else getA r n).map f
    split
    · rfl
    · exact getX_map f r n
theorem putX_map (f : β → Value) : ∀ (k : List (Int × β)) (n : Int) (v : β), putX (mapA f k) n (f v) = mapA f (putA k n v)
  | [], n, v => rfl
  | (m, u) :: r, n, v => by
    show (if m = n then (n, f v) :: mapA f r else (m, f u) :: putX (mapA f r) n (f v)) = mapA f (if m = n then (n, v) :: r else (m, u) :: putA r n v)
    split
    · rfl
    · rw [putX_map f r n v]; rfl
theorem mapA_length (f : β → Value) (k : List (Int × β)) : (mapA f k).length = k.length := by simp [mapA]
theorem mapA_keys (f : β → Value) (k : List (Int × β)) : (mapA f k).map (·.1) = k.map (·.1) := by simp [mapA]
theorem getA_put : ∀ (k : List (Int × β)) (n : Int) (v : β) (m : Int), getA (putA k n v) m = if n = m then some v else getA k m
  | [], n, v, m => by simp [putA, getA]
  | (q, u) :: r, n, v, m => by
    unfold putA
    by_cases h : q = n
    · subst h
      simp only [getA]
      by_cases h2 : q = m
      · simp [h2, getA]
      · simp [h2, getA]
    · simp only [if_neg h, getA]
      by_cases h2 : q = m
      · subst h2
        simp [Ne.symm h]
      · simp [h2, getA_put r n v m]
theorem keys_put : ∀ (k : List (Int × β)) (n : Int) (v : β) (m : Int), m ∈ (putA k n v).map (·.1) ↔ m = n ∨ m ∈ k.map (·.1)
  | [], n, v, m => by simp [putA]
  | (q, u) :: r, n, v, m => by
    unfold putA
    by_cases h : q = n
    · subst h
      simp
    · simp only [if_neg h, List.map_cons, List.mem_cons, keys_put r n v m]
      constructor
      · rintro (h1 | h1 | h1)
        · exact .inr (.inl h1)
        · exact .inl h1
        · exact .inr (.inr h1)
      · rintro (h1 | h1 | h1)
        · exact .inr (.inl h1)
        · exact .inl h1
        · exact .inr (.inr h1)
theorem nodup_put : ∀ (k : List (Int × β)) (n : Int) (v : β), (k.map (·.1)).Nodup → ((putA k n v).map (·.1)).Nodup
  | [], n, v, _ => by simp [putA]
  | (q, u) :: r, n, v, h => by
    simp only [List.map_cons, List.nodup_cons] at h
    unfold putA
    by_cases hq : q = n
    · subst hq
      simpa using h
    · simp only [if_neg hq, List.map_cons, List.nodup_cons]
      exact ⟨fun hm => ((keys_put r n v q).1 hm).elim (fun e => hq e) h.1, nodup_put r n v h.2⟩
theorem putA_length_le : ∀ (k : List (Int × β)) (n : Int) (v : β), (putA k n v).length ≤ k.length + 1
  | [], n, v => by simp [putA]
  | (m, u) :: r, n, v => by
    unfold putA
    split
    · simp
    · simpa using putA_length_le r n v
theorem getA_some {k : List (Int × β)} {n : Int} : (getA k n).isSome = true ↔ n ∈ k.map (·.1) := by
  induction k with
  | nil => simp [getA]
  | cons p r ih =>
    obtain ⟨m, v⟩ := p
    simp only [getA, List.map_cons, List.mem_cons]
    by_cases h : m = n
    · simp [h]
    · simp [h, Ne.symm h, ih]
end
section
variable {P : Program}
theorem look_x (t kt e : TypeId) (ht : P.underlying t = some (.map kt e)) (hk : P.underlying kt = some (.int .i64)) {w : World} {b : Nat} {k : List (Int × Value)} (hg : MapX w b k) (n : Int) (z : Value) (hz : (zeroValue e).run P w = .ok z w) :
    (Instr.lookup t (.map (some b)) (.int .i64 n) false).run P w = .ok ((getX k n).getD z) w ∧ (Instr.lookup t (.map (some b)) (.int .i64 n) true).run P w = .ok (.tuple #[(getX k n).getD z, .bool (getX k n).isSome]) w := by
  unfold MapX at hg
  have e1 := run_checkKey_int (P := P) kt .i64 hk (entsFrom 0 k).isEmpty 9999 n w
  rcases find_get k n 0 0 with ⟨h1, h2⟩ | ⟨p, v, h1, h0, h2, h3, h4⟩
  · constructor <;> simp [Instr.lookup, run_underlying ht, MapKept.run_getObj_map hg, e1, Instr.findKey, run_underlying hk, h2, hz, h1]
  · constructor <;> simp [Instr.lookup, run_underlying ht, MapKept.run_getObj_map hg, e1, Instr.findKey, run_underlying hk, h2, h1]
theorem upd_x (t kt e : TypeId) (ht : P.underlying t = some (.map kt e)) (hk : P.underlying kt = some (.int .i64)) {w : World} {b : Nat} {k : List (Int × Value)} (hg : MapX w b k) (n : Int) (hn : (Lit.int .i64 n).wf = true) (v : Value) :
    ∃ w', (Instr.mapUpdate t (.map (some b)) (.int .i64 n) v).run P w = .ok () w' ∧ MapX w' b (putX k n v) ∧ w.grownBy w' (some b) := by
  unfold MapX at hg ⊢
  have e1 := run_checkKey_int (P := P) kt .i64 hk false 9999 n w
  have hkey : keyOf P kt (.int .i64 n) = some (.int .i64 n) := Maps.keyOf_int_mk hk hn
  rcases find_get k n 0 0 with ⟨h1, h2⟩ | ⟨p, u, h1, h0, h2, h3, h4⟩
  · obtain ⟨q1, q2⟩ := ents_push k n v 0 h1
    refine ⟨setBlock w b (.map ((entsFrom 0 k).toArray.push ⟨.int .i64 n, v, k.length⟩) (k.length + 1)), ?_, ?_, ⟨rfl, rfl, rfl, by simp [setBlock], fun i _ hi => heap_setBlock_other hg _ (fun e => hi (by rw [e]))⟩⟩
    · simp [Instr.mapUpdate, run_underlying ht, MapKept.run_getObj_map hg, e1, Instr.findKey, run_underlying hk, h2, MapKept.run_setObj_map _ hg, setBlock]
    · rw [heap_setBlock_same hg, q2, ← q1]
      simp
  · refine ⟨setBlock w b (.map ((entsFrom 0 k).toArray.modify p (fun e => { e with key := .int .i64 n, val := v })) k.length), ?_, ?_, ⟨rfl, rfl, rfl, by simp [setBlock], fun i _ hi => heap_setBlock_other hg _ (fun e => hi (by rw [e]))⟩⟩
    · have hs := (Maps.int_keyed hk).stays w hkey
      rw [Nat.zero_add] at h2
      have hpl : p < (entsFrom 0 k).length := by rw [entsFrom_length]; exact h0
      have h3' : (entsFrom 0 k).toArray[p]? = some ⟨.int .i64 n, u, 0 + p⟩ := by simpa using h3
      simp [Instr.mapUpdate, run_underlying ht, MapKept.run_getObj_map hg, e1, Instr.findKey, run_underlying hk, h2, h3, hs, MapKept.run_setObj_map _ hg, setBlock]
    · rw [heap_setBlock_same hg, (h4 v).2, ← (h4 v).1]
      simp
end
section
variable {F : Fence} {nF : Nat} {P : Program} (w : World) {ops : Array Oper} {rest : List Oper} {o : Oper} {a : Act} {Q : Exit → Act → World → Prop}
theorem wpList_updX (hg : o.guard = none) (m x v : Operand) (t : TypeId) (hop : o.op = Op.mapUpdate t m x v) (kt e : TypeId) (ht : P.underlying t = some (.map kt e)) (hk : P.underlying kt = some (.int .i64)) (b : Nat) (k : List (Int × Value))
    (hm : a.eval m = .map (some b)) (hown : MapX w b k) (n : Int) (val : Value) (hx : a.eval x = .int .i64 n) (hn : (Lit.int .i64 n).wf = true) (hv : a.eval v = val)
    (hK : ∀ w', MapX w' b (putX k n val) → w.grownBy w' (some b) → wpList P ops Q rest (a.put o.dst undef) w') : wpList P ops Q (o :: rest) a w := by
  refine wpList_plain hg fun K' hK' => ?_
  obtain ⟨w', hrun, r1, r2⟩ := upd_x t kt e ht hk hown n hn val
  unfold Oper.wp
  simp [execOp, hop, hm, hx, hv, hrun, Result.andThen]
  exact hK' _ _ (hK w' r1 r2)
theorem wpListIn_updX (hg : o.guard = none) (m x v : Operand) (t : TypeId) (hop : o.op = Op.mapUpdate t m x v) (kt e : TypeId) (ht : P.underlying t = some (.map kt e)) (hk : P.underlying kt = some (.int .i64)) (b : Nat) (k : List (Int × Value))
    (hm : a.eval m = .map (some b)) (hown : MapX w b k) (n : Int) (val : Value) (hx : a.eval x = .int .i64 n) (hn : (Lit.int .i64 n).wf = true) (hv : a.eval v = val)
    (hK : ∀ w', MapX w' b (putX k n val) → w.grownBy w' (some b) → wpListIn F nF P ops Q rest (a.put o.dst undef) w') : wpListIn F nF P ops Q (o :: rest) a w := by
  refine wpListIn_plain hg fun K' hK' => ?_
  obtain ⟨w', hrun, r1, r2⟩ := upd_x t kt e ht hk hown n hn val
  unfold Oper.wpIn
  refine ⟨by simp [Oper.about, hop], ?_⟩
  rw [Oper.semAt_plain F _ _ (by rw [hop]; intro c hc'; cases hc')]
  simp [execOp, hop, hm, hx, hv, hrun, Result.andThen]
  exact hK' _ _ (hK w' r1 r2)
theorem wpList_lookX (hg : o.guard = none) (m x : Operand) (t : TypeId) (hop : o.op = Op.lookup t m x false) (kt e : TypeId) (ht : P.underlying t = some (.map kt e)) (hk : P.underlying kt = some (.int .i64)) (z : Value) (hz : (zeroValue e).run P w = .ok z w) (b : Nat) (k : List (Int × Value))
    (hm : a.eval m = .map (some b)) (hown : MapX w b k) (n : Int) (hx : a.eval x = .int .i64 n) (u : Value) (hu : (getX k n).getD z = u)
    (hK : wpList P ops Q rest (a.put o.dst u) w) : wpList P ops Q (o :: rest) a w := by
  refine wpList_plain hg fun K' hK' => ?_
  have hrun := (look_x t kt e ht hk hown n z hz).1
  rw [hu] at hrun
  unfold Oper.wp
  simp [execOp, hop, hm, hx, hrun, Result.andThen]
  exact hK' _ _ hK
theorem wpListIn_lookX (hg : o.guard = none) (m x : Operand) (t : TypeId) (hop : o.op = Op.lookup t m x false) (kt e : TypeId) (ht : P.underlying t = some (.map kt e)) (hk : P.underlying kt = some (.int .i64)) (z : Value) (hz : (zeroValue e).run P w = .ok z w) (b : Nat) (k : List (Int × Value))
    (hm : a.eval m = .map (some b)) (hown : MapX w b k) (n : Int) (hx : a.eval x = .int .i64 n) (u : Value) (hu : (getX k n).getD z = u)
    (hK : wpListIn F nF P ops Q rest (a.put o.dst u) w) : wpListIn F nF P ops Q (o :: rest) a w := by
  refine wpListIn_plain hg fun K' hK' => ?_
  have hrun := (look_x t kt e ht hk hown n z hz).1
  rw [hu] at hrun
  unfold Oper.wpIn
  refine ⟨by simp [Oper.about, hop], ?_⟩
  rw [Oper.semAt_plain F _ _ (by rw [hop]; intro c hc'; cases hc')]
  simp [execOp, hop, hm, hx, hrun, Result.andThen]
  exact hK' _ _ hK
theorem wpList_lookX_ok (hg : o.guard = none) (m x : Operand) (t : TypeId) (hop : o.op = Op.lookup t m x true) (kt e : TypeId) (ht : P.underlying t = some (.map kt e)) (hk : P.underlying kt = some (.int .i64)) (z : Value) (hz : (zeroValue e).run P w = .ok z w) (b : Nat) (k : List (Int × Value))
    (hm : a.eval m = .map (some b)) (hown : MapX w b k) (n : Int) (hx : a.eval x = .int .i64 n) (u : Value) (hu : (getX k n).getD z = u) (is : Bool) (his : (getX k n).isSome = is)
    (hK : wpList P ops Q rest (a.put o.dst (.tuple #[u, .bool is])) w) : wpList P ops Q (o :: rest) a w := by
  refine wpList_plain hg fun K' hK' => ?_
  have hrun := (look_x t kt e ht hk hown n z hz).2
  rw [hu, his] at hrun
  unfold Oper.wp
  simp [execOp, hop, hm, hx, hrun, Result.andThen]
  exact hK' _ _ hK
end
theorem MapX.kept {w w' : World} {b : Nat} {k : List (Int × Value)} {row : Option Nat} (h : MapX w b k) (hg : w.grownBy w' row) (hne : some b ≠ row) : MapX w' b k :=
  (hg.block b (Array.getElem?_eq_some_iff.1 h).1 hne).trans h
theorem MapX.alloc {w : World} {b : Nat} {k : List (Int × Value)} (h : MapX w b k) (o : Obj) : MapX (w.alloc o) b k := h.kept (World.grownBy_alloc w o none) (by simp)
theorem MapX.drew {w : World} {b : Nat} {k : List (Int × Value)} (h : MapX w b k) : MapX w.drew b k := h
theorem MapX.drewN {w : World} {b : Nat} {k : List (Int × Value)} (h : MapX w b k) (n : Nat) : MapX (w.drewN n) b k := h
theorem MapX.lt {w : World} {b : Nat} {k : List (Int × Value)} (h : MapX w b k) : b < w.heap.size := (Array.getElem?_eq_some_iff.1 h).1
theorem MapX.below {w w' : World} {b B : Nat} {k : List (Int × Value)} (h : MapX w b k) (hb : Below B w w') (hB : b < B) : MapX w' b k := (hb.block b hB).trans h
theorem MapX.made {w : World} {b : Nat} (hb : w.heap.size = b) : MapX (w.alloc (.map #[] 0)) b [] := hb ▸ heap_alloc_new w _
theorem MapX.setCell {w : World} {b : Nat} {k : List (Int × Value)} (h : MapX w b k) {p : Addr} (hp : b ≠ p.block) (v : Value) : MapX (w.setCell p v) b k := (heap_setCell_other w p b v hp).trans h
end Go.Proofs.Ytfmkfmcplffhdaa

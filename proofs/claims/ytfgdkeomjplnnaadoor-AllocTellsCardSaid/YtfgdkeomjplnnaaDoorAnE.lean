/- A map from homes to spans, told exactly; ranging over it. When homes are apart, plainly. No condition. -/
import Derived.Test.YtfgdkeomjplnnaaDoorAnC
import Derived.Maps.RangeWalk
import Derived.DeepKeys4
import Derived.WideKeyEntry
namespace Go.Proofs.YtfgdkeomjplnnaaDoor
set_option linter.unusedVariables false
open Go.RowKit
open Go.ChangeMaps (setBlock heap_setBlock_same heap_setBlock_other)
attribute [local irreducible] Blk
/-! The keys. -/
def Hm.key (h : Hm) : Value := .agg #[.bool h.isSlot, .int .i64 h.n]
theorem Hm.key_inj {a b : Hm} (h : a.key = b.key) : a = b := by
  obtain ⟨a1, a2⟩ := a
  obtain ⟨b1, b2⟩ := b
  unfold Hm.key at h
  simp at h
  rw [h.1, h.2]
theorem homeRow : Tryd.prog.keyTypeAt 2 30 = true := by kernel_rfl
theorem homeLaw : WideMaps.KeyLaw Tryd.prog 30 := deep_law (m := 2) (by omega) homeRow (by kernel_rfl) (by kernel_rfl)
theorem typesN : Tryd.prog.types.size = Tryd.prog.types.size - 1 + 1 := by kernel_rfl
theorem homeKT : Tryd.prog.keyType 30 = true := by kernel_rfl
theorem homeCells : Tryd.prog.cellsOf 30 = 2 := by kernel_rfl
theorem boolCells : Tryd.prog.cellsOf 4 = 1 := by kernel_rfl
theorem intCells : Tryd.prog.cellsOf 3 = 1 := by kernel_rfl
theorem homeKey {h : Hm} (hw : (Lit.int .i64 h.n).wf = true) : ∃ kl, keyOf Tryd.prog 30 h.key = some kl := by
  obtain ⟨s, n⟩ := h
  refine ⟨.string (keyBytes [.bool s, .int .i64 n]), ?_⟩
  unfold keyOf Hm.key
  simp only [Tryd.underlying30]
  rw [if_pos (by simp [homeKT, Value.formed, Tryd.underlying30, homeCells]), typesN]
  unfold Program.keyLits
  simp only [Tryd.underlying30, Value.cells]
  rw [if_pos (by rw [homeCells]; exact ⟨rfl, by kernel_rfl⟩)]
  simp only [List.mapM_cons, List.mapM_nil, boolCells, intCells]
  simp only [List.drop_zero, List.drop_succ_cons, List.take_succ_cons, List.take_zero]
  unfold Program.keyLits
  simp only [Tryd.underlying4, Tryd.underlying3]
  simp only [true_and]
  rw [if_pos hw]
  rfl
/-! The map. -/
def entsH : Nat → List (Hm × Value) → List MapEntry
  | _, [] => []
  | i, (h, v) :: r => ⟨h.key, v, i⟩ :: entsH (i + 1) r
theorem entsH_len : ∀ (i : Nat) (G : List (Hm × Value)), (entsH i G).length = G.length
  | _, [] => rfl
  | i, (h, v) :: r => by simp [entsH, entsH_len (i + 1) r]
theorem entsH_get : ∀ (i : Nat) (G : List (Hm × Value)) (j : Nat), (entsH i G)[j]? = (G[j]?).map (fun p => ⟨p.1.key, p.2, i + j⟩)
  | _, [], j => by simp [entsH]
  | i, (h, v) :: r, 0 => by simp [entsH]
  | i, (h, v) :: r, j + 1 => by
    simp only [entsH, List.getElem?_cons_succ, entsH_get (i + 1) r j]
    congr 1
    funext p
    congr 1
    omega
theorem entsH_app (i : Nat) (G : List (Hm × Value)) (h : Hm) (v : Value) : entsH i (G ++ [(h, v)]) = entsH i G ++ [⟨h.key, v, i + G.length⟩] := by
  induction G generalizing i with
  | nil => rfl
  | cons p r ih =>
    obtain ⟨a, b⟩ := p
    show ⟨a.key, b, i⟩ :: entsH (i + 1) (r ++ [(h, v)]) = _
    rw [ih]
    simp [entsH]
    omega
theorem entsH_set (G : List (Hm × Value)) (j : Nat) (h : Hm) (v v' : Value) (hj : G[j]? = some (h, v)) : (entsH 0 G).modify j (fun e => { e with val := v' }) = entsH 0 (G.set j (h, v')) := by
  apply List.ext_getElem?
  intro k
  rw [List.getElem?_modify, entsH_get, entsH_get, List.getElem?_set]
  by_cases hk : j = k
  · subst hk
    rw [hj]
    simp [(List.getElem?_eq_some_iff.1 hj).1]
  · simp [hk]
theorem entsH_born (G : List (Hm × Value)) : ∀ i, (entsH i G).map (·.born) = List.range' i G.length := by
  induction G with
  | nil => intro i; rfl
  | cons p r ih =>
    intro i
    obtain ⟨a, b⟩ := p
    simp [entsH, ih, List.range'_succ]
theorem entsH_nodup (G : List (Hm × Value)) : ((entsH 0 G).map (·.born)).Nodup := by
  rw [entsH_born]
  exact List.nodup_range'
def mapObj (G : List (Hm × Value)) : Obj := .map (entsH 0 G).toArray G.length
def MapHX (w : World) (b : Nat) (G : List (Hm × Value)) : Prop := w.heap[b]? = some (mapObj G)
def OkKeys (G : List (Hm × Value)) : Prop := ∀ p ∈ G, (Lit.int .i64 p.1.n).wf = true
theorem entsH_mem {G : List (Hm × Value)} {e : MapEntry} (h : e ∈ entsH 0 G) : ∃ j p, G[j]? = some p ∧ e = ⟨p.1.key, p.2, j⟩ := by
  obtain ⟨j, hj⟩ := List.getElem?_of_mem h
  rw [entsH_get] at hj
  cases hp : G[j]? with
  | none => rw [hp] at hj; cases hj
  | some p =>
    rw [hp] at hj
    simp only [Option.map_some, Option.some.injEq, Nat.zero_add] at hj
    exact ⟨j, p, hp, hj.symm⟩
theorem setBlock_self {w : World} {b : Nat} {o : Obj} (h : w.heap[b]? = some o) : setBlock w b o = w := by
  unfold setBlock
  congr 1
  apply Array.ext_getElem?
  intro i
  rw [Array.getElem?_setIfInBounds]
  by_cases hi : b = i
  · subst hi
    rw [if_pos rfl, h]
    split
    · rfl
    · have := (Array.getElem?_eq_some_iff.1 h).1
      omega
  · rw [if_neg hi]
theorem find_at {G : List (Hm × Value)} {j : Nat} {h : Hm} {v : Value} (hj : G[j]? = some (h, v)) : (entsH 0 G).findIdx? (fun e => ((e.born : Nat) : Int) == ((j : Nat) : Int)) = some j := by
  have := WideElems.findIdx_born (entsH_nodup G) (j := j) (e0 := ⟨h.key, v, j⟩) (by rw [entsH_get, hj]; simp)
  exact this
/-- The entry at a key that is there; at one that isn't. -/
theorem entry_law {w : World} {b : Nat} {G : List (Hm × Value)} (hm : MapHX w b G) (hk : OkKeys G) (hd : (G.map (·.1)).Nodup) {h : Hm} (hw : (Lit.int .i64 h.n).wf = true) :
    (∃ (j : Nat) (v : Value), G[j]? = some (h, v) ∧ (∀ w1, w1.heap[b]? = some (mapObj G) → (Instr.mapEntry 67 (.map (some b)) h.key).run Tryd.prog w1 = .ok (.tuple #[v, goInt j]) w1) ∧
      ∀ w2 val, MapHX w2 b G → (Instr.entryStore 67 (.map (some b)) (goInt j) val).run Tryd.prog w2 = .ok () (setBlock w2 b (mapObj (G.set j (h, val))))) ∨
    ((∀ p ∈ G, p.1 ≠ h) ∧ (∀ w1, w1.heap[b]? = some (mapObj G) → (Instr.mapEntry 67 (.map (some b)) h.key).run Tryd.prog w1 = .ok (.tuple #[.slice none 0 0, goInt G.length]) (setBlock w1 b (mapObj (G ++ [(h, .slice none 0 0)])))) ∧
      ∀ w2 val, MapHX w2 b (G ++ [(h, .slice none 0 0)]) → (Instr.entryStore 67 (.map (some b)) (goInt G.length) val).run Tryd.prog w2 = .ok () (setBlock w2 b (mapObj (G ++ [(h, val)])))) := by
  obtain ⟨kl, hkey⟩ := homeKey hw
  have hkeys : ∀ e ∈ entsH 0 G, ∃ l, keyOf Tryd.prog 30 e.key = some l := fun e he => by
    obtain ⟨j, p, hp, rfl⟩ := entsH_mem he
    exact homeKey (hk p (List.mem_of_getElem? hp))
  have store : ∀ (G : List (Hm × Value)) (j : Nat) (h : Hm) (v0 : Value), G[j]? = some (h, v0) → ∀ w2 val, MapHX w2 b G → (Instr.entryStore 67 (.map (some b)) (goInt j) val).run Tryd.prog w2 = .ok () (setBlock w2 b (mapObj (G.set j (h, val)))) := fun G j h v0 hj w2 val hw2 => by
    unfold MapHX mapObj at hw2
    have hidx : ((entsH 0 G).toArray).findIdx? (fun e => ((e.born : Nat) : Int) == ((j : Nat) : Int)) = some j := by
      rw [WideElems.findIdx_arr]
      exact find_at hj
    have hmod : ((entsH 0 G).toArray).modify j (fun e => { e with val := val }) = (entsH 0 (G.set j (h, val))).toArray := by
      apply Array.ext'
      rw [Array.toList_modify]
      exact entsH_set G j h v0 val hj
    unfold mapObj
    simp [Instr.entryStore, MapKept.run_getObj_map hw2, asInt, asIntOf, goInt, hidx, hmod, MapKept.run_setObj_map _ hw2, Result.andThen, setBlock]
  have K := homeLaw
  rcases K.find w hkey (entsH 0 G) hkeys with ⟨h1, h2⟩ | ⟨j, e0, h1, h2, h3⟩
  · right
    refine ⟨fun p hp he => ?_, fun w1 hm1 => ?_, fun w2 val hw2 => ?_⟩
    · obtain ⟨j, hj⟩ := List.getElem?_of_mem hp
      have := h2 ⟨p.1.key, p.2, j⟩ (List.mem_of_getElem? (i := j) (by rw [entsH_get, hj]; simp))
      exact this (by rw [he])
    · rcases K.find w1 hkey (entsH 0 G) hkeys with ⟨q1, _⟩ | ⟨j, e0, q1, q2, q3⟩
      · have hm' : w1.heap[b]? = some (.map (entsH 0 G).toArray G.length) := hm1
        have hz : ∀ u : World, (zeroValue 24).run Tryd.prog u = .ok (.slice none 0 0) u := Tryd.zeroValue24
        unfold mapObj
        rw [entsH_app, Nat.zero_add]
        simp [Instr.mapEntry, run_underlying Tryd.underlying67, MapKept.run_getObj_map hm', K.check w1 false hkey, q1, hz, MapKept.run_setObj_map _ hm', Result.andThen, setBlock, goInt]
      · exact absurd q3 (h2 e0 (List.mem_of_getElem? q2))
    · have := store (G ++ [(h, .slice none 0 0)]) G.length h (.slice none 0 0) (by simp) w2 val hw2
      have e : (G ++ [(h, Value.slice none 0 0)]).set G.length (h, val) = G ++ [(h, val)] := by simp
      rw [e] at this
      exact this
  · left
    obtain ⟨j0, p, hp, he⟩ := entsH_mem (List.mem_of_getElem? h2)
    have hjj : j = j0 := by
      rw [entsH_get] at h2
      cases hpj : G[j]? with
      | none => rw [hpj] at h2; cases h2
      | some p2 =>
        rw [hpj] at h2
        simp only [Option.map_some, Option.some.injEq, Nat.zero_add] at h2
        rw [he] at h2
        simpa using congrArg MapEntry.born h2
    subst hjj
    obtain ⟨ph, pv⟩ := p
    subst he
    obtain rfl : ph = h := Hm.key_inj h3
    refine ⟨j, pv, hp, fun w1 hm1 => ?_, store G j ph pv hp⟩
    have hm' : w1.heap[b]? = some (.map (entsH 0 G).toArray G.length) := hm1
    rcases K.find w1 hkey (entsH 0 G) hkeys with ⟨_, q2⟩ | ⟨j', e1, q1, q2, q3⟩
    · exact absurd rfl (q2 _ (List.mem_of_getElem? h2))
    · obtain ⟨j2, p2, hp2, he2⟩ := entsH_mem (List.mem_of_getElem? q2)
      have hj2 : j' = j2 := by
        rw [entsH_get] at q2
        cases hpj : G[j']? with
        | none => rw [hpj] at q2; cases q2
        | some p3 =>
          rw [hpj] at q2
          simp only [Option.map_some, Option.some.injEq, Nat.zero_add] at q2
          rw [he2] at q2
          simpa using congrArg MapEntry.born q2
      subst hj2
      obtain ⟨ph2, pv2⟩ := p2
      subst he2
      obtain rfl : ph2 = ph := Hm.key_inj q3
      have hjj : j' = j := by
        have a1 : (G.map (·.1))[j']? = some ph2 := by rw [List.getElem?_map, hp2]; rfl
        have a2 : (G.map (·.1))[j]? = some ph2 := by rw [List.getElem?_map, hp]; rfl
        exact (List.getElem?_inj (List.getElem?_eq_some_iff.1 a1).1 hd).1 (a1.trans a2.symm)
      subst hjj
      rw [hp] at hp2
      obtain rfl : pv = pv2 := by simpa using hp2
      have hsame : (entsH 0 G).modify j' (fun e => { key := ph2.key, val := e.val, born := e.born }) = entsH 0 G := by
        apply List.ext_getElem?
        intro k
        rw [List.getElem?_modify]
        by_cases hk2 : j' = k
        · subst hk2
          rw [h2]
          simp
        · simp [hk2]
      have hrun : (Instr.mapEntry 67 (.map (some b)) ph2.key).run Tryd.prog w1 = .ok (.tuple #[pv, goInt j']) (setBlock w1 b (.map (entsH 0 G).toArray G.length)) := by
        simp [Instr.mapEntry, run_underlying Tryd.underlying67, MapKept.run_getObj_map hm', K.check w1 false hkey, q1, h2, K.stays w1 hkey, hsame, MapKept.run_setObj_map _ hm', Result.andThen, setBlock, goInt]
      rw [hrun, setBlock_self hm']
end Go.Proofs.YtfgdkeomjplnnaaDoor

/- A region that draws its order, whose operations only read, and whose callees may lay blocks of their own and draw: one walk in the text's order serves every order: the class of worlds in which all that lay in w lies unturned. No condition. -/
import Derived.Test.YtfgdkeomjplnnaaDoorLvQl
namespace Go.Proofs.YtfgdkeomjplnnaaDoor
set_option linter.unusedVariables false
open Go.RowKit
/-- A world in which all that lay in w lies unturned. -/
structure Bel (w : World) where
  val : World
  le : Below w.heap.size w val
instance bel_any (w : World) : Nonempty (Bel w) := ⟨⟨w, Below.refl _ w⟩⟩
section
variable {P : Program} {Q : Exit → Act → World → Prop} {id : Nat} {a : Act} {w : World} {l : List Oper}
theorem region_bel (hm : P.follows .mixedOrders = true) (hB : Region.lexB .any l.toArray = true)
    (h : wpQuiet P l.toArray (fun w' => ∃ p : Bel w, w' = p.val) (fun a' => ∀ w', (∃ p : Bel w, w' = p.val) → Q .normal a' w') l a) : (Code.region id l.toArray true).wp P Q a w :=
  wp_region_quiet (C := fun w' => ∃ p : Bel w, w' = p.val) hm hB ⟨⟨w.drew, (Below.refl _ w).drew⟩, rfl⟩ (by simpa using h)
theorem bel_cell {c : Addr} {v : Value} (h : w.cell? c = some v) (hb : c.block < w.heap.size) (p : Bel w) : p.val.cell? c = some v := (p.le.cell hb).trans h
theorem calls_bel {f : FuncId} {args : Array Value} {v : Value} {p : Bel w} (h : Calls P f args p.val fun e w' => e = .returned v ∧ Below p.val.heap.size p.val w') : Calls P f args p.val fun e w'' => e = .returned v ∧ ∃ q : Bel w, w'' = q.val :=
  h.mono fun _ _ ⟨he, hb⟩ => ⟨he, ⟨_, p.le.trans (hb.mono p.le.size)⟩, rfl⟩
end
end Go.Proofs.YtfgdkeomjplnnaaDoor

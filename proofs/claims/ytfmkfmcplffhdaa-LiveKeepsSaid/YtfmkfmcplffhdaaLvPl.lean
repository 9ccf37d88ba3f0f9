/- ploverlaw19.place, outs: what code puts out, if each value lives where a map says. Conditions: at most a million instructions, whose values are small. -/
import Derived.Test.YtfmkfmcplffhdaaLvHw
import Derived.Test.YtfmkfmcplffhdaaLvQl
namespace Go.Proofs.Ytfmkfmcplffhdaa
set_option linter.unusedVariables false
open Go.RowKit
attribute [local irreducible] Blk
/-- A map of homes, or none: then each value lives alone. -/
def Wh (w : World) (B : Nat) (wv : Value) (pl : Int → Int) : Prop := (wv = .map none ∧ pl = id) ∨ ∃ b K, wv = .map (some b) ∧ MapX w b (mapA iV K) ∧ pl = hAt K ∧ b < B
theorem Wh.below {w w' : World} {B : Nat} {wv : Value} {pl : Int → Int} (h : Wh w B wv pl) (hb : Below B w w') : Wh w' B wv pl := by
  rcases h with h | ⟨b, K, h1, h2, h3, h4⟩
  · exact .inl h
  · exact .inr ⟨b, K, h1, h2.below hb h4, h3, h4⟩
set_option maxRecDepth 100000 in
theorem place_any (w : World) (B : Nat) (wv : Value) (pl : Int → Int) (v : Int) (h : Wh w B wv pl) :
    Calls Try.prog 36 #[wv, .int .i64 v] w fun e w' => e = .returned (.int .i64 (pl v)) ∧ w' = w := by
  have hq : ∀ (w : World) (r : Option Nat), (binOp .eql 47 (.map r) (.map none)).run Try.prog w = .ok (.bool r.isNone) w := fun w r => run_eql_map_nil w _ _ _ r Try.underlying47
  rcases h with ⟨rfl, rfl⟩ | ⟨b, K, rfl, hM, rfl, _⟩
  · go_enter Try.func36, Try.ntmps36
    go_wp2_with fail
    go_ret
    exact ⟨rfl, rfl⟩
  · have hgd : (getX (mapA iV K) v).getD (.int .i64 0) = .int .i64 (hAt K v) := by rw [getX_map]; unfold hAt; cases getA K v <;> rfl
    go_enter Try.func36, Try.ntmps36
    go_wp2_with (first
      | (at_lookup; go_loud (refine wpList_lookX _ rfl _ _ 47 rfl 3 3 Try.underlying47 Try.underlying3 (.int .i64 0) (Try.zeroValue3 _) b (mapA iV K) rfl hM v rfl (.int .i64 (hAt K v)) hgd ?_)))
    go_ret
    exact ⟨rfl, rfl⟩

end Go.Proofs.Ytfmkfmcplffhdaa

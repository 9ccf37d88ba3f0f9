/- LiveNames: the spans of the code with its names shifted are the spans with the names shifted: the law returns true, for every input. No condition. -/
import Derived.Test.YtfmkfmcplffhdaaRows
import Derived.WalkKit
import Derived.ProofKit
import Derived.OpenShut
import Derived.Test.YtfmkfmcplffhdaaLvHo
import Derived.Test.YtfmkfmcplffhdaaLvNa
import Derived.Test.YtfmkfmcplffhdaaLvSm
import Derived.Test.YtfmkfmcplffhdaaLvDoor
namespace Go.Proofs.Ytfmkfmcplffhdaa.liveNames
open Go.ChangeShapes Go.WideShapes Go.ChangeAt Go.RowKit
set_option linter.unusedVariables false      -- a walk need not use every 'w<i>' (that an integer argument fits its kind)

theorem own : ownKnob Try.prog.godebug = none := by kernel_rfl

/-! ### THE ROW's STEP: WRITTEN OUT: LEAVE IT -/
set_option maxRecDepth 100000 in
theorem lifted (os : Os) (started : os.Started) (H : Type) (enc : TypeId × Value → H) :
    ReturnsInHanded {} Try.checked os 7 .any (Rows.liveNamesSpec.pre6 enc Try.prog Try.f7 Rows.liveNamesRow.domain false) (Rows.liveNamesSpec.post enc Try.prog Try.f7 false true false false) := by
  refine returnsInHanded_of_change (C := Try.checked) own started (by kernel_rfl) Try.func7
    (ChangeSpec.witness6 (enc := enc) (C := Try.checked) false ⟨#[], #[.slice none 0 0, .int .u8 0], []⟩ 8 (by kernel_rfl) (by kernel_rfl) (by kernel_rfl) (by kernel_rfl)) ?_
  intro W base args ds gs before hval0 hW hcnd _
  have hval : ∀ (j : Nat) t v, Try.f7.params[j]? = some t → args[j]? = some v → Value.okWide Try.prog W .any base t v := hval0
  have hW' := hW
  obtain ⟨p, q, hA0, hV, rfl, hfz, hnd⟩ := hW
  have hAk := hA0
  have hA : DataW.TrodAll enc Try.prog W 0 (fun _ => true) true Try.f7.params.toList args.toList ds p := hA0
  rw [Try.params7] at hA hval
  obtain ⟨rfl, rfl⟩ := trodVars_none hV
  clear hA0 hval0
  obtain ⟨v0, vs0, d0, ds0, p0, q0, ha0, rfl, rfl, h0, r0⟩ := trodAll_cons hA
  obtain ⟨v1, vs1, d1, ds1, p1, q1, ha1, rfl, rfl, h1, r1⟩ := trodAll_cons r0
  obtain ⟨rfl, rfl, rfl⟩ := trodAll_nil r1
  subst ha1
  obtain rfl : args = #[v0, v1] := by cases args; simp_all
  obtain ⟨A, l, c, rfl, hd, hok, hl⟩ := open_steps (hval 0 _ v0 rfl rfl) h0
  obtain ⟨n1, rfl⟩ := okWide_int Try.underlying5 (hval 1 _ v1 rfl rfl)
  obtain ⟨fuel1, hf1⟩ := h1
  obtain ⟨z1, hc1, _, hw1⟩ := DataW.trod_int Try.underlying5 hf1
  obtain rfl : n1 = z1 := by simpa [Value.cells] using hc1
  have hz1 := bd_u8 hw1
  obtain ⟨m1, rfl⟩ : ∃ m : Nat, n1 = (m : Int) := ⟨n1.toNat, by omega⟩
  refine (names_any W A l c m1 (by omega) hd hok hl (steps_small l)).mono fun e W' he => ?_
  obtain ⟨rfl, hb⟩ := he
  exact ⟨_, rfl, post_true hW' laidOut (by kernel_rfl) hAk (fun x hx => List.mem_append_left _ hx) rfl (by kernel_rfl) Try.underlying4 rfl hb⟩

theorem over : Rows.liveNamesRow.holds Try.pinned (OpenSpec.ofChange Rows.liveNamesSpec) :=
  OpenClaim.holds_of_wide 7 Try.f7 rfl rfl rfl rfl rfl rfl rfl ⟨rfl, rfl, rfl, rfl, rfl⟩ rfl rfl rfl rfl rfl (by kernel_rfl) Try.func7 (by kernel_rfl)
    (of_decide_eq_true (by kernel_rfl)) (by unfold Func.isWrapper; first | (rw [if_pos (by decide +kernel)]; kernel_rfl) | (rw [if_neg (by decide +kernel)]; exact ⟨rfl, rfl⟩))
    (fun os started H enc _ => lifted os started H enc)

/-- ████ THE STATEMENT ████ -/
theorem proved : Rows.LiveNamesSaid :=
  over
#print axioms proved
end Go.Proofs.Ytfmkfmcplffhdaa.liveNames

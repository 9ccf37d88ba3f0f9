/- LiveKeeps: values whose spans do not meet can live in one place: the law returns true, for every input. No condition. -/
import Derived.Test.YtfmkfmcplffhdaaRows
import Derived.WalkKit
import Derived.ProofKit
import Derived.OpenShut
import Derived.Test.YtfmkfmcplffhdaaLvHo
import Derived.Test.YtfmkfmcplffhdaaLvKe
import Derived.Test.YtfmkfmcplffhdaaLvSm
import Derived.Test.YtfmkfmcplffhdaaLvDoor
namespace Go.Proofs.Ytfmkfmcplffhdaa.liveKeeps
open Go.ChangeShapes Go.WideShapes Go.ChangeAt Go.RowKit
set_option linter.unusedVariables false      -- a walk need not use every 'w<i>' (that an integer argument fits its kind)

theorem own : ownKnob Try.prog.godebug = none := by kernel_rfl

/-! ### THE ROW's STEP: WRITTEN OUT: LEAVE IT -/
set_option maxRecDepth 100000 in
theorem lifted (os : Os) (started : os.Started) (H : Type) (enc : TypeId × Value → H) :
    ReturnsInHanded {} Try.checked os 4 .any (Rows.liveKeepsSpec.pre6 enc Try.prog Try.f4 Rows.liveKeepsRow.domain false) (Rows.liveKeepsSpec.post enc Try.prog Try.f4 false true false false) := by
  refine returnsInHanded_of_change (C := Try.checked) own started (by kernel_rfl) Try.func4
    (ChangeSpec.witness6 (enc := enc) (C := Try.checked) false ⟨#[], #[.slice none 0 0, .int .i32 0], []⟩ 8 (by kernel_rfl) (by kernel_rfl) (by kernel_rfl) (by kernel_rfl)) ?_
  intro W base args ds gs before hval0 hW hcnd _
  have hval : ∀ (j : Nat) t v, Try.f4.params[j]? = some t → args[j]? = some v → Value.okWide Try.prog W .any base t v := hval0
  have hW' := hW
  obtain ⟨p, q, hA0, hV, rfl, hfz, hnd⟩ := hW
  have hAk := hA0
  have hA : DataW.TrodAll enc Try.prog W 0 (fun _ => true) true Try.f4.params.toList args.toList ds p := hA0
  rw [Try.params4] at hA hval
  obtain ⟨rfl, rfl⟩ := trodVars_none hV
  clear hA0 hval0
  obtain ⟨v0, vs0, d0, ds0, p0, q0, ha0, rfl, rfl, h0, r0⟩ := trodAll_cons hA
  obtain ⟨v1, vs1, d1, ds1, p1, q1, ha1, rfl, rfl, h1, r1⟩ := trodAll_cons r0
  obtain ⟨rfl, rfl, rfl⟩ := trodAll_nil r1
  subst ha1
  obtain rfl : args = #[v0, v1] := by cases args; simp_all
  obtain ⟨A, l, c, rfl, hd, hok, hl⟩ := open_steps (hval 0 _ v0 rfl rfl) h0
  obtain ⟨n1, rfl⟩ := okWide_int Try.underlying21 (hval 1 _ v1 rfl rfl)
  obtain ⟨fuel1, hf1⟩ := h1
  obtain ⟨z1, hc1, _, hw1⟩ := DataW.trod_int Try.underlying21 hf1
  obtain rfl : n1 = z1 := by simpa [Value.cells] using hc1
  refine (keeps_any W A l c n1 hw1 hd hok hl (steps_small l)).mono fun e W' he => ?_
  obtain ⟨rfl, hb⟩ := he
  exact ⟨_, rfl, post_true hW' laidOut (by kernel_rfl) hAk (fun x hx => List.mem_append_left _ hx) rfl (by kernel_rfl) Try.underlying4 rfl hb⟩

theorem over : Rows.liveKeepsRow.holds Try.pinned (OpenSpec.ofChange Rows.liveKeepsSpec) :=
  OpenClaim.holds_of_wide 4 Try.f4 rfl rfl rfl rfl rfl rfl rfl ⟨rfl, rfl, rfl, rfl, rfl⟩ rfl rfl rfl rfl rfl (by kernel_rfl) Try.func4 (by kernel_rfl)
    (of_decide_eq_true (by kernel_rfl)) (by unfold Func.isWrapper; first | (rw [if_pos (by decide +kernel)]; kernel_rfl) | (rw [if_neg (by decide +kernel)]; exact ⟨rfl, rfl⟩))
    (fun os started H enc _ => lifted os started H enc)

/-- ████ THE STATEMENT ████ -/
theorem proved : Rows.LiveKeepsSaid :=
  over
#print axioms proved
end Go.Proofs.Ytfmkfmcplffhdaa.liveKeeps

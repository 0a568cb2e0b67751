/- FnExactExampleSchema returns what the reference's returns, for all arguments: the statement, from the law function's contract. -/
import Derived.Test.YtepmlphjnppajaaRows
import Derived.Test.YtepmlphjnppajaaG7L25
import Derived.Test.YtepmlphjnppajaaG8L25
import Derived.WalkKit
import Derived.ProofKit
import Derived.OpenShut
import Derived.ShutString
import Derived.ChangeOld
import Derived.Below
import Derived.SizedLaws
namespace Go.Proofs.Ytepmlphjnppajaa.fnExactExampleSchema
open Go.ChangeShapes Go.WideShapes Go.ChangeAt Go.RowKit
open Go.VC Go.VC.T Go.VC.F
set_option linter.unusedSimpArgs false
set_option linter.unusedVariables false
theorem own : ownKnob Try.prog.godebug = none := by kernel_rfl
theorem laid : laidOutB Try.prog = true := by kernel_rfl
theorem fine : ∀ t ∈ Try.f5.params.toList, Try.prog.readableRec t = true ∧ t < Try.prog.types.size := by
  have h : Try.f5.params.toList = [] := by kernel_rfl
  rw [h]
  intro t ht
  cases ht
set_option maxRecDepth 100000 in
theorem lifted (os : Os) (started : os.Started) (H : Type) (enc : TypeId × Value → H) :
    ReturnsInHanded {} Try.checked os 5 .any (Rows.fnExactExampleSchemaSpec.pre6 enc Try.prog Try.f5 Rows.fnExactExampleSchemaRow.domain false) (Rows.fnExactExampleSchemaSpec.post enc Try.prog Try.f5 false true false false) := by
  refine returnsInHanded_of_change_sized (C := Try.checked) own started (by kernel_rfl) Try.func5
    (ChangeSpec.witness6 (enc := enc) (C := Try.checked) false ⟨#[], #[], []⟩ 12 (by kernel_rfl) (by kernel_rfl) (by kernel_rfl) (by kernel_rfl)) ?_
  intro W base args ds gs before hval0 hW hcnd hsz0 _
  have hsz : (DataW.weightsEach Try.prog (Try.f5.params.toList ++ Rows.fnExactExampleSchemaSpec.plain.varTypes Try.prog) (ds ++ gs)).all (· ≤ reachBytes) = true := hsz0
  have hval : ∀ (j : Nat) t v, Try.f5.params[j]? = some t → args[j]? = some v → Value.okWide Try.prog W .any base t v := hval0
  have hW' := hW
  obtain ⟨p, q, hA0, hV, rfl, hfz, hnd⟩ := hW
  have hA1 : DataW.TrodAll enc Try.prog W 0 (fun _ => true) true Try.f5.params.toList args.toList ds p := hA0
  have hA := hA1
  rw [Try.params5] at hA hval hsz
  obtain ⟨ha0, rfl, rfl⟩ := trodAll_nil hA
  obtain rfl : args = #[] := by cases args; simp_all
  obtain ⟨rfl, rfl⟩ := trodVars_none hV
  refine (law_call (exSchema_law ()) (W := W) (vs := []) All2.nil).mono fun e W' h => ?_
  obtain ⟨he, bel⟩ := h
  subst he
  exact ⟨_, rfl, _, _, _, [], _, [], hW', trodAll_mk1 (shut_bool Try.underlying4 _), trodAll_stay laid bel fine hA1, rfl, bel.frame _, fun h => by cases h⟩
theorem closed : joinedFacts Try.prog 5 Try.f5 Rows.fnExactExampleSchemaSpec Rows.fnExactExampleSchemaRow = true := by
  unfold joinedFacts
  simp only [Bool.and_eq_true]
  repeat' (refine And.intro ?_ ?_)
  all_goals first
    | (with_reducible exact Go.VC.H.enter)
    | (rw [Go.VC.H.lifts]; kernel_rfl)
    | (rw [Go.VC.H.make]; kernel_rfl)
    | kernel_rfl
theorem over : Rows.fnExactExampleSchemaRow.holds Try.pinned (OpenSpec.ofChange Rows.fnExactExampleSchemaSpec) :=
  OpenClaim.holds_of_wide 5 Try.f5 rfl rfl rfl rfl rfl rfl rfl ⟨rfl, rfl, rfl, rfl, rfl⟩ rfl rfl rfl rfl rfl (by kernel_rfl) Try.func5 closed
    (of_decide_eq_true (by kernel_rfl)) (by unfold Func.isWrapper; first | (rw [if_pos (by decide +kernel)]; kernel_rfl) | (rw [if_neg (by decide +kernel)]; exact ⟨rfl, rfl⟩))
    (fun os started H enc _ => lifted os started H enc)
theorem proved : Rows.FnExactExampleSchemaSaid := over
end Go.Proofs.Ytepmlphjnppajaa.fnExactExampleSchema
namespace Go.Proofs.Ytepmlphjnppajaa
/-- The row, under a short name, for the claim. -/
theorem fnExactExampleSchema_holds : Rows.FnExactExampleSchemaSaid := fnExactExampleSchema.proved
end Go.Proofs.Ytepmlphjnppajaa

/- FnExactOrdersOf returns what the reference's returns, for all arguments: the statement, from the law function's contract. -/
import Derived.Test.YtepmlphjnppajaaRows
import Derived.Test.YtepmlphjnppajaaG5L19
import Derived.Test.YtepmlphjnppajaaG6L19
import Derived.WalkKit
import Derived.ProofKit
import Derived.OpenShut
import Derived.ShutString
import Derived.ChangeOld
import Derived.Below
import Derived.SizedLaws
namespace Go.Proofs.Ytepmlphjnppajaa.fnExactOrdersOf
open Go.ChangeShapes Go.WideShapes Go.ChangeAt Go.RowKit
open Go.VC Go.VC.T Go.VC.F
set_option linter.unusedSimpArgs false
set_option linter.unusedVariables false
theorem own : ownKnob Try.prog.godebug = none := by kernel_rfl
theorem laid : laidOutB Try.prog = true := by kernel_rfl
theorem fine : ∀ t ∈ Try.f3.params.toList, Try.prog.readableRec t = true ∧ t < Try.prog.types.size := by
  have h : Try.f3.params.toList = [3] := by kernel_rfl
  rw [h]
  intro t ht
  simp only [List.mem_cons, List.not_mem_nil, or_false, or_self] at ht
  subst ht
  exact ⟨by kernel_rfl, of_decide_eq_true (by kernel_rfl)⟩
set_option maxRecDepth 100000 in
theorem lifted (os : Os) (started : os.Started) (H : Type) (enc : TypeId × Value → H) :
    ReturnsInHanded {} Try.checked os 3 .any (Rows.fnExactOrdersOfSpec.pre6 enc Try.prog Try.f3 Rows.fnExactOrdersOfRow.domain false) (Rows.fnExactOrdersOfSpec.post enc Try.prog Try.f3 false true false false) := by
  refine returnsInHanded_of_change_sized (C := Try.checked) own started (by kernel_rfl) Try.func3
    (ChangeSpec.witness6 (enc := enc) (C := Try.checked) false ⟨#[], #[.int .i64 0], []⟩ 12 (by kernel_rfl) (by kernel_rfl) (by kernel_rfl) (by kernel_rfl)) ?_
  intro W base args ds gs before hval0 hW hcnd hsz0 _
  have hsz : (DataW.weightsEach Try.prog (Try.f3.params.toList ++ Rows.fnExactOrdersOfSpec.plain.varTypes Try.prog) (ds ++ gs)).all (· ≤ reachBytes) = true := hsz0
  have hval : ∀ (j : Nat) t v, Try.f3.params[j]? = some t → args[j]? = some v → Value.okWide Try.prog W .any base t v := hval0
  have hW' := hW
  obtain ⟨p, q, hA0, hV, rfl, hfz, hnd⟩ := hW
  have hA1 : DataW.TrodAll enc Try.prog W 0 (fun _ => true) true Try.f3.params.toList args.toList ds p := hA0
  have hA := hA1
  rw [Try.params3] at hA hval hsz
  obtain ⟨v0, vs0, d0, ds0, p0, q0, hargs, rfl, rfl, h0, r0⟩ := trodAll_cons hA
  obtain ⟨rfl, rfl, rfl⟩ := trodAll_nil r0
  obtain rfl : args = #[v0] := by cases args; simp_all
  obtain ⟨rfl, rfl⟩ := trodVars_none hV
  have hs1 := weights_cons (t := 3) (ts := Rows.fnExactOrdersOfSpec.plain.varTypes Try.prog) hsz
  obtain ⟨a0, ok0, R0⟩ := Rd.top1 (E := fun n : Int => .sc (.int .i64 n)) (fun m => rdI un3) (by intro fs h; rw [un3] at h; cases h) (by intro n e h; rw [un3] at h; cases h) (hval 0 3 v0 rfl rfl) h0 hs1.1
  refine (law_call (ordersOf_law a0 ok0) (W := W) (vs := [v0]) (.pair R0 .nil)).mono fun e W' h => ?_
  obtain ⟨he, bel⟩ := h
  subst he
  exact ⟨_, rfl, _, _, _, [], _, [], hW', trodAll_mk1 (shut_bool Try.underlying4 _), trodAll_stay laid bel fine hA1, rfl, bel.frame _, fun h => by cases h⟩
theorem closed : joinedFacts Try.prog 3 Try.f3 Rows.fnExactOrdersOfSpec Rows.fnExactOrdersOfRow = true := by
  unfold joinedFacts
  simp only [Bool.and_eq_true]
  repeat' (refine And.intro ?_ ?_)
  all_goals first
    | (with_reducible exact Go.VC.H.enter)
    | (rw [Go.VC.H.lifts]; kernel_rfl)
    | (rw [Go.VC.H.make]; kernel_rfl)
    | kernel_rfl
theorem over : Rows.fnExactOrdersOfRow.holds Try.pinned (OpenSpec.ofChange Rows.fnExactOrdersOfSpec) :=
  OpenClaim.holds_of_wide 3 Try.f3 rfl rfl rfl rfl rfl rfl rfl ⟨rfl, rfl, rfl, rfl, rfl⟩ rfl rfl rfl rfl rfl (by kernel_rfl) Try.func3 closed
    (of_decide_eq_true (by kernel_rfl)) (by unfold Func.isWrapper; first | (rw [if_pos (by decide +kernel)]; kernel_rfl) | (rw [if_neg (by decide +kernel)]; exact ⟨rfl, rfl⟩))
    (fun os started H enc _ => lifted os started H enc)
theorem proved : Rows.FnExactOrdersOfSaid := over
end Go.Proofs.Ytepmlphjnppajaa.fnExactOrdersOf
namespace Go.Proofs.Ytepmlphjnppajaa
/-- The row, under a short name, for the claim. -/
theorem fnExactOrdersOf_holds : Rows.FnExactOrdersOfSaid := fnExactOrdersOf.proved
end Go.Proofs.Ytepmlphjnppajaa

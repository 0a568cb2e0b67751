/- FnExactAddPoly returns what the reference's returns, for all arguments: the statement, from the law function's contract. -/
import Derived.Test.YteinefllijajdaaRows
import Derived.Test.YteinefllijajdaaG6L28
import Derived.Test.YteinefllijajdaaG7L28
import Derived.WalkKit
import Derived.ProofKit
import Derived.OpenShut
import Derived.ShutString
import Derived.ChangeOld
import Derived.Below
import Derived.SizedLaws
namespace Go.Proofs.Yteinefllijajdaa.fnExactAddPoly
open Go.ChangeShapes Go.WideShapes Go.ChangeAt Go.RowKit
open Go.VC Go.VC.T Go.VC.F
set_option linter.unusedSimpArgs false
set_option linter.unusedVariables false
theorem own : ownKnob Try.prog.godebug = none := by kernel_rfl
theorem laid : laidOutB Try.prog = true := by kernel_rfl
theorem fine : ∀ t ∈ Try.f3.params.toList, Try.prog.readableRec t = true ∧ t < Try.prog.types.size := by
  have h : Try.f3.params.toList = [24, 24] := by kernel_rfl
  rw [h]
  intro t ht
  simp only [List.mem_cons, List.not_mem_nil, or_false, or_self] at ht
  subst ht
  exact ⟨by kernel_rfl, of_decide_eq_true (by kernel_rfl)⟩
set_option maxRecDepth 100000 in
theorem lifted (os : Os) (started : os.Started) (H : Type) (enc : TypeId × Value → H) :
    ReturnsInHanded {} Try.checked os 3 .any (Rows.fnExactAddPolySpec.pre6 enc Try.prog Try.f3 Rows.fnExactAddPolyRow.domain false) (Rows.fnExactAddPolySpec.post enc Try.prog Try.f3 false true false false) := by
  refine returnsInHanded_of_change_sized (C := Try.checked) own started (by kernel_rfl) Try.func3
    (ChangeSpec.witness6 (enc := enc) (C := Try.checked) false ⟨#[], #[.agg #[.slice none 0 0], .agg #[.slice none 0 0]], []⟩ 12 (by kernel_rfl) (by kernel_rfl) (by kernel_rfl) (by kernel_rfl)) ?_
  intro W base args ds gs before hval0 hW hcnd hsz0 _
  have hsz : (DataW.weightsEach Try.prog (Try.f3.params.toList ++ Rows.fnExactAddPolySpec.plain.varTypes Try.prog) (ds ++ gs)).all (· ≤ reachBytes) = true := hsz0
  have hval : ∀ (j : Nat) t v, Try.f3.params[j]? = some t → args[j]? = some v → Value.okWide Try.prog W .any base t v := hval0
  have hW' := hW
  obtain ⟨p, q, hA0, hV, rfl, hfz, hnd⟩ := hW
  have hA1 : DataW.TrodAll enc Try.prog W 0 (fun _ => true) true Try.f3.params.toList args.toList ds p := hA0
  have hA := hA1
  rw [Try.params3] at hA hval hsz
  obtain ⟨v0, vs0, d0, ds0, p0, q0, hargs, rfl, rfl, h0, r0⟩ := trodAll_cons hA
  obtain ⟨v1, vs1, d1, ds1, p1, q1, rfl, rfl, rfl, h1, r1⟩ := trodAll_cons r0
  obtain ⟨rfl, rfl, rfl⟩ := trodAll_nil r1
  obtain rfl : args = #[v0, v1] := by cases args; simp_all
  obtain ⟨rfl, rfl⟩ := trodVars_none hV
  have hs1 := weights_cons (t := 24) (ts := 24 :: Rows.fnExactAddPolySpec.plain.varTypes Try.prog) hsz
  have hs2 := weights_cons (t := 24) (ts := Rows.fnExactAddPolySpec.plain.varTypes Try.prog) hs1.2
  obtain ⟨a0, ok0, R0⟩ := Rd.topS rdPoly st24 (hval 0 24 v0 rfl rfl) h0 hs1.1
  obtain ⟨a1, ok1, R1⟩ := Rd.topS rdPoly st24 (hval 1 24 v1 rfl rfl) h1 hs2.1
  refine (law_call (addPoly_law a0 a1 ok0 ok1) (W := W) (vs := [v0, v1]) (.pair R0 (.pair R1 .nil))).mono fun e W' h => ?_
  obtain ⟨he, bel⟩ := h
  subst he
  exact ⟨_, rfl, _, _, _, [], _, [], hW', trodAll_mk1 (shut_bool Try.underlying4 _), trodAll_stay laid bel fine hA1, rfl, bel.frame _, fun h => by cases h⟩
theorem closed : joinedFacts Try.prog 3 Try.f3 Rows.fnExactAddPolySpec Rows.fnExactAddPolyRow = true := by
  unfold joinedFacts
  simp only [Bool.and_eq_true]
  repeat' (refine And.intro ?_ ?_)
  all_goals first
    | (with_reducible exact Go.VC.H.enter)
    | (rw [Go.VC.H.lifts]; kernel_rfl)
    | (rw [Go.VC.H.make]; kernel_rfl)
    | kernel_rfl
theorem over : Rows.fnExactAddPolyRow.holds Try.pinned (OpenSpec.ofChange Rows.fnExactAddPolySpec) :=
  OpenClaim.holds_of_wide 3 Try.f3 rfl rfl rfl rfl rfl rfl rfl ⟨rfl, rfl, rfl, rfl, rfl⟩ rfl rfl rfl rfl rfl (by kernel_rfl) Try.func3 closed
    (of_decide_eq_true (by kernel_rfl)) (by unfold Func.isWrapper; first | (rw [if_pos (by decide +kernel)]; kernel_rfl) | (rw [if_neg (by decide +kernel)]; exact ⟨rfl, rfl⟩))
    (fun os started H enc _ => lifted os started H enc)
theorem proved : Rows.FnExactAddPolySaid := over
end Go.Proofs.Yteinefllijajdaa.fnExactAddPoly
namespace Go.Proofs.Yteinefllijajdaa
/-- The row, under a short name, for the claim. -/
theorem fnExactAddPoly_holds : Rows.FnExactAddPolySaid := fnExactAddPoly.proved
end Go.Proofs.Yteinefllijajdaa

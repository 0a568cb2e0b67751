/- FnExactProvText returns what the reference's returns, for all arguments: the statement, from the law function's contract. -/
import Derived.Test.YtednmgjookkcnaaDoorRows
import Derived.Test.YtednmgjookkcnaaDoorG6L24
import Derived.Test.YtednmgjookkcnaaDoorG7L24
import Derived.Test.YtednmgjookkcnaaDoorTie
import Derived.Test.YtednmgjookkcnaaDoorCards
import Derived.SevenTiedAt
import Derived.RowKit3
import Derived.ChangeSame
import Derived.ChangeVars
import Derived.WalkKit
import Derived.ProofKit
import Derived.OpenShut
import Derived.ShutString
import Derived.ChangeOld
import Derived.Below
import Derived.SizedLaws
namespace Go.Proofs.YtednmgjookkcnaaDoor.fnExactProvText
open Go.ChangeShapes Go.WideShapes Go.ChangeAt Go.RowKit
open Go.VC Go.VC.T Go.VC.F
set_option linter.unusedSimpArgs false
set_option linter.unusedVariables false
theorem own : ownKnob Tryd.prog.godebug = none := by kernel_rfl
theorem laid : laidOutB Tryd.prog = true := by kernel_rfl
theorem fine : ∀ t ∈ Tryd.f6.params.toList, Tryd.prog.readableRec t = true ∧ t < Tryd.prog.types.size := by
  have h : Tryd.f6.params.toList = [41] := by kernel_rfl
  rw [h]
  intro t ht
  simp only [List.mem_cons, List.not_mem_nil, or_false, or_self] at ht
  subst ht
  exact ⟨by kernel_rfl, of_decide_eq_true (by kernel_rfl)⟩
set_option maxRecDepth 100000 in
theorem lifted (os : Os) (started : os.Started) (H : Type) (enc : TypeId × Value → H) :
    ReturnsInHanded {} Tryd.checked os 6 .any (fun w args => (Rows.fnExactProvTextSpec.pre enc Tryd.prog Tryd.f6 Rows.fnExactProvTextRow.domain false w args ∧ laidMet Tryd.prog laid3 w) ∧ sizedMet enc Tryd.prog Tryd.f6 (OpenSpec.ofChange Rows.fnExactProvTextSpec) false w args) (Rows.fnExactProvTextSpec.post enc Tryd.prog Tryd.f6 false true false false) := by
  refine returnsInHanded_of_change_and (C := Tryd.checked) (X := fun w _ => laidMet Tryd.prog laid3 w) (fun _ _ _ hh h => h.of_heap hh) own started (by kernel_rfl) Tryd.func6
    (ChangeSpec.witness_at (enc := enc) (C := Tryd.checked) (os := os) (X := fun w _ => laidMet Tryd.prog laid3 w) false (laidWorld os) #[.slice none 0 0] 12 rfl (by kernel_rfl) (by kernel_rfl) (by kernel_rfl) (by kernel_rfl) (by kernel_rfl) (laidWorld_met os _)) ?_
  intro W base args ds gs before hval0 hW hcnd hsz0 hL _
  obtain ⟨x, hx, htab⟩ := tabBlock hL
  have hsz : (DataW.weightsEach Tryd.prog (Tryd.f6.params.toList ++ Rows.fnExactProvTextSpec.plain.varTypes Tryd.prog) (ds ++ gs)).all (· ≤ reachBytes) = true := hsz0
  have hval : ∀ (j : Nat) t v, Tryd.f6.params[j]? = some t → args[j]? = some v → Value.okWide Tryd.prog W .any base t v := hval0
  have hW' := hW
  obtain ⟨p, q, hA0, hV, rfl, hfz, hnd⟩ := hW
  have hA1 : DataW.TrodAll enc Tryd.prog W 0 (fun _ => true) true Tryd.f6.params.toList args.toList ds p := hA0
  have hA := hA1
  rw [Tryd.params6] at hA hval hsz
  obtain ⟨v0, vs0, d0, ds0, p0, q0, hargs, rfl, rfl, h0, r0⟩ := trodAll_cons hA
  obtain ⟨rfl, rfl, rfl⟩ := trodAll_nil r0
  obtain rfl : args = #[v0] := by cases args; simp_all
  obtain ⟨rfl, rfl⟩ := trodVars_none hV
  have hs1 := weights_cons (t := 41) (ts := Rows.fnExactProvTextSpec.plain.varTypes Tryd.prog) hsz
  obtain ⟨a0, ok0, R0⟩ := Rd.top1 (fun m => rdS (m := m) un41 co64 by64 (by decide) (fun k _ => rdAnnotated k)) (by intro fs h; rw [un41] at h; cases h) (by intro n e h; rw [un41] at h; cases h) (hval 0 41 v0 rfl rfl) h0 hs1.1
  refine (law_callG (provText_law 1 x a0 ok0 (fun n hn => itoaG htab n hn)) hx (W := W) (vs := [v0]) (.pair R0 .nil)).mono fun e W' h => ?_
  obtain ⟨he, bel⟩ := h
  subst he
  exact ⟨_, rfl, _, _, _, [], _, [], hW', trodAll_mk1 (shut_bool Tryd.underlying4 _), trodAll_stay laid bel fine hA1, rfl, bel.frame _, fun h => by cases h⟩
theorem closed : joinedFacts Tryd.prog 6 Tryd.f6 Rows.fnExactProvTextSpec Rows.fnExactProvTextRow = true := by
  unfold joinedFacts
  simp only [Bool.and_eq_true]
  repeat' (refine And.intro ?_ ?_)
  all_goals first
    | (with_reducible exact Go.VC.H.enter)
    | (rw [Go.VC.H.lifts]; kernel_rfl)
    | (rw [Go.VC.H.make]; kernel_rfl)
    | kernel_rfl
theorem over : Rows.fnExactProvTextRow.holds Tryd.pinned (OpenSpec.ofChange Rows.fnExactProvTextSpec) :=
  OpenClaim.holds_of_wide 6 Tryd.f6 rfl rfl rfl rfl rfl rfl rfl ⟨rfl, rfl, rfl, rfl, rfl⟩ rfl rfl rfl rfl rfl (by kernel_rfl) Tryd.func6 closed
    (of_decide_eq_true (by kernel_rfl)) (by unfold Func.isWrapper; first | (rw [if_pos (by decide +kernel)]; kernel_rfl) | (rw [if_neg (by decide +kernel)]; exact ⟨rfl, rfl⟩))
    (fun os started H enc _ => lifted os started H enc)
theorem wants : ∀ (j : Nat) t, Tryd.f6.params[j]? = some t → Tryd.prog.wantsStandIn t = false := by
  intro j t ht
  rw [Tryd.params6] at ht
  have h : [41].all (fun t => !(Tryd.prog.wantsStandIn t)) = true := by kernel_rfl
  exact (Bool.not_eq_true' _).mp (List.all_eq_true.mp h t (List.mem_toArray.mp (Array.mem_of_getElem? ht)))
theorem proved : Rows.FnExactProvTextCardSaid :=
  Claim7.holds_tied_plain_at .later [] [.data, .data, .data] true (true, "58c6f11a5437c52bd0efa3b0e70dbc766dea5e7ebad3d54e39bca1aab2b2e5fe") false
    over (fun _ h => by cases h) (by kernel_rfl) (fun _ h => by cases h) fnExactProvText_row_tie rfl ⟨rfl, rfl⟩ (by kernel_rfl) rfl
    (fun f fn hf hfn => by
      obtain rfl : f = 6 := Option.some.inj ((show Tryd.prog.funcNamed "loop.example/g00587/laws.FnExactProvText" = some 6 by kernel_rfl).symm.trans hf) |>.symm
      obtain rfl : fn = Tryd.f6 := (Option.some.inj (Tryd.func6.symm.trans hfn)).symm
      exact ⟨by kernel_rfl, wants⟩)
    (by kernel_rfl)
end Go.Proofs.YtednmgjookkcnaaDoor.fnExactProvText
namespace Go.Proofs.YtednmgjookkcnaaDoor
/-- The row, under a short name, for the claim. -/
theorem fnExactProvText_holds : Rows.FnExactProvTextCardSaid := fnExactProvText.proved
end Go.Proofs.YtednmgjookkcnaaDoor

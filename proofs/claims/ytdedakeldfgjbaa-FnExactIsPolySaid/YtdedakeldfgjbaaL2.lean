/- IsPoly returns what the reference's returns, for all arguments: the statement, from the law function's contract. -/
import Derived.Test.YtdedakeldfgjbaaRows
import Derived.Test.YtdedakeldfgjbaaT7
import Derived.WalkKit
import Derived.ProofKit
import Derived.OpenShut
import Derived.ShutString
import Derived.ChangeOld
import Derived.Below
import Derived.SizedLaws
namespace Go.Proofs.Ytdedakeldfgjbaa.fnExactIsPoly
open Go.ChangeShapes Go.WideShapes Go.ChangeAt Go.RowKit
open Go.VC Go.VC.T Go.VC.F
set_option linter.unusedVariables false
theorem own : ownKnob Try.prog.godebug = none := by kernel_rfl
theorem laid : laidOutB Try.prog = true := by kernel_rfl
theorem fine : ∀ t ∈ Try.f8.params.toList, Try.prog.readableRec t = true ∧ t < Try.prog.types.size := by
  have h : Try.f8.params.toList = [38] := by kernel_rfl
  rw [h]
  intro t ht
  simp only [List.mem_cons, List.not_mem_nil, or_false] at ht
  subst ht
  exact ⟨by kernel_rfl, of_decide_eq_true (by kernel_rfl)⟩
theorem rdStrS (m : Nat) : Rd Try.prog 44 m (fun xs : List ByteArray => [slI eS xs]) (fun xs => xs.length ≤ 2^48 ∧ ∀ s ∈ xs, s.size ≤ 2^48) := by
  cases m with
  | zero => exact .zero
  | succ m => exact (rd_slice un44 co9 by9 (rd_string un9 m)).map id (fun _ _ => rfl) fun a h => ⟨by have := h.2.2.2; simp [reachBytes] at this; simp; omega, fun s hs => by have := h.1 s hs; simp [reachBytes] at this; omega⟩
theorem rdMono (m : Nat) : Rd Try.prog 66 m eMono okMono := by
  cases m with
  | zero => exact .zero
  | succ m => exact (rd_struct st66 co66 (rdL_cons (off' := 1) (by rw [co3]) (rd_i64 un3 m) (rdL_cons (off' := 2) (by rw [co44]) (rdStrS m) rdL_nil))).map (fun p => (p.1, p.2.1)) (fun _ _ => rfl) fun a h => h.2.1
theorem rdMonoS (m : Nat) : Rd Try.prog 36 m (fun xs : List MonoD => [slI eMono xs]) (fun xs => xs.length ≤ 2^48 ∧ ∀ s ∈ xs, okMono s) := by
  cases m with
  | zero => exact .zero
  | succ m => exact (rd_slice un36 co66 by66 (rdMono m)).map id (fun _ _ => rfl) fun a h => ⟨by have := h.2.2.2; simp [reachBytes] at this; simp; omega, h.1⟩
theorem rdPoly (m : Nat) : Rd Try.prog 38 m (fun xs : List MonoD => [slI eMono xs]) (fun xs => xs.length ≤ 2^48 ∧ ∀ s ∈ xs, okMono s) := by
  cases m with
  | zero => exact .zero
  | succ m => exact (rd_struct st38 co38 (rdL_cons (off' := 1) (by rw [co36]) (rdMonoS m) rdL_nil)).map (fun p => p.1) (fun _ _ => by simp) fun a h => h.1
set_option maxRecDepth 100000 in
theorem lifted (os : Os) (started : os.Started) (H : Type) (enc : TypeId × Value → H) :
    ReturnsInHanded {} Try.checked os 8 .any (Rows.fnExactIsPolySpec.pre6 enc Try.prog Try.f8 Rows.fnExactIsPolyRow.domain false) (Rows.fnExactIsPolySpec.post enc Try.prog Try.f8 false true false false) := by
  refine returnsInHanded_of_change_sized (C := Try.checked) own started (by kernel_rfl) Try.func8
    (ChangeSpec.witness6 (enc := enc) (C := Try.checked) false ⟨#[], #[.agg #[.slice none 0 0]], []⟩ 8 (by kernel_rfl) (by kernel_rfl) (by kernel_rfl) (by kernel_rfl)) ?_
  intro W base args ds gs before hval0 hW hcnd hsz0 _
  have hsz : (DataW.weightsEach Try.prog (Try.f8.params.toList ++ Rows.fnExactIsPolySpec.plain.varTypes Try.prog) (ds ++ gs)).all (· ≤ reachBytes) = true := hsz0
  have hval : ∀ (j : Nat) t v, Try.f8.params[j]? = some t → args[j]? = some v → Value.okWide Try.prog W .any base t v := hval0
  have hW' := hW
  obtain ⟨p, q, hA0, hV, rfl, hfz, hnd⟩ := hW
  have hA1 : DataW.TrodAll enc Try.prog W 0 (fun _ => true) true Try.f8.params.toList args.toList ds p := hA0
  have hA := hA1
  rw [Try.params8] at hA hval hsz
  obtain ⟨v0, vs0, d0, ds0, p0, q0, hargs, rfl, rfl, h0, r0⟩ := trodAll_cons hA
  obtain ⟨rfl, rfl, rfl⟩ := trodAll_nil r0
  obtain rfl : args = #[v0] := by cases args; simp_all
  obtain ⟨rfl, rfl⟩ := trodVars_none hV
  have hs1 := weights_cons (t := 38) (ts := Rows.fnExactIsPolySpec.plain.varTypes Try.prog) hsz
  obtain ⟨a0, ok0, R0⟩ := Rd.topS rdPoly st38 (hval 0 38 v0 rfl rfl) h0 hs1.1
  refine (lawIsPoly_ok a0 ok0.1 ok0.2 W _ [v0] (fun b h => h) (.pair R0 .nil)).mono fun e W' ⟨v, he, bel, hv⟩ => ?_
  obtain rfl := RP_sc hv
  subst he
  exact ⟨_, rfl, _, _, _, [], _, [], hW', trodAll_mk1 (shut_bool Try.underlying4 _), trodAll_stay laid bel fine hA1, rfl, bel.frame _, fun h => by cases h⟩
theorem over : Rows.fnExactIsPolyRow.holds Try.pinned (OpenSpec.ofChange Rows.fnExactIsPolySpec) :=
  OpenClaim.holds_of_wide 8 Try.f8 rfl rfl rfl rfl rfl rfl rfl ⟨rfl, rfl, rfl, rfl, rfl⟩ rfl rfl rfl rfl rfl (by kernel_rfl) Try.func8 (by kernel_rfl)
    (of_decide_eq_true (by kernel_rfl)) (by unfold Func.isWrapper; first | (rw [if_pos (by decide +kernel)]; kernel_rfl) | (rw [if_neg (by decide +kernel)]; exact ⟨rfl, rfl⟩))
    (fun os started H enc _ => lifted os started H enc)
theorem proved : Rows.FnExactIsPolySaid := over
end Go.Proofs.Ytdedakeldfgjbaa.fnExactIsPoly
namespace Go.Proofs.Ytdedakeldfgjbaa
/-- The row, under a short name, for the claim. -/
theorem fnExactIsPoly_holds : Rows.FnExactIsPolySaid := fnExactIsPoly.proved

end Go.Proofs.Ytdedakeldfgjbaa

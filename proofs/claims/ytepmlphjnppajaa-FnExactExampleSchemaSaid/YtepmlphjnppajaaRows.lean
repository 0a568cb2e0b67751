/-
  NARROWER THAN 'FOR EVERY INPUT', by the rows' own cells (each row's printed sentence says how): FnExactHoldsKey: loops · FnExactEstimateRows: loops · FnExactCostOf: loops · FnExactSampleDB: loops.
  DERIVED. THE GIVEN ROWS OF THIS SEAT. 8 by the template 'for every input the law returns true; each argument reads behind the call as it read before'; 0 by the template 'total and deterministic' (their statements: YtepmlphjnppajaaTotals.lean).
  GIVEN WITH THE SEED: the statements are not yours to turn. If you find one false, say at which input.
  Laid BY PROGRAM, IN A SANDBOX (cutbox-rows.mjs): the forced cells as the released guide's own fill.sh prints them over the translation 48adcd0e0b69f80c… (all of the seat's roots in one cut). By AI agents, Wed Nov 11 2026. No macro, syntax, notation, axiom, sorry.
-/
import Derived.Test.YtepmlphjnppajaaChecked
import GoSem.Claim
import GoSem.ClaimJoined
import GoSem.ClaimMapViews
import Derived.JoinedTies
import Derived.KernelRfl
namespace Go.Proofs.Ytepmlphjnppajaa
/- THE CELL 'sum', in the pinned program and in every row, IS THE sha256 OF THE DUMP (.gsa) THAT YtepmlphjnppajaaProg.lean LOADS. Nothing in Lean hashes anything: it is a label: what it is worth is what the hold of that sum in a sandbox is worth. -/
noncomputable def Try.pinned : Pinned := { name := "ytepmlphjnppajaa", sum := "48adcd0e0b69f80c950681dcce9984825c57fef708686d5f92b3143b41d905ff", checked := Try.checked }
namespace Rows
def none {H : Type} : Left H := { results := [], args := [] }

/-- 'laws.FnExactOrdersOf': WHATEVER THE INPUT: true; the input reads as it did. -/
def fnExactOrdersOfSpec : ChangeSpec := { name := "fnExactOrdersOf", fn := fun _ => fun
  | [d] => { results := [.lit (.bool true)], args := [d] }
  | _ => none }
def fnExactOrdersOfRow : OpenClaim := { program := "ytepmlphjnppajaa", sum := "48adcd0e0b69f80c950681dcce9984825c57fef708686d5f92b3143b41d905ff", func := "loop.example/g00587/laws.FnExactOrdersOf", spec := "fnExactOrdersOf", unfollowed := true, recurses := true, apart := false }
def FnExactOrdersOfSaid : Prop := fnExactOrdersOfRow.holds Try.pinned (OpenSpec.ofChange fnExactOrdersOfSpec)

/-- ITS FALSE NEIGHBOUR: 'it returns false'. Refute it at one input. -/
def fnExactOrdersOfWrong : ChangeSpec := { name := "fnExactOrdersOf", fn := fun _ => fun
  | [d] => { results := [.lit (.bool false)], args := [d] }
  | _ => none }
def FnExactOrdersOfWrongFalsely : Prop := fnExactOrdersOfRow.holds Try.pinned (OpenSpec.ofChange fnExactOrdersOfWrong)

/-- 'laws.FnExactHoldsKey': WHATEVER THE INPUT: true; the input reads as it did. -/
def fnExactHoldsKeySpec : ChangeSpec := { name := "fnExactHoldsKey", fn := fun _ => fun
  | [d1, d2] => { results := [.lit (.bool true)], args := [d1, d2] }
  | _ => none }
def fnExactHoldsKeyRow : OpenClaim := { program := "ytepmlphjnppajaa", sum := "48adcd0e0b69f80c950681dcce9984825c57fef708686d5f92b3143b41d905ff", func := "loop.example/g00587/laws.FnExactHoldsKey", spec := "fnExactHoldsKey", recurses := true, loops := true, apart := false }
def FnExactHoldsKeySaid : Prop := fnExactHoldsKeyRow.holds Try.pinned (OpenSpec.ofChange fnExactHoldsKeySpec)

/-- ITS FALSE NEIGHBOUR: 'it returns false'. Refute it at one input. -/
def fnExactHoldsKeyWrong : ChangeSpec := { name := "fnExactHoldsKey", fn := fun _ => fun
  | [d1, d2] => { results := [.lit (.bool false)], args := [d1, d2] }
  | _ => none }
def FnExactHoldsKeyWrongFalsely : Prop := fnExactHoldsKeyRow.holds Try.pinned (OpenSpec.ofChange fnExactHoldsKeyWrong)

/-- 'laws.FnExactExampleSchema': WHATEVER THE INPUT: true; the input reads as it did. -/
def fnExactExampleSchemaSpec : ChangeSpec := { name := "fnExactExampleSchema", fn := fun _ => fun
  | [] => { results := [.lit (.bool true)], args := [] }
  | _ => none }
def fnExactExampleSchemaRow : OpenClaim := { program := "ytepmlphjnppajaa", sum := "48adcd0e0b69f80c950681dcce9984825c57fef708686d5f92b3143b41d905ff", func := "loop.example/g00587/laws.FnExactExampleSchema", spec := "fnExactExampleSchema", inPlace := ["internal/abi.NoEscape", "internal/bytealg.MakeNoZero"], unfollowed := true, recurses := true, apart := false }
def FnExactExampleSchemaSaid : Prop := fnExactExampleSchemaRow.holds Try.pinned (OpenSpec.ofChange fnExactExampleSchemaSpec)

/-- ITS FALSE NEIGHBOUR: 'it returns false'. Refute it at one input. -/
def fnExactExampleSchemaWrong : ChangeSpec := { name := "fnExactExampleSchema", fn := fun _ => fun
  | [] => { results := [.lit (.bool false)], args := [] }
  | _ => none }
def FnExactExampleSchemaWrongFalsely : Prop := fnExactExampleSchemaRow.holds Try.pinned (OpenSpec.ofChange fnExactExampleSchemaWrong)

/-- 'laws.FnExactAddPoly': WHATEVER THE INPUT: true; the input reads as it did. -/
def fnExactAddPolySpec : ChangeSpec := { name := "fnExactAddPoly", fn := fun _ => fun
  | [d1, d2] => { results := [.lit (.bool true)], args := [d1, d2] }
  | _ => none }
def fnExactAddPolyRow : OpenClaim := { program := "ytepmlphjnppajaa", sum := "48adcd0e0b69f80c950681dcce9984825c57fef708686d5f92b3143b41d905ff", func := "loop.example/g00587/laws.FnExactAddPoly", spec := "fnExactAddPoly", inPlace := ["slices.overlaps[loop.example/g00587/impl.Mono]"], unfollowed := true, recurses := true, apart := false }
def FnExactAddPolySaid : Prop := fnExactAddPolyRow.holds Try.pinned (OpenSpec.ofChange fnExactAddPolySpec)

/-- ITS FALSE NEIGHBOUR: 'it returns false'. Refute it at one input. -/
def fnExactAddPolyWrong : ChangeSpec := { name := "fnExactAddPoly", fn := fun _ => fun
  | [d1, d2] => { results := [.lit (.bool false)], args := [d1, d2] }
  | _ => none }
def FnExactAddPolyWrongFalsely : Prop := fnExactAddPolyRow.holds Try.pinned (OpenSpec.ofChange fnExactAddPolyWrong)

/-- 'laws.FnExactEstimateRows': WHATEVER THE INPUT: true; the input reads as it did. -/
def fnExactEstimateRowsSpec : ChangeSpec := { name := "fnExactEstimateRows", fn := fun _ => fun
  | [d1, d2] => { results := [.lit (.bool true)], args := [d1, d2] }
  | _ => none }
def fnExactEstimateRowsRow : OpenClaim := { program := "ytepmlphjnppajaa", sum := "48adcd0e0b69f80c950681dcce9984825c57fef708686d5f92b3143b41d905ff", func := "loop.example/g00587/laws.FnExactEstimateRows", spec := "fnExactEstimateRows", recurses := true, loops := true, apart := false }
def FnExactEstimateRowsSaid : Prop := fnExactEstimateRowsRow.holds Try.pinned (OpenSpec.ofChange fnExactEstimateRowsSpec)

/-- ITS FALSE NEIGHBOUR: 'it returns false'. Refute it at one input. -/
def fnExactEstimateRowsWrong : ChangeSpec := { name := "fnExactEstimateRows", fn := fun _ => fun
  | [d1, d2] => { results := [.lit (.bool false)], args := [d1, d2] }
  | _ => none }
def FnExactEstimateRowsWrongFalsely : Prop := fnExactEstimateRowsRow.holds Try.pinned (OpenSpec.ofChange fnExactEstimateRowsWrong)

/-- 'laws.FnExactCostOf': WHATEVER THE INPUT: true; the input reads as it did. -/
def fnExactCostOfSpec : ChangeSpec := { name := "fnExactCostOf", fn := fun _ => fun
  | [d1, d2] => { results := [.lit (.bool true)], args := [d1, d2] }
  | _ => none }
def fnExactCostOfRow : OpenClaim := { program := "ytepmlphjnppajaa", sum := "48adcd0e0b69f80c950681dcce9984825c57fef708686d5f92b3143b41d905ff", func := "loop.example/g00587/laws.FnExactCostOf", spec := "fnExactCostOf", recurses := true, loops := true, apart := false }
def FnExactCostOfSaid : Prop := fnExactCostOfRow.holds Try.pinned (OpenSpec.ofChange fnExactCostOfSpec)

/-- ITS FALSE NEIGHBOUR: 'it returns false'. Refute it at one input. -/
def fnExactCostOfWrong : ChangeSpec := { name := "fnExactCostOf", fn := fun _ => fun
  | [d1, d2] => { results := [.lit (.bool false)], args := [d1, d2] }
  | _ => none }
def FnExactCostOfWrongFalsely : Prop := fnExactCostOfRow.holds Try.pinned (OpenSpec.ofChange fnExactCostOfWrong)

/-- 'laws.FnExactSampleDB': WHATEVER THE INPUT: true; the input reads as it did. -/
def fnExactSampleDBSpec : ChangeSpec := { name := "fnExactSampleDB", fn := fun _ => fun
  | [d1, d2] => { results := [.lit (.bool true)], args := [d1, d2] }
  | _ => none }
def fnExactSampleDBRow : OpenClaim := { program := "ytepmlphjnppajaa", sum := "48adcd0e0b69f80c950681dcce9984825c57fef708686d5f92b3143b41d905ff", func := "loop.example/g00587/laws.FnExactSampleDB", spec := "fnExactSampleDB", unfollowed := true, recurses := true, loops := true, apart := false }
def FnExactSampleDBSaid : Prop := fnExactSampleDBRow.holds Try.pinned (OpenSpec.ofChange fnExactSampleDBSpec)

/-- ITS FALSE NEIGHBOUR: 'it returns false'. Refute it at one input. -/
def fnExactSampleDBWrong : ChangeSpec := { name := "fnExactSampleDB", fn := fun _ => fun
  | [d1, d2] => { results := [.lit (.bool false)], args := [d1, d2] }
  | _ => none }
def FnExactSampleDBWrongFalsely : Prop := fnExactSampleDBRow.holds Try.pinned (OpenSpec.ofChange fnExactSampleDBWrong)

/-- 'laws.FnExactMulPoly': WHATEVER THE INPUT: true; the input reads as it did. -/
def fnExactMulPolySpec : ChangeSpec := { name := "fnExactMulPoly", fn := fun _ => fun
  | [d1, d2] => { results := [.lit (.bool true)], args := [d1, d2] }
  | _ => none }
def fnExactMulPolyRow : OpenClaim := { program := "ytepmlphjnppajaa", sum := "48adcd0e0b69f80c950681dcce9984825c57fef708686d5f92b3143b41d905ff", func := "loop.example/g00587/laws.FnExactMulPoly", spec := "fnExactMulPoly", inPlace := ["slices.overlaps[loop.example/g00587/impl.Mono]"], unfollowed := true, recurses := true, apart := false }
def FnExactMulPolySaid : Prop := fnExactMulPolyRow.holds Try.pinned (OpenSpec.ofChange fnExactMulPolySpec)

/-- ITS FALSE NEIGHBOUR: 'it returns false'. Refute it at one input. -/
def fnExactMulPolyWrong : ChangeSpec := { name := "fnExactMulPoly", fn := fun _ => fun
  | [d1, d2] => { results := [.lit (.bool false)], args := [d1, d2] }
  | _ => none }
def FnExactMulPolyWrongFalsely : Prop := fnExactMulPolyRow.holds Try.pinned (OpenSpec.ofChange fnExactMulPolyWrong)

/- THE SECOND FORM. 'bulk': how many values and letters a reading holds, each counted each time it is reached (what is shared counts as often as it is met; a slice's spare places count too). A statement '..UptoSaid' is the law's where the arguments, and the package variables that the reading takes, are together of bulk at most 1048576: NARROWER than '..Said'. Prove '..Said' where nothing that the law and all that it calls make is longer than what came in: it says more and counts as full. Else prove '..UptoSaid'. A law counts once. -/
mutual
def uptoBulk {H : Type} : DataW H → Nat
  | .lit (.string bytes) => bytes.length + 1
  | .lit _ => 1
  | .nil => 1
  | .ptr d => uptoBulk d + 1
  | .slice elems spare => uptoBulkAll elems + uptoBulkAll spare + 1
  | .agg parts => uptoBulkAll parts + 1
  | .iface _ d => uptoBulk d + 1
  | .map entries => uptoBulkEntries entries + 1
  | .held _ => 1
def uptoBulkAll {H : Type} : List (DataW H) → Nat
  | [] => 0
  | d :: r => uptoBulk d + uptoBulkAll r
def uptoBulkEntries {H : Type} : List (Lit × DataW H) → Nat
  | [] => 0
  | x :: r => uptoBulkEntry x + uptoBulkEntries r
def uptoBulkEntry {H : Type} : Lit × DataW H → Nat
  | (.string bytes, d) => bytes.length + uptoBulk d + 1
  | (_, d) => uptoBulk d + 1
 end
def uptoSmall : (H : Type) → List (DataW H) → Bool := fun _ ds => decide (uptoBulkAll ds ≤ 1048576)
def OpenSpec.upto (s : _root_.Go.ChangeSpec) : _root_.Go.OpenSpec := { _root_.Go.OpenSpec.ofChange s with cond := some uptoSmall }

/-- 'laws.FnExactOrdersOf', WHERE WHAT IT READS IS OF BULK AT MOST 1048576: true; the input reads as it did. -/
def fnExactOrdersOfUptoRow : OpenClaim := { program := "ytepmlphjnppajaa", sum := "48adcd0e0b69f80c950681dcce9984825c57fef708686d5f92b3143b41d905ff", func := "loop.example/g00587/laws.FnExactOrdersOf", spec := "fnExactOrdersOf", unfollowed := true, recurses := true, apart := false, narrowed := true }
def FnExactOrdersOfUptoSaid : Prop := fnExactOrdersOfUptoRow.holds Try.pinned (OpenSpec.upto fnExactOrdersOfSpec)

/-- 'laws.FnExactHoldsKey', WHERE WHAT IT READS IS OF BULK AT MOST 1048576: true; the input reads as it did. -/
def fnExactHoldsKeyUptoRow : OpenClaim := { program := "ytepmlphjnppajaa", sum := "48adcd0e0b69f80c950681dcce9984825c57fef708686d5f92b3143b41d905ff", func := "loop.example/g00587/laws.FnExactHoldsKey", spec := "fnExactHoldsKey", recurses := true, loops := true, apart := false, narrowed := true }
def FnExactHoldsKeyUptoSaid : Prop := fnExactHoldsKeyUptoRow.holds Try.pinned (OpenSpec.upto fnExactHoldsKeySpec)

/-- 'laws.FnExactExampleSchema', WHERE WHAT IT READS IS OF BULK AT MOST 1048576: true; the input reads as it did. -/
def fnExactExampleSchemaUptoRow : OpenClaim := { program := "ytepmlphjnppajaa", sum := "48adcd0e0b69f80c950681dcce9984825c57fef708686d5f92b3143b41d905ff", func := "loop.example/g00587/laws.FnExactExampleSchema", spec := "fnExactExampleSchema", inPlace := ["internal/abi.NoEscape", "internal/bytealg.MakeNoZero"], unfollowed := true, recurses := true, apart := false, narrowed := true }
def FnExactExampleSchemaUptoSaid : Prop := fnExactExampleSchemaUptoRow.holds Try.pinned (OpenSpec.upto fnExactExampleSchemaSpec)

/-- 'laws.FnExactAddPoly', WHERE WHAT IT READS IS OF BULK AT MOST 1048576: true; the input reads as it did. -/
def fnExactAddPolyUptoRow : OpenClaim := { program := "ytepmlphjnppajaa", sum := "48adcd0e0b69f80c950681dcce9984825c57fef708686d5f92b3143b41d905ff", func := "loop.example/g00587/laws.FnExactAddPoly", spec := "fnExactAddPoly", inPlace := ["slices.overlaps[loop.example/g00587/impl.Mono]"], unfollowed := true, recurses := true, apart := false, narrowed := true }
def FnExactAddPolyUptoSaid : Prop := fnExactAddPolyUptoRow.holds Try.pinned (OpenSpec.upto fnExactAddPolySpec)

/-- 'laws.FnExactEstimateRows', WHERE WHAT IT READS IS OF BULK AT MOST 1048576: true; the input reads as it did. -/
def fnExactEstimateRowsUptoRow : OpenClaim := { program := "ytepmlphjnppajaa", sum := "48adcd0e0b69f80c950681dcce9984825c57fef708686d5f92b3143b41d905ff", func := "loop.example/g00587/laws.FnExactEstimateRows", spec := "fnExactEstimateRows", recurses := true, loops := true, apart := false, narrowed := true }
def FnExactEstimateRowsUptoSaid : Prop := fnExactEstimateRowsUptoRow.holds Try.pinned (OpenSpec.upto fnExactEstimateRowsSpec)

/-- 'laws.FnExactCostOf', WHERE WHAT IT READS IS OF BULK AT MOST 1048576: true; the input reads as it did. -/
def fnExactCostOfUptoRow : OpenClaim := { program := "ytepmlphjnppajaa", sum := "48adcd0e0b69f80c950681dcce9984825c57fef708686d5f92b3143b41d905ff", func := "loop.example/g00587/laws.FnExactCostOf", spec := "fnExactCostOf", recurses := true, loops := true, apart := false, narrowed := true }
def FnExactCostOfUptoSaid : Prop := fnExactCostOfUptoRow.holds Try.pinned (OpenSpec.upto fnExactCostOfSpec)

/-- 'laws.FnExactSampleDB', WHERE WHAT IT READS IS OF BULK AT MOST 1048576: true; the input reads as it did. -/
def fnExactSampleDBUptoRow : OpenClaim := { program := "ytepmlphjnppajaa", sum := "48adcd0e0b69f80c950681dcce9984825c57fef708686d5f92b3143b41d905ff", func := "loop.example/g00587/laws.FnExactSampleDB", spec := "fnExactSampleDB", unfollowed := true, recurses := true, loops := true, apart := false, narrowed := true }
def FnExactSampleDBUptoSaid : Prop := fnExactSampleDBUptoRow.holds Try.pinned (OpenSpec.upto fnExactSampleDBSpec)

/-- 'laws.FnExactMulPoly', WHERE WHAT IT READS IS OF BULK AT MOST 1048576: true; the input reads as it did. -/
def fnExactMulPolyUptoRow : OpenClaim := { program := "ytepmlphjnppajaa", sum := "48adcd0e0b69f80c950681dcce9984825c57fef708686d5f92b3143b41d905ff", func := "loop.example/g00587/laws.FnExactMulPoly", spec := "fnExactMulPoly", inPlace := ["slices.overlaps[loop.example/g00587/impl.Mono]"], unfollowed := true, recurses := true, apart := false, narrowed := true }
def FnExactMulPolyUptoSaid : Prop := fnExactMulPolyUptoRow.holds Try.pinned (OpenSpec.upto fnExactMulPolySpec)

end Rows
end Go.Proofs.Ytepmlphjnppajaa

/-
  NARROWER THAN 'FOR EVERY INPUT', by the rows' own cells (each row's printed sentence says how): FnExactSampleDB: loops.
  DERIVED. THE GIVEN ROWS OF THIS SEAT. 3 by the template 'for every input the law returns true; each argument reads behind the call as it read before'; 0 by the template 'total and deterministic' (their statements: YteinefllijajdaaTotals.lean).
  GIVEN WITH THE SEED: the statements are not yours to turn. If you find one false, say at which input.
  Laid BY PROGRAM, IN A SANDBOX (cutbox-rows.mjs): the forced cells as the released guide's own fill.sh prints them over the translation 01d187ceb4061a69… (all of the seat's roots in one cut). By AI agents, Wed Nov 11 2026. No macro, syntax, notation, axiom, sorry.
-/
import Derived.Test.YteinefllijajdaaChecked
import GoSem.Claim
import GoSem.ClaimJoined
import GoSem.ClaimMapViews
import Derived.JoinedTies
import Derived.KernelRfl
namespace Go.Proofs.Yteinefllijajdaa
/- THE CELL 'sum', in the pinned program and in every row, IS THE sha256 OF THE DUMP (.gsa) THAT YteinefllijajdaaProg.lean LOADS. Nothing in Lean hashes anything: it is a label: what it is worth is what the hold of that sum in a sandbox is worth. -/
noncomputable def Try.pinned : Pinned := { name := "yteinefllijajdaa", sum := "01d187ceb4061a69a451c04d3cf3aa72ca27bcd353c3e15e01a5a4d13cc2e98d", checked := Try.checked }
namespace Rows
def none {H : Type} : Left H := { results := [], args := [] }

/-- 'laws.FnExactAddPoly': WHATEVER THE INPUT: true; the input reads as it did. -/
def fnExactAddPolySpec : ChangeSpec := { name := "fnExactAddPoly", fn := fun _ => fun
  | [d1, d2] => { results := [.lit (.bool true)], args := [d1, d2] }
  | _ => none }
def fnExactAddPolyRow : OpenClaim := { program := "yteinefllijajdaa", sum := "01d187ceb4061a69a451c04d3cf3aa72ca27bcd353c3e15e01a5a4d13cc2e98d", func := "loop.example/g00587/laws.FnExactAddPoly", spec := "fnExactAddPoly", inPlace := ["slices.overlaps[loop.example/g00587/impl.Mono]"], unfollowed := true, recurses := true, apart := false }
def FnExactAddPolySaid : Prop := fnExactAddPolyRow.holds Try.pinned (OpenSpec.ofChange fnExactAddPolySpec)

/-- ITS FALSE NEIGHBOUR: 'it returns false'. Refute it at one input. -/
def fnExactAddPolyWrong : ChangeSpec := { name := "fnExactAddPoly", fn := fun _ => fun
  | [d1, d2] => { results := [.lit (.bool false)], args := [d1, d2] }
  | _ => none }
def FnExactAddPolyWrongFalsely : Prop := fnExactAddPolyRow.holds Try.pinned (OpenSpec.ofChange fnExactAddPolyWrong)

/-- 'laws.FnExactSampleDB': WHATEVER THE INPUT: true; the input reads as it did. -/
def fnExactSampleDBSpec : ChangeSpec := { name := "fnExactSampleDB", fn := fun _ => fun
  | [d1, d2] => { results := [.lit (.bool true)], args := [d1, d2] }
  | _ => none }
def fnExactSampleDBRow : OpenClaim := { program := "yteinefllijajdaa", sum := "01d187ceb4061a69a451c04d3cf3aa72ca27bcd353c3e15e01a5a4d13cc2e98d", func := "loop.example/g00587/laws.FnExactSampleDB", spec := "fnExactSampleDB", unfollowed := true, recurses := true, loops := true, apart := false }
def FnExactSampleDBSaid : Prop := fnExactSampleDBRow.holds Try.pinned (OpenSpec.ofChange fnExactSampleDBSpec)

/-- ITS FALSE NEIGHBOUR: 'it returns false'. Refute it at one input. -/
def fnExactSampleDBWrong : ChangeSpec := { name := "fnExactSampleDB", fn := fun _ => fun
  | [d1, d2] => { results := [.lit (.bool false)], args := [d1, d2] }
  | _ => none }
def FnExactSampleDBWrongFalsely : Prop := fnExactSampleDBRow.holds Try.pinned (OpenSpec.ofChange fnExactSampleDBWrong)

/-- 'laws.FnExactMulPoly': WHATEVER THE INPUT: true; the input reads as it did. -/
def fnExactMulPolySpec : ChangeSpec := { name := "fnExactMulPoly", fn := fun _ => fun
  | [d1, d2] => { results := [.lit (.bool true)], args := [d1, d2] }
  | _ => none }
def fnExactMulPolyRow : OpenClaim := { program := "yteinefllijajdaa", sum := "01d187ceb4061a69a451c04d3cf3aa72ca27bcd353c3e15e01a5a4d13cc2e98d", func := "loop.example/g00587/laws.FnExactMulPoly", spec := "fnExactMulPoly", inPlace := ["slices.overlaps[loop.example/g00587/impl.Mono]"], unfollowed := true, recurses := true, apart := false }
def FnExactMulPolySaid : Prop := fnExactMulPolyRow.holds Try.pinned (OpenSpec.ofChange fnExactMulPolySpec)

/-- ITS FALSE NEIGHBOUR: 'it returns false'. Refute it at one input. -/
def fnExactMulPolyWrong : ChangeSpec := { name := "fnExactMulPoly", fn := fun _ => fun
  | [d1, d2] => { results := [.lit (.bool false)], args := [d1, d2] }
  | _ => none }
def FnExactMulPolyWrongFalsely : Prop := fnExactMulPolyRow.holds Try.pinned (OpenSpec.ofChange fnExactMulPolyWrong)

/- THE SECOND FORM. 'bulk': how many values and letters a reading holds, each counted each time it is reached (what is shared counts as often as it is met; a slice's spare places count too). A statement '..UptoSaid' is the law's where the arguments, and the package variables that the reading takes, are together of bulk at most 1048576: NARROWER than '..Said'. Prove '..Said' where nothing that the law and all that it calls make is longer than what came in: it says more and counts as full. Else prove '..UptoSaid'. A law counts once. -/
mutual
def uptoBulk {H : Type} : DataW H → Nat
  | .lit (.string bytes) => bytes.length + 1
  | .lit _ => 1
  | .nil => 1
  | .ptr d => uptoBulk d + 1
  | .slice elems spare => uptoBulkAll elems + uptoBulkAll spare + 1
  | .agg parts => uptoBulkAll parts + 1
  | .iface _ d => uptoBulk d + 1
  | .map entries => uptoBulkEntries entries + 1
  | .held _ => 1
def uptoBulkAll {H : Type} : List (DataW H) → Nat
  | [] => 0
  | d :: r => uptoBulk d + uptoBulkAll r
def uptoBulkEntries {H : Type} : List (Lit × DataW H) → Nat
  | [] => 0
  | x :: r => uptoBulkEntry x + uptoBulkEntries r
def uptoBulkEntry {H : Type} : Lit × DataW H → Nat
  | (.string bytes, d) => bytes.length + uptoBulk d + 1
  | (_, d) => uptoBulk d + 1
 end
def uptoSmall : (H : Type) → List (DataW H) → Bool := fun _ ds => decide (uptoBulkAll ds ≤ 1048576)
def OpenSpec.upto (s : _root_.Go.ChangeSpec) : _root_.Go.OpenSpec := { _root_.Go.OpenSpec.ofChange s with cond := some uptoSmall }

/-- 'laws.FnExactAddPoly', WHERE WHAT IT READS IS OF BULK AT MOST 1048576: true; the input reads as it did. -/
def fnExactAddPolyUptoRow : OpenClaim := { program := "yteinefllijajdaa", sum := "01d187ceb4061a69a451c04d3cf3aa72ca27bcd353c3e15e01a5a4d13cc2e98d", func := "loop.example/g00587/laws.FnExactAddPoly", spec := "fnExactAddPoly", inPlace := ["slices.overlaps[loop.example/g00587/impl.Mono]"], unfollowed := true, recurses := true, apart := false, narrowed := true }
def FnExactAddPolyUptoSaid : Prop := fnExactAddPolyUptoRow.holds Try.pinned (OpenSpec.upto fnExactAddPolySpec)

/-- 'laws.FnExactSampleDB', WHERE WHAT IT READS IS OF BULK AT MOST 1048576: true; the input reads as it did. -/
def fnExactSampleDBUptoRow : OpenClaim := { program := "yteinefllijajdaa", sum := "01d187ceb4061a69a451c04d3cf3aa72ca27bcd353c3e15e01a5a4d13cc2e98d", func := "loop.example/g00587/laws.FnExactSampleDB", spec := "fnExactSampleDB", unfollowed := true, recurses := true, loops := true, apart := false, narrowed := true }
def FnExactSampleDBUptoSaid : Prop := fnExactSampleDBUptoRow.holds Try.pinned (OpenSpec.upto fnExactSampleDBSpec)

/-- 'laws.FnExactMulPoly', WHERE WHAT IT READS IS OF BULK AT MOST 1048576: true; the input reads as it did. -/
def fnExactMulPolyUptoRow : OpenClaim := { program := "yteinefllijajdaa", sum := "01d187ceb4061a69a451c04d3cf3aa72ca27bcd353c3e15e01a5a4d13cc2e98d", func := "loop.example/g00587/laws.FnExactMulPoly", spec := "fnExactMulPoly", inPlace := ["slices.overlaps[loop.example/g00587/impl.Mono]"], unfollowed := true, recurses := true, apart := false, narrowed := true }
def FnExactMulPolyUptoSaid : Prop := fnExactMulPolyUptoRow.holds Try.pinned (OpenSpec.upto fnExactMulPolySpec)

end Rows
end Go.Proofs.Yteinefllijajdaa

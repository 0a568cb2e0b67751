/-
  No cell of these rows narrows 'for every input' (looked for: loops, veiled, ifaces, maps, wideKeys, modest, calm, conditions, laid).
  DERIVED. THE GIVEN ROWS OF THIS SEAT. 6 by the template 'for every input the law returns true; each argument reads behind the call as it read before'; 0 by the template 'total and deterministic' (their statements: YtdedakeldfgjbaaTotals.lean).
  GIVEN WITH THE SEED: the statements are not yours to turn. If you find one false, say at which input.
  Laid BY PROGRAM, IN A SANDBOX (cutbox-rows.mjs): the forced cells as the released guide's own fill.sh prints them over the translation b72c3ccd071a5651… (all of the seat's roots in one cut). By AI agents, Wed Nov 11 2026. No macro, syntax, notation, axiom, sorry.
-/
import Derived.Test.YtdedakeldfgjbaaChecked
import GoSem.Claim
import GoSem.ClaimJoined
import GoSem.ClaimMapViews
import Derived.JoinedTies
import Derived.KernelRfl
namespace Go.Proofs.Ytdedakeldfgjbaa
/- THE CELL 'sum', in the pinned program and in every row, IS THE sha256 OF THE DUMP (.gsa) THAT YtdedakeldfgjbaaProg.lean LOADS. Nothing in Lean hashes anything: it is a label: what it is worth is what the hold of that sum in a sandbox is worth. -/
noncomputable def Try.pinned : Pinned := { name := "ytdedakeldfgjbaa", sum := "b72c3ccd071a5651a9e0340f93d64565f3b2ce65d16e4d2097a6dfc39a885119", checked := Try.checked }
namespace Rows
def none {H : Type} : Left H := { results := [], args := [] }

/-- 'laws.FnExactExampleText': WHATEVER THE INPUT: true; the input reads as it did. -/
def fnExactExampleTextSpec : ChangeSpec := { name := "fnExactExampleText", fn := fun _ => fun
  | [d] => { results := [.lit (.bool true)], args := [d] }
  | _ => none }
def fnExactExampleTextRow : OpenClaim := { program := "ytdedakeldfgjbaa", sum := "b72c3ccd071a5651a9e0340f93d64565f3b2ce65d16e4d2097a6dfc39a885119", func := "loop.example/g00587/laws.FnExactExampleText", spec := "fnExactExampleText", apart := false }
def FnExactExampleTextSaid : Prop := fnExactExampleTextRow.holds Try.pinned (OpenSpec.ofChange fnExactExampleTextSpec)

/-- ITS FALSE NEIGHBOUR: 'it returns false'. Refute it at one input. -/
def fnExactExampleTextWrong : ChangeSpec := { name := "fnExactExampleText", fn := fun _ => fun
  | [d] => { results := [.lit (.bool false)], args := [d] }
  | _ => none }
def FnExactExampleTextWrongFalsely : Prop := fnExactExampleTextRow.holds Try.pinned (OpenSpec.ofChange fnExactExampleTextWrong)

/-- 'laws.FnExactTokenPoly': WHATEVER THE INPUT: true; the input reads as it did. -/
def fnExactTokenPolySpec : ChangeSpec := { name := "fnExactTokenPoly", fn := fun _ => fun
  | [d] => { results := [.lit (.bool true)], args := [d] }
  | _ => none }
def fnExactTokenPolyRow : OpenClaim := { program := "ytdedakeldfgjbaa", sum := "b72c3ccd071a5651a9e0340f93d64565f3b2ce65d16e4d2097a6dfc39a885119", func := "loop.example/g00587/laws.FnExactTokenPoly", spec := "fnExactTokenPoly", apart := false }
def FnExactTokenPolySaid : Prop := fnExactTokenPolyRow.holds Try.pinned (OpenSpec.ofChange fnExactTokenPolySpec)

/-- ITS FALSE NEIGHBOUR: 'it returns false'. Refute it at one input. -/
def fnExactTokenPolyWrong : ChangeSpec := { name := "fnExactTokenPoly", fn := fun _ => fun
  | [d] => { results := [.lit (.bool false)], args := [d] }
  | _ => none }
def FnExactTokenPolyWrongFalsely : Prop := fnExactTokenPolyRow.holds Try.pinned (OpenSpec.ofChange fnExactTokenPolyWrong)

/-- 'laws.FnExactNumberPoly': WHATEVER THE INPUT: true; the input reads as it did. -/
def fnExactNumberPolySpec : ChangeSpec := { name := "fnExactNumberPoly", fn := fun _ => fun
  | [d] => { results := [.lit (.bool true)], args := [d] }
  | _ => none }
def fnExactNumberPolyRow : OpenClaim := { program := "ytdedakeldfgjbaa", sum := "b72c3ccd071a5651a9e0340f93d64565f3b2ce65d16e4d2097a6dfc39a885119", func := "loop.example/g00587/laws.FnExactNumberPoly", spec := "fnExactNumberPoly", apart := false }
def FnExactNumberPolySaid : Prop := fnExactNumberPolyRow.holds Try.pinned (OpenSpec.ofChange fnExactNumberPolySpec)

/-- ITS FALSE NEIGHBOUR: 'it returns false'. Refute it at one input. -/
def fnExactNumberPolyWrong : ChangeSpec := { name := "fnExactNumberPoly", fn := fun _ => fun
  | [d] => { results := [.lit (.bool false)], args := [d] }
  | _ => none }
def FnExactNumberPolyWrongFalsely : Prop := fnExactNumberPolyRow.holds Try.pinned (OpenSpec.ofChange fnExactNumberPolyWrong)

/-- 'laws.FnExactOrdersOf': WHATEVER THE INPUT: true; the input reads as it did. -/
def fnExactOrdersOfSpec : ChangeSpec := { name := "fnExactOrdersOf", fn := fun _ => fun
  | [d] => { results := [.lit (.bool true)], args := [d] }
  | _ => none }
def fnExactOrdersOfRow : OpenClaim := { program := "ytdedakeldfgjbaa", sum := "b72c3ccd071a5651a9e0340f93d64565f3b2ce65d16e4d2097a6dfc39a885119", func := "loop.example/g00587/laws.FnExactOrdersOf", spec := "fnExactOrdersOf", unfollowed := true, recurses := true, apart := false }
def FnExactOrdersOfSaid : Prop := fnExactOrdersOfRow.holds Try.pinned (OpenSpec.ofChange fnExactOrdersOfSpec)

/-- ITS FALSE NEIGHBOUR: 'it returns false'. Refute it at one input. -/
def fnExactOrdersOfWrong : ChangeSpec := { name := "fnExactOrdersOf", fn := fun _ => fun
  | [d] => { results := [.lit (.bool false)], args := [d] }
  | _ => none }
def FnExactOrdersOfWrongFalsely : Prop := fnExactOrdersOfRow.holds Try.pinned (OpenSpec.ofChange fnExactOrdersOfWrong)

/-- 'laws.FnExactEqualPoly': WHATEVER THE INPUT: true; the input reads as it did. -/
def fnExactEqualPolySpec : ChangeSpec := { name := "fnExactEqualPoly", fn := fun _ => fun
  | [d1, d2] => { results := [.lit (.bool true)], args := [d1, d2] }
  | _ => none }
def fnExactEqualPolyRow : OpenClaim := { program := "ytdedakeldfgjbaa", sum := "b72c3ccd071a5651a9e0340f93d64565f3b2ce65d16e4d2097a6dfc39a885119", func := "loop.example/g00587/laws.FnExactEqualPoly", spec := "fnExactEqualPoly", unfollowed := true, recurses := true, apart := false }
def FnExactEqualPolySaid : Prop := fnExactEqualPolyRow.holds Try.pinned (OpenSpec.ofChange fnExactEqualPolySpec)

/-- ITS FALSE NEIGHBOUR: 'it returns false'. Refute it at one input. -/
def fnExactEqualPolyWrong : ChangeSpec := { name := "fnExactEqualPoly", fn := fun _ => fun
  | [d1, d2] => { results := [.lit (.bool false)], args := [d1, d2] }
  | _ => none }
def FnExactEqualPolyWrongFalsely : Prop := fnExactEqualPolyRow.holds Try.pinned (OpenSpec.ofChange fnExactEqualPolyWrong)

/-- 'laws.FnExactIsPoly': WHATEVER THE INPUT: true; the input reads as it did. -/
def fnExactIsPolySpec : ChangeSpec := { name := "fnExactIsPoly", fn := fun _ => fun
  | [d] => { results := [.lit (.bool true)], args := [d] }
  | _ => none }
def fnExactIsPolyRow : OpenClaim := { program := "ytdedakeldfgjbaa", sum := "b72c3ccd071a5651a9e0340f93d64565f3b2ce65d16e4d2097a6dfc39a885119", func := "loop.example/g00587/laws.FnExactIsPoly", spec := "fnExactIsPoly", apart := false }
def FnExactIsPolySaid : Prop := fnExactIsPolyRow.holds Try.pinned (OpenSpec.ofChange fnExactIsPolySpec)

/-- ITS FALSE NEIGHBOUR: 'it returns false'. Refute it at one input. -/
def fnExactIsPolyWrong : ChangeSpec := { name := "fnExactIsPoly", fn := fun _ => fun
  | [d] => { results := [.lit (.bool false)], args := [d] }
  | _ => none }
def FnExactIsPolyWrongFalsely : Prop := fnExactIsPolyRow.holds Try.pinned (OpenSpec.ofChange fnExactIsPolyWrong)

/- THE SECOND FORM. 'bulk': how many values and letters a reading holds, each counted each time it is reached (what is shared counts as often as it is met; a slice's spare places count too). A statement '..UptoSaid' is the law's where the arguments, and the package variables that the reading takes, are together of bulk at most 1048576: NARROWER than '..Said'. Prove '..Said' where nothing that the law and all that it calls make is longer than what came in: it says more and counts as full. Else prove '..UptoSaid'. A law counts once. -/
mutual
def uptoBulk {H : Type} : DataW H → Nat
  | .lit (.string bytes) => bytes.length + 1
  | .lit _ => 1
  | .nil => 1
  | .ptr d => uptoBulk d + 1
  | .slice elems spare => uptoBulkAll elems + uptoBulkAll spare + 1
  | .agg parts => uptoBulkAll parts + 1
  | .iface _ d => uptoBulk d + 1
  | .map entries => uptoBulkEntries entries + 1
  | .held _ => 1
def uptoBulkAll {H : Type} : List (DataW H) → Nat
  | [] => 0
  | d :: r => uptoBulk d + uptoBulkAll r
def uptoBulkEntries {H : Type} : List (Lit × DataW H) → Nat
  | [] => 0
  | x :: r => uptoBulkEntry x + uptoBulkEntries r
def uptoBulkEntry {H : Type} : Lit × DataW H → Nat
  | (.string bytes, d) => bytes.length + uptoBulk d + 1
  | (_, d) => uptoBulk d + 1
 end
def uptoSmall : (H : Type) → List (DataW H) → Bool := fun _ ds => decide (uptoBulkAll ds ≤ 1048576)
def OpenSpec.upto (s : _root_.Go.ChangeSpec) : _root_.Go.OpenSpec := { _root_.Go.OpenSpec.ofChange s with cond := some uptoSmall }

/-- 'laws.FnExactExampleText', WHERE WHAT IT READS IS OF BULK AT MOST 1048576: true; the input reads as it did. -/
def fnExactExampleTextUptoRow : OpenClaim := { program := "ytdedakeldfgjbaa", sum := "b72c3ccd071a5651a9e0340f93d64565f3b2ce65d16e4d2097a6dfc39a885119", func := "loop.example/g00587/laws.FnExactExampleText", spec := "fnExactExampleText", apart := false, narrowed := true }
def FnExactExampleTextUptoSaid : Prop := fnExactExampleTextUptoRow.holds Try.pinned (OpenSpec.upto fnExactExampleTextSpec)

/-- 'laws.FnExactTokenPoly', WHERE WHAT IT READS IS OF BULK AT MOST 1048576: true; the input reads as it did. -/
def fnExactTokenPolyUptoRow : OpenClaim := { program := "ytdedakeldfgjbaa", sum := "b72c3ccd071a5651a9e0340f93d64565f3b2ce65d16e4d2097a6dfc39a885119", func := "loop.example/g00587/laws.FnExactTokenPoly", spec := "fnExactTokenPoly", apart := false, narrowed := true }
def FnExactTokenPolyUptoSaid : Prop := fnExactTokenPolyUptoRow.holds Try.pinned (OpenSpec.upto fnExactTokenPolySpec)

/-- 'laws.FnExactNumberPoly', WHERE WHAT IT READS IS OF BULK AT MOST 1048576: true; the input reads as it did. -/
def fnExactNumberPolyUptoRow : OpenClaim := { program := "ytdedakeldfgjbaa", sum := "b72c3ccd071a5651a9e0340f93d64565f3b2ce65d16e4d2097a6dfc39a885119", func := "loop.example/g00587/laws.FnExactNumberPoly", spec := "fnExactNumberPoly", apart := false, narrowed := true }
def FnExactNumberPolyUptoSaid : Prop := fnExactNumberPolyUptoRow.holds Try.pinned (OpenSpec.upto fnExactNumberPolySpec)

/-- 'laws.FnExactOrdersOf', WHERE WHAT IT READS IS OF BULK AT MOST 1048576: true; the input reads as it did. -/
def fnExactOrdersOfUptoRow : OpenClaim := { program := "ytdedakeldfgjbaa", sum := "b72c3ccd071a5651a9e0340f93d64565f3b2ce65d16e4d2097a6dfc39a885119", func := "loop.example/g00587/laws.FnExactOrdersOf", spec := "fnExactOrdersOf", unfollowed := true, recurses := true, apart := false, narrowed := true }
def FnExactOrdersOfUptoSaid : Prop := fnExactOrdersOfUptoRow.holds Try.pinned (OpenSpec.upto fnExactOrdersOfSpec)

/-- 'laws.FnExactEqualPoly', WHERE WHAT IT READS IS OF BULK AT MOST 1048576: true; the input reads as it did. -/
def fnExactEqualPolyUptoRow : OpenClaim := { program := "ytdedakeldfgjbaa", sum := "b72c3ccd071a5651a9e0340f93d64565f3b2ce65d16e4d2097a6dfc39a885119", func := "loop.example/g00587/laws.FnExactEqualPoly", spec := "fnExactEqualPoly", unfollowed := true, recurses := true, apart := false, narrowed := true }
def FnExactEqualPolyUptoSaid : Prop := fnExactEqualPolyUptoRow.holds Try.pinned (OpenSpec.upto fnExactEqualPolySpec)

/-- 'laws.FnExactIsPoly', WHERE WHAT IT READS IS OF BULK AT MOST 1048576: true; the input reads as it did. -/
def fnExactIsPolyUptoRow : OpenClaim := { program := "ytdedakeldfgjbaa", sum := "b72c3ccd071a5651a9e0340f93d64565f3b2ce65d16e4d2097a6dfc39a885119", func := "loop.example/g00587/laws.FnExactIsPoly", spec := "fnExactIsPoly", apart := false, narrowed := true }
def FnExactIsPolyUptoSaid : Prop := fnExactIsPolyUptoRow.holds Try.pinned (OpenSpec.upto fnExactIsPolySpec)

end Rows
end Go.Proofs.Ytdedakeldfgjbaa

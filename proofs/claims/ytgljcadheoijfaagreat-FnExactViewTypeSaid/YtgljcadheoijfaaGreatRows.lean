/-
  NARROWER THAN 'FOR EVERY INPUT', by the rows' own cells (each row's printed sentence says how): FnExactIsView: loops · FnExactViewType: loops.
  DERIVED. THE GIVEN ROWS OF THIS SEAT. 2 by the template 'for every input the law returns true; each argument reads behind the call as it read before'; 0 by the template 'total and deterministic' (their statements: YtgljcadheoijfaaGreatTotals.lean).
  GIVEN WITH THE SEED: the statements are not yours to turn. If you find one false, say at which input.
  Laid BY PROGRAM, IN A SANDBOX (cutbox-rows.mjs): the forced cells as the released guide's own fill.sh prints them over the translation 268fb8ffb51a2966… (all of the seat's roots in one cut). By AI agents, Wed Nov 11 2026. No macro, syntax, notation, axiom, sorry.
-/
import Derived.Test.YtgljcadheoijfaaGreatChecked
import GoSem.Claim
import GoSem.ClaimJoined
import GoSem.ClaimMapViews
import Derived.JoinedTies
import Derived.KernelRfl
namespace Go.Proofs.YtgljcadheoijfaaGreat
/- THE CELL 'sum', in the pinned program and in every row, IS THE sha256 OF THE DUMP (.gsa) THAT YtgljcadheoijfaaGreatProg.lean LOADS. Nothing in Lean hashes anything: it is a label: what it is worth is what the hold of that sum in a sandbox is worth. -/
noncomputable def Tryz.pinned : Pinned := { name := "ytgljcadheoijfaagreat", sum := "268fb8ffb51a29661380467f675d5d0deccac5b6e8eaec64433d5be88806abff", checked := Tryz.checked }
namespace Rows
def none {H : Type} : Left H := { results := [], args := [] }

/-- 'laws.FnExactIsView': WHATEVER THE INPUT: true; the input reads as it did. -/
def fnExactIsViewSpec : ChangeSpec := { name := "fnExactIsView", fn := fun _ => fun
  | [d1, d2] => { results := [.lit (.bool true)], args := [d1, d2] }
  | _ => none }
def fnExactIsViewRow : OpenClaim := { program := "ytgljcadheoijfaagreat", sum := "268fb8ffb51a29661380467f675d5d0deccac5b6e8eaec64433d5be88806abff", func := "loop.example/g00587/laws.FnExactIsView", spec := "fnExactIsView", unfollowed := true, recurses := true, loops := true, apart := false }
def FnExactIsViewSaid : Prop := fnExactIsViewRow.holds Tryz.pinned (OpenSpec.ofChange fnExactIsViewSpec)

/-- ITS FALSE NEIGHBOUR: 'it returns false'. Refute it at one input. -/
def fnExactIsViewWrong : ChangeSpec := { name := "fnExactIsView", fn := fun _ => fun
  | [d1, d2] => { results := [.lit (.bool false)], args := [d1, d2] }
  | _ => none }
def FnExactIsViewWrongFalsely : Prop := fnExactIsViewRow.holds Tryz.pinned (OpenSpec.ofChange fnExactIsViewWrong)

/-- 'laws.FnExactViewType': WHATEVER THE INPUT: true; the input reads as it did. -/
def fnExactViewTypeSpec : ChangeSpec := { name := "fnExactViewType", fn := fun _ => fun
  | [d1, d2] => { results := [.lit (.bool true)], args := [d1, d2] }
  | _ => none }
def fnExactViewTypeRow : OpenClaim := { program := "ytgljcadheoijfaagreat", sum := "268fb8ffb51a29661380467f675d5d0deccac5b6e8eaec64433d5be88806abff", func := "loop.example/g00587/laws.FnExactViewType", spec := "fnExactViewType", unfollowed := true, recurses := true, loops := true, apart := false }
def FnExactViewTypeSaid : Prop := fnExactViewTypeRow.holds Tryz.pinned (OpenSpec.ofChange fnExactViewTypeSpec)

/-- ITS FALSE NEIGHBOUR: 'it returns false'. Refute it at one input. -/
def fnExactViewTypeWrong : ChangeSpec := { name := "fnExactViewType", fn := fun _ => fun
  | [d1, d2] => { results := [.lit (.bool false)], args := [d1, d2] }
  | _ => none }
def FnExactViewTypeWrongFalsely : Prop := fnExactViewTypeRow.holds Tryz.pinned (OpenSpec.ofChange fnExactViewTypeWrong)

/- THE SECOND FORM. 'bulk': how many values and letters a reading holds, each counted each time it is reached (what is shared counts as often as it is met; a slice's spare places count too). A statement '..UptoSaid' is the law's where the arguments, and the package variables that the reading takes, are together of bulk at most 1048576: NARROWER than '..Said'. Prove '..Said' where nothing that the law and all that it calls make is longer than what came in: it says more and counts as full. Else prove '..UptoSaid'. A law counts once. -/
mutual
def uptoBulk {H : Type} : DataW H → Nat
  | .lit (.string bytes) => bytes.length + 1
  | .lit _ => 1
  | .nil => 1
  | .ptr d => uptoBulk d + 1
  | .slice elems spare => uptoBulkAll elems + uptoBulkAll spare + 1
  | .agg parts => uptoBulkAll parts + 1
  | .iface _ d => uptoBulk d + 1
  | .map entries => uptoBulkEntries entries + 1
  | .held _ => 1
def uptoBulkAll {H : Type} : List (DataW H) → Nat
  | [] => 0
  | d :: r => uptoBulk d + uptoBulkAll r
def uptoBulkEntries {H : Type} : List (Lit × DataW H) → Nat
  | [] => 0
  | x :: r => uptoBulkEntry x + uptoBulkEntries r
def uptoBulkEntry {H : Type} : Lit × DataW H → Nat
  | (.string bytes, d) => bytes.length + uptoBulk d + 1
  | (_, d) => uptoBulk d + 1
 end
def uptoSmall : (H : Type) → List (DataW H) → Bool := fun _ ds => decide (uptoBulkAll ds ≤ 1048576)
def OpenSpec.upto (s : _root_.Go.ChangeSpec) : _root_.Go.OpenSpec := { _root_.Go.OpenSpec.ofChange s with cond := some uptoSmall }

/-- 'laws.FnExactIsView', WHERE WHAT IT READS IS OF BULK AT MOST 1048576: true; the input reads as it did. -/
def fnExactIsViewUptoRow : OpenClaim := { program := "ytgljcadheoijfaagreat", sum := "268fb8ffb51a29661380467f675d5d0deccac5b6e8eaec64433d5be88806abff", func := "loop.example/g00587/laws.FnExactIsView", spec := "fnExactIsView", unfollowed := true, recurses := true, loops := true, apart := false, narrowed := true }
def FnExactIsViewUptoSaid : Prop := fnExactIsViewUptoRow.holds Tryz.pinned (OpenSpec.upto fnExactIsViewSpec)

/-- 'laws.FnExactViewType', WHERE WHAT IT READS IS OF BULK AT MOST 1048576: true; the input reads as it did. -/
def fnExactViewTypeUptoRow : OpenClaim := { program := "ytgljcadheoijfaagreat", sum := "268fb8ffb51a29661380467f675d5d0deccac5b6e8eaec64433d5be88806abff", func := "loop.example/g00587/laws.FnExactViewType", spec := "fnExactViewType", unfollowed := true, recurses := true, loops := true, apart := false, narrowed := true }
def FnExactViewTypeUptoSaid : Prop := fnExactViewTypeUptoRow.holds Tryz.pinned (OpenSpec.upto fnExactViewTypeSpec)

end Rows
end Go.Proofs.YtgljcadheoijfaaGreat

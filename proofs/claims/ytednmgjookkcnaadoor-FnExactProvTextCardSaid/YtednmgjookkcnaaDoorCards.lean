/-
  DERIVED. GIVEN WITH THE SEED: THE CARDS: each row of YtednmgjookkcnaaDoorRows.lean that lists a variable, with what it lists TIED to the program's text (the seventh form; the later family's looks); each row that meets fmt, with fmt's text TOLD by the authors' own Lean function (tested against real Go, not proved from fmt's source: count such statements apart). THE CARD IS WHAT COUNTS. Prove the row's statement (the work); the ties are given (YtednmgjookkcnaaDoorTie.lean); close each card by the builder's one call (the guide's Derived/Test/ToyasCard.lean, 'card_holds'). Laid BY PROGRAM, IN A SANDBOX (cutbox-door.mjs). By AI agents, Wed Nov 11 2026. No macro, syntax, notation, axiom, sorry.
-/
import Derived.Test.YtednmgjookkcnaaDoorRows
import GoSem.ClaimSeven
namespace Go.Proofs.YtednmgjookkcnaaDoor
namespace Rows

/-- THE TIED CARD OF 'laws.FnExactTokenOf'. -/
def fnExactTokenOfCard : Claim7 := { stood := { row := fnExactTokenOfRow, standIns := [], harness := (true, "58c6f11a5437c52bd0efa3b0e70dbc766dea5e7ebad3d54e39bca1aab2b2e5fe"), looks := false }, kinds := [], alts := [], laidByText := true, laidKinds := [.data, .data, .data], laidTests := true, laidLooks := .later }
def FnExactTokenOfCardSaid : Prop := Claim7.holds Tryd.pinned (.plain (OpenSpec.ofChange fnExactTokenOfSpec)) fnExactTokenOfCard

/-- THE TIED CARD OF 'laws.FnExactVerdictText'. -/
def fnExactVerdictTextCard : Claim7 := { stood := { row := fnExactVerdictTextRow, standIns := [], harness := (true, "58c6f11a5437c52bd0efa3b0e70dbc766dea5e7ebad3d54e39bca1aab2b2e5fe"), looks := false }, kinds := [], alts := [], laidByText := true, laidKinds := [.data, .data, .data], laidTests := true, laidLooks := .later }
def FnExactVerdictTextCardSaid : Prop := Claim7.holds Tryd.pinned (.plain (OpenSpec.ofChange fnExactVerdictTextSpec)) fnExactVerdictTextCard

/-- THE TIED CARD OF 'laws.FnExactPolyText'. -/
def fnExactPolyTextCard : Claim7 := { stood := { row := fnExactPolyTextRow, standIns := [], harness := (true, "58c6f11a5437c52bd0efa3b0e70dbc766dea5e7ebad3d54e39bca1aab2b2e5fe"), looks := false }, kinds := [], alts := [], laidByText := true, laidKinds := [.data, .data, .data], laidTests := true, laidLooks := .later }
def FnExactPolyTextCardSaid : Prop := Claim7.holds Tryd.pinned (.plain (OpenSpec.ofChange fnExactPolyTextSpec)) fnExactPolyTextCard

/-- THE TIED CARD OF 'laws.FnExactProvText'. -/
def fnExactProvTextCard : Claim7 := { stood := { row := fnExactProvTextRow, standIns := [], harness := (true, "58c6f11a5437c52bd0efa3b0e70dbc766dea5e7ebad3d54e39bca1aab2b2e5fe"), looks := false }, kinds := [], alts := [], laidByText := true, laidKinds := [.data, .data, .data], laidTests := true, laidLooks := .later }
def FnExactProvTextCardSaid : Prop := Claim7.holds Tryd.pinned (.plain (OpenSpec.ofChange fnExactProvTextSpec)) fnExactProvTextCard

/-- THE SECOND FORM's CARD OF 'laws.FnExactTokenOf'. -/
def fnExactTokenOfUptoCard : Claim7 := { stood := { row := fnExactTokenOfUptoRow, standIns := [], harness := (true, "58c6f11a5437c52bd0efa3b0e70dbc766dea5e7ebad3d54e39bca1aab2b2e5fe"), looks := false }, kinds := [], alts := [], laidByText := true, laidKinds := [.data, .data, .data], laidTests := true, laidLooks := .later }
def FnExactTokenOfUptoCardSaid : Prop := Claim7.holds Tryd.pinned (.plain (OpenSpec.upto fnExactTokenOfSpec)) fnExactTokenOfUptoCard

/-- THE SECOND FORM's CARD OF 'laws.FnExactVerdictText'. -/
def fnExactVerdictTextUptoCard : Claim7 := { stood := { row := fnExactVerdictTextUptoRow, standIns := [], harness := (true, "58c6f11a5437c52bd0efa3b0e70dbc766dea5e7ebad3d54e39bca1aab2b2e5fe"), looks := false }, kinds := [], alts := [], laidByText := true, laidKinds := [.data, .data, .data], laidTests := true, laidLooks := .later }
def FnExactVerdictTextUptoCardSaid : Prop := Claim7.holds Tryd.pinned (.plain (OpenSpec.upto fnExactVerdictTextSpec)) fnExactVerdictTextUptoCard

/-- THE SECOND FORM's CARD OF 'laws.FnExactPolyText'. -/
def fnExactPolyTextUptoCard : Claim7 := { stood := { row := fnExactPolyTextUptoRow, standIns := [], harness := (true, "58c6f11a5437c52bd0efa3b0e70dbc766dea5e7ebad3d54e39bca1aab2b2e5fe"), looks := false }, kinds := [], alts := [], laidByText := true, laidKinds := [.data, .data, .data], laidTests := true, laidLooks := .later }
def FnExactPolyTextUptoCardSaid : Prop := Claim7.holds Tryd.pinned (.plain (OpenSpec.upto fnExactPolyTextSpec)) fnExactPolyTextUptoCard

/-- THE SECOND FORM's CARD OF 'laws.FnExactProvText'. -/
def fnExactProvTextUptoCard : Claim7 := { stood := { row := fnExactProvTextUptoRow, standIns := [], harness := (true, "58c6f11a5437c52bd0efa3b0e70dbc766dea5e7ebad3d54e39bca1aab2b2e5fe"), looks := false }, kinds := [], alts := [], laidByText := true, laidKinds := [.data, .data, .data], laidTests := true, laidLooks := .later }
def FnExactProvTextUptoCardSaid : Prop := Claim7.holds Tryd.pinned (.plain (OpenSpec.upto fnExactProvTextSpec)) fnExactProvTextUptoCard
end Rows
end Go.Proofs.YtednmgjookkcnaaDoor

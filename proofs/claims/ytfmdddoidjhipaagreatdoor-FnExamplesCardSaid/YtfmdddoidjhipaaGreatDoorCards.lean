/-
  DERIVED. GIVEN WITH THE SEED: THE CARDS: each row of YtfmdddoidjhipaaGreatDoorRows.lean that lists a variable, with what it lists TIED to the program's text (the seventh form; the later family's looks); each row that meets fmt, with fmt's text TOLD by the authors' own Lean function (tested against real Go, not proved from fmt's source: count such statements apart). THE CARD IS WHAT COUNTS. Prove the row's statement (the work); the ties are given (YtfmdddoidjhipaaGreatDoorTie.lean); close each card by the builder's one call (the guide's Derived/Test/ToyasCard.lean, 'card_holds'). Laid BY PROGRAM, IN A SANDBOX (cutbox-door.mjs). By AI agents, Wed Nov 11 2026. No macro, syntax, notation, axiom, sorry.
-/
import Derived.Test.YtfmdddoidjhipaaGreatDoorRows
import GoSem.ClaimSeven
namespace Go.Proofs.YtfmdddoidjhipaaGreatDoor
namespace Rows

/-- THE TIED CARD OF 'laws.FnExactNewSession'. -/
def fnExactNewSessionCard : Claim7 := { stood := { row := fnExactNewSessionRow, standIns := [], harness := (true, "0b1d3d0b5593e98bcdbad03e7af827457a40025a93321e5e1ccd0dcd328e274e"), looks := true }, kinds := [], alts := [], laidByText := true, laidKinds := [.data, .data, .data, .data, .sentinel, .sentinel, .pinned], laidTests := true, laidLooks := .later }
def FnExactNewSessionCardSaid : Prop := Claim7.holds Tryz.pinned (.plain (OpenSpec.ofChange fnExactNewSessionSpec)) fnExactNewSessionCard

/-- THE TIED CARD OF 'laws.FnExactDescribePolygon'. -/
def fnExactDescribePolygonCard : Claim7 := { stood := { row := fnExactDescribePolygonRow, standIns := [], harness := (true, "0b1d3d0b5593e98bcdbad03e7af827457a40025a93321e5e1ccd0dcd328e274e"), looks := true }, kinds := [], alts := [], laidByText := true, laidKinds := [.data, .data, .data], laidTests := true, laidLooks := .later }
def FnExactDescribePolygonCardSaid : Prop := Claim7.holds Tryz.pinned (.plain (OpenSpec.ofChange fnExactDescribePolygonSpec)) fnExactDescribePolygonCard

/-- THE TIED CARD OF 'laws.FnExactDescribeExample'. -/
def fnExactDescribeExampleCard : Claim7 := { stood := { row := fnExactDescribeExampleRow, standIns := [], harness := (true, "0b1d3d0b5593e98bcdbad03e7af827457a40025a93321e5e1ccd0dcd328e274e"), looks := true }, kinds := [], alts := [], laidByText := true, laidKinds := [.data, .data, .data, .data, .sentinel, .sentinel, .pinned], laidTests := true, laidLooks := .later }
def FnExactDescribeExampleCardSaid : Prop := Claim7.holds Tryz.pinned (.plain (OpenSpec.ofChange fnExactDescribeExampleSpec)) fnExactDescribeExampleCard

/-- THE TIED CARD OF 'laws.FnExamples'. -/
def fnExamplesCard : Claim7 := { stood := { row := fnExamplesRow, standIns := [], harness := (true, "0b1d3d0b5593e98bcdbad03e7af827457a40025a93321e5e1ccd0dcd328e274e"), looks := true }, kinds := [], alts := [], laidByText := true, laidKinds := [.data, .data, .data, .data, .sentinel, .sentinel, .pinned], laidTests := true, laidLooks := .later }
def FnExamplesCardSaid : Prop := Claim7.holds Tryz.pinned (.plain (OpenSpec.ofChange fnExamplesSpec)) fnExamplesCard

/-- THE SECOND FORM's CARD OF 'laws.FnExactNewSession'. -/
def fnExactNewSessionUptoCard : Claim7 := { stood := { row := fnExactNewSessionUptoRow, standIns := [], harness := (true, "0b1d3d0b5593e98bcdbad03e7af827457a40025a93321e5e1ccd0dcd328e274e"), looks := true }, kinds := [], alts := [], laidByText := true, laidKinds := [.data, .data, .data, .data, .sentinel, .sentinel, .pinned], laidTests := true, laidLooks := .later }
def FnExactNewSessionUptoCardSaid : Prop := Claim7.holds Tryz.pinned (.plain (OpenSpec.upto fnExactNewSessionSpec)) fnExactNewSessionUptoCard

/-- THE SECOND FORM's CARD OF 'laws.FnExactDescribePolygon'. -/
def fnExactDescribePolygonUptoCard : Claim7 := { stood := { row := fnExactDescribePolygonUptoRow, standIns := [], harness := (true, "0b1d3d0b5593e98bcdbad03e7af827457a40025a93321e5e1ccd0dcd328e274e"), looks := true }, kinds := [], alts := [], laidByText := true, laidKinds := [.data, .data, .data], laidTests := true, laidLooks := .later }
def FnExactDescribePolygonUptoCardSaid : Prop := Claim7.holds Tryz.pinned (.plain (OpenSpec.upto fnExactDescribePolygonSpec)) fnExactDescribePolygonUptoCard

/-- THE SECOND FORM's CARD OF 'laws.FnExactDescribeExample'. -/
def fnExactDescribeExampleUptoCard : Claim7 := { stood := { row := fnExactDescribeExampleUptoRow, standIns := [], harness := (true, "0b1d3d0b5593e98bcdbad03e7af827457a40025a93321e5e1ccd0dcd328e274e"), looks := true }, kinds := [], alts := [], laidByText := true, laidKinds := [.data, .data, .data, .data, .sentinel, .sentinel, .pinned], laidTests := true, laidLooks := .later }
def FnExactDescribeExampleUptoCardSaid : Prop := Claim7.holds Tryz.pinned (.plain (OpenSpec.upto fnExactDescribeExampleSpec)) fnExactDescribeExampleUptoCard

/-- THE SECOND FORM's CARD OF 'laws.FnExamples'. -/
def fnExamplesUptoCard : Claim7 := { stood := { row := fnExamplesUptoRow, standIns := [], harness := (true, "0b1d3d0b5593e98bcdbad03e7af827457a40025a93321e5e1ccd0dcd328e274e"), looks := true }, kinds := [], alts := [], laidByText := true, laidKinds := [.data, .data, .data, .data, .sentinel, .sentinel, .pinned], laidTests := true, laidLooks := .later }
def FnExamplesUptoCardSaid : Prop := Claim7.holds Tryz.pinned (.plain (OpenSpec.upto fnExamplesSpec)) fnExamplesUptoCard
end Rows
end Go.Proofs.YtfmdddoidjhipaaGreatDoor

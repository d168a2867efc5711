/-
  DERIVED. GIVEN WITH THE SEED: THE CARDS: each row of YtmljnmmdahlfdaaGreatDoorRows.lean that lists a variable, with what it lists TIED to the program's text (the seventh form; the later family's looks); each row that meets fmt, with fmt's text TOLD by the authors' own Lean function (tested against real Go, not proved from fmt's source: count such statements apart). THE CARD IS WHAT COUNTS. Prove the row's statement (the work); the ties are given (YtmljnmmdahlfdaaGreatDoorTie.lean); close each card by the builder's one call (the guide's Derived/Test/ToyasCard.lean, 'card_holds'). Laid BY PROGRAM, IN A SANDBOX (cutbox-door.mjs). By AI agents, Wed Nov 11 2026. No macro, syntax, notation, axiom, sorry.
-/
import Derived.Test.YtmljnmmdahlfdaaGreatDoorRows
import GoSem.ClaimSeven
namespace Go.Proofs.YtmljnmmdahlfdaaGreatDoor
namespace Rows

/-- THE TIED CARD OF 'laws.FnTop'. -/
def fnTopCard : Claim7 := { stood := { row := fnTopRow, standIns := [], harness := (true, "41fce66c23020d7386770377a7c5fc78d5d19a14a4a514fc8c6ff0ba77f80844"), looks := true }, kinds := [], alts := [], laidByText := true, laidKinds := [.data, .data, .data, .data, .sentinel, .sentinel, .pinned], laidTests := true, laidLooks := .later }
def FnTopCardSaid : Prop := Claim7.holds Tryz.pinned (.plain (OpenSpec.ofChange fnTopSpec)) fnTopCard

/-- THE TIED CARD OF 'laws.FnExactRunSession'. -/
def fnExactRunSessionCard : Claim7 := { stood := { row := fnExactRunSessionRow, standIns := [], harness := (true, "41fce66c23020d7386770377a7c5fc78d5d19a14a4a514fc8c6ff0ba77f80844"), looks := true }, kinds := [], alts := [], laidByText := true, laidKinds := [.data, .data, .data, .data, .sentinel, .sentinel, .pinned], laidTests := true, laidLooks := .later }
def FnExactRunSessionCardSaid : Prop := Claim7.holds Tryz.pinned (.plain (OpenSpec.ofChange fnExactRunSessionSpec)) fnExactRunSessionCard

/-- THE TIED CARD OF 'laws.FnExactExecuteLine'. -/
def fnExactExecuteLineCard : Claim7 := { stood := { row := fnExactExecuteLineRow, standIns := [], harness := (true, "41fce66c23020d7386770377a7c5fc78d5d19a14a4a514fc8c6ff0ba77f80844"), looks := true }, kinds := [], alts := [], laidByText := true, laidKinds := [.data, .data, .data, .data, .sentinel, .sentinel, .pinned], laidTests := true, laidLooks := .later }
def FnExactExecuteLineCardSaid : Prop := Claim7.holds Tryz.pinned (.plain (OpenSpec.ofChange fnExactExecuteLineSpec)) fnExactExecuteLineCard

/-- THE TIED CARD OF 'laws.FnSession'. -/
def fnSessionCard : Claim7 := { stood := { row := fnSessionRow, standIns := [], harness := (true, "41fce66c23020d7386770377a7c5fc78d5d19a14a4a514fc8c6ff0ba77f80844"), looks := true }, kinds := [], alts := [], laidByText := true, laidKinds := [.data, .data, .data, .data, .sentinel, .sentinel, .pinned], laidTests := true, laidLooks := .later }
def FnSessionCardSaid : Prop := Claim7.holds Tryz.pinned (.plain (OpenSpec.ofChange fnSessionSpec)) fnSessionCard

/-- THE SECOND FORM's CARD OF 'laws.FnTop'. -/
def fnTopUptoCard : Claim7 := { stood := { row := fnTopUptoRow, standIns := [], harness := (true, "41fce66c23020d7386770377a7c5fc78d5d19a14a4a514fc8c6ff0ba77f80844"), looks := true }, kinds := [], alts := [], laidByText := true, laidKinds := [.data, .data, .data, .data, .sentinel, .sentinel, .pinned], laidTests := true, laidLooks := .later }
def FnTopUptoCardSaid : Prop := Claim7.holds Tryz.pinned (.plain (OpenSpec.upto fnTopSpec)) fnTopUptoCard

/-- THE SECOND FORM's CARD OF 'laws.FnExactRunSession'. -/
def fnExactRunSessionUptoCard : Claim7 := { stood := { row := fnExactRunSessionUptoRow, standIns := [], harness := (true, "41fce66c23020d7386770377a7c5fc78d5d19a14a4a514fc8c6ff0ba77f80844"), looks := true }, kinds := [], alts := [], laidByText := true, laidKinds := [.data, .data, .data, .data, .sentinel, .sentinel, .pinned], laidTests := true, laidLooks := .later }
def FnExactRunSessionUptoCardSaid : Prop := Claim7.holds Tryz.pinned (.plain (OpenSpec.upto fnExactRunSessionSpec)) fnExactRunSessionUptoCard

/-- THE SECOND FORM's CARD OF 'laws.FnExactExecuteLine'. -/
def fnExactExecuteLineUptoCard : Claim7 := { stood := { row := fnExactExecuteLineUptoRow, standIns := [], harness := (true, "41fce66c23020d7386770377a7c5fc78d5d19a14a4a514fc8c6ff0ba77f80844"), looks := true }, kinds := [], alts := [], laidByText := true, laidKinds := [.data, .data, .data, .data, .sentinel, .sentinel, .pinned], laidTests := true, laidLooks := .later }
def FnExactExecuteLineUptoCardSaid : Prop := Claim7.holds Tryz.pinned (.plain (OpenSpec.upto fnExactExecuteLineSpec)) fnExactExecuteLineUptoCard

/-- THE SECOND FORM's CARD OF 'laws.FnSession'. -/
def fnSessionUptoCard : Claim7 := { stood := { row := fnSessionUptoRow, standIns := [], harness := (true, "41fce66c23020d7386770377a7c5fc78d5d19a14a4a514fc8c6ff0ba77f80844"), looks := true }, kinds := [], alts := [], laidByText := true, laidKinds := [.data, .data, .data, .data, .sentinel, .sentinel, .pinned], laidTests := true, laidLooks := .later }
def FnSessionUptoCardSaid : Prop := Claim7.holds Tryz.pinned (.plain (OpenSpec.upto fnSessionSpec)) fnSessionUptoCard
end Rows
end Go.Proofs.YtmljnmmdahlfdaaGreatDoor

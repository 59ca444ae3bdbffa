/-
  DERIVED. GIVEN WITH THE SEED: THE CARDS: each row of YtdckcgjimblpkaaGreatDoorRows.lean that lists a variable, with what it lists TIED to the program's text (the seventh form; the later family's looks); each row that meets fmt, with fmt's text TOLD by the authors' own Lean function (tested against real Go, not proved from fmt's source: count such statements apart). THE CARD IS WHAT COUNTS. Prove the row's statement (the work); the ties are given (YtdckcgjimblpkaaGreatDoorTie.lean); close each card by the builder's one call (the guide's Derived/Test/ToyasCard.lean, 'card_holds'). Laid BY PROGRAM, IN A SANDBOX (cutbox-door.mjs). By AI agents, Wed Nov 11 2026. No macro, syntax, notation, axiom, sorry.
-/
import Derived.Test.YtdckcgjimblpkaaGreatDoorRows
import GoSem.ClaimSeven
namespace Go.Proofs.YtdckcgjimblpkaaGreatDoor
namespace Rows

/-- THE TIED CARD OF 'laws.FnExactNodeLine'. -/
def fnExactNodeLineCard : Claim7 := { stood := { row := fnExactNodeLineRow, standIns := [], harness := (true, "134c27a200529a2f2911afce02ccf8dbd6bbfb2c5636a0819861613694123607"), looks := true }, kinds := [], alts := [], laidByText := true, laidKinds := [.data, .data, .data, .data], laidTests := true, laidLooks := .later }
def FnExactNodeLineCardSaid : Prop := Claim7.holds Tryz.pinned (.plain (OpenSpec.ofChange fnExactNodeLineSpec)) fnExactNodeLineCard

/-- THE TIED CARD OF 'laws.FnExactFormatRule'. -/
def fnExactFormatRuleCard : Claim7 := { stood := { row := fnExactFormatRuleRow, standIns := [], harness := (true, "134c27a200529a2f2911afce02ccf8dbd6bbfb2c5636a0819861613694123607"), looks := true }, kinds := [], alts := [], laidByText := true, laidKinds := [.data, .data, .data, .data], laidTests := true, laidLooks := .later }
def FnExactFormatRuleCardSaid : Prop := Claim7.holds Tryz.pinned (.plain (OpenSpec.ofChange fnExactFormatRuleSpec)) fnExactFormatRuleCard

/-- THE TIED CARD OF 'laws.FnExactDeepestCond'. -/
def fnExactDeepestCondCard : Claim7 := { stood := { row := fnExactDeepestCondRow, standIns := [], harness := (true, "134c27a200529a2f2911afce02ccf8dbd6bbfb2c5636a0819861613694123607"), looks := true }, kinds := [], alts := [], laidByText := true, laidKinds := [.data, .data, .data, .sentinel, .sentinel], laidTests := true, laidLooks := .later }
def FnExactDeepestCondCardSaid : Prop := Claim7.holds Tryz.pinned (.plain (OpenSpec.ofChange fnExactDeepestCondSpec)) fnExactDeepestCondCard

/-- THE TIED CARD OF 'laws.FnExactTokenCounts'. -/
def fnExactTokenCountsCard : Claim7 := { stood := { row := fnExactTokenCountsRow, standIns := [], harness := (true, "134c27a200529a2f2911afce02ccf8dbd6bbfb2c5636a0819861613694123607"), looks := true }, kinds := [], alts := [], laidByText := true, laidKinds := [.data, .data, .data, .sentinel, .sentinel], laidTests := true, laidLooks := .later }
def FnExactTokenCountsCardSaid : Prop := Claim7.holds Tryz.pinned (.plain (OpenSpec.ofChange fnExactTokenCountsSpec)) fnExactTokenCountsCard

/-- THE TIED CARD OF 'laws.FnExactPlainTries'. -/
def fnExactPlainTriesCard : Claim7 := { stood := { row := fnExactPlainTriesRow, standIns := [], harness := (true, "134c27a200529a2f2911afce02ccf8dbd6bbfb2c5636a0819861613694123607"), looks := true }, kinds := [], alts := [], laidByText := true, laidKinds := [.data, .data, .data, .sentinel, .sentinel], laidTests := true, laidLooks := .later }
def FnExactPlainTriesCardSaid : Prop := Claim7.holds Tryz.pinned (.plain (OpenSpec.ofChange fnExactPlainTriesSpec)) fnExactPlainTriesCard

/-- THE TIED CARD OF 'laws.FnExactIsMatch'. -/
def fnExactIsMatchCard : Claim7 := { stood := { row := fnExactIsMatchRow, standIns := [], harness := (true, "134c27a200529a2f2911afce02ccf8dbd6bbfb2c5636a0819861613694123607"), looks := true }, kinds := [], alts := [], laidByText := true, laidKinds := [.data, .data, .data, .sentinel, .sentinel], laidTests := true, laidLooks := .later }
def FnExactIsMatchCardSaid : Prop := Claim7.holds Tryz.pinned (.plain (OpenSpec.ofChange fnExactIsMatchSpec)) fnExactIsMatchCard

/-- THE SECOND FORM's CARD OF 'laws.FnExactNodeLine'. -/
def fnExactNodeLineUptoCard : Claim7 := { stood := { row := fnExactNodeLineUptoRow, standIns := [], harness := (true, "134c27a200529a2f2911afce02ccf8dbd6bbfb2c5636a0819861613694123607"), looks := true }, kinds := [], alts := [], laidByText := true, laidKinds := [.data, .data, .data, .data], laidTests := true, laidLooks := .later }
def FnExactNodeLineUptoCardSaid : Prop := Claim7.holds Tryz.pinned (.plain (OpenSpec.upto fnExactNodeLineSpec)) fnExactNodeLineUptoCard

/-- THE SECOND FORM's CARD OF 'laws.FnExactFormatRule'. -/
def fnExactFormatRuleUptoCard : Claim7 := { stood := { row := fnExactFormatRuleUptoRow, standIns := [], harness := (true, "134c27a200529a2f2911afce02ccf8dbd6bbfb2c5636a0819861613694123607"), looks := true }, kinds := [], alts := [], laidByText := true, laidKinds := [.data, .data, .data, .data], laidTests := true, laidLooks := .later }
def FnExactFormatRuleUptoCardSaid : Prop := Claim7.holds Tryz.pinned (.plain (OpenSpec.upto fnExactFormatRuleSpec)) fnExactFormatRuleUptoCard

/-- THE SECOND FORM's CARD OF 'laws.FnExactDeepestCond'. -/
def fnExactDeepestCondUptoCard : Claim7 := { stood := { row := fnExactDeepestCondUptoRow, standIns := [], harness := (true, "134c27a200529a2f2911afce02ccf8dbd6bbfb2c5636a0819861613694123607"), looks := true }, kinds := [], alts := [], laidByText := true, laidKinds := [.data, .data, .data, .sentinel, .sentinel], laidTests := true, laidLooks := .later }
def FnExactDeepestCondUptoCardSaid : Prop := Claim7.holds Tryz.pinned (.plain (OpenSpec.upto fnExactDeepestCondSpec)) fnExactDeepestCondUptoCard

/-- THE SECOND FORM's CARD OF 'laws.FnExactTokenCounts'. -/
def fnExactTokenCountsUptoCard : Claim7 := { stood := { row := fnExactTokenCountsUptoRow, standIns := [], harness := (true, "134c27a200529a2f2911afce02ccf8dbd6bbfb2c5636a0819861613694123607"), looks := true }, kinds := [], alts := [], laidByText := true, laidKinds := [.data, .data, .data, .sentinel, .sentinel], laidTests := true, laidLooks := .later }
def FnExactTokenCountsUptoCardSaid : Prop := Claim7.holds Tryz.pinned (.plain (OpenSpec.upto fnExactTokenCountsSpec)) fnExactTokenCountsUptoCard

/-- THE SECOND FORM's CARD OF 'laws.FnExactPlainTries'. -/
def fnExactPlainTriesUptoCard : Claim7 := { stood := { row := fnExactPlainTriesUptoRow, standIns := [], harness := (true, "134c27a200529a2f2911afce02ccf8dbd6bbfb2c5636a0819861613694123607"), looks := true }, kinds := [], alts := [], laidByText := true, laidKinds := [.data, .data, .data, .sentinel, .sentinel], laidTests := true, laidLooks := .later }
def FnExactPlainTriesUptoCardSaid : Prop := Claim7.holds Tryz.pinned (.plain (OpenSpec.upto fnExactPlainTriesSpec)) fnExactPlainTriesUptoCard

/-- THE SECOND FORM's CARD OF 'laws.FnExactIsMatch'. -/
def fnExactIsMatchUptoCard : Claim7 := { stood := { row := fnExactIsMatchUptoRow, standIns := [], harness := (true, "134c27a200529a2f2911afce02ccf8dbd6bbfb2c5636a0819861613694123607"), looks := true }, kinds := [], alts := [], laidByText := true, laidKinds := [.data, .data, .data, .sentinel, .sentinel], laidTests := true, laidLooks := .later }
def FnExactIsMatchUptoCardSaid : Prop := Claim7.holds Tryz.pinned (.plain (OpenSpec.upto fnExactIsMatchSpec)) fnExactIsMatchUptoCard
end Rows
end Go.Proofs.YtdckcgjimblpkaaGreatDoor

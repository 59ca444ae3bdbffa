/-
  DERIVED. GIVEN WITH THE SEED: THE CARDS: each row of YtdckcgjimblpkaaDoorRows.lean that lists a variable, with what it lists TIED to the program's text (the seventh form; the later family's looks); each row that meets fmt, with fmt's text TOLD by the authors' own Lean function (tested against real Go, not proved from fmt's source: count such statements apart). THE CARD IS WHAT COUNTS. Prove the row's statement (the work); the ties are given (YtdckcgjimblpkaaDoorTie.lean); close each card by the builder's one call (the guide's Derived/Test/ToyasCard.lean, 'card_holds'). Laid BY PROGRAM, IN A SANDBOX (cutbox-door.mjs). By AI agents, Wed Nov 11 2026. No macro, syntax, notation, axiom, sorry.
-/
import Derived.Test.YtdckcgjimblpkaaDoorRows
import GoSem.ClaimSeven
namespace Go.Proofs.YtdckcgjimblpkaaDoor
namespace Rows

/-- THE TIED CARD OF 'laws.FnShapes'. -/
def fnShapesCard : Claim7 := { stood := { row := fnShapesRow, standIns := [], harness := (true, "1b107510d6f205ff130528bff9f7cea8809290fd288eb7deaff6ab495223f325"), looks := false }, kinds := [], alts := [], laidByText := true, laidKinds := [.data, .data, .data], laidTests := true, laidLooks := .later }
def FnShapesCardSaid : Prop := Claim7.holds Tryd.pinned (.plain (OpenSpec.ofChange fnShapesSpec)) fnShapesCard

/-- THE TIED CARD OF 'laws.FnCovers'. -/
def fnCoversCard : Claim7 := { stood := { row := fnCoversRow, standIns := [], harness := (true, "1b107510d6f205ff130528bff9f7cea8809290fd288eb7deaff6ab495223f325"), looks := false }, kinds := [], alts := [], laidByText := true, laidKinds := [.data, .data, .data], laidTests := true, laidLooks := .later }
def FnCoversCardSaid : Prop := Claim7.holds Tryd.pinned (.plain (OpenSpec.ofChange fnCoversSpec)) fnCoversCard

/-- THE SECOND FORM's CARD OF 'laws.FnShapes'. -/
def fnShapesUptoCard : Claim7 := { stood := { row := fnShapesUptoRow, standIns := [], harness := (true, "1b107510d6f205ff130528bff9f7cea8809290fd288eb7deaff6ab495223f325"), looks := false }, kinds := [], alts := [], laidByText := true, laidKinds := [.data, .data, .data], laidTests := true, laidLooks := .later }
def FnShapesUptoCardSaid : Prop := Claim7.holds Tryd.pinned (.plain (OpenSpec.upto fnShapesSpec)) fnShapesUptoCard

/-- THE SECOND FORM's CARD OF 'laws.FnCovers'. -/
def fnCoversUptoCard : Claim7 := { stood := { row := fnCoversUptoRow, standIns := [], harness := (true, "1b107510d6f205ff130528bff9f7cea8809290fd288eb7deaff6ab495223f325"), looks := false }, kinds := [], alts := [], laidByText := true, laidKinds := [.data, .data, .data], laidTests := true, laidLooks := .later }
def FnCoversUptoCardSaid : Prop := Claim7.holds Tryd.pinned (.plain (OpenSpec.upto fnCoversSpec)) fnCoversUptoCard
end Rows
end Go.Proofs.YtdckcgjimblpkaaDoor

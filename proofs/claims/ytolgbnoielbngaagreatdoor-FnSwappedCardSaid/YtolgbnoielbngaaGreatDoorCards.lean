/-
  DERIVED. GIVEN WITH THE SEED: THE CARDS: each row of YtolgbnoielbngaaGreatDoorRows.lean that lists a variable, with what it lists TIED to the program's text (the seventh form; the later family's looks); each row that meets fmt, with fmt's text TOLD by the authors' own Lean function (tested against real Go, not proved from fmt's source: count such statements apart). THE CARD IS WHAT COUNTS. Prove the row's statement (the work); the ties are given (YtolgbnoielbngaaGreatDoorTie.lean); close each card by the builder's one call (the guide's Derived/Test/ToyasCard.lean, 'card_holds'). Laid BY PROGRAM, IN A SANDBOX (cutbox-door.mjs). By AI agents, Wed Nov 11 2026. No macro, syntax, notation, axiom, sorry.
-/
import Derived.Test.YtolgbnoielbngaaGreatDoorRows
import GoSem.ClaimSeven
namespace Go.Proofs.YtolgbnoielbngaaGreatDoor
namespace Rows

/-- THE TIED CARD OF 'laws.FnShared'. -/
def fnSharedCard : Claim7 := { stood := { row := fnSharedRow, standIns := [], harness := (true, "b0903d5566ff757f02963861635e3df8bea0fe3381fb4390ee4bcf2555297cb7"), looks := true }, kinds := [], alts := [], laidByText := true, laidKinds := [.data, .data, .data], laidTests := true, laidLooks := .later }
def FnSharedCardSaid : Prop := Claim7.holds Tryz.pinned (.plain (OpenSpec.ofChange fnSharedSpec)) fnSharedCard

/-- THE TIED CARD OF 'laws.FnSwapped'. -/
def fnSwappedCard : Claim7 := { stood := { row := fnSwappedRow, standIns := [], harness := (true, "b0903d5566ff757f02963861635e3df8bea0fe3381fb4390ee4bcf2555297cb7"), looks := true }, kinds := [], alts := [], laidByText := true, laidKinds := [.data, .data, .data, .sentinel, .sentinel], laidTests := true, laidLooks := .later }
def FnSwappedCardSaid : Prop := Claim7.holds Tryz.pinned (.plain (OpenSpec.ofChange fnSwappedSpec)) fnSwappedCard

/-- THE SECOND FORM's CARD OF 'laws.FnShared'. -/
def fnSharedUptoCard : Claim7 := { stood := { row := fnSharedUptoRow, standIns := [], harness := (true, "b0903d5566ff757f02963861635e3df8bea0fe3381fb4390ee4bcf2555297cb7"), looks := true }, kinds := [], alts := [], laidByText := true, laidKinds := [.data, .data, .data], laidTests := true, laidLooks := .later }
def FnSharedUptoCardSaid : Prop := Claim7.holds Tryz.pinned (.plain (OpenSpec.upto fnSharedSpec)) fnSharedUptoCard

/-- THE SECOND FORM's CARD OF 'laws.FnSwapped'. -/
def fnSwappedUptoCard : Claim7 := { stood := { row := fnSwappedUptoRow, standIns := [], harness := (true, "b0903d5566ff757f02963861635e3df8bea0fe3381fb4390ee4bcf2555297cb7"), looks := true }, kinds := [], alts := [], laidByText := true, laidKinds := [.data, .data, .data, .sentinel, .sentinel], laidTests := true, laidLooks := .later }
def FnSwappedUptoCardSaid : Prop := Claim7.holds Tryz.pinned (.plain (OpenSpec.upto fnSwappedSpec)) fnSwappedUptoCard
end Rows
end Go.Proofs.YtolgbnoielbngaaGreatDoor

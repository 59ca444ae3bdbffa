/-
  DERIVED. GIVEN WITH THE SEED: THE CARDS: each row of YtbeaohmbmfjabaaGreatDoorRows.lean that lists a variable, with what it lists TIED to the program's text (the seventh form; the later family's looks); each row that meets fmt, with fmt's text TOLD by the authors' own Lean function (tested against real Go, not proved from fmt's source: count such statements apart). THE CARD IS WHAT COUNTS. Prove the row's statement (the work); the ties are given (YtbeaohmbmfjabaaGreatDoorTie.lean); close each card by the builder's one call (the guide's Derived/Test/ToyasCard.lean, 'card_holds'). Laid BY PROGRAM, IN A SANDBOX (cutbox-door.mjs). By AI agents, Wed Nov 11 2026. No macro, syntax, notation, axiom, sorry.
-/
import Derived.Test.YtbeaohmbmfjabaaGreatDoorRows
import GoSem.ClaimSeven
namespace Go.Proofs.YtbeaohmbmfjabaaGreatDoor
namespace Rows

/-- THE TIED CARD OF 'laws.FnExactFeedNetwork'. -/
def fnExactFeedNetworkCard : Claim7 := { stood := { row := fnExactFeedNetworkRow, standIns := [], harness := (true, "af282cc7f357774f0fccc0e7cbf7f706571be89dedce11ee2f88da55145d90e3"), looks := true }, kinds := [], alts := [], laidByText := true, laidKinds := [.data, .data, .data, .sentinel, .sentinel], laidTests := true, laidLooks := .later }
def FnExactFeedNetworkCardSaid : Prop := Claim7.holds Tryz.pinned (.plain (OpenSpec.ofChange fnExactFeedNetworkSpec)) fnExactFeedNetworkCard

/-- THE TIED CARD OF 'laws.FnExactChangesOf'. -/
def fnExactChangesOfCard : Claim7 := { stood := { row := fnExactChangesOfRow, standIns := [], harness := (true, "af282cc7f357774f0fccc0e7cbf7f706571be89dedce11ee2f88da55145d90e3"), looks := true }, kinds := [], alts := [], laidByText := true, laidKinds := [.data, .data, .data, .sentinel, .sentinel], laidTests := true, laidLooks := .later }
def FnExactChangesOfCardSaid : Prop := Claim7.holds Tryz.pinned (.plain (OpenSpec.ofChange fnExactChangesOfSpec)) fnExactChangesOfCard

/-- THE TIED CARD OF 'laws.FnExactRebuildNetwork'. -/
def fnExactRebuildNetworkCard : Claim7 := { stood := { row := fnExactRebuildNetworkRow, standIns := [], harness := (true, "af282cc7f357774f0fccc0e7cbf7f706571be89dedce11ee2f88da55145d90e3"), looks := true }, kinds := [], alts := [], laidByText := true, laidKinds := [.data, .data, .data, .sentinel, .sentinel], laidTests := true, laidLooks := .later }
def FnExactRebuildNetworkCardSaid : Prop := Claim7.holds Tryz.pinned (.plain (OpenSpec.ofChange fnExactRebuildNetworkSpec)) fnExactRebuildNetworkCard

/-- THE TIED CARD OF 'laws.FnExactTriesFor'. -/
def fnExactTriesForCard : Claim7 := { stood := { row := fnExactTriesForRow, standIns := [], harness := (true, "af282cc7f357774f0fccc0e7cbf7f706571be89dedce11ee2f88da55145d90e3"), looks := true }, kinds := [], alts := [], laidByText := true, laidKinds := [.data, .data, .data, .sentinel, .sentinel], laidTests := true, laidLooks := .later }
def FnExactTriesForCardSaid : Prop := Claim7.holds Tryz.pinned (.plain (OpenSpec.ofChange fnExactTriesForSpec)) fnExactTriesForCard

/-- THE TIED CARD OF 'laws.FnExactIsNetwork'. -/
def fnExactIsNetworkCard : Claim7 := { stood := { row := fnExactIsNetworkRow, standIns := [], harness := (true, "af282cc7f357774f0fccc0e7cbf7f706571be89dedce11ee2f88da55145d90e3"), looks := true }, kinds := [], alts := [], laidByText := true, laidKinds := [.data, .data, .data, .sentinel, .sentinel], laidTests := true, laidLooks := .later }
def FnExactIsNetworkCardSaid : Prop := Claim7.holds Tryz.pinned (.plain (OpenSpec.ofChange fnExactIsNetworkSpec)) fnExactIsNetworkCard

/-- THE TIED CARD OF 'laws.FnExactConflictSet'. -/
def fnExactConflictSetCard : Claim7 := { stood := { row := fnExactConflictSetRow, standIns := [], harness := (true, "af282cc7f357774f0fccc0e7cbf7f706571be89dedce11ee2f88da55145d90e3"), looks := true }, kinds := [], alts := [], laidByText := true, laidKinds := [.data, .data, .data, .sentinel, .sentinel], laidTests := true, laidLooks := .later }
def FnExactConflictSetCardSaid : Prop := Claim7.holds Tryz.pinned (.plain (OpenSpec.ofChange fnExactConflictSetSpec)) fnExactConflictSetCard

/-- THE TIED CARD OF 'laws.FnExactTakeFromNetwork'. -/
def fnExactTakeFromNetworkCard : Claim7 := { stood := { row := fnExactTakeFromNetworkRow, standIns := [], harness := (true, "af282cc7f357774f0fccc0e7cbf7f706571be89dedce11ee2f88da55145d90e3"), looks := true }, kinds := [], alts := [], laidByText := true, laidKinds := [.data, .data, .data, .sentinel, .sentinel], laidTests := true, laidLooks := .later }
def FnExactTakeFromNetworkCardSaid : Prop := Claim7.holds Tryz.pinned (.plain (OpenSpec.ofChange fnExactTakeFromNetworkSpec)) fnExactTakeFromNetworkCard

/-- THE TIED CARD OF 'laws.FnExactPutInNetwork'. -/
def fnExactPutInNetworkCard : Claim7 := { stood := { row := fnExactPutInNetworkRow, standIns := [], harness := (true, "af282cc7f357774f0fccc0e7cbf7f706571be89dedce11ee2f88da55145d90e3"), looks := true }, kinds := [], alts := [], laidByText := true, laidKinds := [.data, .data, .data, .sentinel, .sentinel], laidTests := true, laidLooks := .later }
def FnExactPutInNetworkCardSaid : Prop := Claim7.holds Tryz.pinned (.plain (OpenSpec.ofChange fnExactPutInNetworkSpec)) fnExactPutInNetworkCard

/-- THE SECOND FORM's CARD OF 'laws.FnExactFeedNetwork'. -/
def fnExactFeedNetworkUptoCard : Claim7 := { stood := { row := fnExactFeedNetworkUptoRow, standIns := [], harness := (true, "af282cc7f357774f0fccc0e7cbf7f706571be89dedce11ee2f88da55145d90e3"), looks := true }, kinds := [], alts := [], laidByText := true, laidKinds := [.data, .data, .data, .sentinel, .sentinel], laidTests := true, laidLooks := .later }
def FnExactFeedNetworkUptoCardSaid : Prop := Claim7.holds Tryz.pinned (.plain (OpenSpec.upto fnExactFeedNetworkSpec)) fnExactFeedNetworkUptoCard

/-- THE SECOND FORM's CARD OF 'laws.FnExactChangesOf'. -/
def fnExactChangesOfUptoCard : Claim7 := { stood := { row := fnExactChangesOfUptoRow, standIns := [], harness := (true, "af282cc7f357774f0fccc0e7cbf7f706571be89dedce11ee2f88da55145d90e3"), looks := true }, kinds := [], alts := [], laidByText := true, laidKinds := [.data, .data, .data, .sentinel, .sentinel], laidTests := true, laidLooks := .later }
def FnExactChangesOfUptoCardSaid : Prop := Claim7.holds Tryz.pinned (.plain (OpenSpec.upto fnExactChangesOfSpec)) fnExactChangesOfUptoCard

/-- THE SECOND FORM's CARD OF 'laws.FnExactRebuildNetwork'. -/
def fnExactRebuildNetworkUptoCard : Claim7 := { stood := { row := fnExactRebuildNetworkUptoRow, standIns := [], harness := (true, "af282cc7f357774f0fccc0e7cbf7f706571be89dedce11ee2f88da55145d90e3"), looks := true }, kinds := [], alts := [], laidByText := true, laidKinds := [.data, .data, .data, .sentinel, .sentinel], laidTests := true, laidLooks := .later }
def FnExactRebuildNetworkUptoCardSaid : Prop := Claim7.holds Tryz.pinned (.plain (OpenSpec.upto fnExactRebuildNetworkSpec)) fnExactRebuildNetworkUptoCard

/-- THE SECOND FORM's CARD OF 'laws.FnExactTriesFor'. -/
def fnExactTriesForUptoCard : Claim7 := { stood := { row := fnExactTriesForUptoRow, standIns := [], harness := (true, "af282cc7f357774f0fccc0e7cbf7f706571be89dedce11ee2f88da55145d90e3"), looks := true }, kinds := [], alts := [], laidByText := true, laidKinds := [.data, .data, .data, .sentinel, .sentinel], laidTests := true, laidLooks := .later }
def FnExactTriesForUptoCardSaid : Prop := Claim7.holds Tryz.pinned (.plain (OpenSpec.upto fnExactTriesForSpec)) fnExactTriesForUptoCard

/-- THE SECOND FORM's CARD OF 'laws.FnExactIsNetwork'. -/
def fnExactIsNetworkUptoCard : Claim7 := { stood := { row := fnExactIsNetworkUptoRow, standIns := [], harness := (true, "af282cc7f357774f0fccc0e7cbf7f706571be89dedce11ee2f88da55145d90e3"), looks := true }, kinds := [], alts := [], laidByText := true, laidKinds := [.data, .data, .data, .sentinel, .sentinel], laidTests := true, laidLooks := .later }
def FnExactIsNetworkUptoCardSaid : Prop := Claim7.holds Tryz.pinned (.plain (OpenSpec.upto fnExactIsNetworkSpec)) fnExactIsNetworkUptoCard

/-- THE SECOND FORM's CARD OF 'laws.FnExactConflictSet'. -/
def fnExactConflictSetUptoCard : Claim7 := { stood := { row := fnExactConflictSetUptoRow, standIns := [], harness := (true, "af282cc7f357774f0fccc0e7cbf7f706571be89dedce11ee2f88da55145d90e3"), looks := true }, kinds := [], alts := [], laidByText := true, laidKinds := [.data, .data, .data, .sentinel, .sentinel], laidTests := true, laidLooks := .later }
def FnExactConflictSetUptoCardSaid : Prop := Claim7.holds Tryz.pinned (.plain (OpenSpec.upto fnExactConflictSetSpec)) fnExactConflictSetUptoCard

/-- THE SECOND FORM's CARD OF 'laws.FnExactTakeFromNetwork'. -/
def fnExactTakeFromNetworkUptoCard : Claim7 := { stood := { row := fnExactTakeFromNetworkUptoRow, standIns := [], harness := (true, "af282cc7f357774f0fccc0e7cbf7f706571be89dedce11ee2f88da55145d90e3"), looks := true }, kinds := [], alts := [], laidByText := true, laidKinds := [.data, .data, .data, .sentinel, .sentinel], laidTests := true, laidLooks := .later }
def FnExactTakeFromNetworkUptoCardSaid : Prop := Claim7.holds Tryz.pinned (.plain (OpenSpec.upto fnExactTakeFromNetworkSpec)) fnExactTakeFromNetworkUptoCard

/-- THE SECOND FORM's CARD OF 'laws.FnExactPutInNetwork'. -/
def fnExactPutInNetworkUptoCard : Claim7 := { stood := { row := fnExactPutInNetworkUptoRow, standIns := [], harness := (true, "af282cc7f357774f0fccc0e7cbf7f706571be89dedce11ee2f88da55145d90e3"), looks := true }, kinds := [], alts := [], laidByText := true, laidKinds := [.data, .data, .data, .sentinel, .sentinel], laidTests := true, laidLooks := .later }
def FnExactPutInNetworkUptoCardSaid : Prop := Claim7.holds Tryz.pinned (.plain (OpenSpec.upto fnExactPutInNetworkSpec)) fnExactPutInNetworkUptoCard
end Rows
end Go.Proofs.YtbeaohmbmfjabaaGreatDoor

/-
  DERIVED. GIVEN WITH THE SEED: THE CARDS: each row of YtfankinmlfnncaaGreatDoorRows.lean that lists a variable, with what it lists TIED to the program's text (the seventh form; the later family's looks); each row that meets fmt, with fmt's text TOLD by the authors' own Lean function (tested against real Go, not proved from fmt's source: count such statements apart). THE CARD IS WHAT COUNTS. Prove the row's statement (the work); the ties are given (YtfankinmlfnncaaGreatDoorTie.lean); close each card by the builder's one call (the guide's Derived/Test/ToyasCard.lean, 'card_holds'). Laid BY PROGRAM, IN A SANDBOX (cutbox-door.mjs). By AI agents, Wed Nov 11 2026. No macro, syntax, notation, axiom, sorry.
-/
import Derived.Test.YtfankinmlfnncaaGreatDoorRows
import GoSem.ClaimSeven
namespace Go.Proofs.YtfankinmlfnncaaGreatDoor
namespace Rows

/-- THE TIED CARD OF 'laws.FnConflicts'. -/
def fnConflictsCard : Claim7 := { stood := { row := fnConflictsRow, standIns := [], harness := (true, "148315c69b6cd97a58f97a4ee6da012f2ee2246471ef2ae7ec8b43b3dae90369"), looks := true }, kinds := [], alts := [], laidByText := true, laidKinds := [.data, .data, .data, .sentinel, .sentinel], laidTests := true, laidLooks := .later }
def FnConflictsCardSaid : Prop := Claim7.holds Tryz.pinned (.plain (OpenSpec.ofChange fnConflictsSpec)) fnConflictsCard

/-- THE TIED CARD OF 'laws.FnRebuilt'. -/
def fnRebuiltCard : Claim7 := { stood := { row := fnRebuiltRow, standIns := [], harness := (true, "148315c69b6cd97a58f97a4ee6da012f2ee2246471ef2ae7ec8b43b3dae90369"), looks := true }, kinds := [], alts := [], laidByText := true, laidKinds := [.data, .data, .data, .sentinel, .sentinel], laidTests := true, laidLooks := .later }
def FnRebuiltCardSaid : Prop := Claim7.holds Tryz.pinned (.plain (OpenSpec.ofChange fnRebuiltSpec)) fnRebuiltCard

/-- THE TIED CARD OF 'laws.FnKeepsUp'. -/
def fnKeepsUpCard : Claim7 := { stood := { row := fnKeepsUpRow, standIns := [], harness := (true, "148315c69b6cd97a58f97a4ee6da012f2ee2246471ef2ae7ec8b43b3dae90369"), looks := true }, kinds := [], alts := [], laidByText := true, laidKinds := [.data, .data, .data, .sentinel, .sentinel], laidTests := true, laidLooks := .later }
def FnKeepsUpCardSaid : Prop := Claim7.holds Tryz.pinned (.plain (OpenSpec.ofChange fnKeepsUpSpec)) fnKeepsUpCard

/-- THE TIED CARD OF 'laws.FnChanges'. -/
def fnChangesCard : Claim7 := { stood := { row := fnChangesRow, standIns := [], harness := (true, "148315c69b6cd97a58f97a4ee6da012f2ee2246471ef2ae7ec8b43b3dae90369"), looks := true }, kinds := [], alts := [], laidByText := true, laidKinds := [.data, .data, .data, .sentinel, .sentinel], laidTests := true, laidLooks := .later }
def FnChangesCardSaid : Prop := Claim7.holds Tryz.pinned (.plain (OpenSpec.ofChange fnChangesSpec)) fnChangesCard

/-- THE SECOND FORM's CARD OF 'laws.FnConflicts'. -/
def fnConflictsUptoCard : Claim7 := { stood := { row := fnConflictsUptoRow, standIns := [], harness := (true, "148315c69b6cd97a58f97a4ee6da012f2ee2246471ef2ae7ec8b43b3dae90369"), looks := true }, kinds := [], alts := [], laidByText := true, laidKinds := [.data, .data, .data, .sentinel, .sentinel], laidTests := true, laidLooks := .later }
def FnConflictsUptoCardSaid : Prop := Claim7.holds Tryz.pinned (.plain (OpenSpec.upto fnConflictsSpec)) fnConflictsUptoCard

/-- THE SECOND FORM's CARD OF 'laws.FnRebuilt'. -/
def fnRebuiltUptoCard : Claim7 := { stood := { row := fnRebuiltUptoRow, standIns := [], harness := (true, "148315c69b6cd97a58f97a4ee6da012f2ee2246471ef2ae7ec8b43b3dae90369"), looks := true }, kinds := [], alts := [], laidByText := true, laidKinds := [.data, .data, .data, .sentinel, .sentinel], laidTests := true, laidLooks := .later }
def FnRebuiltUptoCardSaid : Prop := Claim7.holds Tryz.pinned (.plain (OpenSpec.upto fnRebuiltSpec)) fnRebuiltUptoCard

/-- THE SECOND FORM's CARD OF 'laws.FnKeepsUp'. -/
def fnKeepsUpUptoCard : Claim7 := { stood := { row := fnKeepsUpUptoRow, standIns := [], harness := (true, "148315c69b6cd97a58f97a4ee6da012f2ee2246471ef2ae7ec8b43b3dae90369"), looks := true }, kinds := [], alts := [], laidByText := true, laidKinds := [.data, .data, .data, .sentinel, .sentinel], laidTests := true, laidLooks := .later }
def FnKeepsUpUptoCardSaid : Prop := Claim7.holds Tryz.pinned (.plain (OpenSpec.upto fnKeepsUpSpec)) fnKeepsUpUptoCard

/-- THE SECOND FORM's CARD OF 'laws.FnChanges'. -/
def fnChangesUptoCard : Claim7 := { stood := { row := fnChangesUptoRow, standIns := [], harness := (true, "148315c69b6cd97a58f97a4ee6da012f2ee2246471ef2ae7ec8b43b3dae90369"), looks := true }, kinds := [], alts := [], laidByText := true, laidKinds := [.data, .data, .data, .sentinel, .sentinel], laidTests := true, laidLooks := .later }
def FnChangesUptoCardSaid : Prop := Claim7.holds Tryz.pinned (.plain (OpenSpec.upto fnChangesSpec)) fnChangesUptoCard
end Rows
end Go.Proofs.YtfankinmlfnncaaGreatDoor

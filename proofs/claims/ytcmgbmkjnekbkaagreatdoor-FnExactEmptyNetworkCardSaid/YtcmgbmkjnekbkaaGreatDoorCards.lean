/-
  DERIVED. GIVEN WITH THE SEED: THE CARDS: each row of YtcmgbmkjnekbkaaGreatDoorRows.lean that lists a variable, with what it lists TIED to the program's text (the seventh form; the later family's looks); each row that meets fmt, with fmt's text TOLD by the authors' own Lean function (tested against real Go, not proved from fmt's source: count such statements apart). THE CARD IS WHAT COUNTS. Prove the row's statement (the work); the ties are given (YtcmgbmkjnekbkaaGreatDoorTie.lean); close each card by the builder's one call (the guide's Derived/Test/ToyasCard.lean, 'card_holds'). Laid BY PROGRAM, IN A SANDBOX (cutbox-door.mjs). By AI agents, Wed Nov 11 2026. No macro, syntax, notation, axiom, sorry.
-/
import Derived.Test.YtcmgbmkjnekbkaaGreatDoorRows
import GoSem.ClaimSeven
namespace Go.Proofs.YtcmgbmkjnekbkaaGreatDoor
namespace Rows

/-- THE TIED CARD OF 'laws.FnShared'. -/
def fnSharedCard : Claim7 := { stood := { row := fnSharedRow, standIns := [], harness := (true, "2fe1e4ed996b451656d5249e3cd5257626bf26efbf8a3bf99c9b19c7ed7aa3ea"), looks := true }, kinds := [], alts := [], laidByText := true, laidKinds := [.data, .data, .data], laidTests := true, laidLooks := .later }
def FnSharedCardSaid : Prop := Claim7.holds Tryz.pinned (.plain (OpenSpec.ofChange fnSharedSpec)) fnSharedCard

/-- THE TIED CARD OF 'laws.FnExactEmptyNetwork'. -/
def fnExactEmptyNetworkCard : Claim7 := { stood := { row := fnExactEmptyNetworkRow, standIns := [], harness := (true, "2fe1e4ed996b451656d5249e3cd5257626bf26efbf8a3bf99c9b19c7ed7aa3ea"), looks := true }, kinds := [], alts := [], laidByText := true, laidKinds := [.data, .data, .data, .sentinel, .sentinel], laidTests := true, laidLooks := .later }
def FnExactEmptyNetworkCardSaid : Prop := Claim7.holds Tryz.pinned (.plain (OpenSpec.ofChange fnExactEmptyNetworkSpec)) fnExactEmptyNetworkCard

/-- THE SECOND FORM's CARD OF 'laws.FnShared'. -/
def fnSharedUptoCard : Claim7 := { stood := { row := fnSharedUptoRow, standIns := [], harness := (true, "2fe1e4ed996b451656d5249e3cd5257626bf26efbf8a3bf99c9b19c7ed7aa3ea"), looks := true }, kinds := [], alts := [], laidByText := true, laidKinds := [.data, .data, .data], laidTests := true, laidLooks := .later }
def FnSharedUptoCardSaid : Prop := Claim7.holds Tryz.pinned (.plain (OpenSpec.upto fnSharedSpec)) fnSharedUptoCard

/-- THE SECOND FORM's CARD OF 'laws.FnExactEmptyNetwork'. -/
def fnExactEmptyNetworkUptoCard : Claim7 := { stood := { row := fnExactEmptyNetworkUptoRow, standIns := [], harness := (true, "2fe1e4ed996b451656d5249e3cd5257626bf26efbf8a3bf99c9b19c7ed7aa3ea"), looks := true }, kinds := [], alts := [], laidByText := true, laidKinds := [.data, .data, .data, .sentinel, .sentinel], laidTests := true, laidLooks := .later }
def FnExactEmptyNetworkUptoCardSaid : Prop := Claim7.holds Tryz.pinned (.plain (OpenSpec.upto fnExactEmptyNetworkSpec)) fnExactEmptyNetworkUptoCard
end Rows
end Go.Proofs.YtcmgbmkjnekbkaaGreatDoor

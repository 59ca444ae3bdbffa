/-
  DERIVED. GIVEN WITH THE SEED: THE CARDS: each row of YtmifcpepeplijaaGreatDoorRows.lean that lists a variable, with what it lists TIED to the program's text (the seventh form; the later family's looks); each row that meets fmt, with fmt's text TOLD by the authors' own Lean function (tested against real Go, not proved from fmt's source: count such statements apart). THE CARD IS WHAT COUNTS. Prove the row's statement (the work); the ties are given (YtmifcpepeplijaaGreatDoorTie.lean); close each card by the builder's one call (the guide's Derived/Test/ToyasCard.lean, 'card_holds'). Laid BY PROGRAM, IN A SANDBOX (cutbox-door.mjs). By AI agents, Wed Nov 11 2026. No macro, syntax, notation, axiom, sorry.
-/
import Derived.Test.YtmifcpepeplijaaGreatDoorRows
import GoSem.ClaimSeven
namespace Go.Proofs.YtmifcpepeplijaaGreatDoor
namespace Rows

/-- THE TIED CARD OF 'laws.FnSwapped'. -/
def fnSwappedCard : Claim7 := { stood := { row := fnSwappedRow, standIns := [], harness := (true, "e442caf604ac1854a3f950ce12f7f0f3f42d51a634d1ff31b80a93b1e2eb3dd7"), looks := true }, kinds := [], alts := [], laidByText := true, laidKinds := [.data, .data, .data, .sentinel, .sentinel], laidTests := true, laidLooks := .later }
def FnSwappedCardSaid : Prop := Claim7.holds Tryz.pinned (.plain (OpenSpec.ofChange fnSwappedSpec)) fnSwappedCard

/-- THE TIED CARD OF 'laws.FnAllFound'. -/
def fnAllFoundCard : Claim7 := { stood := { row := fnAllFoundRow, standIns := [], harness := (true, "e442caf604ac1854a3f950ce12f7f0f3f42d51a634d1ff31b80a93b1e2eb3dd7"), looks := true }, kinds := [], alts := [], laidByText := true, laidKinds := [.data, .data, .data, .sentinel, .sentinel], laidTests := true, laidLooks := .later }
def FnAllFoundCardSaid : Prop := Claim7.holds Tryz.pinned (.plain (OpenSpec.ofChange fnAllFoundSpec)) fnAllFoundCard

/-- THE TIED CARD OF 'laws.FnExactTokensOf'. -/
def fnExactTokensOfCard : Claim7 := { stood := { row := fnExactTokensOfRow, standIns := [], harness := (true, "e442caf604ac1854a3f950ce12f7f0f3f42d51a634d1ff31b80a93b1e2eb3dd7"), looks := true }, kinds := [], alts := [], laidByText := true, laidKinds := [.data, .data, .data, .sentinel, .sentinel], laidTests := true, laidLooks := .later }
def FnExactTokensOfCardSaid : Prop := Claim7.holds Tryz.pinned (.plain (OpenSpec.ofChange fnExactTokensOfSpec)) fnExactTokensOfCard

/-- THE TIED CARD OF 'laws.FnExactMatchesOf'. -/
def fnExactMatchesOfCard : Claim7 := { stood := { row := fnExactMatchesOfRow, standIns := [], harness := (true, "e442caf604ac1854a3f950ce12f7f0f3f42d51a634d1ff31b80a93b1e2eb3dd7"), looks := true }, kinds := [], alts := [], laidByText := true, laidKinds := [.data, .data, .data, .sentinel, .sentinel], laidTests := true, laidLooks := .later }
def FnExactMatchesOfCardSaid : Prop := Claim7.holds Tryz.pinned (.plain (OpenSpec.ofChange fnExactMatchesOfSpec)) fnExactMatchesOfCard

/-- THE TIED CARD OF 'laws.FnExactAllMatches'. -/
def fnExactAllMatchesCard : Claim7 := { stood := { row := fnExactAllMatchesRow, standIns := [], harness := (true, "e442caf604ac1854a3f950ce12f7f0f3f42d51a634d1ff31b80a93b1e2eb3dd7"), looks := true }, kinds := [], alts := [], laidByText := true, laidKinds := [.data, .data, .data, .sentinel, .sentinel], laidTests := true, laidLooks := .later }
def FnExactAllMatchesCardSaid : Prop := Claim7.holds Tryz.pinned (.plain (OpenSpec.ofChange fnExactAllMatchesSpec)) fnExactAllMatchesCard

/-- THE SECOND FORM's CARD OF 'laws.FnSwapped'. -/
def fnSwappedUptoCard : Claim7 := { stood := { row := fnSwappedUptoRow, standIns := [], harness := (true, "e442caf604ac1854a3f950ce12f7f0f3f42d51a634d1ff31b80a93b1e2eb3dd7"), looks := true }, kinds := [], alts := [], laidByText := true, laidKinds := [.data, .data, .data, .sentinel, .sentinel], laidTests := true, laidLooks := .later }
def FnSwappedUptoCardSaid : Prop := Claim7.holds Tryz.pinned (.plain (OpenSpec.upto fnSwappedSpec)) fnSwappedUptoCard

/-- THE SECOND FORM's CARD OF 'laws.FnAllFound'. -/
def fnAllFoundUptoCard : Claim7 := { stood := { row := fnAllFoundUptoRow, standIns := [], harness := (true, "e442caf604ac1854a3f950ce12f7f0f3f42d51a634d1ff31b80a93b1e2eb3dd7"), looks := true }, kinds := [], alts := [], laidByText := true, laidKinds := [.data, .data, .data, .sentinel, .sentinel], laidTests := true, laidLooks := .later }
def FnAllFoundUptoCardSaid : Prop := Claim7.holds Tryz.pinned (.plain (OpenSpec.upto fnAllFoundSpec)) fnAllFoundUptoCard

/-- THE SECOND FORM's CARD OF 'laws.FnExactTokensOf'. -/
def fnExactTokensOfUptoCard : Claim7 := { stood := { row := fnExactTokensOfUptoRow, standIns := [], harness := (true, "e442caf604ac1854a3f950ce12f7f0f3f42d51a634d1ff31b80a93b1e2eb3dd7"), looks := true }, kinds := [], alts := [], laidByText := true, laidKinds := [.data, .data, .data, .sentinel, .sentinel], laidTests := true, laidLooks := .later }
def FnExactTokensOfUptoCardSaid : Prop := Claim7.holds Tryz.pinned (.plain (OpenSpec.upto fnExactTokensOfSpec)) fnExactTokensOfUptoCard

/-- THE SECOND FORM's CARD OF 'laws.FnExactMatchesOf'. -/
def fnExactMatchesOfUptoCard : Claim7 := { stood := { row := fnExactMatchesOfUptoRow, standIns := [], harness := (true, "e442caf604ac1854a3f950ce12f7f0f3f42d51a634d1ff31b80a93b1e2eb3dd7"), looks := true }, kinds := [], alts := [], laidByText := true, laidKinds := [.data, .data, .data, .sentinel, .sentinel], laidTests := true, laidLooks := .later }
def FnExactMatchesOfUptoCardSaid : Prop := Claim7.holds Tryz.pinned (.plain (OpenSpec.upto fnExactMatchesOfSpec)) fnExactMatchesOfUptoCard

/-- THE SECOND FORM's CARD OF 'laws.FnExactAllMatches'. -/
def fnExactAllMatchesUptoCard : Claim7 := { stood := { row := fnExactAllMatchesUptoRow, standIns := [], harness := (true, "e442caf604ac1854a3f950ce12f7f0f3f42d51a634d1ff31b80a93b1e2eb3dd7"), looks := true }, kinds := [], alts := [], laidByText := true, laidKinds := [.data, .data, .data, .sentinel, .sentinel], laidTests := true, laidLooks := .later }
def FnExactAllMatchesUptoCardSaid : Prop := Claim7.holds Tryz.pinned (.plain (OpenSpec.upto fnExactAllMatchesSpec)) fnExactAllMatchesUptoCard
end Rows
end Go.Proofs.YtmifcpepeplijaaGreatDoor

/-
  DERIVED. GIVEN WITH THE SEED: THE CARDS: each row of YtpglgncmlcpgdaaGreatDoorRows.lean that lists a variable, with what it lists TIED to the program's text (the seventh form; the later family's looks); each row that meets fmt, with fmt's text TOLD by the authors' own Lean function (tested against real Go, not proved from fmt's source: count such statements apart). THE CARD IS WHAT COUNTS. Prove the row's statement (the work); the ties are given (YtpglgncmlcpgdaaGreatDoorTie.lean); close each card by the builder's one call (the guide's Derived/Test/ToyasCard.lean, 'card_holds'). Laid BY PROGRAM, IN A SANDBOX (cutbox-door.mjs). By AI agents, Wed Nov 11 2026. No macro, syntax, notation, axiom, sorry.
-/
import Derived.Test.YtpglgncmlcpgdaaGreatDoorRows
import GoSem.ClaimSeven
namespace Go.Proofs.YtpglgncmlcpgdaaGreatDoor
namespace Rows

/-- THE TIED CARD OF 'laws.FnCounts'. -/
def fnCountsCard : Claim7 := { stood := { row := fnCountsRow, standIns := [], harness := (true, "4459c1e0963e0de39691cce20ff3889c319192db875d2d6a8bed294b53930f84"), looks := true }, kinds := [], alts := [], laidByText := true, laidKinds := [.data, .data, .data, .sentinel, .sentinel], laidTests := true, laidLooks := .later }
def FnCountsCardSaid : Prop := Claim7.holds Tryz.pinned (.plain (OpenSpec.ofChange fnCountsSpec)) fnCountsCard

/-- THE TIED CARD OF 'laws.FnPlain'. -/
def fnPlainCard : Claim7 := { stood := { row := fnPlainRow, standIns := [], harness := (true, "4459c1e0963e0de39691cce20ff3889c319192db875d2d6a8bed294b53930f84"), looks := true }, kinds := [], alts := [], laidByText := true, laidKinds := [.data, .data, .data, .sentinel, .sentinel], laidTests := true, laidLooks := .later }
def FnPlainCardSaid : Prop := Claim7.holds Tryz.pinned (.plain (OpenSpec.ofChange fnPlainSpec)) fnPlainCard

/-- THE TIED CARD OF 'laws.FnMonotoneMatches'. -/
def fnMonotoneMatchesCard : Claim7 := { stood := { row := fnMonotoneMatchesRow, standIns := [], harness := (true, "4459c1e0963e0de39691cce20ff3889c319192db875d2d6a8bed294b53930f84"), looks := true }, kinds := [], alts := [], laidByText := true, laidKinds := [.data, .data, .data, .sentinel, .sentinel], laidTests := true, laidLooks := .later }
def FnMonotoneMatchesCardSaid : Prop := Claim7.holds Tryz.pinned (.plain (OpenSpec.ofChange fnMonotoneMatchesSpec)) fnMonotoneMatchesCard

/-- THE SECOND FORM's CARD OF 'laws.FnCounts'. -/
def fnCountsUptoCard : Claim7 := { stood := { row := fnCountsUptoRow, standIns := [], harness := (true, "4459c1e0963e0de39691cce20ff3889c319192db875d2d6a8bed294b53930f84"), looks := true }, kinds := [], alts := [], laidByText := true, laidKinds := [.data, .data, .data, .sentinel, .sentinel], laidTests := true, laidLooks := .later }
def FnCountsUptoCardSaid : Prop := Claim7.holds Tryz.pinned (.plain (OpenSpec.upto fnCountsSpec)) fnCountsUptoCard

/-- THE SECOND FORM's CARD OF 'laws.FnPlain'. -/
def fnPlainUptoCard : Claim7 := { stood := { row := fnPlainUptoRow, standIns := [], harness := (true, "4459c1e0963e0de39691cce20ff3889c319192db875d2d6a8bed294b53930f84"), looks := true }, kinds := [], alts := [], laidByText := true, laidKinds := [.data, .data, .data, .sentinel, .sentinel], laidTests := true, laidLooks := .later }
def FnPlainUptoCardSaid : Prop := Claim7.holds Tryz.pinned (.plain (OpenSpec.upto fnPlainSpec)) fnPlainUptoCard

/-- THE SECOND FORM's CARD OF 'laws.FnMonotoneMatches'. -/
def fnMonotoneMatchesUptoCard : Claim7 := { stood := { row := fnMonotoneMatchesUptoRow, standIns := [], harness := (true, "4459c1e0963e0de39691cce20ff3889c319192db875d2d6a8bed294b53930f84"), looks := true }, kinds := [], alts := [], laidByText := true, laidKinds := [.data, .data, .data, .sentinel, .sentinel], laidTests := true, laidLooks := .later }
def FnMonotoneMatchesUptoCardSaid : Prop := Claim7.holds Tryz.pinned (.plain (OpenSpec.upto fnMonotoneMatchesSpec)) fnMonotoneMatchesUptoCard
end Rows
end Go.Proofs.YtpglgncmlcpgdaaGreatDoor

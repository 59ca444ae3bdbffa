/-
  DERIVED. GIVEN WITH THE SEED: THE CARDS: each row of YtamlfpljmobdoaaDoorRows.lean that lists a variable, with what it lists TIED to the program's text (the seventh form; the later family's looks); each row that meets fmt, with fmt's text TOLD by the authors' own Lean function (tested against real Go, not proved from fmt's source: count such statements apart). THE CARD IS WHAT COUNTS. Prove the row's statement (the work); the ties are given (YtamlfpljmobdoaaDoorTie.lean); close each card by the builder's one call (the guide's Derived/Test/ToyasCard.lean, 'card_holds'). Laid BY PROGRAM, IN A SANDBOX (cutbox-door.mjs). By AI agents, Wed Nov 11 2026. No macro, syntax, notation, axiom, sorry.
-/
import Derived.Test.YtamlfpljmobdoaaDoorRows
import GoSem.ClaimSeven
namespace Go.Proofs.YtamlfpljmobdoaaDoor
namespace Rows

/-- THE TIED CARD OF 'laws.FnExactCompareTokens'. -/
def fnExactCompareTokensCard : Claim7 := { stood := { row := fnExactCompareTokensRow, standIns := [], harness := (true, "85f43f90c934d56581ce4e8ec584093dac21317370f2ee460ebd44f670efdcfe"), looks := true }, kinds := [], alts := [], laidByText := true, laidKinds := [.data, .data, .data, .sentinel, .sentinel], laidTests := true, laidLooks := .later }
def FnExactCompareTokensCardSaid : Prop := Claim7.holds Tryd.pinned (.plain (OpenSpec.ofChange fnExactCompareTokensSpec)) fnExactCompareTokensCard

/-- THE TIED CARD OF 'laws.FnExactIsMemory'. -/
def fnExactIsMemoryCard : Claim7 := { stood := { row := fnExactIsMemoryRow, standIns := [], harness := (true, "85f43f90c934d56581ce4e8ec584093dac21317370f2ee460ebd44f670efdcfe"), looks := true }, kinds := [], alts := [], laidByText := true, laidKinds := [.data, .data, .data, .sentinel, .sentinel], laidTests := true, laidLooks := .later }
def FnExactIsMemoryCardSaid : Prop := Claim7.holds Tryd.pinned (.plain (OpenSpec.ofChange fnExactIsMemorySpec)) fnExactIsMemoryCard

/-- THE TIED CARD OF 'laws.FnExactChoiceLine'. -/
def fnExactChoiceLineCard : Claim7 := { stood := { row := fnExactChoiceLineRow, standIns := [], harness := (true, "85f43f90c934d56581ce4e8ec584093dac21317370f2ee460ebd44f670efdcfe"), looks := true }, kinds := [], alts := [], laidByText := true, laidKinds := [.data, .data, .data], laidTests := true, laidLooks := .later }
def FnExactChoiceLineCardSaid : Prop := Claim7.holds Tryd.pinned (.plain (OpenSpec.ofChange fnExactChoiceLineSpec)) fnExactChoiceLineCard

/-- THE SECOND FORM's CARD OF 'laws.FnExactCompareTokens'. -/
def fnExactCompareTokensUptoCard : Claim7 := { stood := { row := fnExactCompareTokensUptoRow, standIns := [], harness := (true, "85f43f90c934d56581ce4e8ec584093dac21317370f2ee460ebd44f670efdcfe"), looks := true }, kinds := [], alts := [], laidByText := true, laidKinds := [.data, .data, .data, .sentinel, .sentinel], laidTests := true, laidLooks := .later }
def FnExactCompareTokensUptoCardSaid : Prop := Claim7.holds Tryd.pinned (.plain (OpenSpec.upto fnExactCompareTokensSpec)) fnExactCompareTokensUptoCard

/-- THE SECOND FORM's CARD OF 'laws.FnExactIsMemory'. -/
def fnExactIsMemoryUptoCard : Claim7 := { stood := { row := fnExactIsMemoryUptoRow, standIns := [], harness := (true, "85f43f90c934d56581ce4e8ec584093dac21317370f2ee460ebd44f670efdcfe"), looks := true }, kinds := [], alts := [], laidByText := true, laidKinds := [.data, .data, .data, .sentinel, .sentinel], laidTests := true, laidLooks := .later }
def FnExactIsMemoryUptoCardSaid : Prop := Claim7.holds Tryd.pinned (.plain (OpenSpec.upto fnExactIsMemorySpec)) fnExactIsMemoryUptoCard

/-- THE SECOND FORM's CARD OF 'laws.FnExactChoiceLine'. -/
def fnExactChoiceLineUptoCard : Claim7 := { stood := { row := fnExactChoiceLineUptoRow, standIns := [], harness := (true, "85f43f90c934d56581ce4e8ec584093dac21317370f2ee460ebd44f670efdcfe"), looks := true }, kinds := [], alts := [], laidByText := true, laidKinds := [.data, .data, .data], laidTests := true, laidLooks := .later }
def FnExactChoiceLineUptoCardSaid : Prop := Claim7.holds Tryd.pinned (.plain (OpenSpec.upto fnExactChoiceLineSpec)) fnExactChoiceLineUptoCard
end Rows
end Go.Proofs.YtamlfpljmobdoaaDoor

/-
  DERIVED. GIVEN WITH THE SEED: THE CARDS: each row of YtoeenpcilfhjbaaDoorRows.lean that lists a variable, with what it lists TIED to the program's text (the seventh form; the later family's looks); each row that meets fmt, with fmt's text TOLD by the authors' own Lean function (tested against real Go, not proved from fmt's source: count such statements apart). THE CARD IS WHAT COUNTS. Prove the row's statement (the work); the ties are given (YtoeenpcilfhjbaaDoorTie.lean); close each card by the builder's one call (the guide's Derived/Test/ToyasCard.lean, 'card_holds'). Laid BY PROGRAM, IN A SANDBOX (cutbox-door.mjs). By AI agents, Wed Nov 11 2026. No macro, syntax, notation, axiom, sorry.
-/
import Derived.Test.YtoeenpcilfhjbaaDoorRows
import GoSem.ClaimSeven
namespace Go.Proofs.YtoeenpcilfhjbaaDoor
namespace Rows

/-- THE TIED CARD OF 'laws.FnExactChoiceLine'. -/
def fnExactChoiceLineCard : Claim7 := { stood := { row := fnExactChoiceLineRow, standIns := [], harness := (true, "4b4f17d01f36311d77c6b2d4104307ab886d70f5e10febeaf84c1af26a58c28b"), looks := false }, kinds := [], alts := [], laidByText := true, laidKinds := [.data, .data, .data], laidTests := true, laidLooks := .later }
def FnExactChoiceLineCardSaid : Prop := Claim7.holds Tryd.pinned (.plain (OpenSpec.ofChange fnExactChoiceLineSpec)) fnExactChoiceLineCard

/-- THE SECOND FORM's CARD OF 'laws.FnExactChoiceLine'. -/
def fnExactChoiceLineUptoCard : Claim7 := { stood := { row := fnExactChoiceLineUptoRow, standIns := [], harness := (true, "4b4f17d01f36311d77c6b2d4104307ab886d70f5e10febeaf84c1af26a58c28b"), looks := false }, kinds := [], alts := [], laidByText := true, laidKinds := [.data, .data, .data], laidTests := true, laidLooks := .later }
def FnExactChoiceLineUptoCardSaid : Prop := Claim7.holds Tryd.pinned (.plain (OpenSpec.upto fnExactChoiceLineSpec)) fnExactChoiceLineUptoCard
end Rows
end Go.Proofs.YtoeenpcilfhjbaaDoor

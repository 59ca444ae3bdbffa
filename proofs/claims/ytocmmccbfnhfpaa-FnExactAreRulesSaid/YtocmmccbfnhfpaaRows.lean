/-
  No cell of these rows narrows 'for every input' (looked for: loops, veiled, ifaces, maps, wideKeys, modest, calm, conditions, laid).
  DERIVED. THE GIVEN ROWS OF THIS SEAT. 12 by the template 'for every input the law returns true; each argument reads behind the call as it read before'; 0 by the template 'total and deterministic' (their statements: YtocmmccbfnhfpaaTotals.lean).
  GIVEN WITH THE SEED: the statements are not yours to turn. If you find one false, say at which input.
  Laid BY PROGRAM, IN A SANDBOX (cutbox-rows.mjs): the forced cells as the released guide's own fill.sh prints them over the translation 0520714bdbc9aed2… (all of the seat's roots in one cut). By AI agents, Wed Nov 11 2026. No macro, syntax, notation, axiom, sorry.
-/
import Derived.Test.YtocmmccbfnhfpaaChecked
import GoSem.Claim
import GoSem.ClaimJoined
import GoSem.ClaimMapViews
import Derived.JoinedTies
import Derived.KernelRfl
namespace Go.Proofs.Ytocmmccbfnhfpaa
/- THE CELL 'sum', in the pinned program and in every row, IS THE sha256 OF THE DUMP (.gsa) THAT YtocmmccbfnhfpaaProg.lean LOADS. Nothing in Lean hashes anything: it is a label: what it is worth is what the hold of that sum in a sandbox is worth. -/
noncomputable def Try.pinned : Pinned := { name := "ytocmmccbfnhfpaa", sum := "0520714bdbc9aed236786d3979a2126c2930adf3239aec278f6d1a154c5bced2", checked := Try.checked }
namespace Rows
def none {H : Type} : Left H := { results := [], args := [] }

/-- 'laws.FnExactFactsIn': WHATEVER THE INPUT: true; the input reads as it did. -/
def fnExactFactsInSpec : ChangeSpec := { name := "fnExactFactsIn", fn := fun _ => fun
  | [d] => { results := [.lit (.bool true)], args := [d] }
  | _ => none }
def fnExactFactsInRow : OpenClaim := { program := "ytocmmccbfnhfpaa", sum := "0520714bdbc9aed236786d3979a2126c2930adf3239aec278f6d1a154c5bced2", func := "loop.example/g03015/laws.FnExactFactsIn", spec := "fnExactFactsIn", apart := false }
def FnExactFactsInSaid : Prop := fnExactFactsInRow.holds Try.pinned (OpenSpec.ofChange fnExactFactsInSpec)

/-- ITS FALSE NEIGHBOUR: 'it returns false'. Refute it at one input. -/
def fnExactFactsInWrong : ChangeSpec := { name := "fnExactFactsIn", fn := fun _ => fun
  | [d] => { results := [.lit (.bool false)], args := [d] }
  | _ => none }
def FnExactFactsInWrongFalsely : Prop := fnExactFactsInRow.holds Try.pinned (OpenSpec.ofChange fnExactFactsInWrong)

/-- 'laws.FnExactTimesOf': WHATEVER THE INPUT: true; the input reads as it did. -/
def fnExactTimesOfSpec : ChangeSpec := { name := "fnExactTimesOf", fn := fun _ => fun
  | [d1, d2] => { results := [.lit (.bool true)], args := [d1, d2] }
  | _ => none }
def fnExactTimesOfRow : OpenClaim := { program := "ytocmmccbfnhfpaa", sum := "0520714bdbc9aed236786d3979a2126c2930adf3239aec278f6d1a154c5bced2", func := "loop.example/g03015/laws.FnExactTimesOf", spec := "fnExactTimesOf", apart := false }
def FnExactTimesOfSaid : Prop := fnExactTimesOfRow.holds Try.pinned (OpenSpec.ofChange fnExactTimesOfSpec)

/-- ITS FALSE NEIGHBOUR: 'it returns false'. Refute it at one input. -/
def fnExactTimesOfWrong : ChangeSpec := { name := "fnExactTimesOf", fn := fun _ => fun
  | [d1, d2] => { results := [.lit (.bool false)], args := [d1, d2] }
  | _ => none }
def FnExactTimesOfWrongFalsely : Prop := fnExactTimesOfRow.holds Try.pinned (OpenSpec.ofChange fnExactTimesOfWrong)

/-- 'laws.FnExactFalling': WHATEVER THE INPUT: true; the input reads as it did. -/
def fnExactFallingSpec : ChangeSpec := { name := "fnExactFalling", fn := fun _ => fun
  | [d] => { results := [.lit (.bool true)], args := [d] }
  | _ => none }
def fnExactFallingRow : OpenClaim := { program := "ytocmmccbfnhfpaa", sum := "0520714bdbc9aed236786d3979a2126c2930adf3239aec278f6d1a154c5bced2", func := "loop.example/g03015/laws.FnExactFalling", spec := "fnExactFalling", unfollowed := true, recurses := true, apart := false }
def FnExactFallingSaid : Prop := fnExactFallingRow.holds Try.pinned (OpenSpec.ofChange fnExactFallingSpec)

/-- ITS FALSE NEIGHBOUR: 'it returns false'. Refute it at one input. -/
def fnExactFallingWrong : ChangeSpec := { name := "fnExactFalling", fn := fun _ => fun
  | [d] => { results := [.lit (.bool false)], args := [d] }
  | _ => none }
def FnExactFallingWrongFalsely : Prop := fnExactFallingRow.holds Try.pinned (OpenSpec.ofChange fnExactFallingWrong)

/-- 'laws.FnExactReadsOf': WHATEVER THE INPUT: true; the input reads as it did. -/
def fnExactReadsOfSpec : ChangeSpec := { name := "fnExactReadsOf", fn := fun _ => fun
  | [d] => { results := [.lit (.bool true)], args := [d] }
  | _ => none }
def fnExactReadsOfRow : OpenClaim := { program := "ytocmmccbfnhfpaa", sum := "0520714bdbc9aed236786d3979a2126c2930adf3239aec278f6d1a154c5bced2", func := "loop.example/g03015/laws.FnExactReadsOf", spec := "fnExactReadsOf", recurses := true, apart := false }
def FnExactReadsOfSaid : Prop := fnExactReadsOfRow.holds Try.pinned (OpenSpec.ofChange fnExactReadsOfSpec)

/-- ITS FALSE NEIGHBOUR: 'it returns false'. Refute it at one input. -/
def fnExactReadsOfWrong : ChangeSpec := { name := "fnExactReadsOf", fn := fun _ => fun
  | [d] => { results := [.lit (.bool false)], args := [d] }
  | _ => none }
def FnExactReadsOfWrongFalsely : Prop := fnExactReadsOfRow.holds Try.pinned (OpenSpec.ofChange fnExactReadsOfWrong)

/-- 'laws.FnExactWritesOf': WHATEVER THE INPUT: true; the input reads as it did. -/
def fnExactWritesOfSpec : ChangeSpec := { name := "fnExactWritesOf", fn := fun _ => fun
  | [d] => { results := [.lit (.bool true)], args := [d] }
  | _ => none }
def fnExactWritesOfRow : OpenClaim := { program := "ytocmmccbfnhfpaa", sum := "0520714bdbc9aed236786d3979a2126c2930adf3239aec278f6d1a154c5bced2", func := "loop.example/g03015/laws.FnExactWritesOf", spec := "fnExactWritesOf", recurses := true, apart := false }
def FnExactWritesOfSaid : Prop := fnExactWritesOfRow.holds Try.pinned (OpenSpec.ofChange fnExactWritesOfSpec)

/-- ITS FALSE NEIGHBOUR: 'it returns false'. Refute it at one input. -/
def fnExactWritesOfWrong : ChangeSpec := { name := "fnExactWritesOf", fn := fun _ => fun
  | [d] => { results := [.lit (.bool false)], args := [d] }
  | _ => none }
def FnExactWritesOfWrongFalsely : Prop := fnExactWritesOfRow.holds Try.pinned (OpenSpec.ofChange fnExactWritesOfWrong)

/-- 'laws.FnExactBoundVars': WHATEVER THE INPUT: true; the input reads as it did. -/
def fnExactBoundVarsSpec : ChangeSpec := { name := "fnExactBoundVars", fn := fun _ => fun
  | [d1, d2] => { results := [.lit (.bool true)], args := [d1, d2] }
  | _ => none }
def fnExactBoundVarsRow : OpenClaim := { program := "ytocmmccbfnhfpaa", sum := "0520714bdbc9aed236786d3979a2126c2930adf3239aec278f6d1a154c5bced2", func := "loop.example/g03015/laws.FnExactBoundVars", spec := "fnExactBoundVars", recurses := true, apart := false }
def FnExactBoundVarsSaid : Prop := fnExactBoundVarsRow.holds Try.pinned (OpenSpec.ofChange fnExactBoundVarsSpec)

/-- ITS FALSE NEIGHBOUR: 'it returns false'. Refute it at one input. -/
def fnExactBoundVarsWrong : ChangeSpec := { name := "fnExactBoundVars", fn := fun _ => fun
  | [d1, d2] => { results := [.lit (.bool false)], args := [d1, d2] }
  | _ => none }
def FnExactBoundVarsWrongFalsely : Prop := fnExactBoundVarsRow.holds Try.pinned (OpenSpec.ofChange fnExactBoundVarsWrong)

/-- 'laws.FnExactRuleVars': WHATEVER THE INPUT: true; the input reads as it did. -/
def fnExactRuleVarsSpec : ChangeSpec := { name := "fnExactRuleVars", fn := fun _ => fun
  | [d] => { results := [.lit (.bool true)], args := [d] }
  | _ => none }
def fnExactRuleVarsRow : OpenClaim := { program := "ytocmmccbfnhfpaa", sum := "0520714bdbc9aed236786d3979a2126c2930adf3239aec278f6d1a154c5bced2", func := "loop.example/g03015/laws.FnExactRuleVars", spec := "fnExactRuleVars", recurses := true, apart := false }
def FnExactRuleVarsSaid : Prop := fnExactRuleVarsRow.holds Try.pinned (OpenSpec.ofChange fnExactRuleVarsSpec)

/-- ITS FALSE NEIGHBOUR: 'it returns false'. Refute it at one input. -/
def fnExactRuleVarsWrong : ChangeSpec := { name := "fnExactRuleVars", fn := fun _ => fun
  | [d] => { results := [.lit (.bool false)], args := [d] }
  | _ => none }
def FnExactRuleVarsWrongFalsely : Prop := fnExactRuleVarsRow.holds Try.pinned (OpenSpec.ofChange fnExactRuleVarsWrong)

/-- 'laws.FnExactPathOf': WHATEVER THE INPUT: true; the input reads as it did. -/
def fnExactPathOfSpec : ChangeSpec := { name := "fnExactPathOf", fn := fun _ => fun
  | [d1, d2] => { results := [.lit (.bool true)], args := [d1, d2] }
  | _ => none }
def fnExactPathOfRow : OpenClaim := { program := "ytocmmccbfnhfpaa", sum := "0520714bdbc9aed236786d3979a2126c2930adf3239aec278f6d1a154c5bced2", func := "loop.example/g03015/laws.FnExactPathOf", spec := "fnExactPathOf", apart := false }
def FnExactPathOfSaid : Prop := fnExactPathOfRow.holds Try.pinned (OpenSpec.ofChange fnExactPathOfSpec)

/-- ITS FALSE NEIGHBOUR: 'it returns false'. Refute it at one input. -/
def fnExactPathOfWrong : ChangeSpec := { name := "fnExactPathOf", fn := fun _ => fun
  | [d1, d2] => { results := [.lit (.bool false)], args := [d1, d2] }
  | _ => none }
def FnExactPathOfWrongFalsely : Prop := fnExactPathOfRow.holds Try.pinned (OpenSpec.ofChange fnExactPathOfWrong)

/-- 'laws.FnExactSameMemories': WHATEVER THE INPUT: true; the input reads as it did. -/
def fnExactSameMemoriesSpec : ChangeSpec := { name := "fnExactSameMemories", fn := fun _ => fun
  | [d1, d2] => { results := [.lit (.bool true)], args := [d1, d2] }
  | _ => none }
def fnExactSameMemoriesRow : OpenClaim := { program := "ytocmmccbfnhfpaa", sum := "0520714bdbc9aed236786d3979a2126c2930adf3239aec278f6d1a154c5bced2", func := "loop.example/g03015/laws.FnExactSameMemories", spec := "fnExactSameMemories", apart := false }
def FnExactSameMemoriesSaid : Prop := fnExactSameMemoriesRow.holds Try.pinned (OpenSpec.ofChange fnExactSameMemoriesSpec)

/-- ITS FALSE NEIGHBOUR: 'it returns false'. Refute it at one input. -/
def fnExactSameMemoriesWrong : ChangeSpec := { name := "fnExactSameMemories", fn := fun _ => fun
  | [d1, d2] => { results := [.lit (.bool false)], args := [d1, d2] }
  | _ => none }
def FnExactSameMemoriesWrongFalsely : Prop := fnExactSameMemoriesRow.holds Try.pinned (OpenSpec.ofChange fnExactSameMemoriesWrong)

/-- 'laws.FnExactIsRule': WHATEVER THE INPUT: true; the input reads as it did. -/
def fnExactIsRuleSpec : ChangeSpec := { name := "fnExactIsRule", fn := fun _ => fun
  | [d] => { results := [.lit (.bool true)], args := [d] }
  | _ => none }
def fnExactIsRuleRow : OpenClaim := { program := "ytocmmccbfnhfpaa", sum := "0520714bdbc9aed236786d3979a2126c2930adf3239aec278f6d1a154c5bced2", func := "loop.example/g03015/laws.FnExactIsRule", spec := "fnExactIsRule", recurses := true, apart := false }
def FnExactIsRuleSaid : Prop := fnExactIsRuleRow.holds Try.pinned (OpenSpec.ofChange fnExactIsRuleSpec)

/-- ITS FALSE NEIGHBOUR: 'it returns false'. Refute it at one input. -/
def fnExactIsRuleWrong : ChangeSpec := { name := "fnExactIsRule", fn := fun _ => fun
  | [d] => { results := [.lit (.bool false)], args := [d] }
  | _ => none }
def FnExactIsRuleWrongFalsely : Prop := fnExactIsRuleRow.holds Try.pinned (OpenSpec.ofChange fnExactIsRuleWrong)

/-- 'laws.FnExactIsMonotone': WHATEVER THE INPUT: true; the input reads as it did. -/
def fnExactIsMonotoneSpec : ChangeSpec := { name := "fnExactIsMonotone", fn := fun _ => fun
  | [d] => { results := [.lit (.bool true)], args := [d] }
  | _ => none }
def fnExactIsMonotoneRow : OpenClaim := { program := "ytocmmccbfnhfpaa", sum := "0520714bdbc9aed236786d3979a2126c2930adf3239aec278f6d1a154c5bced2", func := "loop.example/g03015/laws.FnExactIsMonotone", spec := "fnExactIsMonotone", recurses := true, apart := false }
def FnExactIsMonotoneSaid : Prop := fnExactIsMonotoneRow.holds Try.pinned (OpenSpec.ofChange fnExactIsMonotoneSpec)

/-- ITS FALSE NEIGHBOUR: 'it returns false'. Refute it at one input. -/
def fnExactIsMonotoneWrong : ChangeSpec := { name := "fnExactIsMonotone", fn := fun _ => fun
  | [d] => { results := [.lit (.bool false)], args := [d] }
  | _ => none }
def FnExactIsMonotoneWrongFalsely : Prop := fnExactIsMonotoneRow.holds Try.pinned (OpenSpec.ofChange fnExactIsMonotoneWrong)

/-- 'laws.FnExactAreRules': WHATEVER THE INPUT: true; the input reads as it did. -/
def fnExactAreRulesSpec : ChangeSpec := { name := "fnExactAreRules", fn := fun _ => fun
  | [d] => { results := [.lit (.bool true)], args := [d] }
  | _ => none }
def fnExactAreRulesRow : OpenClaim := { program := "ytocmmccbfnhfpaa", sum := "0520714bdbc9aed236786d3979a2126c2930adf3239aec278f6d1a154c5bced2", func := "loop.example/g03015/laws.FnExactAreRules", spec := "fnExactAreRules", recurses := true, apart := false }
def FnExactAreRulesSaid : Prop := fnExactAreRulesRow.holds Try.pinned (OpenSpec.ofChange fnExactAreRulesSpec)

/-- ITS FALSE NEIGHBOUR: 'it returns false'. Refute it at one input. -/
def fnExactAreRulesWrong : ChangeSpec := { name := "fnExactAreRules", fn := fun _ => fun
  | [d] => { results := [.lit (.bool false)], args := [d] }
  | _ => none }
def FnExactAreRulesWrongFalsely : Prop := fnExactAreRulesRow.holds Try.pinned (OpenSpec.ofChange fnExactAreRulesWrong)

/- THE SECOND FORM. 'bulk': how many values and letters a reading holds, each counted each time it is reached (what is shared counts as often as it is met; a slice's spare places count too). A statement '..UptoSaid' is the law's where the arguments, and the package variables that the reading takes, are together of bulk at most 1048576: NARROWER than '..Said'. Prove '..Said' where nothing that the law and all that it calls make is longer than what came in: it says more and counts as full. Else prove '..UptoSaid'. A law counts once. -/
mutual
def uptoBulk {H : Type} : DataW H → Nat
  | .lit (.string bytes) => bytes.length + 1
  | .lit _ => 1
  | .nil => 1
  | .ptr d => uptoBulk d + 1
  | .slice elems spare => uptoBulkAll elems + uptoBulkAll spare + 1
  | .agg parts => uptoBulkAll parts + 1
  | .iface _ d => uptoBulk d + 1
  | .map entries => uptoBulkEntries entries + 1
  | .held _ => 1
def uptoBulkAll {H : Type} : List (DataW H) → Nat
  | [] => 0
  | d :: r => uptoBulk d + uptoBulkAll r
def uptoBulkEntries {H : Type} : List (Lit × DataW H) → Nat
  | [] => 0
  | x :: r => uptoBulkEntry x + uptoBulkEntries r
def uptoBulkEntry {H : Type} : Lit × DataW H → Nat
  | (.string bytes, d) => bytes.length + uptoBulk d + 1
  | (_, d) => uptoBulk d + 1
 end
def uptoSmall : (H : Type) → List (DataW H) → Bool := fun _ ds => decide (uptoBulkAll ds ≤ 1048576)
def OpenSpec.upto (s : _root_.Go.ChangeSpec) : _root_.Go.OpenSpec := { _root_.Go.OpenSpec.ofChange s with cond := some uptoSmall }

/-- 'laws.FnExactFactsIn', WHERE WHAT IT READS IS OF BULK AT MOST 1048576: true; the input reads as it did. -/
def fnExactFactsInUptoRow : OpenClaim := { program := "ytocmmccbfnhfpaa", sum := "0520714bdbc9aed236786d3979a2126c2930adf3239aec278f6d1a154c5bced2", func := "loop.example/g03015/laws.FnExactFactsIn", spec := "fnExactFactsIn", apart := false, narrowed := true }
def FnExactFactsInUptoSaid : Prop := fnExactFactsInUptoRow.holds Try.pinned (OpenSpec.upto fnExactFactsInSpec)

/-- 'laws.FnExactTimesOf', WHERE WHAT IT READS IS OF BULK AT MOST 1048576: true; the input reads as it did. -/
def fnExactTimesOfUptoRow : OpenClaim := { program := "ytocmmccbfnhfpaa", sum := "0520714bdbc9aed236786d3979a2126c2930adf3239aec278f6d1a154c5bced2", func := "loop.example/g03015/laws.FnExactTimesOf", spec := "fnExactTimesOf", apart := false, narrowed := true }
def FnExactTimesOfUptoSaid : Prop := fnExactTimesOfUptoRow.holds Try.pinned (OpenSpec.upto fnExactTimesOfSpec)

/-- 'laws.FnExactFalling', WHERE WHAT IT READS IS OF BULK AT MOST 1048576: true; the input reads as it did. -/
def fnExactFallingUptoRow : OpenClaim := { program := "ytocmmccbfnhfpaa", sum := "0520714bdbc9aed236786d3979a2126c2930adf3239aec278f6d1a154c5bced2", func := "loop.example/g03015/laws.FnExactFalling", spec := "fnExactFalling", unfollowed := true, recurses := true, apart := false, narrowed := true }
def FnExactFallingUptoSaid : Prop := fnExactFallingUptoRow.holds Try.pinned (OpenSpec.upto fnExactFallingSpec)

/-- 'laws.FnExactReadsOf', WHERE WHAT IT READS IS OF BULK AT MOST 1048576: true; the input reads as it did. -/
def fnExactReadsOfUptoRow : OpenClaim := { program := "ytocmmccbfnhfpaa", sum := "0520714bdbc9aed236786d3979a2126c2930adf3239aec278f6d1a154c5bced2", func := "loop.example/g03015/laws.FnExactReadsOf", spec := "fnExactReadsOf", recurses := true, apart := false, narrowed := true }
def FnExactReadsOfUptoSaid : Prop := fnExactReadsOfUptoRow.holds Try.pinned (OpenSpec.upto fnExactReadsOfSpec)

/-- 'laws.FnExactWritesOf', WHERE WHAT IT READS IS OF BULK AT MOST 1048576: true; the input reads as it did. -/
def fnExactWritesOfUptoRow : OpenClaim := { program := "ytocmmccbfnhfpaa", sum := "0520714bdbc9aed236786d3979a2126c2930adf3239aec278f6d1a154c5bced2", func := "loop.example/g03015/laws.FnExactWritesOf", spec := "fnExactWritesOf", recurses := true, apart := false, narrowed := true }
def FnExactWritesOfUptoSaid : Prop := fnExactWritesOfUptoRow.holds Try.pinned (OpenSpec.upto fnExactWritesOfSpec)

/-- 'laws.FnExactBoundVars', WHERE WHAT IT READS IS OF BULK AT MOST 1048576: true; the input reads as it did. -/
def fnExactBoundVarsUptoRow : OpenClaim := { program := "ytocmmccbfnhfpaa", sum := "0520714bdbc9aed236786d3979a2126c2930adf3239aec278f6d1a154c5bced2", func := "loop.example/g03015/laws.FnExactBoundVars", spec := "fnExactBoundVars", recurses := true, apart := false, narrowed := true }
def FnExactBoundVarsUptoSaid : Prop := fnExactBoundVarsUptoRow.holds Try.pinned (OpenSpec.upto fnExactBoundVarsSpec)

/-- 'laws.FnExactRuleVars', WHERE WHAT IT READS IS OF BULK AT MOST 1048576: true; the input reads as it did. -/
def fnExactRuleVarsUptoRow : OpenClaim := { program := "ytocmmccbfnhfpaa", sum := "0520714bdbc9aed236786d3979a2126c2930adf3239aec278f6d1a154c5bced2", func := "loop.example/g03015/laws.FnExactRuleVars", spec := "fnExactRuleVars", recurses := true, apart := false, narrowed := true }
def FnExactRuleVarsUptoSaid : Prop := fnExactRuleVarsUptoRow.holds Try.pinned (OpenSpec.upto fnExactRuleVarsSpec)

/-- 'laws.FnExactPathOf', WHERE WHAT IT READS IS OF BULK AT MOST 1048576: true; the input reads as it did. -/
def fnExactPathOfUptoRow : OpenClaim := { program := "ytocmmccbfnhfpaa", sum := "0520714bdbc9aed236786d3979a2126c2930adf3239aec278f6d1a154c5bced2", func := "loop.example/g03015/laws.FnExactPathOf", spec := "fnExactPathOf", apart := false, narrowed := true }
def FnExactPathOfUptoSaid : Prop := fnExactPathOfUptoRow.holds Try.pinned (OpenSpec.upto fnExactPathOfSpec)

/-- 'laws.FnExactSameMemories', WHERE WHAT IT READS IS OF BULK AT MOST 1048576: true; the input reads as it did. -/
def fnExactSameMemoriesUptoRow : OpenClaim := { program := "ytocmmccbfnhfpaa", sum := "0520714bdbc9aed236786d3979a2126c2930adf3239aec278f6d1a154c5bced2", func := "loop.example/g03015/laws.FnExactSameMemories", spec := "fnExactSameMemories", apart := false, narrowed := true }
def FnExactSameMemoriesUptoSaid : Prop := fnExactSameMemoriesUptoRow.holds Try.pinned (OpenSpec.upto fnExactSameMemoriesSpec)

/-- 'laws.FnExactIsRule', WHERE WHAT IT READS IS OF BULK AT MOST 1048576: true; the input reads as it did. -/
def fnExactIsRuleUptoRow : OpenClaim := { program := "ytocmmccbfnhfpaa", sum := "0520714bdbc9aed236786d3979a2126c2930adf3239aec278f6d1a154c5bced2", func := "loop.example/g03015/laws.FnExactIsRule", spec := "fnExactIsRule", recurses := true, apart := false, narrowed := true }
def FnExactIsRuleUptoSaid : Prop := fnExactIsRuleUptoRow.holds Try.pinned (OpenSpec.upto fnExactIsRuleSpec)

/-- 'laws.FnExactIsMonotone', WHERE WHAT IT READS IS OF BULK AT MOST 1048576: true; the input reads as it did. -/
def fnExactIsMonotoneUptoRow : OpenClaim := { program := "ytocmmccbfnhfpaa", sum := "0520714bdbc9aed236786d3979a2126c2930adf3239aec278f6d1a154c5bced2", func := "loop.example/g03015/laws.FnExactIsMonotone", spec := "fnExactIsMonotone", recurses := true, apart := false, narrowed := true }
def FnExactIsMonotoneUptoSaid : Prop := fnExactIsMonotoneUptoRow.holds Try.pinned (OpenSpec.upto fnExactIsMonotoneSpec)

/-- 'laws.FnExactAreRules', WHERE WHAT IT READS IS OF BULK AT MOST 1048576: true; the input reads as it did. -/
def fnExactAreRulesUptoRow : OpenClaim := { program := "ytocmmccbfnhfpaa", sum := "0520714bdbc9aed236786d3979a2126c2930adf3239aec278f6d1a154c5bced2", func := "loop.example/g03015/laws.FnExactAreRules", spec := "fnExactAreRules", recurses := true, apart := false, narrowed := true }
def FnExactAreRulesUptoSaid : Prop := fnExactAreRulesUptoRow.holds Try.pinned (OpenSpec.upto fnExactAreRulesSpec)

end Rows
end Go.Proofs.Ytocmmccbfnhfpaa

/-
  No cell of these rows narrows 'for every input' (looked for: loops, veiled, ifaces, maps, wideKeys, modest, calm, conditions, laid).
  DERIVED. THE GIVEN ROWS OF THIS SEAT. 7 by the template 'for every input the law returns true; each argument reads behind the call as it read before'; 0 by the template 'total and deterministic' (their statements: YtnagcfnebfhnhaaTotals.lean).
  GIVEN WITH THE SEED: the statements are not yours to turn. If you find one false, say at which input.
  Laid BY PROGRAM, IN A SANDBOX (cutbox-rows.mjs): the forced cells as the released guide's own fill.sh prints them over the translation 50bfb29a4105595a… (all of the seat's roots in one cut). By AI agents, Wed Nov 11 2026. No macro, syntax, notation, axiom, sorry.
-/
import Derived.Test.YtnagcfnebfhnhaaChecked
import GoSem.Claim
import GoSem.ClaimJoined
import GoSem.ClaimMapViews
import Derived.JoinedTies
import Derived.KernelRfl
namespace Go.Proofs.Ytnagcfnebfhnhaa
/- THE CELL 'sum', in the pinned program and in every row, IS THE sha256 OF THE DUMP (.gsa) THAT YtnagcfnebfhnhaaProg.lean LOADS. Nothing in Lean hashes anything: it is a label: what it is worth is what the hold of that sum in a sandbox is worth. -/
noncomputable def Try.pinned : Pinned := { name := "ytnagcfnebfhnhaa", sum := "50bfb29a4105595aad95a142e39001eb5bc82c149d367d6cb993dd62633576f4", checked := Try.checked }
namespace Rows
def none {H : Type} : Left H := { results := [], args := [] }

/-- 'laws.FnExactTimeOf': WHATEVER THE INPUT: true; the input reads as it did. -/
def fnExactTimeOfSpec : ChangeSpec := { name := "fnExactTimeOf", fn := fun _ => fun
  | [d1, d2] => { results := [.lit (.bool true)], args := [d1, d2] }
  | _ => none }
def fnExactTimeOfRow : OpenClaim := { program := "ytnagcfnebfhnhaa", sum := "50bfb29a4105595aad95a142e39001eb5bc82c149d367d6cb993dd62633576f4", func := "loop.example/g03015/laws.FnExactTimeOf", spec := "fnExactTimeOf", apart := false }
def FnExactTimeOfSaid : Prop := fnExactTimeOfRow.holds Try.pinned (OpenSpec.ofChange fnExactTimeOfSpec)

/-- ITS FALSE NEIGHBOUR: 'it returns false'. Refute it at one input. -/
def fnExactTimeOfWrong : ChangeSpec := { name := "fnExactTimeOf", fn := fun _ => fun
  | [d1, d2] => { results := [.lit (.bool false)], args := [d1, d2] }
  | _ => none }
def FnExactTimeOfWrongFalsely : Prop := fnExactTimeOfRow.holds Try.pinned (OpenSpec.ofChange fnExactTimeOfWrong)

/-- 'laws.FnExactFactsIn': WHATEVER THE INPUT: true; the input reads as it did. -/
def fnExactFactsInSpec : ChangeSpec := { name := "fnExactFactsIn", fn := fun _ => fun
  | [d] => { results := [.lit (.bool true)], args := [d] }
  | _ => none }
def fnExactFactsInRow : OpenClaim := { program := "ytnagcfnebfhnhaa", sum := "50bfb29a4105595aad95a142e39001eb5bc82c149d367d6cb993dd62633576f4", func := "loop.example/g03015/laws.FnExactFactsIn", spec := "fnExactFactsIn", apart := false }
def FnExactFactsInSaid : Prop := fnExactFactsInRow.holds Try.pinned (OpenSpec.ofChange fnExactFactsInSpec)

/-- ITS FALSE NEIGHBOUR: 'it returns false'. Refute it at one input. -/
def fnExactFactsInWrong : ChangeSpec := { name := "fnExactFactsIn", fn := fun _ => fun
  | [d] => { results := [.lit (.bool false)], args := [d] }
  | _ => none }
def FnExactFactsInWrongFalsely : Prop := fnExactFactsInRow.holds Try.pinned (OpenSpec.ofChange fnExactFactsInWrong)

/-- 'laws.FnExactUsesFact': WHATEVER THE INPUT: true; the input reads as it did. -/
def fnExactUsesFactSpec : ChangeSpec := { name := "fnExactUsesFact", fn := fun _ => fun
  | [d1, d2] => { results := [.lit (.bool true)], args := [d1, d2] }
  | _ => none }
def fnExactUsesFactRow : OpenClaim := { program := "ytnagcfnebfhnhaa", sum := "50bfb29a4105595aad95a142e39001eb5bc82c149d367d6cb993dd62633576f4", func := "loop.example/g03015/laws.FnExactUsesFact", spec := "fnExactUsesFact", apart := false }
def FnExactUsesFactSaid : Prop := fnExactUsesFactRow.holds Try.pinned (OpenSpec.ofChange fnExactUsesFactSpec)

/-- ITS FALSE NEIGHBOUR: 'it returns false'. Refute it at one input. -/
def fnExactUsesFactWrong : ChangeSpec := { name := "fnExactUsesFact", fn := fun _ => fun
  | [d1, d2] => { results := [.lit (.bool false)], args := [d1, d2] }
  | _ => none }
def FnExactUsesFactWrongFalsely : Prop := fnExactUsesFactRow.holds Try.pinned (OpenSpec.ofChange fnExactUsesFactWrong)

/-- 'laws.FnExactSameMatch': WHATEVER THE INPUT: true; the input reads as it did. -/
def fnExactSameMatchSpec : ChangeSpec := { name := "fnExactSameMatch", fn := fun _ => fun
  | [d1, d2] => { results := [.lit (.bool true)], args := [d1, d2] }
  | _ => none }
def fnExactSameMatchRow : OpenClaim := { program := "ytnagcfnebfhnhaa", sum := "50bfb29a4105595aad95a142e39001eb5bc82c149d367d6cb993dd62633576f4", func := "loop.example/g03015/laws.FnExactSameMatch", spec := "fnExactSameMatch", apart := false }
def FnExactSameMatchSaid : Prop := fnExactSameMatchRow.holds Try.pinned (OpenSpec.ofChange fnExactSameMatchSpec)

/-- ITS FALSE NEIGHBOUR: 'it returns false'. Refute it at one input. -/
def fnExactSameMatchWrong : ChangeSpec := { name := "fnExactSameMatch", fn := fun _ => fun
  | [d1, d2] => { results := [.lit (.bool false)], args := [d1, d2] }
  | _ => none }
def FnExactSameMatchWrongFalsely : Prop := fnExactSameMatchRow.holds Try.pinned (OpenSpec.ofChange fnExactSameMatchWrong)

/-- 'laws.FnExactTimesOf': WHATEVER THE INPUT: true; the input reads as it did. -/
def fnExactTimesOfSpec : ChangeSpec := { name := "fnExactTimesOf", fn := fun _ => fun
  | [d1, d2] => { results := [.lit (.bool true)], args := [d1, d2] }
  | _ => none }
def fnExactTimesOfRow : OpenClaim := { program := "ytnagcfnebfhnhaa", sum := "50bfb29a4105595aad95a142e39001eb5bc82c149d367d6cb993dd62633576f4", func := "loop.example/g03015/laws.FnExactTimesOf", spec := "fnExactTimesOf", apart := false }
def FnExactTimesOfSaid : Prop := fnExactTimesOfRow.holds Try.pinned (OpenSpec.ofChange fnExactTimesOfSpec)

/-- ITS FALSE NEIGHBOUR: 'it returns false'. Refute it at one input. -/
def fnExactTimesOfWrong : ChangeSpec := { name := "fnExactTimesOf", fn := fun _ => fun
  | [d1, d2] => { results := [.lit (.bool false)], args := [d1, d2] }
  | _ => none }
def FnExactTimesOfWrongFalsely : Prop := fnExactTimesOfRow.holds Try.pinned (OpenSpec.ofChange fnExactTimesOfWrong)

/-- 'laws.FnExactSameRule': WHATEVER THE INPUT: true; the input reads as it did. -/
def fnExactSameRuleSpec : ChangeSpec := { name := "fnExactSameRule", fn := fun _ => fun
  | [d1, d2] => { results := [.lit (.bool true)], args := [d1, d2] }
  | _ => none }
def fnExactSameRuleRow : OpenClaim := { program := "ytnagcfnebfhnhaa", sum := "50bfb29a4105595aad95a142e39001eb5bc82c149d367d6cb993dd62633576f4", func := "loop.example/g03015/laws.FnExactSameRule", spec := "fnExactSameRule", apart := false }
def FnExactSameRuleSaid : Prop := fnExactSameRuleRow.holds Try.pinned (OpenSpec.ofChange fnExactSameRuleSpec)

/-- ITS FALSE NEIGHBOUR: 'it returns false'. Refute it at one input. -/
def fnExactSameRuleWrong : ChangeSpec := { name := "fnExactSameRule", fn := fun _ => fun
  | [d1, d2] => { results := [.lit (.bool false)], args := [d1, d2] }
  | _ => none }
def FnExactSameRuleWrongFalsely : Prop := fnExactSameRuleRow.holds Try.pinned (OpenSpec.ofChange fnExactSameRuleWrong)

/-- 'laws.FnExactHasFired': WHATEVER THE INPUT: true; the input reads as it did. -/
def fnExactHasFiredSpec : ChangeSpec := { name := "fnExactHasFired", fn := fun _ => fun
  | [d1, d2] => { results := [.lit (.bool true)], args := [d1, d2] }
  | _ => none }
def fnExactHasFiredRow : OpenClaim := { program := "ytnagcfnebfhnhaa", sum := "50bfb29a4105595aad95a142e39001eb5bc82c149d367d6cb993dd62633576f4", func := "loop.example/g03015/laws.FnExactHasFired", spec := "fnExactHasFired", apart := false }
def FnExactHasFiredSaid : Prop := fnExactHasFiredRow.holds Try.pinned (OpenSpec.ofChange fnExactHasFiredSpec)

/-- ITS FALSE NEIGHBOUR: 'it returns false'. Refute it at one input. -/
def fnExactHasFiredWrong : ChangeSpec := { name := "fnExactHasFired", fn := fun _ => fun
  | [d1, d2] => { results := [.lit (.bool false)], args := [d1, d2] }
  | _ => none }
def FnExactHasFiredWrongFalsely : Prop := fnExactHasFiredRow.holds Try.pinned (OpenSpec.ofChange fnExactHasFiredWrong)

/- THE SECOND FORM. 'bulk': how many values and letters a reading holds, each counted each time it is reached (what is shared counts as often as it is met; a slice's spare places count too). A statement '..UptoSaid' is the law's where the arguments, and the package variables that the reading takes, are together of bulk at most 1048576: NARROWER than '..Said'. Prove '..Said' where nothing that the law and all that it calls make is longer than what came in: it says more and counts as full. Else prove '..UptoSaid'. A law counts once. -/
mutual
def uptoBulk {H : Type} : DataW H → Nat
  | .lit (.string bytes) => bytes.length + 1
  | .lit _ => 1
  | .nil => 1
  | .ptr d => uptoBulk d + 1
  | .slice elems spare => uptoBulkAll elems + uptoBulkAll spare + 1
  | .agg parts => uptoBulkAll parts + 1
  | .iface _ d => uptoBulk d + 1
  | .map entries => uptoBulkEntries entries + 1
  | .held _ => 1
def uptoBulkAll {H : Type} : List (DataW H) → Nat
  | [] => 0
  | d :: r => uptoBulk d + uptoBulkAll r
def uptoBulkEntries {H : Type} : List (Lit × DataW H) → Nat
  | [] => 0
  | x :: r => uptoBulkEntry x + uptoBulkEntries r
def uptoBulkEntry {H : Type} : Lit × DataW H → Nat
  | (.string bytes, d) => bytes.length + uptoBulk d + 1
  | (_, d) => uptoBulk d + 1
 end
def uptoSmall : (H : Type) → List (DataW H) → Bool := fun _ ds => decide (uptoBulkAll ds ≤ 1048576)
def OpenSpec.upto (s : _root_.Go.ChangeSpec) : _root_.Go.OpenSpec := { _root_.Go.OpenSpec.ofChange s with cond := some uptoSmall }

/-- 'laws.FnExactTimeOf', WHERE WHAT IT READS IS OF BULK AT MOST 1048576: true; the input reads as it did. -/
def fnExactTimeOfUptoRow : OpenClaim := { program := "ytnagcfnebfhnhaa", sum := "50bfb29a4105595aad95a142e39001eb5bc82c149d367d6cb993dd62633576f4", func := "loop.example/g03015/laws.FnExactTimeOf", spec := "fnExactTimeOf", apart := false, narrowed := true }
def FnExactTimeOfUptoSaid : Prop := fnExactTimeOfUptoRow.holds Try.pinned (OpenSpec.upto fnExactTimeOfSpec)

/-- 'laws.FnExactFactsIn', WHERE WHAT IT READS IS OF BULK AT MOST 1048576: true; the input reads as it did. -/
def fnExactFactsInUptoRow : OpenClaim := { program := "ytnagcfnebfhnhaa", sum := "50bfb29a4105595aad95a142e39001eb5bc82c149d367d6cb993dd62633576f4", func := "loop.example/g03015/laws.FnExactFactsIn", spec := "fnExactFactsIn", apart := false, narrowed := true }
def FnExactFactsInUptoSaid : Prop := fnExactFactsInUptoRow.holds Try.pinned (OpenSpec.upto fnExactFactsInSpec)

/-- 'laws.FnExactUsesFact', WHERE WHAT IT READS IS OF BULK AT MOST 1048576: true; the input reads as it did. -/
def fnExactUsesFactUptoRow : OpenClaim := { program := "ytnagcfnebfhnhaa", sum := "50bfb29a4105595aad95a142e39001eb5bc82c149d367d6cb993dd62633576f4", func := "loop.example/g03015/laws.FnExactUsesFact", spec := "fnExactUsesFact", apart := false, narrowed := true }
def FnExactUsesFactUptoSaid : Prop := fnExactUsesFactUptoRow.holds Try.pinned (OpenSpec.upto fnExactUsesFactSpec)

/-- 'laws.FnExactSameMatch', WHERE WHAT IT READS IS OF BULK AT MOST 1048576: true; the input reads as it did. -/
def fnExactSameMatchUptoRow : OpenClaim := { program := "ytnagcfnebfhnhaa", sum := "50bfb29a4105595aad95a142e39001eb5bc82c149d367d6cb993dd62633576f4", func := "loop.example/g03015/laws.FnExactSameMatch", spec := "fnExactSameMatch", apart := false, narrowed := true }
def FnExactSameMatchUptoSaid : Prop := fnExactSameMatchUptoRow.holds Try.pinned (OpenSpec.upto fnExactSameMatchSpec)

/-- 'laws.FnExactTimesOf', WHERE WHAT IT READS IS OF BULK AT MOST 1048576: true; the input reads as it did. -/
def fnExactTimesOfUptoRow : OpenClaim := { program := "ytnagcfnebfhnhaa", sum := "50bfb29a4105595aad95a142e39001eb5bc82c149d367d6cb993dd62633576f4", func := "loop.example/g03015/laws.FnExactTimesOf", spec := "fnExactTimesOf", apart := false, narrowed := true }
def FnExactTimesOfUptoSaid : Prop := fnExactTimesOfUptoRow.holds Try.pinned (OpenSpec.upto fnExactTimesOfSpec)

/-- 'laws.FnExactSameRule', WHERE WHAT IT READS IS OF BULK AT MOST 1048576: true; the input reads as it did. -/
def fnExactSameRuleUptoRow : OpenClaim := { program := "ytnagcfnebfhnhaa", sum := "50bfb29a4105595aad95a142e39001eb5bc82c149d367d6cb993dd62633576f4", func := "loop.example/g03015/laws.FnExactSameRule", spec := "fnExactSameRule", apart := false, narrowed := true }
def FnExactSameRuleUptoSaid : Prop := fnExactSameRuleUptoRow.holds Try.pinned (OpenSpec.upto fnExactSameRuleSpec)

/-- 'laws.FnExactHasFired', WHERE WHAT IT READS IS OF BULK AT MOST 1048576: true; the input reads as it did. -/
def fnExactHasFiredUptoRow : OpenClaim := { program := "ytnagcfnebfhnhaa", sum := "50bfb29a4105595aad95a142e39001eb5bc82c149d367d6cb993dd62633576f4", func := "loop.example/g03015/laws.FnExactHasFired", spec := "fnExactHasFired", apart := false, narrowed := true }
def FnExactHasFiredUptoSaid : Prop := fnExactHasFiredUptoRow.holds Try.pinned (OpenSpec.upto fnExactHasFiredSpec)

end Rows
end Go.Proofs.Ytnagcfnebfhnhaa

/-
  NARROWER THAN 'FOR EVERY INPUT', by the rows' own cells (each row's printed sentence says how): FnExactNodeLine: laid · FnExactFormatRule: laid · FnExactDeepestCond: laid · FnExactTokenCounts: laid · FnExactPlainTries: laid · FnExactIsMatch: laid.
  DERIVED. THE GIVEN ROWS OF THIS SEAT. 6 by the template 'for every input the law returns true; each argument reads behind the call as it read before'; 0 by the template 'total and deterministic' (their statements: YtdckcgjimblpkaaGreatDoorTotals.lean).
  GIVEN WITH THE SEED: the statements are not yours to turn. If you find one false, say at which input.
  Laid BY PROGRAM, IN A SANDBOX (cutbox-rows.mjs): the forced cells as the released guide's own fill.sh prints them over the translation 0b6c462dd495dc4a… (all of the seat's roots in one cut). By AI agents, Wed Nov 11 2026. No macro, syntax, notation, axiom, sorry.
-/
import Derived.Test.YtdckcgjimblpkaaGreatDoorChecked
import GoSem.Claim
import GoSem.ClaimJoined
import GoSem.ClaimMapViews
import Derived.JoinedTies
import Derived.KernelRfl
namespace Go.Proofs.YtdckcgjimblpkaaGreatDoor
/- THE CELL 'sum', in the pinned program and in every row, IS THE sha256 OF THE DUMP (.gsa) THAT YtdckcgjimblpkaaGreatDoorProg.lean LOADS. Nothing in Lean hashes anything: it is a label: what it is worth is what the hold of that sum in a sandbox is worth. -/
noncomputable def Tryz.pinned : Pinned := { name := "ytdckcgjimblpkaagreatdoor", sum := "0b6c462dd495dc4ab4620125aa46167b02fb5d1b2bb06524e76a944a37a23b23", checked := Tryz.checked }
namespace Rows
def none {H : Type} : Left H := { results := [], args := [] }

/- WHAT THE LISTED PACKAGE-LEVEL VARIABLES READ AS WHEN THE CALL BEGINS. Each datum BY PROGRAM (the guide's laid-datum.mjs) off the statement by which the dump's own 'gosem.cut.vars' lays the variable. In a bare row this is a premise. The card (YtdckcgjimblpkaaGreatDoorCards.lean) ties it to the program's text. -/
def laid_math_bits_deBruijn32tab {H : Type} : DataW H := .agg [.lit (.int .u8 0), .lit (.int .u8 1), .lit (.int .u8 28), .lit (.int .u8 2), .lit (.int .u8 29), .lit (.int .u8 14), .lit (.int .u8 24), .lit (.int .u8 3), .lit (.int .u8 30), .lit (.int .u8 22), .lit (.int .u8 20), .lit (.int .u8 15), .lit (.int .u8 25), .lit (.int .u8 17), .lit (.int .u8 4), .lit (.int .u8 8), .lit (.int .u8 31), .lit (.int .u8 27), .lit (.int .u8 13), .lit (.int .u8 23), .lit (.int .u8 21), .lit (.int .u8 19), .lit (.int .u8 16), .lit (.int .u8 7), .lit (.int .u8 26), .lit (.int .u8 12), .lit (.int .u8 18), .lit (.int .u8 6), .lit (.int .u8 11), .lit (.int .u8 5), .lit (.int .u8 10), .lit (.int .u8 9)]
def laid_math_bits_deBruijn64tab {H : Type} : DataW H := .agg [.lit (.int .u8 0), .lit (.int .u8 1), .lit (.int .u8 56), .lit (.int .u8 2), .lit (.int .u8 57), .lit (.int .u8 49), .lit (.int .u8 28), .lit (.int .u8 3), .lit (.int .u8 61), .lit (.int .u8 58), .lit (.int .u8 42), .lit (.int .u8 50), .lit (.int .u8 38), .lit (.int .u8 29), .lit (.int .u8 17), .lit (.int .u8 4), .lit (.int .u8 62), .lit (.int .u8 47), .lit (.int .u8 59), .lit (.int .u8 36), .lit (.int .u8 45), .lit (.int .u8 43), .lit (.int .u8 51), .lit (.int .u8 22), .lit (.int .u8 53), .lit (.int .u8 39), .lit (.int .u8 33), .lit (.int .u8 30), .lit (.int .u8 24), .lit (.int .u8 18), .lit (.int .u8 12), .lit (.int .u8 5), .lit (.int .u8 63), .lit (.int .u8 55), .lit (.int .u8 48), .lit (.int .u8 27), .lit (.int .u8 60), .lit (.int .u8 41), .lit (.int .u8 37), .lit (.int .u8 16), .lit (.int .u8 46), .lit (.int .u8 35), .lit (.int .u8 44), .lit (.int .u8 21), .lit (.int .u8 52), .lit (.int .u8 32), .lit (.int .u8 23), .lit (.int .u8 11), .lit (.int .u8 54), .lit (.int .u8 26), .lit (.int .u8 40), .lit (.int .u8 15), .lit (.int .u8 34), .lit (.int .u8 20), .lit (.int .u8 31), .lit (.int .u8 10), .lit (.int .u8 25), .lit (.int .u8 14), .lit (.int .u8 19), .lit (.int .u8 9), .lit (.int .u8 13), .lit (.int .u8 8), .lit (.int .u8 7), .lit (.int .u8 6)]
def laid_internal_strconv_uint64pow10 {H : Type} : DataW H := .agg [.lit (.int .u64 1), .lit (.int .u64 10), .lit (.int .u64 100), .lit (.int .u64 1000), .lit (.int .u64 10000), .lit (.int .u64 100000), .lit (.int .u64 1000000), .lit (.int .u64 10000000), .lit (.int .u64 100000000), .lit (.int .u64 1000000000), .lit (.int .u64 10000000000), .lit (.int .u64 100000000000), .lit (.int .u64 1000000000000), .lit (.int .u64 10000000000000), .lit (.int .u64 100000000000000), .lit (.int .u64 1000000000000000), .lit (.int .u64 10000000000000000), .lit (.int .u64 100000000000000000), .lit (.int .u64 1000000000000000000), .lit (.int .u64 10000000000000000000)]
def laid_loop_example_g03015_impl_testSigns {H : Type} : DataW H := .agg [.lit (.string [32, 61, 32]), .lit (.string [32, 33, 61, 32]), .lit (.string [32, 60, 32])]
def laid_strconv_ErrRange {H : Type} : DataW H := .iface "*errors.errorString" (.ptr (.agg [.lit (.string [118, 97, 108, 117, 101, 32, 111, 117, 116, 32, 111, 102, 32, 114, 97, 110, 103, 101])]))
def laid_strconv_ErrSyntax {H : Type} : DataW H := .iface "*errors.errorString" (.ptr (.agg [.lit (.string [105, 110, 118, 97, 108, 105, 100, 32, 115, 121, 110, 116, 97, 120])]))

/-- 'laws.FnExactNodeLine': WHATEVER THE INPUT: true; the input reads as it did. -/
def fnExactNodeLineSpec : ChangeSpec := { name := "fnExactNodeLine", vars := ["loop.example/g03015/impl.testSigns"], fn := fun _ => fun
  | [d1, d2, g1] => { results := [.lit (.bool true)], args := [d1, d2], vars := [g1] }
  | _ => none }
def fnExactNodeLineRow : OpenClaim := { program := "ytdckcgjimblpkaagreatdoor", sum := "0b6c462dd495dc4ab4620125aa46167b02fb5d1b2bb06524e76a944a37a23b23", func := "loop.example/g03015/laws.FnExactNodeLine", spec := "fnExactNodeLine", inPlace := ["internal/abi.NoEscape", "internal/bytealg.MakeNoZero"], recurses := true, named := ["internal/strconv.uint64pow10", "math/bits.deBruijn32tab", "math/bits.deBruijn64tab", "loop.example/g03015/impl.testSigns"], apart := false, laid := [("math/bits.deBruijn32tab", laid_math_bits_deBruijn32tab), ("math/bits.deBruijn64tab", laid_math_bits_deBruijn64tab), ("internal/strconv.uint64pow10", laid_internal_strconv_uint64pow10), ("loop.example/g03015/impl.testSigns", laid_loop_example_g03015_impl_testSigns)] }
def FnExactNodeLineSaid : Prop := fnExactNodeLineRow.holds Tryz.pinned (OpenSpec.ofChange fnExactNodeLineSpec)

/-- ITS FALSE NEIGHBOUR: 'it returns false'. Refute it at one input. -/
def fnExactNodeLineWrong : ChangeSpec := { name := "fnExactNodeLine", vars := ["loop.example/g03015/impl.testSigns"], fn := fun _ => fun
  | [d1, d2, g1] => { results := [.lit (.bool false)], args := [d1, d2], vars := [g1] }
  | _ => none }
def FnExactNodeLineWrongFalsely : Prop := fnExactNodeLineRow.holds Tryz.pinned (OpenSpec.ofChange fnExactNodeLineWrong)

/-- 'laws.FnExactFormatRule': WHATEVER THE INPUT: true; the input reads as it did. -/
def fnExactFormatRuleSpec : ChangeSpec := { name := "fnExactFormatRule", vars := ["loop.example/g03015/impl.testSigns"], fn := fun _ => fun
  | [d, g1] => { results := [.lit (.bool true)], args := [d], vars := [g1] }
  | _ => none }
def fnExactFormatRuleRow : OpenClaim := { program := "ytdckcgjimblpkaagreatdoor", sum := "0b6c462dd495dc4ab4620125aa46167b02fb5d1b2bb06524e76a944a37a23b23", func := "loop.example/g03015/laws.FnExactFormatRule", spec := "fnExactFormatRule", inPlace := ["internal/abi.NoEscape", "internal/bytealg.MakeNoZero"], recurses := true, named := ["loop.example/g03015/impl.testSigns", "internal/strconv.uint64pow10", "math/bits.deBruijn32tab", "math/bits.deBruijn64tab"], apart := false, laid := [("math/bits.deBruijn32tab", laid_math_bits_deBruijn32tab), ("math/bits.deBruijn64tab", laid_math_bits_deBruijn64tab), ("internal/strconv.uint64pow10", laid_internal_strconv_uint64pow10), ("loop.example/g03015/impl.testSigns", laid_loop_example_g03015_impl_testSigns)] }
def FnExactFormatRuleSaid : Prop := fnExactFormatRuleRow.holds Tryz.pinned (OpenSpec.ofChange fnExactFormatRuleSpec)

/-- ITS FALSE NEIGHBOUR: 'it returns false'. Refute it at one input. -/
def fnExactFormatRuleWrong : ChangeSpec := { name := "fnExactFormatRule", vars := ["loop.example/g03015/impl.testSigns"], fn := fun _ => fun
  | [d, g1] => { results := [.lit (.bool false)], args := [d], vars := [g1] }
  | _ => none }
def FnExactFormatRuleWrongFalsely : Prop := fnExactFormatRuleRow.holds Tryz.pinned (OpenSpec.ofChange fnExactFormatRuleWrong)

/-- 'laws.FnExactDeepestCond': WHATEVER THE INPUT: true; the input reads as it did. -/
def fnExactDeepestCondSpec : ChangeSpec := { name := "fnExactDeepestCond", fn := fun _ => fun
  | [d1, d2] => { results := [.lit (.bool true)], args := [d1, d2] }
  | _ => none }
def fnExactDeepestCondRow : OpenClaim := { program := "ytdckcgjimblpkaagreatdoor", sum := "0b6c462dd495dc4ab4620125aa46167b02fb5d1b2bb06524e76a944a37a23b23", func := "loop.example/g03015/laws.FnExactDeepestCond", spec := "fnExactDeepestCond", inPlace := ["internal/bytealg.abigen_runtime_cmpstring"], recurses := true, named := ["strconv.ErrSyntax", "strconv.ErrRange", "internal/strconv.uint64pow10", "math/bits.deBruijn32tab", "math/bits.deBruijn64tab"], apart := false, laid := [("math/bits.deBruijn32tab", laid_math_bits_deBruijn32tab), ("math/bits.deBruijn64tab", laid_math_bits_deBruijn64tab), ("internal/strconv.uint64pow10", laid_internal_strconv_uint64pow10), ("strconv.ErrRange", laid_strconv_ErrRange), ("strconv.ErrSyntax", laid_strconv_ErrSyntax)] }
def FnExactDeepestCondSaid : Prop := fnExactDeepestCondRow.holds Tryz.pinned (OpenSpec.ofChange fnExactDeepestCondSpec)

/-- ITS FALSE NEIGHBOUR: 'it returns false'. Refute it at one input. -/
def fnExactDeepestCondWrong : ChangeSpec := { name := "fnExactDeepestCond", fn := fun _ => fun
  | [d1, d2] => { results := [.lit (.bool false)], args := [d1, d2] }
  | _ => none }
def FnExactDeepestCondWrongFalsely : Prop := fnExactDeepestCondRow.holds Tryz.pinned (OpenSpec.ofChange fnExactDeepestCondWrong)

/-- 'laws.FnExactTokenCounts': WHATEVER THE INPUT: true; the input reads as it did. -/
def fnExactTokenCountsSpec : ChangeSpec := { name := "fnExactTokenCounts", fn := fun _ => fun
  | [d1, d2] => { results := [.lit (.bool true)], args := [d1, d2] }
  | _ => none }
def fnExactTokenCountsRow : OpenClaim := { program := "ytdckcgjimblpkaagreatdoor", sum := "0b6c462dd495dc4ab4620125aa46167b02fb5d1b2bb06524e76a944a37a23b23", func := "loop.example/g03015/laws.FnExactTokenCounts", spec := "fnExactTokenCounts", inPlace := ["internal/bytealg.abigen_runtime_cmpstring"], recurses := true, named := ["strconv.ErrSyntax", "strconv.ErrRange", "internal/strconv.uint64pow10", "math/bits.deBruijn32tab", "math/bits.deBruijn64tab"], apart := false, laid := [("math/bits.deBruijn32tab", laid_math_bits_deBruijn32tab), ("math/bits.deBruijn64tab", laid_math_bits_deBruijn64tab), ("internal/strconv.uint64pow10", laid_internal_strconv_uint64pow10), ("strconv.ErrRange", laid_strconv_ErrRange), ("strconv.ErrSyntax", laid_strconv_ErrSyntax)] }
def FnExactTokenCountsSaid : Prop := fnExactTokenCountsRow.holds Tryz.pinned (OpenSpec.ofChange fnExactTokenCountsSpec)

/-- ITS FALSE NEIGHBOUR: 'it returns false'. Refute it at one input. -/
def fnExactTokenCountsWrong : ChangeSpec := { name := "fnExactTokenCounts", fn := fun _ => fun
  | [d1, d2] => { results := [.lit (.bool false)], args := [d1, d2] }
  | _ => none }
def FnExactTokenCountsWrongFalsely : Prop := fnExactTokenCountsRow.holds Tryz.pinned (OpenSpec.ofChange fnExactTokenCountsWrong)

/-- 'laws.FnExactPlainTries': WHATEVER THE INPUT: true; the input reads as it did. -/
def fnExactPlainTriesSpec : ChangeSpec := { name := "fnExactPlainTries", fn := fun _ => fun
  | [d1, d2] => { results := [.lit (.bool true)], args := [d1, d2] }
  | _ => none }
def fnExactPlainTriesRow : OpenClaim := { program := "ytdckcgjimblpkaagreatdoor", sum := "0b6c462dd495dc4ab4620125aa46167b02fb5d1b2bb06524e76a944a37a23b23", func := "loop.example/g03015/laws.FnExactPlainTries", spec := "fnExactPlainTries", inPlace := ["internal/bytealg.abigen_runtime_cmpstring"], recurses := true, named := ["strconv.ErrSyntax", "strconv.ErrRange", "internal/strconv.uint64pow10", "math/bits.deBruijn32tab", "math/bits.deBruijn64tab"], apart := false, laid := [("math/bits.deBruijn32tab", laid_math_bits_deBruijn32tab), ("math/bits.deBruijn64tab", laid_math_bits_deBruijn64tab), ("internal/strconv.uint64pow10", laid_internal_strconv_uint64pow10), ("strconv.ErrRange", laid_strconv_ErrRange), ("strconv.ErrSyntax", laid_strconv_ErrSyntax)] }
def FnExactPlainTriesSaid : Prop := fnExactPlainTriesRow.holds Tryz.pinned (OpenSpec.ofChange fnExactPlainTriesSpec)

/-- ITS FALSE NEIGHBOUR: 'it returns false'. Refute it at one input. -/
def fnExactPlainTriesWrong : ChangeSpec := { name := "fnExactPlainTries", fn := fun _ => fun
  | [d1, d2] => { results := [.lit (.bool false)], args := [d1, d2] }
  | _ => none }
def FnExactPlainTriesWrongFalsely : Prop := fnExactPlainTriesRow.holds Tryz.pinned (OpenSpec.ofChange fnExactPlainTriesWrong)

/-- 'laws.FnExactIsMatch': WHATEVER THE INPUT: true; the input reads as it did. -/
def fnExactIsMatchSpec : ChangeSpec := { name := "fnExactIsMatch", fn := fun _ => fun
  | [d1, d2, d3] => { results := [.lit (.bool true)], args := [d1, d2, d3] }
  | _ => none }
def fnExactIsMatchRow : OpenClaim := { program := "ytdckcgjimblpkaagreatdoor", sum := "0b6c462dd495dc4ab4620125aa46167b02fb5d1b2bb06524e76a944a37a23b23", func := "loop.example/g03015/laws.FnExactIsMatch", spec := "fnExactIsMatch", inPlace := ["internal/bytealg.abigen_runtime_cmpstring"], recurses := true, named := ["strconv.ErrSyntax", "strconv.ErrRange", "internal/strconv.uint64pow10", "math/bits.deBruijn32tab", "math/bits.deBruijn64tab"], apart := false, laid := [("math/bits.deBruijn32tab", laid_math_bits_deBruijn32tab), ("math/bits.deBruijn64tab", laid_math_bits_deBruijn64tab), ("internal/strconv.uint64pow10", laid_internal_strconv_uint64pow10), ("strconv.ErrRange", laid_strconv_ErrRange), ("strconv.ErrSyntax", laid_strconv_ErrSyntax)] }
def FnExactIsMatchSaid : Prop := fnExactIsMatchRow.holds Tryz.pinned (OpenSpec.ofChange fnExactIsMatchSpec)

/-- ITS FALSE NEIGHBOUR: 'it returns false'. Refute it at one input. -/
def fnExactIsMatchWrong : ChangeSpec := { name := "fnExactIsMatch", fn := fun _ => fun
  | [d1, d2, d3] => { results := [.lit (.bool false)], args := [d1, d2, d3] }
  | _ => none }
def FnExactIsMatchWrongFalsely : Prop := fnExactIsMatchRow.holds Tryz.pinned (OpenSpec.ofChange fnExactIsMatchWrong)

/- THE SECOND FORM. 'bulk': how many values and letters a reading holds, each counted each time it is reached (what is shared counts as often as it is met; a slice's spare places count too). A statement '..UptoSaid' is the law's where the arguments, and the package variables that the reading takes, are together of bulk at most 1048576: NARROWER than '..Said'. Prove '..Said' where nothing that the law and all that it calls make is longer than what came in: it says more and counts as full. Else prove '..UptoSaid'. A law counts once. -/
mutual
def uptoBulk {H : Type} : DataW H → Nat
  | .lit (.string bytes) => bytes.length + 1
  | .lit _ => 1
  | .nil => 1
  | .ptr d => uptoBulk d + 1
  | .slice elems spare => uptoBulkAll elems + uptoBulkAll spare + 1
  | .agg parts => uptoBulkAll parts + 1
  | .iface _ d => uptoBulk d + 1
  | .map entries => uptoBulkEntries entries + 1
  | .held _ => 1
def uptoBulkAll {H : Type} : List (DataW H) → Nat
  | [] => 0
  | d :: r => uptoBulk d + uptoBulkAll r
def uptoBulkEntries {H : Type} : List (Lit × DataW H) → Nat
  | [] => 0
  | x :: r => uptoBulkEntry x + uptoBulkEntries r
def uptoBulkEntry {H : Type} : Lit × DataW H → Nat
  | (.string bytes, d) => bytes.length + uptoBulk d + 1
  | (_, d) => uptoBulk d + 1
 end
def uptoSmall : (H : Type) → List (DataW H) → Bool := fun _ ds => decide (uptoBulkAll ds ≤ 1048576)
def OpenSpec.upto (s : _root_.Go.ChangeSpec) : _root_.Go.OpenSpec := { _root_.Go.OpenSpec.ofChange s with cond := some uptoSmall }

/-- 'laws.FnExactNodeLine', WHERE WHAT IT READS IS OF BULK AT MOST 1048576: true; the input reads as it did. -/
def fnExactNodeLineUptoRow : OpenClaim := { program := "ytdckcgjimblpkaagreatdoor", sum := "0b6c462dd495dc4ab4620125aa46167b02fb5d1b2bb06524e76a944a37a23b23", func := "loop.example/g03015/laws.FnExactNodeLine", spec := "fnExactNodeLine", inPlace := ["internal/abi.NoEscape", "internal/bytealg.MakeNoZero"], recurses := true, named := ["internal/strconv.uint64pow10", "math/bits.deBruijn32tab", "math/bits.deBruijn64tab", "loop.example/g03015/impl.testSigns"], apart := false, laid := [("math/bits.deBruijn32tab", laid_math_bits_deBruijn32tab), ("math/bits.deBruijn64tab", laid_math_bits_deBruijn64tab), ("internal/strconv.uint64pow10", laid_internal_strconv_uint64pow10), ("loop.example/g03015/impl.testSigns", laid_loop_example_g03015_impl_testSigns)], narrowed := true }
def FnExactNodeLineUptoSaid : Prop := fnExactNodeLineUptoRow.holds Tryz.pinned (OpenSpec.upto fnExactNodeLineSpec)

/-- 'laws.FnExactFormatRule', WHERE WHAT IT READS IS OF BULK AT MOST 1048576: true; the input reads as it did. -/
def fnExactFormatRuleUptoRow : OpenClaim := { program := "ytdckcgjimblpkaagreatdoor", sum := "0b6c462dd495dc4ab4620125aa46167b02fb5d1b2bb06524e76a944a37a23b23", func := "loop.example/g03015/laws.FnExactFormatRule", spec := "fnExactFormatRule", inPlace := ["internal/abi.NoEscape", "internal/bytealg.MakeNoZero"], recurses := true, named := ["loop.example/g03015/impl.testSigns", "internal/strconv.uint64pow10", "math/bits.deBruijn32tab", "math/bits.deBruijn64tab"], apart := false, laid := [("math/bits.deBruijn32tab", laid_math_bits_deBruijn32tab), ("math/bits.deBruijn64tab", laid_math_bits_deBruijn64tab), ("internal/strconv.uint64pow10", laid_internal_strconv_uint64pow10), ("loop.example/g03015/impl.testSigns", laid_loop_example_g03015_impl_testSigns)], narrowed := true }
def FnExactFormatRuleUptoSaid : Prop := fnExactFormatRuleUptoRow.holds Tryz.pinned (OpenSpec.upto fnExactFormatRuleSpec)

/-- 'laws.FnExactDeepestCond', WHERE WHAT IT READS IS OF BULK AT MOST 1048576: true; the input reads as it did. -/
def fnExactDeepestCondUptoRow : OpenClaim := { program := "ytdckcgjimblpkaagreatdoor", sum := "0b6c462dd495dc4ab4620125aa46167b02fb5d1b2bb06524e76a944a37a23b23", func := "loop.example/g03015/laws.FnExactDeepestCond", spec := "fnExactDeepestCond", inPlace := ["internal/bytealg.abigen_runtime_cmpstring"], recurses := true, named := ["strconv.ErrSyntax", "strconv.ErrRange", "internal/strconv.uint64pow10", "math/bits.deBruijn32tab", "math/bits.deBruijn64tab"], apart := false, laid := [("math/bits.deBruijn32tab", laid_math_bits_deBruijn32tab), ("math/bits.deBruijn64tab", laid_math_bits_deBruijn64tab), ("internal/strconv.uint64pow10", laid_internal_strconv_uint64pow10), ("strconv.ErrRange", laid_strconv_ErrRange), ("strconv.ErrSyntax", laid_strconv_ErrSyntax)], narrowed := true }
def FnExactDeepestCondUptoSaid : Prop := fnExactDeepestCondUptoRow.holds Tryz.pinned (OpenSpec.upto fnExactDeepestCondSpec)

/-- 'laws.FnExactTokenCounts', WHERE WHAT IT READS IS OF BULK AT MOST 1048576: true; the input reads as it did. -/
def fnExactTokenCountsUptoRow : OpenClaim := { program := "ytdckcgjimblpkaagreatdoor", sum := "0b6c462dd495dc4ab4620125aa46167b02fb5d1b2bb06524e76a944a37a23b23", func := "loop.example/g03015/laws.FnExactTokenCounts", spec := "fnExactTokenCounts", inPlace := ["internal/bytealg.abigen_runtime_cmpstring"], recurses := true, named := ["strconv.ErrSyntax", "strconv.ErrRange", "internal/strconv.uint64pow10", "math/bits.deBruijn32tab", "math/bits.deBruijn64tab"], apart := false, laid := [("math/bits.deBruijn32tab", laid_math_bits_deBruijn32tab), ("math/bits.deBruijn64tab", laid_math_bits_deBruijn64tab), ("internal/strconv.uint64pow10", laid_internal_strconv_uint64pow10), ("strconv.ErrRange", laid_strconv_ErrRange), ("strconv.ErrSyntax", laid_strconv_ErrSyntax)], narrowed := true }
def FnExactTokenCountsUptoSaid : Prop := fnExactTokenCountsUptoRow.holds Tryz.pinned (OpenSpec.upto fnExactTokenCountsSpec)

/-- 'laws.FnExactPlainTries', WHERE WHAT IT READS IS OF BULK AT MOST 1048576: true; the input reads as it did. -/
def fnExactPlainTriesUptoRow : OpenClaim := { program := "ytdckcgjimblpkaagreatdoor", sum := "0b6c462dd495dc4ab4620125aa46167b02fb5d1b2bb06524e76a944a37a23b23", func := "loop.example/g03015/laws.FnExactPlainTries", spec := "fnExactPlainTries", inPlace := ["internal/bytealg.abigen_runtime_cmpstring"], recurses := true, named := ["strconv.ErrSyntax", "strconv.ErrRange", "internal/strconv.uint64pow10", "math/bits.deBruijn32tab", "math/bits.deBruijn64tab"], apart := false, laid := [("math/bits.deBruijn32tab", laid_math_bits_deBruijn32tab), ("math/bits.deBruijn64tab", laid_math_bits_deBruijn64tab), ("internal/strconv.uint64pow10", laid_internal_strconv_uint64pow10), ("strconv.ErrRange", laid_strconv_ErrRange), ("strconv.ErrSyntax", laid_strconv_ErrSyntax)], narrowed := true }
def FnExactPlainTriesUptoSaid : Prop := fnExactPlainTriesUptoRow.holds Tryz.pinned (OpenSpec.upto fnExactPlainTriesSpec)

/-- 'laws.FnExactIsMatch', WHERE WHAT IT READS IS OF BULK AT MOST 1048576: true; the input reads as it did. -/
def fnExactIsMatchUptoRow : OpenClaim := { program := "ytdckcgjimblpkaagreatdoor", sum := "0b6c462dd495dc4ab4620125aa46167b02fb5d1b2bb06524e76a944a37a23b23", func := "loop.example/g03015/laws.FnExactIsMatch", spec := "fnExactIsMatch", inPlace := ["internal/bytealg.abigen_runtime_cmpstring"], recurses := true, named := ["strconv.ErrSyntax", "strconv.ErrRange", "internal/strconv.uint64pow10", "math/bits.deBruijn32tab", "math/bits.deBruijn64tab"], apart := false, laid := [("math/bits.deBruijn32tab", laid_math_bits_deBruijn32tab), ("math/bits.deBruijn64tab", laid_math_bits_deBruijn64tab), ("internal/strconv.uint64pow10", laid_internal_strconv_uint64pow10), ("strconv.ErrRange", laid_strconv_ErrRange), ("strconv.ErrSyntax", laid_strconv_ErrSyntax)], narrowed := true }
def FnExactIsMatchUptoSaid : Prop := fnExactIsMatchUptoRow.holds Tryz.pinned (OpenSpec.upto fnExactIsMatchSpec)

end Rows
end Go.Proofs.YtdckcgjimblpkaaGreatDoor

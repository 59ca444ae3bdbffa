/-
  NARROWER THAN 'FOR EVERY INPUT', by the rows' own cells (each row's printed sentence says how): FnExactFeedNetwork: laid · FnExactChangesOf: laid · FnExactRebuildNetwork: laid · FnExactTriesFor: laid · FnExactIsNetwork: laid · FnExactConflictSet: laid · FnExactTakeFromNetwork: laid · FnExactPutInNetwork: laid.
  DERIVED. THE GIVEN ROWS OF THIS SEAT. 8 by the template 'for every input the law returns true; each argument reads behind the call as it read before'; 0 by the template 'total and deterministic' (their statements: YtbeaohmbmfjabaaGreatDoorTotals.lean).
  GIVEN WITH THE SEED: the statements are not yours to turn. If you find one false, say at which input.
  Laid BY PROGRAM, IN A SANDBOX (cutbox-rows.mjs): the forced cells as the released guide's own fill.sh prints them over the translation d054acdd4303ef83… (all of the seat's roots in one cut). By AI agents, Wed Nov 11 2026. No macro, syntax, notation, axiom, sorry.
-/
import Derived.Test.YtbeaohmbmfjabaaGreatDoorChecked
import GoSem.Claim
import GoSem.ClaimJoined
import GoSem.ClaimMapViews
import Derived.JoinedTies
import Derived.KernelRfl
namespace Go.Proofs.YtbeaohmbmfjabaaGreatDoor
/- THE CELL 'sum', in the pinned program and in every row, IS THE sha256 OF THE DUMP (.gsa) THAT YtbeaohmbmfjabaaGreatDoorProg.lean LOADS. Nothing in Lean hashes anything: it is a label: what it is worth is what the hold of that sum in a sandbox is worth. -/
noncomputable def Tryz.pinned : Pinned := { name := "ytbeaohmbmfjabaagreatdoor", sum := "d054acdd4303ef83965b9c90d40fa137f9fc4f744900c6b2f5475275c5708e0f", checked := Tryz.checked }
namespace Rows
def none {H : Type} : Left H := { results := [], args := [] }

/- WHAT THE LISTED PACKAGE-LEVEL VARIABLES READ AS WHEN THE CALL BEGINS. Each datum BY PROGRAM (the guide's laid-datum.mjs) off the statement by which the dump's own 'gosem.cut.vars' lays the variable. In a bare row this is a premise. The card (YtbeaohmbmfjabaaGreatDoorCards.lean) ties it to the program's text. -/
def laid_math_bits_deBruijn32tab {H : Type} : DataW H := .agg [.lit (.int .u8 0), .lit (.int .u8 1), .lit (.int .u8 28), .lit (.int .u8 2), .lit (.int .u8 29), .lit (.int .u8 14), .lit (.int .u8 24), .lit (.int .u8 3), .lit (.int .u8 30), .lit (.int .u8 22), .lit (.int .u8 20), .lit (.int .u8 15), .lit (.int .u8 25), .lit (.int .u8 17), .lit (.int .u8 4), .lit (.int .u8 8), .lit (.int .u8 31), .lit (.int .u8 27), .lit (.int .u8 13), .lit (.int .u8 23), .lit (.int .u8 21), .lit (.int .u8 19), .lit (.int .u8 16), .lit (.int .u8 7), .lit (.int .u8 26), .lit (.int .u8 12), .lit (.int .u8 18), .lit (.int .u8 6), .lit (.int .u8 11), .lit (.int .u8 5), .lit (.int .u8 10), .lit (.int .u8 9)]
def laid_math_bits_deBruijn64tab {H : Type} : DataW H := .agg [.lit (.int .u8 0), .lit (.int .u8 1), .lit (.int .u8 56), .lit (.int .u8 2), .lit (.int .u8 57), .lit (.int .u8 49), .lit (.int .u8 28), .lit (.int .u8 3), .lit (.int .u8 61), .lit (.int .u8 58), .lit (.int .u8 42), .lit (.int .u8 50), .lit (.int .u8 38), .lit (.int .u8 29), .lit (.int .u8 17), .lit (.int .u8 4), .lit (.int .u8 62), .lit (.int .u8 47), .lit (.int .u8 59), .lit (.int .u8 36), .lit (.int .u8 45), .lit (.int .u8 43), .lit (.int .u8 51), .lit (.int .u8 22), .lit (.int .u8 53), .lit (.int .u8 39), .lit (.int .u8 33), .lit (.int .u8 30), .lit (.int .u8 24), .lit (.int .u8 18), .lit (.int .u8 12), .lit (.int .u8 5), .lit (.int .u8 63), .lit (.int .u8 55), .lit (.int .u8 48), .lit (.int .u8 27), .lit (.int .u8 60), .lit (.int .u8 41), .lit (.int .u8 37), .lit (.int .u8 16), .lit (.int .u8 46), .lit (.int .u8 35), .lit (.int .u8 44), .lit (.int .u8 21), .lit (.int .u8 52), .lit (.int .u8 32), .lit (.int .u8 23), .lit (.int .u8 11), .lit (.int .u8 54), .lit (.int .u8 26), .lit (.int .u8 40), .lit (.int .u8 15), .lit (.int .u8 34), .lit (.int .u8 20), .lit (.int .u8 31), .lit (.int .u8 10), .lit (.int .u8 25), .lit (.int .u8 14), .lit (.int .u8 19), .lit (.int .u8 9), .lit (.int .u8 13), .lit (.int .u8 8), .lit (.int .u8 7), .lit (.int .u8 6)]
def laid_internal_strconv_uint64pow10 {H : Type} : DataW H := .agg [.lit (.int .u64 1), .lit (.int .u64 10), .lit (.int .u64 100), .lit (.int .u64 1000), .lit (.int .u64 10000), .lit (.int .u64 100000), .lit (.int .u64 1000000), .lit (.int .u64 10000000), .lit (.int .u64 100000000), .lit (.int .u64 1000000000), .lit (.int .u64 10000000000), .lit (.int .u64 100000000000), .lit (.int .u64 1000000000000), .lit (.int .u64 10000000000000), .lit (.int .u64 100000000000000), .lit (.int .u64 1000000000000000), .lit (.int .u64 10000000000000000), .lit (.int .u64 100000000000000000), .lit (.int .u64 1000000000000000000), .lit (.int .u64 10000000000000000000)]
def laid_strconv_ErrRange {H : Type} : DataW H := .iface "*errors.errorString" (.ptr (.agg [.lit (.string [118, 97, 108, 117, 101, 32, 111, 117, 116, 32, 111, 102, 32, 114, 97, 110, 103, 101])]))
def laid_strconv_ErrSyntax {H : Type} : DataW H := .iface "*errors.errorString" (.ptr (.agg [.lit (.string [105, 110, 118, 97, 108, 105, 100, 32, 115, 121, 110, 116, 97, 120])]))

/-- 'laws.FnExactFeedNetwork': WHATEVER THE INPUT: true; the input reads as it did. -/
def fnExactFeedNetworkSpec : ChangeSpec := { name := "fnExactFeedNetwork", fn := fun _ => fun
  | [d1, d2] => { results := [.lit (.bool true)], args := [d1, d2] }
  | _ => none }
def fnExactFeedNetworkRow : OpenClaim := { program := "ytbeaohmbmfjabaagreatdoor", sum := "d054acdd4303ef83965b9c90d40fa137f9fc4f744900c6b2f5475275c5708e0f", func := "loop.example/g03015/laws.FnExactFeedNetwork", spec := "fnExactFeedNetwork", inPlace := ["internal/bytealg.abigen_runtime_cmpstring"], recurses := true, named := ["strconv.ErrSyntax", "strconv.ErrRange", "internal/strconv.uint64pow10", "math/bits.deBruijn32tab", "math/bits.deBruijn64tab"], apart := false, laid := [("math/bits.deBruijn32tab", laid_math_bits_deBruijn32tab), ("math/bits.deBruijn64tab", laid_math_bits_deBruijn64tab), ("internal/strconv.uint64pow10", laid_internal_strconv_uint64pow10), ("strconv.ErrRange", laid_strconv_ErrRange), ("strconv.ErrSyntax", laid_strconv_ErrSyntax)] }
def FnExactFeedNetworkSaid : Prop := fnExactFeedNetworkRow.holds Tryz.pinned (OpenSpec.ofChange fnExactFeedNetworkSpec)

/-- ITS FALSE NEIGHBOUR: 'it returns false'. Refute it at one input. -/
def fnExactFeedNetworkWrong : ChangeSpec := { name := "fnExactFeedNetwork", fn := fun _ => fun
  | [d1, d2] => { results := [.lit (.bool false)], args := [d1, d2] }
  | _ => none }
def FnExactFeedNetworkWrongFalsely : Prop := fnExactFeedNetworkRow.holds Tryz.pinned (OpenSpec.ofChange fnExactFeedNetworkWrong)

/-- 'laws.FnExactChangesOf': WHATEVER THE INPUT: true; the input reads as it did. -/
def fnExactChangesOfSpec : ChangeSpec := { name := "fnExactChangesOf", fn := fun _ => fun
  | [d1, d2, d3] => { results := [.lit (.bool true)], args := [d1, d2, d3] }
  | _ => none }
def fnExactChangesOfRow : OpenClaim := { program := "ytbeaohmbmfjabaagreatdoor", sum := "d054acdd4303ef83965b9c90d40fa137f9fc4f744900c6b2f5475275c5708e0f", func := "loop.example/g03015/laws.FnExactChangesOf", spec := "fnExactChangesOf", inPlace := ["internal/bytealg.abigen_runtime_cmpstring"], recurses := true, named := ["strconv.ErrSyntax", "strconv.ErrRange", "internal/strconv.uint64pow10", "math/bits.deBruijn32tab", "math/bits.deBruijn64tab"], apart := false, laid := [("math/bits.deBruijn32tab", laid_math_bits_deBruijn32tab), ("math/bits.deBruijn64tab", laid_math_bits_deBruijn64tab), ("internal/strconv.uint64pow10", laid_internal_strconv_uint64pow10), ("strconv.ErrRange", laid_strconv_ErrRange), ("strconv.ErrSyntax", laid_strconv_ErrSyntax)] }
def FnExactChangesOfSaid : Prop := fnExactChangesOfRow.holds Tryz.pinned (OpenSpec.ofChange fnExactChangesOfSpec)

/-- ITS FALSE NEIGHBOUR: 'it returns false'. Refute it at one input. -/
def fnExactChangesOfWrong : ChangeSpec := { name := "fnExactChangesOf", fn := fun _ => fun
  | [d1, d2, d3] => { results := [.lit (.bool false)], args := [d1, d2, d3] }
  | _ => none }
def FnExactChangesOfWrongFalsely : Prop := fnExactChangesOfRow.holds Tryz.pinned (OpenSpec.ofChange fnExactChangesOfWrong)

/-- 'laws.FnExactRebuildNetwork': WHATEVER THE INPUT: true; the input reads as it did. -/
def fnExactRebuildNetworkSpec : ChangeSpec := { name := "fnExactRebuildNetwork", fn := fun _ => fun
  | [d] => { results := [.lit (.bool true)], args := [d] }
  | _ => none }
def fnExactRebuildNetworkRow : OpenClaim := { program := "ytbeaohmbmfjabaagreatdoor", sum := "d054acdd4303ef83965b9c90d40fa137f9fc4f744900c6b2f5475275c5708e0f", func := "loop.example/g03015/laws.FnExactRebuildNetwork", spec := "fnExactRebuildNetwork", inPlace := ["internal/bytealg.abigen_runtime_cmpstring"], recurses := true, named := ["strconv.ErrSyntax", "strconv.ErrRange", "internal/strconv.uint64pow10", "math/bits.deBruijn32tab", "math/bits.deBruijn64tab"], apart := false, laid := [("math/bits.deBruijn32tab", laid_math_bits_deBruijn32tab), ("math/bits.deBruijn64tab", laid_math_bits_deBruijn64tab), ("internal/strconv.uint64pow10", laid_internal_strconv_uint64pow10), ("strconv.ErrRange", laid_strconv_ErrRange), ("strconv.ErrSyntax", laid_strconv_ErrSyntax)] }
def FnExactRebuildNetworkSaid : Prop := fnExactRebuildNetworkRow.holds Tryz.pinned (OpenSpec.ofChange fnExactRebuildNetworkSpec)

/-- ITS FALSE NEIGHBOUR: 'it returns false'. Refute it at one input. -/
def fnExactRebuildNetworkWrong : ChangeSpec := { name := "fnExactRebuildNetwork", fn := fun _ => fun
  | [d] => { results := [.lit (.bool false)], args := [d] }
  | _ => none }
def FnExactRebuildNetworkWrongFalsely : Prop := fnExactRebuildNetworkRow.holds Tryz.pinned (OpenSpec.ofChange fnExactRebuildNetworkWrong)

/-- 'laws.FnExactTriesFor': WHATEVER THE INPUT: true; the input reads as it did. -/
def fnExactTriesForSpec : ChangeSpec := { name := "fnExactTriesFor", fn := fun _ => fun
  | [d1, d2] => { results := [.lit (.bool true)], args := [d1, d2] }
  | _ => none }
def fnExactTriesForRow : OpenClaim := { program := "ytbeaohmbmfjabaagreatdoor", sum := "d054acdd4303ef83965b9c90d40fa137f9fc4f744900c6b2f5475275c5708e0f", func := "loop.example/g03015/laws.FnExactTriesFor", spec := "fnExactTriesFor", inPlace := ["internal/bytealg.abigen_runtime_cmpstring"], recurses := true, named := ["strconv.ErrSyntax", "strconv.ErrRange", "internal/strconv.uint64pow10", "math/bits.deBruijn32tab", "math/bits.deBruijn64tab"], apart := false, laid := [("math/bits.deBruijn32tab", laid_math_bits_deBruijn32tab), ("math/bits.deBruijn64tab", laid_math_bits_deBruijn64tab), ("internal/strconv.uint64pow10", laid_internal_strconv_uint64pow10), ("strconv.ErrRange", laid_strconv_ErrRange), ("strconv.ErrSyntax", laid_strconv_ErrSyntax)] }
def FnExactTriesForSaid : Prop := fnExactTriesForRow.holds Tryz.pinned (OpenSpec.ofChange fnExactTriesForSpec)

/-- ITS FALSE NEIGHBOUR: 'it returns false'. Refute it at one input. -/
def fnExactTriesForWrong : ChangeSpec := { name := "fnExactTriesFor", fn := fun _ => fun
  | [d1, d2] => { results := [.lit (.bool false)], args := [d1, d2] }
  | _ => none }
def FnExactTriesForWrongFalsely : Prop := fnExactTriesForRow.holds Tryz.pinned (OpenSpec.ofChange fnExactTriesForWrong)

/-- 'laws.FnExactIsNetwork': WHATEVER THE INPUT: true; the input reads as it did. -/
def fnExactIsNetworkSpec : ChangeSpec := { name := "fnExactIsNetwork", fn := fun _ => fun
  | [d] => { results := [.lit (.bool true)], args := [d] }
  | _ => none }
def fnExactIsNetworkRow : OpenClaim := { program := "ytbeaohmbmfjabaagreatdoor", sum := "d054acdd4303ef83965b9c90d40fa137f9fc4f744900c6b2f5475275c5708e0f", func := "loop.example/g03015/laws.FnExactIsNetwork", spec := "fnExactIsNetwork", inPlace := ["internal/bytealg.abigen_runtime_cmpstring"], recurses := true, named := ["strconv.ErrSyntax", "strconv.ErrRange", "internal/strconv.uint64pow10", "math/bits.deBruijn32tab", "math/bits.deBruijn64tab"], apart := false, laid := [("math/bits.deBruijn32tab", laid_math_bits_deBruijn32tab), ("math/bits.deBruijn64tab", laid_math_bits_deBruijn64tab), ("internal/strconv.uint64pow10", laid_internal_strconv_uint64pow10), ("strconv.ErrRange", laid_strconv_ErrRange), ("strconv.ErrSyntax", laid_strconv_ErrSyntax)] }
def FnExactIsNetworkSaid : Prop := fnExactIsNetworkRow.holds Tryz.pinned (OpenSpec.ofChange fnExactIsNetworkSpec)

/-- ITS FALSE NEIGHBOUR: 'it returns false'. Refute it at one input. -/
def fnExactIsNetworkWrong : ChangeSpec := { name := "fnExactIsNetwork", fn := fun _ => fun
  | [d] => { results := [.lit (.bool false)], args := [d] }
  | _ => none }
def FnExactIsNetworkWrongFalsely : Prop := fnExactIsNetworkRow.holds Tryz.pinned (OpenSpec.ofChange fnExactIsNetworkWrong)

/-- 'laws.FnExactConflictSet': WHATEVER THE INPUT: true; the input reads as it did. -/
def fnExactConflictSetSpec : ChangeSpec := { name := "fnExactConflictSet", fn := fun _ => fun
  | [d] => { results := [.lit (.bool true)], args := [d] }
  | _ => none }
def fnExactConflictSetRow : OpenClaim := { program := "ytbeaohmbmfjabaagreatdoor", sum := "d054acdd4303ef83965b9c90d40fa137f9fc4f744900c6b2f5475275c5708e0f", func := "loop.example/g03015/laws.FnExactConflictSet", spec := "fnExactConflictSet", inPlace := ["internal/bytealg.abigen_runtime_cmpstring"], recurses := true, named := ["strconv.ErrSyntax", "strconv.ErrRange", "internal/strconv.uint64pow10", "math/bits.deBruijn32tab", "math/bits.deBruijn64tab"], apart := false, laid := [("math/bits.deBruijn32tab", laid_math_bits_deBruijn32tab), ("math/bits.deBruijn64tab", laid_math_bits_deBruijn64tab), ("internal/strconv.uint64pow10", laid_internal_strconv_uint64pow10), ("strconv.ErrRange", laid_strconv_ErrRange), ("strconv.ErrSyntax", laid_strconv_ErrSyntax)] }
def FnExactConflictSetSaid : Prop := fnExactConflictSetRow.holds Tryz.pinned (OpenSpec.ofChange fnExactConflictSetSpec)

/-- ITS FALSE NEIGHBOUR: 'it returns false'. Refute it at one input. -/
def fnExactConflictSetWrong : ChangeSpec := { name := "fnExactConflictSet", fn := fun _ => fun
  | [d] => { results := [.lit (.bool false)], args := [d] }
  | _ => none }
def FnExactConflictSetWrongFalsely : Prop := fnExactConflictSetRow.holds Tryz.pinned (OpenSpec.ofChange fnExactConflictSetWrong)

/-- 'laws.FnExactTakeFromNetwork': WHATEVER THE INPUT: true; the input reads as it did. -/
def fnExactTakeFromNetworkSpec : ChangeSpec := { name := "fnExactTakeFromNetwork", fn := fun _ => fun
  | [d1, d2] => { results := [.lit (.bool true)], args := [d1, d2] }
  | _ => none }
def fnExactTakeFromNetworkRow : OpenClaim := { program := "ytbeaohmbmfjabaagreatdoor", sum := "d054acdd4303ef83965b9c90d40fa137f9fc4f744900c6b2f5475275c5708e0f", func := "loop.example/g03015/laws.FnExactTakeFromNetwork", spec := "fnExactTakeFromNetwork", inPlace := ["internal/bytealg.abigen_runtime_cmpstring"], recurses := true, named := ["strconv.ErrSyntax", "strconv.ErrRange", "internal/strconv.uint64pow10", "math/bits.deBruijn32tab", "math/bits.deBruijn64tab"], apart := false, laid := [("math/bits.deBruijn32tab", laid_math_bits_deBruijn32tab), ("math/bits.deBruijn64tab", laid_math_bits_deBruijn64tab), ("internal/strconv.uint64pow10", laid_internal_strconv_uint64pow10), ("strconv.ErrRange", laid_strconv_ErrRange), ("strconv.ErrSyntax", laid_strconv_ErrSyntax)] }
def FnExactTakeFromNetworkSaid : Prop := fnExactTakeFromNetworkRow.holds Tryz.pinned (OpenSpec.ofChange fnExactTakeFromNetworkSpec)

/-- ITS FALSE NEIGHBOUR: 'it returns false'. Refute it at one input. -/
def fnExactTakeFromNetworkWrong : ChangeSpec := { name := "fnExactTakeFromNetwork", fn := fun _ => fun
  | [d1, d2] => { results := [.lit (.bool false)], args := [d1, d2] }
  | _ => none }
def FnExactTakeFromNetworkWrongFalsely : Prop := fnExactTakeFromNetworkRow.holds Tryz.pinned (OpenSpec.ofChange fnExactTakeFromNetworkWrong)

/-- 'laws.FnExactPutInNetwork': WHATEVER THE INPUT: true; the input reads as it did. -/
def fnExactPutInNetworkSpec : ChangeSpec := { name := "fnExactPutInNetwork", fn := fun _ => fun
  | [d1, d2] => { results := [.lit (.bool true)], args := [d1, d2] }
  | _ => none }
def fnExactPutInNetworkRow : OpenClaim := { program := "ytbeaohmbmfjabaagreatdoor", sum := "d054acdd4303ef83965b9c90d40fa137f9fc4f744900c6b2f5475275c5708e0f", func := "loop.example/g03015/laws.FnExactPutInNetwork", spec := "fnExactPutInNetwork", inPlace := ["internal/bytealg.abigen_runtime_cmpstring"], recurses := true, named := ["strconv.ErrSyntax", "strconv.ErrRange", "internal/strconv.uint64pow10", "math/bits.deBruijn32tab", "math/bits.deBruijn64tab"], apart := false, laid := [("math/bits.deBruijn32tab", laid_math_bits_deBruijn32tab), ("math/bits.deBruijn64tab", laid_math_bits_deBruijn64tab), ("internal/strconv.uint64pow10", laid_internal_strconv_uint64pow10), ("strconv.ErrRange", laid_strconv_ErrRange), ("strconv.ErrSyntax", laid_strconv_ErrSyntax)] }
def FnExactPutInNetworkSaid : Prop := fnExactPutInNetworkRow.holds Tryz.pinned (OpenSpec.ofChange fnExactPutInNetworkSpec)

/-- ITS FALSE NEIGHBOUR: 'it returns false'. Refute it at one input. -/
def fnExactPutInNetworkWrong : ChangeSpec := { name := "fnExactPutInNetwork", fn := fun _ => fun
  | [d1, d2] => { results := [.lit (.bool false)], args := [d1, d2] }
  | _ => none }
def FnExactPutInNetworkWrongFalsely : Prop := fnExactPutInNetworkRow.holds Tryz.pinned (OpenSpec.ofChange fnExactPutInNetworkWrong)

/- THE SECOND FORM. 'bulk': how many values and letters a reading holds, each counted each time it is reached (what is shared counts as often as it is met; a slice's spare places count too). A statement '..UptoSaid' is the law's where the arguments, and the package variables that the reading takes, are together of bulk at most 1048576: NARROWER than '..Said'. Prove '..Said' where nothing that the law and all that it calls make is longer than what came in: it says more and counts as full. Else prove '..UptoSaid'. A law counts once. -/
mutual
def uptoBulk {H : Type} : DataW H → Nat
  | .lit (.string bytes) => bytes.length + 1
  | .lit _ => 1
  | .nil => 1
  | .ptr d => uptoBulk d + 1
  | .slice elems spare => uptoBulkAll elems + uptoBulkAll spare + 1
  | .agg parts => uptoBulkAll parts + 1
  | .iface _ d => uptoBulk d + 1
  | .map entries => uptoBulkEntries entries + 1
  | .held _ => 1
def uptoBulkAll {H : Type} : List (DataW H) → Nat
  | [] => 0
  | d :: r => uptoBulk d + uptoBulkAll r
def uptoBulkEntries {H : Type} : List (Lit × DataW H) → Nat
  | [] => 0
  | x :: r => uptoBulkEntry x + uptoBulkEntries r
def uptoBulkEntry {H : Type} : Lit × DataW H → Nat
  | (.string bytes, d) => bytes.length + uptoBulk d + 1
  | (_, d) => uptoBulk d + 1
 end
def uptoSmall : (H : Type) → List (DataW H) → Bool := fun _ ds => decide (uptoBulkAll ds ≤ 1048576)
def OpenSpec.upto (s : _root_.Go.ChangeSpec) : _root_.Go.OpenSpec := { _root_.Go.OpenSpec.ofChange s with cond := some uptoSmall }

/-- 'laws.FnExactFeedNetwork', WHERE WHAT IT READS IS OF BULK AT MOST 1048576: true; the input reads as it did. -/
def fnExactFeedNetworkUptoRow : OpenClaim := { program := "ytbeaohmbmfjabaagreatdoor", sum := "d054acdd4303ef83965b9c90d40fa137f9fc4f744900c6b2f5475275c5708e0f", func := "loop.example/g03015/laws.FnExactFeedNetwork", spec := "fnExactFeedNetwork", inPlace := ["internal/bytealg.abigen_runtime_cmpstring"], recurses := true, named := ["strconv.ErrSyntax", "strconv.ErrRange", "internal/strconv.uint64pow10", "math/bits.deBruijn32tab", "math/bits.deBruijn64tab"], apart := false, laid := [("math/bits.deBruijn32tab", laid_math_bits_deBruijn32tab), ("math/bits.deBruijn64tab", laid_math_bits_deBruijn64tab), ("internal/strconv.uint64pow10", laid_internal_strconv_uint64pow10), ("strconv.ErrRange", laid_strconv_ErrRange), ("strconv.ErrSyntax", laid_strconv_ErrSyntax)], narrowed := true }
def FnExactFeedNetworkUptoSaid : Prop := fnExactFeedNetworkUptoRow.holds Tryz.pinned (OpenSpec.upto fnExactFeedNetworkSpec)

/-- 'laws.FnExactChangesOf', WHERE WHAT IT READS IS OF BULK AT MOST 1048576: true; the input reads as it did. -/
def fnExactChangesOfUptoRow : OpenClaim := { program := "ytbeaohmbmfjabaagreatdoor", sum := "d054acdd4303ef83965b9c90d40fa137f9fc4f744900c6b2f5475275c5708e0f", func := "loop.example/g03015/laws.FnExactChangesOf", spec := "fnExactChangesOf", inPlace := ["internal/bytealg.abigen_runtime_cmpstring"], recurses := true, named := ["strconv.ErrSyntax", "strconv.ErrRange", "internal/strconv.uint64pow10", "math/bits.deBruijn32tab", "math/bits.deBruijn64tab"], apart := false, laid := [("math/bits.deBruijn32tab", laid_math_bits_deBruijn32tab), ("math/bits.deBruijn64tab", laid_math_bits_deBruijn64tab), ("internal/strconv.uint64pow10", laid_internal_strconv_uint64pow10), ("strconv.ErrRange", laid_strconv_ErrRange), ("strconv.ErrSyntax", laid_strconv_ErrSyntax)], narrowed := true }
def FnExactChangesOfUptoSaid : Prop := fnExactChangesOfUptoRow.holds Tryz.pinned (OpenSpec.upto fnExactChangesOfSpec)

/-- 'laws.FnExactRebuildNetwork', WHERE WHAT IT READS IS OF BULK AT MOST 1048576: true; the input reads as it did. -/
def fnExactRebuildNetworkUptoRow : OpenClaim := { program := "ytbeaohmbmfjabaagreatdoor", sum := "d054acdd4303ef83965b9c90d40fa137f9fc4f744900c6b2f5475275c5708e0f", func := "loop.example/g03015/laws.FnExactRebuildNetwork", spec := "fnExactRebuildNetwork", inPlace := ["internal/bytealg.abigen_runtime_cmpstring"], recurses := true, named := ["strconv.ErrSyntax", "strconv.ErrRange", "internal/strconv.uint64pow10", "math/bits.deBruijn32tab", "math/bits.deBruijn64tab"], apart := false, laid := [("math/bits.deBruijn32tab", laid_math_bits_deBruijn32tab), ("math/bits.deBruijn64tab", laid_math_bits_deBruijn64tab), ("internal/strconv.uint64pow10", laid_internal_strconv_uint64pow10), ("strconv.ErrRange", laid_strconv_ErrRange), ("strconv.ErrSyntax", laid_strconv_ErrSyntax)], narrowed := true }
def FnExactRebuildNetworkUptoSaid : Prop := fnExactRebuildNetworkUptoRow.holds Tryz.pinned (OpenSpec.upto fnExactRebuildNetworkSpec)

/-- 'laws.FnExactTriesFor', WHERE WHAT IT READS IS OF BULK AT MOST 1048576: true; the input reads as it did. -/
def fnExactTriesForUptoRow : OpenClaim := { program := "ytbeaohmbmfjabaagreatdoor", sum := "d054acdd4303ef83965b9c90d40fa137f9fc4f744900c6b2f5475275c5708e0f", func := "loop.example/g03015/laws.FnExactTriesFor", spec := "fnExactTriesFor", inPlace := ["internal/bytealg.abigen_runtime_cmpstring"], recurses := true, named := ["strconv.ErrSyntax", "strconv.ErrRange", "internal/strconv.uint64pow10", "math/bits.deBruijn32tab", "math/bits.deBruijn64tab"], apart := false, laid := [("math/bits.deBruijn32tab", laid_math_bits_deBruijn32tab), ("math/bits.deBruijn64tab", laid_math_bits_deBruijn64tab), ("internal/strconv.uint64pow10", laid_internal_strconv_uint64pow10), ("strconv.ErrRange", laid_strconv_ErrRange), ("strconv.ErrSyntax", laid_strconv_ErrSyntax)], narrowed := true }
def FnExactTriesForUptoSaid : Prop := fnExactTriesForUptoRow.holds Tryz.pinned (OpenSpec.upto fnExactTriesForSpec)

/-- 'laws.FnExactIsNetwork', WHERE WHAT IT READS IS OF BULK AT MOST 1048576: true; the input reads as it did. -/
def fnExactIsNetworkUptoRow : OpenClaim := { program := "ytbeaohmbmfjabaagreatdoor", sum := "d054acdd4303ef83965b9c90d40fa137f9fc4f744900c6b2f5475275c5708e0f", func := "loop.example/g03015/laws.FnExactIsNetwork", spec := "fnExactIsNetwork", inPlace := ["internal/bytealg.abigen_runtime_cmpstring"], recurses := true, named := ["strconv.ErrSyntax", "strconv.ErrRange", "internal/strconv.uint64pow10", "math/bits.deBruijn32tab", "math/bits.deBruijn64tab"], apart := false, laid := [("math/bits.deBruijn32tab", laid_math_bits_deBruijn32tab), ("math/bits.deBruijn64tab", laid_math_bits_deBruijn64tab), ("internal/strconv.uint64pow10", laid_internal_strconv_uint64pow10), ("strconv.ErrRange", laid_strconv_ErrRange), ("strconv.ErrSyntax", laid_strconv_ErrSyntax)], narrowed := true }
def FnExactIsNetworkUptoSaid : Prop := fnExactIsNetworkUptoRow.holds Tryz.pinned (OpenSpec.upto fnExactIsNetworkSpec)

/-- 'laws.FnExactConflictSet', WHERE WHAT IT READS IS OF BULK AT MOST 1048576: true; the input reads as it did. -/
def fnExactConflictSetUptoRow : OpenClaim := { program := "ytbeaohmbmfjabaagreatdoor", sum := "d054acdd4303ef83965b9c90d40fa137f9fc4f744900c6b2f5475275c5708e0f", func := "loop.example/g03015/laws.FnExactConflictSet", spec := "fnExactConflictSet", inPlace := ["internal/bytealg.abigen_runtime_cmpstring"], recurses := true, named := ["strconv.ErrSyntax", "strconv.ErrRange", "internal/strconv.uint64pow10", "math/bits.deBruijn32tab", "math/bits.deBruijn64tab"], apart := false, laid := [("math/bits.deBruijn32tab", laid_math_bits_deBruijn32tab), ("math/bits.deBruijn64tab", laid_math_bits_deBruijn64tab), ("internal/strconv.uint64pow10", laid_internal_strconv_uint64pow10), ("strconv.ErrRange", laid_strconv_ErrRange), ("strconv.ErrSyntax", laid_strconv_ErrSyntax)], narrowed := true }
def FnExactConflictSetUptoSaid : Prop := fnExactConflictSetUptoRow.holds Tryz.pinned (OpenSpec.upto fnExactConflictSetSpec)

/-- 'laws.FnExactTakeFromNetwork', WHERE WHAT IT READS IS OF BULK AT MOST 1048576: true; the input reads as it did. -/
def fnExactTakeFromNetworkUptoRow : OpenClaim := { program := "ytbeaohmbmfjabaagreatdoor", sum := "d054acdd4303ef83965b9c90d40fa137f9fc4f744900c6b2f5475275c5708e0f", func := "loop.example/g03015/laws.FnExactTakeFromNetwork", spec := "fnExactTakeFromNetwork", inPlace := ["internal/bytealg.abigen_runtime_cmpstring"], recurses := true, named := ["strconv.ErrSyntax", "strconv.ErrRange", "internal/strconv.uint64pow10", "math/bits.deBruijn32tab", "math/bits.deBruijn64tab"], apart := false, laid := [("math/bits.deBruijn32tab", laid_math_bits_deBruijn32tab), ("math/bits.deBruijn64tab", laid_math_bits_deBruijn64tab), ("internal/strconv.uint64pow10", laid_internal_strconv_uint64pow10), ("strconv.ErrRange", laid_strconv_ErrRange), ("strconv.ErrSyntax", laid_strconv_ErrSyntax)], narrowed := true }
def FnExactTakeFromNetworkUptoSaid : Prop := fnExactTakeFromNetworkUptoRow.holds Tryz.pinned (OpenSpec.upto fnExactTakeFromNetworkSpec)

/-- 'laws.FnExactPutInNetwork', WHERE WHAT IT READS IS OF BULK AT MOST 1048576: true; the input reads as it did. -/
def fnExactPutInNetworkUptoRow : OpenClaim := { program := "ytbeaohmbmfjabaagreatdoor", sum := "d054acdd4303ef83965b9c90d40fa137f9fc4f744900c6b2f5475275c5708e0f", func := "loop.example/g03015/laws.FnExactPutInNetwork", spec := "fnExactPutInNetwork", inPlace := ["internal/bytealg.abigen_runtime_cmpstring"], recurses := true, named := ["strconv.ErrSyntax", "strconv.ErrRange", "internal/strconv.uint64pow10", "math/bits.deBruijn32tab", "math/bits.deBruijn64tab"], apart := false, laid := [("math/bits.deBruijn32tab", laid_math_bits_deBruijn32tab), ("math/bits.deBruijn64tab", laid_math_bits_deBruijn64tab), ("internal/strconv.uint64pow10", laid_internal_strconv_uint64pow10), ("strconv.ErrRange", laid_strconv_ErrRange), ("strconv.ErrSyntax", laid_strconv_ErrSyntax)], narrowed := true }
def FnExactPutInNetworkUptoSaid : Prop := fnExactPutInNetworkUptoRow.holds Tryz.pinned (OpenSpec.upto fnExactPutInNetworkSpec)

end Rows
end Go.Proofs.YtbeaohmbmfjabaaGreatDoor

/- Chapters 2 to 5 in plain words: facts, patterns, conditions, rules, as the program and the reference read them. No condition but bounds on sizes. -/
import Derived.Test.YtamlfpljmobdoaaDoorPCompareTokensNLwA
namespace Go.Cx
open Go.RowKit Go.Proofs
set_option linter.unusedVariables false
set_option linter.unusedSimpArgs false
end Go.Cx

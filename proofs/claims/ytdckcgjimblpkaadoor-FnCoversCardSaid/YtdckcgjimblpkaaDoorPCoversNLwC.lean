/- Chapter 5 in plain words: which variables a rule binds and uses, what it reads and writes, whether it is valid. No condition but bounds on sizes. -/
import Derived.Test.YtdckcgjimblpkaaDoorPCoversNLwB
namespace Go.Cx
open Go.RowKit Go.Proofs
set_option linter.unusedVariables false
set_option linter.unusedSimpArgs false
/-! when a rule is valid -/
end Go.Cx

/- Numbers as texts, and plain names of variables, in plain words: of the program and of the reference. No condition but bounds on sizes. -/
import Derived.Test.YtpglgncmlcpgdaaPFnRuleVarsNLwB
import Derived.Lib.ItoaNum
import Derived.Lib.ItoaLen
namespace Go.Cx
open Go.RowKit Go.Proofs
set_option linter.unusedVariables false
set_option linter.unusedSimpArgs false
/-! renaming -/
/-! plain names -/
end Go.Cx

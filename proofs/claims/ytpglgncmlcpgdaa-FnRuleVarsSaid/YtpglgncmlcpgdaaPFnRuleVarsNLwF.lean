/- Reading numbers, and the orders of atoms, facts and tokens, in plain words: of the program and of the reference. No condition but bounds on sizes. -/
import Derived.Test.YtpglgncmlcpgdaaPFnRuleVarsNLwD
import Derived.Test.YtpglgncmlcpgdaaPFnRuleVarsNLwE
import Derived.Lib.Atoi
namespace Go.Cx
open Go.RowKit Go.Proofs
set_option linter.unusedVariables false
set_option linter.unusedSimpArgs false
/-! numbers -/
/-! orders -/
/-! fact sets -/
end Go.Cx

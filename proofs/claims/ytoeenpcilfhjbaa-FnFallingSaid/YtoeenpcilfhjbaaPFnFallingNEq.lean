/- What functions of the program compute, and the walks that show it. No condition. -/
import Derived.Test.YtoeenpcilfhjbaaNData
namespace Go.Cx
open Go.RowKit Go.Proofs
set_option linter.unusedVariables false
set_option linter.unusedSimpArgs false
set_option maxRecDepth 100000
variable {Γ : Ctx} {N : Nat → St → Prop}
end Go.Cx

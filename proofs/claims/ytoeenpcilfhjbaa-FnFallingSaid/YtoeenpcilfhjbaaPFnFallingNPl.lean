/- What the laws' own helpers compute: sizes, copies, equality, marks. No condition. -/
import Derived.Test.YtoeenpcilfhjbaaNPlain
import Derived.Test.YtoeenpcilfhjbaaPFnFallingNSz
import Derived.Test.YtoeenpcilfhjbaaPFnFallingNTo
import Derived.Test.YtoeenpcilfhjbaaPFnFallingNEq
import Derived.Test.YtoeenpcilfhjbaaPFnFallingNHd
namespace Go.Cx
open Go.RowKit Go.Proofs
set_option linter.unusedVariables false
set_option linter.unusedSimpArgs false
end Go.Cx

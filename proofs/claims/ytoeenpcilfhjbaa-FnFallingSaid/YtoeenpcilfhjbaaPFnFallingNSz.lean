/- Nothing is wanted of this family here. -/
import Derived.Test.YtoeenpcilfhjbaaNData
namespace Go.Cx
end Go.Cx

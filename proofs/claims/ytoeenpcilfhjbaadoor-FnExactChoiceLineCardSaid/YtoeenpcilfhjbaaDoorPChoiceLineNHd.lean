/- Nothing is wanted of this family here. -/
import Derived.Test.YtoeenpcilfhjbaaDoorNData
namespace Go.Cx
end Go.Cx

/- Nothing is wanted of this family here. -/
import Derived.Test.YtpglgncmlcpgdaaNData
namespace Go.Cx
end Go.Cx

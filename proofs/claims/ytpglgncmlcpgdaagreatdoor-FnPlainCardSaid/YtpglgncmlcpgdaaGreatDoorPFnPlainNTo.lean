/- Nothing is wanted of this family here. -/
import Derived.Test.YtpglgncmlcpgdaaGreatDoorNData
namespace Go.Cx
end Go.Cx

/- No library function is laid here. -/
import Derived.Test.YtlhcfcgghbmhiaaNData
namespace Go.Cx
end Go.Cx

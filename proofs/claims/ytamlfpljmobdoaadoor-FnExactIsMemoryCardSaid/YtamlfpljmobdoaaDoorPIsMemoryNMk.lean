/- Nothing is marked on this seat. No condition. -/
import Derived.Test.YtamlfpljmobdoaaDoorNData

/- The shelf's laying of sort.Sort at this program. No condition. -/
import Derived.Test.YtoeenpcilfhjbaaDoorPChoiceLineSrE
import Derived.Test.YtoeenpcilfhjbaaDoorProg
namespace Go.Sr
open Go.RowKit Go.Proofs Go.Shelf
def lays11_ren : Ren := ⟨fun | 11 => 32 | 17 => 49 | 18 => 50 | 31 => 59 | 32 => 60 | 33 => 61 | 34 => 62 | 35 => 63 | 36 => 64 | 37 => 65 | 38 => 66 | 39 => 67 | 40 => 68 | 43 => 73 | 44 => 74 | 45 => 75 | 46 => 76 | 47 => 77 | 50 => 84 | n => n, fun | 45 => 59 | 3 => 3 | 4 => 4 | 47 => 79 | 0 => 0 | 56 => 98 | 58 => 100 | 61 => 103 | 60 => 102 | 65 => 108 | 5 => 5 | 9 => 9 | 67 => 114 | 71 => 118 | 73 => 127 | 74 => 128 | 43 => 77 | 26 => 106 | 38 => 113 | n => n, fun | n => n⟩
theorem lays11 : LaysGt.n11 Tryd.prog lays11_ren := by constructor <;> (intros; kernel_rfl)
end Go.Sr

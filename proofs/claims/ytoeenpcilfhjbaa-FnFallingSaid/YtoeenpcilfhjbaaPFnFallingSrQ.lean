/- The shelf's laying of sort.Sort at this program. No condition. -/
import Derived.Test.YtoeenpcilfhjbaaPFnFallingSrE
import Derived.Test.YtoeenpcilfhjbaaProg
namespace Go.Sr
open Go.RowKit Go.Proofs Go.Shelf
def lays11_ren : Ren := ⟨fun | 11 => 18 | 17 => 22 | 18 => 23 | 31 => 24 | 32 => 25 | 33 => 26 | 34 => 27 | 35 => 28 | 36 => 29 | 37 => 30 | 38 => 31 | 39 => 32 | 40 => 33 | 43 => 34 | 44 => 35 | 45 => 36 | 46 => 37 | 47 => 38 | 50 => 39 | n => n, fun | 45 => 37 | 3 => 3 | 4 => 4 | 47 => 45 | 0 => 0 | 56 => 51 | 58 => 53 | 61 => 56 | 60 => 55 | 65 => 61 | 5 => 5 | 9 => 9 | 67 => 64 | 71 => 68 | 73 => 70 | 74 => 71 | 43 => 43 | 26 => 59 | 38 => 63 | n => n, fun | n => n⟩
theorem lays11 : LaysGt.n11 Try.prog lays11_ren := by constructor <;> (intros; kernel_rfl)
end Go.Sr

/- The shelf's theorems on library functions, laid at this program. No condition. -/
import Derived.Test.YtoeenpcilfhjbaaDoorNLib
import Derived.Test.YtoeenpcilfhjbaaDoorNItoa
namespace Go.Cx
open Go.RowKit Go.Proofs Go.Shelf
def lays156_ren : Ren := ⟨fun | 156 => 35 | 165 => 52 | 166 => 53 | 169 => 54 | 240 => 70 | 241 => 71 | 276 => 82 | 277 => 83 | n => n, fun | 31 => 43 | 9 => 9 | 3 => 3 | 4 => 4 | 0 => 0 | 20 => 20 | 72 => 86 | 76 => 90 | 70 => 84 | 37 => 54 | 75 => 89 | 127 => 111 | 164 => 124 | 5 => 5 | 80 => 92 | n => n, fun | n => n⟩
theorem lays156 : Lays.n156 Tryd.prog lays156_ren := by constructor <;> (intros; kernel_rfl)
theorem ext156 : Builder.Extra Tryd.prog lays156_ren := { sizeBuilder := by kernel_rfl, liesBuilder := by kernel_rfl, t5 := Tryd.underlying5, a5 := Tryd.isAgg5, z5 := Tryd.sizeOf5, v5 := Tryd.zeroValue5, infoByte := by kernel_rfl, cellsByte := by kernel_rfl, sizeByte := by kernel_rfl, neB5 := by decide }
def d_strings_Join (a0_ : List Bytes) (a1_ : Bytes) : Option Bytes := (l_Join) a0_ a1_
theorem d_strings_Join_good {a0_ : List Bytes} {a1_ : Bytes} {r : Bytes} (h : d_strings_Join a0_ a1_ = some r) : Good Tryd.prog 35 [.sl (a0_.map tx), .str a1_] (.str r) := l_Join_good lays156 ext156 h
def lays171_ren : Ren := ⟨fun | 171 => 34 | 243 => 51 | 246 => 69 | 283 => 78 | 284 => 79 | 285 => 80 | 286 => 81 | 129 => 60 | 317 => 85 | 318 => 86 | 319 => 87 | 320 => 88 | 337 => 89 | 338 => 90 | n => n, fun | 3 => 3 | 9 => 9 | 2 => 2 | 4 => 4 | 171 => 120 | 0 => 0 | 53 => 100 | 37 => 54 | 5 => 5 | 173 => 122 | 212 => 132 | 51 => 98 | 20 => 20 | 213 => 133 | 46 => 79 | 232 => 135 | 233 => 136 | n => n, fun | 17 => 0 | 18 => 2 | 19 => 3 | n => n⟩
theorem lays171 : Lays.n171 Tryd.prog lays171_ren := by constructor <;> (intros; kernel_rfl)
theorem laysM171 : LaysM.n171 Tryd.prog lays171_ren := by constructor <;> first | exact lays171 | (intros; kernel_rfl)
def d_strconv_Itoa (a0_ : Int) : Option Bytes := (fun n : Int => some (Lib.itoa n)) a0_
theorem d_strconv_Itoa_good {a0_ : Int} {r : Bytes} (h : d_strconv_Itoa a0_ = some r) : Good Tryd.prog 34 [.int .i64 a0_] (.str r) := by cases h; exact l_Itoa_good laysM171 (g := 0) (by kernel_rfl) (List.mem_of_getElem? (i := 0) (by kernel_rfl))
end Go.Cx

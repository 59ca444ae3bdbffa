/- The closed facts of the statement. No condition. -/
import Derived.Test.YtnbmhfbejojjiaaGreatDoorRows
import Derived.Test.YtnbmhfbejojjiaaGreatDoorPFnAnyOrderG6
import Derived.ProofKit
import Derived.SevenTiedAt
import Derived.LaidMore
import Derived.LaidSub
import Derived.Lib.LaidTab
import Derived.Lib.ItoaNum
import Derived.Stop.LaidErr
import Derived.Test.YtnbmhfbejojjiaaGreatDoorCards
import Derived.Test.YtnbmhfbejojjiaaGreatDoorTie
namespace Go.Proofs.YtnbmhfbejojjiaaGreatDoor.fnAnyOrder
open Go.ChangeShapes Go.WideShapes Go.ChangeAt Go.RowKit Go.Cx
theorem k0:jp0 Tryz.prog 3 Tryz.f3 Rows.fnAnyOrderSpec Rows.fnAnyOrderRow=true:=by kernel_rfl
theorem k1:jp1 Tryz.prog 3 Tryz.f3 Rows.fnAnyOrderSpec Rows.fnAnyOrderRow=true:=by kernel_rfl
theorem k2:jp2 Tryz.prog 3 Tryz.f3 Rows.fnAnyOrderSpec Rows.fnAnyOrderRow=true:=by kernel_rfl
theorem k3:jp3 Tryz.prog 3 Tryz.f3 Rows.fnAnyOrderSpec Rows.fnAnyOrderRow=true:=by kernel_rfl
theorem named:Tryz.prog.funcNamed Rows.fnAnyOrderRow.func=some 3:=by kernel_rfl
theorem closed:joinedFacts Tryz.prog 3 Tryz.f3 Rows.fnAnyOrderSpec Rows.fnAnyOrderRow=true:=Py k0 k1 k2 k3
end Go.Proofs.YtnbmhfbejojjiaaGreatDoor.fnAnyOrder

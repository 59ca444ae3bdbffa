/- The closed facts of the statement. No condition. -/
import Derived.Test.YtnbmhfbejojjiaaGreatDoorRows
import Derived.Test.YtnbmhfbejojjiaaGreatDoorPFnForeignG7
import Derived.Test.YtnbmhfbejojjiaaGreatDoorPFnForeignG8
import Derived.ProofKit
import Derived.SevenTiedAt
import Derived.LaidMore
import Derived.LaidSub
import Derived.Lib.LaidTab
import Derived.Lib.ItoaNum
import Derived.Stop.LaidErr
import Derived.Test.YtnbmhfbejojjiaaGreatDoorCards
import Derived.Test.YtnbmhfbejojjiaaGreatDoorTie
namespace Go.Proofs.YtnbmhfbejojjiaaGreatDoor.fnForeign
open Go.ChangeShapes Go.WideShapes Go.ChangeAt Go.RowKit Go.Cx
theorem k0:jp0 Tryz.prog 5 Tryz.f5 Rows.fnForeignSpec Rows.fnForeignRow=true:=by kernel_rfl
theorem k1:jp1 Tryz.prog 5 Tryz.f5 Rows.fnForeignSpec Rows.fnForeignRow=true:=by kernel_rfl
theorem k2:jp2 Tryz.prog 5 Tryz.f5 Rows.fnForeignSpec Rows.fnForeignRow=true:=by kernel_rfl
theorem k3:jp3 Tryz.prog 5 Tryz.f5 Rows.fnForeignSpec Rows.fnForeignRow=true:=by kernel_rfl
theorem named:Tryz.prog.funcNamed Rows.fnForeignRow.func=some 5:=by kernel_rfl
theorem closed:joinedFacts Tryz.prog 5 Tryz.f5 Rows.fnForeignSpec Rows.fnForeignRow=true:=Ub k0 k1 k2 k3
end Go.Proofs.YtnbmhfbejojjiaaGreatDoor.fnForeign

/- The closed facts of the statement. No condition. -/
import Derived.Test.YtolgbnoielbngaaGreatDoorRows
import Derived.Test.YtolgbnoielbngaaGreatDoorPFnSharedG5
import Derived.ProofKit
import Derived.SevenTiedAt
import Derived.LaidMore
import Derived.LaidSub
import Derived.Lib.LaidTab
import Derived.Lib.ItoaNum
import Derived.Test.YtolgbnoielbngaaGreatDoorCards
import Derived.Test.YtolgbnoielbngaaGreatDoorTie
namespace Go.Proofs.YtolgbnoielbngaaGreatDoor.fnShared
open Go.ChangeShapes Go.WideShapes Go.ChangeAt Go.RowKit Go.Cx
theorem k0:UT Tryz.prog 3 Tryz.f3 Rows.fnSharedSpec Rows.fnSharedRow=true:=by kernel_rfl
theorem k1:UU Tryz.prog 3 Tryz.f3 Rows.fnSharedSpec Rows.fnSharedRow=true:=by kernel_rfl
theorem k2:UW Tryz.prog 3 Tryz.f3 Rows.fnSharedSpec Rows.fnSharedRow=true:=by kernel_rfl
theorem k3:UX Tryz.prog 3 Tryz.f3 Rows.fnSharedSpec Rows.fnSharedRow=true:=by kernel_rfl
theorem named:Tryz.prog.funcNamed Rows.fnSharedRow.func=some 3:=by kernel_rfl
theorem closed:joinedFacts Tryz.prog 3 Tryz.f3 Rows.fnSharedSpec Rows.fnSharedRow=true:=I0 k0 k1 k2 k3
end Go.Proofs.YtolgbnoielbngaaGreatDoor.fnShared

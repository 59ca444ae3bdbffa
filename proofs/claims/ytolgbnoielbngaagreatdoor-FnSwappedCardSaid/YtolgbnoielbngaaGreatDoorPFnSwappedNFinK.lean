/- The closed facts of the statement. No condition. -/
import Derived.Test.YtolgbnoielbngaaGreatDoorRows
import Derived.Test.YtolgbnoielbngaaGreatDoorPFnSwappedG5
import Derived.ProofKit
import Derived.SevenTiedAt
import Derived.LaidMore
import Derived.LaidSub
import Derived.Lib.LaidTab
import Derived.Lib.ItoaNum
import Derived.Stop.LaidErr
import Derived.Test.YtolgbnoielbngaaGreatDoorCards
import Derived.Test.YtolgbnoielbngaaGreatDoorTie
namespace Go.Proofs.YtolgbnoielbngaaGreatDoor.fnSwapped
open Go.ChangeShapes Go.WideShapes Go.ChangeAt Go.RowKit Go.Cx
theorem k0:Vz Tryz.prog 4 Tryz.f4 Rows.fnSwappedSpec Rows.fnSwappedRow=true:=by kernel_rfl
theorem k1:W3 Tryz.prog 4 Tryz.f4 Rows.fnSwappedSpec Rows.fnSwappedRow=true:=by kernel_rfl
theorem k2:W5 Tryz.prog 4 Tryz.f4 Rows.fnSwappedSpec Rows.fnSwappedRow=true:=by kernel_rfl
theorem k3:W6 Tryz.prog 4 Tryz.f4 Rows.fnSwappedSpec Rows.fnSwappedRow=true:=by kernel_rfl
theorem named:Tryz.prog.funcNamed Rows.fnSwappedRow.func=some 4:=by kernel_rfl
theorem closed:joinedFacts Tryz.prog 4 Tryz.f4 Rows.fnSwappedSpec Rows.fnSwappedRow=true:=JI k0 k1 k2 k3
end Go.Proofs.YtolgbnoielbngaaGreatDoor.fnSwapped

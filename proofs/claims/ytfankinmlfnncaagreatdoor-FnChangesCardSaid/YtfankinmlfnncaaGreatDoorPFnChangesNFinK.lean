/- The closed facts of the statement. No condition. -/
import Derived.Test.YtfankinmlfnncaaGreatDoorRows
import Derived.Test.YtfankinmlfnncaaGreatDoorPFnChangesG6
import Derived.ProofKit
import Derived.SevenTiedAt
import Derived.LaidMore
import Derived.LaidSub
import Derived.Lib.LaidTab
import Derived.Lib.ItoaNum
import Derived.Stop.LaidErr
import Derived.Test.YtfankinmlfnncaaGreatDoorCards
import Derived.Test.YtfankinmlfnncaaGreatDoorTie
namespace Go.Proofs.YtfankinmlfnncaaGreatDoor.fnChanges
open Go.ChangeShapes Go.WideShapes Go.ChangeAt Go.RowKit Go.Cx
theorem k0:jp0 Tryz.prog 6 Tryz.f6 Rows.fnChangesSpec Rows.fnChangesRow=true:=by kernel_rfl
theorem k1:jp1 Tryz.prog 6 Tryz.f6 Rows.fnChangesSpec Rows.fnChangesRow=true:=by kernel_rfl
theorem k2:jp2 Tryz.prog 6 Tryz.f6 Rows.fnChangesSpec Rows.fnChangesRow=true:=by kernel_rfl
theorem k3:jp3 Tryz.prog 6 Tryz.f6 Rows.fnChangesSpec Rows.fnChangesRow=true:=by kernel_rfl
theorem named:Tryz.prog.funcNamed Rows.fnChangesRow.func=some 6:=by kernel_rfl
theorem closed:joinedFacts Tryz.prog 6 Tryz.f6 Rows.fnChangesSpec Rows.fnChangesRow=true:=ZI k0 k1 k2 k3
end Go.Proofs.YtfankinmlfnncaaGreatDoor.fnChanges

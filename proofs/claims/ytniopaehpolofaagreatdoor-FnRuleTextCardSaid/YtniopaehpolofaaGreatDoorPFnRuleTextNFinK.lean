/- The closed facts of the statement. No condition. -/
import Derived.Test.YtniopaehpolofaaGreatDoorRows
import Derived.Test.YtniopaehpolofaaGreatDoorPFnRuleTextG5
import Derived.ProofKit
import Derived.SevenTiedAt
import Derived.LaidMore
import Derived.LaidSub
import Derived.Lib.LaidTab
import Derived.Lib.ItoaNum
import Derived.Stop.LaidErr
import Derived.Shelf.Vars
import Derived.Lay
import Derived.Test.YtniopaehpolofaaGreatDoorCards
import Derived.Test.YtniopaehpolofaaGreatDoorTie
namespace Go.Proofs.YtniopaehpolofaaGreatDoor.fnRuleText
open Go.ChangeShapes Go.WideShapes Go.ChangeAt Go.RowKit Go.Cx
theorem k0:Sf Tryz.prog 3 Tryz.f3 Rows.fnRuleTextSpec Rows.fnRuleTextRow=true:=by kernel_rfl
theorem k1:Sg Tryz.prog 3 Tryz.f3 Rows.fnRuleTextSpec Rows.fnRuleTextRow=true:=by kernel_rfl
theorem k2:Si Tryz.prog 3 Tryz.f3 Rows.fnRuleTextSpec Rows.fnRuleTextRow=true:=by kernel_rfl
theorem k3:Sj Tryz.prog 3 Tryz.f3 Rows.fnRuleTextSpec Rows.fnRuleTextRow=true:=by kernel_rfl
theorem named:Tryz.prog.funcNamed Rows.fnRuleTextRow.func=some 3:=by kernel_rfl
theorem closed:joinedFacts Tryz.prog 3 Tryz.f3 Rows.fnRuleTextSpec Rows.fnRuleTextRow=true:=Ge k0 k1 k2 k3
end Go.Proofs.YtniopaehpolofaaGreatDoor.fnRuleText

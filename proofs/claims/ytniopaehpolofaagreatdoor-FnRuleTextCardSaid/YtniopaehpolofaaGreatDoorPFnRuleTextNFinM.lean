/- Closed facts of the card. No condition. -/
import Derived.Test.YtniopaehpolofaaGreatDoorRows
import Derived.Test.YtniopaehpolofaaGreatDoorPFnRuleTextG5
import Derived.ProofKit
import Derived.SevenTiedAt
import Derived.LaidMore
import Derived.LaidSub
import Derived.Lib.LaidTab
import Derived.Lib.ItoaNum
import Derived.Stop.LaidErr
import Derived.Shelf.Vars
import Derived.Lay
import Derived.Test.YtniopaehpolofaaGreatDoorCards
import Derived.Test.YtniopaehpolofaaGreatDoorTie
namespace Go.Proofs.YtniopaehpolofaaGreatDoor.fnRuleText
open Go.ChangeShapes Go.WideShapes Go.ChangeAt Go.RowKit Go.Cx
theorem a0:Rows.fnRuleTextRow.wfByText (OpenSpec.ofChange Rows.fnRuleTextSpec)=true:=by kernel_rfl
theorem a1:Tryz.pinned.checked.prog.mainIs=some (Rows.fnRuleTextCard.stood.harness.1,Rows.fnRuleTextCard.stood.harness.2.toList):=by kernel_rfl
theorem a2:true=Tryz.pinned.checked.prog.looks []:=by kernel_rfl
theorem a3:false=Rows.fnRuleTextRow.goesBy Tryz.pinned.checked.prog:=by kernel_rfl
theorem a4:∀t∈Tryz.f3.params.toList,Tryz.prog.wantsStandIn t=false:=by
 rw[Tryz.params3];intro t hm;simp only[List.mem_cons,List.not_mem_nil,or_false]at hm;rcases hm with rfl<;>(show Tryz.prog.wantsStandIn _=false;kernel_rfl)
end Go.Proofs.YtniopaehpolofaaGreatDoor.fnRuleText

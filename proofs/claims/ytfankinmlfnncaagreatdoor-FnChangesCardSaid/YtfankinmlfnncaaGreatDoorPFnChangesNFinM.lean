/- Closed facts of the card. No condition. -/
import Derived.Test.YtfankinmlfnncaaGreatDoorRows
import Derived.Test.YtfankinmlfnncaaGreatDoorPFnChangesG6
import Derived.ProofKit
import Derived.SevenTiedAt
import Derived.LaidMore
import Derived.LaidSub
import Derived.Lib.LaidTab
import Derived.Lib.ItoaNum
import Derived.Stop.LaidErr
import Derived.Test.YtfankinmlfnncaaGreatDoorCards
import Derived.Test.YtfankinmlfnncaaGreatDoorTie
namespace Go.Proofs.YtfankinmlfnncaaGreatDoor.fnChanges
open Go.ChangeShapes Go.WideShapes Go.ChangeAt Go.RowKit Go.Cx
theorem a0:Rows.fnChangesRow.wfByText (OpenSpec.ofChange Rows.fnChangesSpec)=true:=by kernel_rfl
theorem a1:Tryz.pinned.checked.prog.mainIs=some (Rows.fnChangesCard.stood.harness.1,Rows.fnChangesCard.stood.harness.2.toList):=by kernel_rfl
theorem a2:true=Tryz.pinned.checked.prog.looks []:=by kernel_rfl
theorem a3:false=Rows.fnChangesRow.goesBy Tryz.pinned.checked.prog:=by kernel_rfl
theorem a4:∀t∈Tryz.f6.params.toList,Tryz.prog.wantsStandIn t=false:=by
 rw[Tryz.params6];intro t hm;simp only[List.mem_cons,List.not_mem_nil,or_false]at hm;rcases hm with rfl<;>(show Tryz.prog.wantsStandIn _=false;kernel_rfl)
end Go.Proofs.YtfankinmlfnncaaGreatDoor.fnChanges

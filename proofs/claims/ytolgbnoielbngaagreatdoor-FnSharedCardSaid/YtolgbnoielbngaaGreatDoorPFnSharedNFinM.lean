/- Closed facts of the card. No condition. -/
import Derived.Test.YtolgbnoielbngaaGreatDoorRows
import Derived.Test.YtolgbnoielbngaaGreatDoorPFnSharedG5
import Derived.ProofKit
import Derived.SevenTiedAt
import Derived.LaidMore
import Derived.LaidSub
import Derived.Lib.LaidTab
import Derived.Lib.ItoaNum
import Derived.Test.YtolgbnoielbngaaGreatDoorCards
import Derived.Test.YtolgbnoielbngaaGreatDoorTie
namespace Go.Proofs.YtolgbnoielbngaaGreatDoor.fnShared
open Go.ChangeShapes Go.WideShapes Go.ChangeAt Go.RowKit Go.Cx
theorem a0:Rows.fnSharedRow.wfByText (OpenSpec.ofChange Rows.fnSharedSpec)=true:=by kernel_rfl
theorem a1:Tryz.pinned.checked.prog.mainIs=some (Rows.fnSharedCard.stood.harness.1,Rows.fnSharedCard.stood.harness.2.toList):=by kernel_rfl
theorem a2:true=Tryz.pinned.checked.prog.looks []:=by kernel_rfl
theorem a3:false=Rows.fnSharedRow.goesBy Tryz.pinned.checked.prog:=by kernel_rfl
theorem a4:∀t∈Tryz.f3.params.toList,Tryz.prog.wantsStandIn t=false:=by
 rw[Tryz.params3];intro t hm;simp only[List.mem_cons,List.not_mem_nil,or_false]at hm;rcases hm with rfl<;>(show Tryz.prog.wantsStandIn _=false;kernel_rfl)
end Go.Proofs.YtolgbnoielbngaaGreatDoor.fnShared

/- Closed facts of the card. No condition. -/
import Derived.Test.YtnbmhfbejojjiaaGreatDoorRows
import Derived.Test.YtnbmhfbejojjiaaGreatDoorPFnNodesG7
import Derived.ProofKit
import Derived.SevenTiedAt
import Derived.LaidMore
import Derived.LaidSub
import Derived.Lib.LaidTab
import Derived.Lib.ItoaNum
import Derived.Stop.LaidErr
import Derived.Test.YtnbmhfbejojjiaaGreatDoorCards
import Derived.Test.YtnbmhfbejojjiaaGreatDoorTie
namespace Go.Proofs.YtnbmhfbejojjiaaGreatDoor.fnNodes
open Go.ChangeShapes Go.WideShapes Go.ChangeAt Go.RowKit Go.Cx
theorem a0:Rows.fnNodesRow.wfByText (OpenSpec.ofChange Rows.fnNodesSpec)=true:=by kernel_rfl
theorem a1:Tryz.pinned.checked.prog.mainIs=some (Rows.fnNodesCard.stood.harness.1,Rows.fnNodesCard.stood.harness.2.toList):=by kernel_rfl
theorem a2:true=Tryz.pinned.checked.prog.looks []:=by kernel_rfl
theorem a3:false=Rows.fnNodesRow.goesBy Tryz.pinned.checked.prog:=by kernel_rfl
theorem a4:∀t∈Tryz.f4.params.toList,Tryz.prog.wantsStandIn t=false:=by
 rw[Tryz.params4];intro t hm;simp only[List.mem_cons,List.not_mem_nil,or_false]at hm;rcases hm with rfl<;>(show Tryz.prog.wantsStandIn _=false;kernel_rfl)
end Go.Proofs.YtnbmhfbejojjiaaGreatDoor.fnNodes

/- The statement FnAnyOrder: for every input the law returns true and each argument reads as before. No condition. -/
import Derived.Test.YtnbmhfbejojjiaaGreatDoorRows
import Derived.Test.YtnbmhfbejojjiaaGreatDoorPFnAnyOrderG6
import Derived.ProofKit
import Derived.SevenTiedAt
import Derived.LaidMore
import Derived.LaidSub
import Derived.Lib.LaidTab
import Derived.Lib.ItoaNum
import Derived.Stop.LaidErr
import Derived.Test.YtnbmhfbejojjiaaGreatDoorCards
import Derived.Test.YtnbmhfbejojjiaaGreatDoorTie
import Derived.Test.YtnbmhfbejojjiaaGreatDoorPFnAnyOrderNFinK
import Derived.Test.YtnbmhfbejojjiaaGreatDoorPFnAnyOrderNFinL
namespace Go.Proofs.YtnbmhfbejojjiaaGreatDoor.fnAnyOrder
open Go.ChangeShapes Go.WideShapes Go.ChangeAt Go.RowKit Go.Cx
theorem over:Rows.FnAnyOrderSaid:=
 OpenClaim.holds_of_wide 3 Tryz.f3 rfl rfl rfl rfl rfl rfl rfl ⟨rfl,rfl,rfl,rfl,rfl⟩ rfl rfl rfl rfl rfl named Tryz.func3 closed
  (of_decide_eq_true (by kernel_rfl)) (by unfold Func.isWrapper;first| (rw[if_pos (by decide+kernel)];kernel_rfl)| (rw[if_neg (by decide+kernel)];exact⟨rfl,rfl⟩))
  (fun os started H enc _=>lifted os started H enc)
theorem holds:Rows.FnAnyOrderCardSaid:=
 Claim7.holds_tied_plain_at .later [] [.data,.data,.data,.sentinel,.sentinel] true Rows.fnAnyOrderCard.stood.harness true
  over (fun _ h=>by cases h) (by kernel_rfl) (fun _ h=>by cases h) fnAnyOrder_row_tie rfl ⟨rfl,rfl⟩ (by kernel_rfl) rfl
  (fun f fn hf hfn=>by
   obtain rfl:f=3:=(Option.some.inj (named.symm.trans hf)).symm;obtain rfl:fn=Tryz.f3:=(Option.some.inj (Tryz.func3.symm.trans hfn)).symm;exact⟨by kernel_rfl,fun j t ht=>by
    rw[Tryz.params3]at ht;have hm:=List.mem_of_getElem? (l:=_) (i:=j) (a:=t) (by simpa using ht);simp only[List.mem_cons,List.not_mem_nil,or_false]at hm;rcases hm with rfl<;>(show Tryz.prog.wantsStandIn _=false;kernel_rfl)⟩)
  (by kernel_rfl)
end Go.Proofs.YtnbmhfbejojjiaaGreatDoor.fnAnyOrder

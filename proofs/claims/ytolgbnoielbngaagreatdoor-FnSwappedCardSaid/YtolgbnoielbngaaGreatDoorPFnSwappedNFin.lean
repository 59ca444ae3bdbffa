/- The statement FnSwapped: for every input the law returns true and each argument reads as before. No condition. -/
import Derived.Test.YtolgbnoielbngaaGreatDoorRows
import Derived.Test.YtolgbnoielbngaaGreatDoorPFnSwappedG5
import Derived.ProofKit
import Derived.SevenTiedAt
import Derived.LaidMore
import Derived.LaidSub
import Derived.Lib.LaidTab
import Derived.Lib.ItoaNum
import Derived.Stop.LaidErr
import Derived.Test.YtolgbnoielbngaaGreatDoorCards
import Derived.Test.YtolgbnoielbngaaGreatDoorTie
import Derived.Test.YtolgbnoielbngaaGreatDoorPFnSwappedNFinK
import Derived.Test.YtolgbnoielbngaaGreatDoorPFnSwappedNFinL
import Derived.Test.YtolgbnoielbngaaGreatDoorPFnSwappedNFinM
namespace Go.Proofs.YtolgbnoielbngaaGreatDoor.fnSwapped
open Go.ChangeShapes Go.WideShapes Go.ChangeAt Go.RowKit Go.Cx
theorem over:Rows.FnSwappedSaid:=
 OpenClaim.holds_of_wide 4 Tryz.f4 rfl rfl rfl rfl rfl rfl rfl ⟨rfl,rfl,rfl,rfl,rfl⟩ rfl rfl rfl rfl rfl named Tryz.func4 closed
  (of_decide_eq_true (by kernel_rfl)) (by unfold Func.isWrapper;first| (rw[if_pos (by decide+kernel)];kernel_rfl)| (rw[if_neg (by decide+kernel)];exact⟨rfl,rfl⟩))
  (fun os started H enc _=>lifted os started H enc)
theorem holds:Rows.FnSwappedCardSaid:=
 Claim7.holds_tied_plain_at .later [] [.data,.data,.data,.sentinel,.sentinel] true Rows.fnSwappedCard.stood.harness true
  over (fun _ h=>by cases h) a0 (fun _ h=>by cases h) fnSwapped_row_tie rfl ⟨rfl,rfl⟩ a1 rfl
  (fun f fn hf hfn=>by
   obtain rfl:f=4:=(Option.some.inj (named.symm.trans hf)).symm;obtain rfl:fn=Tryz.f4:=(Option.some.inj (Tryz.func4.symm.trans hfn)).symm;exact⟨a2,fun j t ht=>a4 t (List.mem_of_getElem? (i:=j) (by simpa using ht))⟩)
  a3
end Go.Proofs.YtolgbnoielbngaaGreatDoor.fnSwapped

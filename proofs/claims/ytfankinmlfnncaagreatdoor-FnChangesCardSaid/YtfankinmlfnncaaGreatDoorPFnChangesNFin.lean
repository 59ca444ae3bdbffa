/- The statement FnChanges: for every input the law returns true and each argument reads as before. No condition. -/
import Derived.Test.YtfankinmlfnncaaGreatDoorRows
import Derived.Test.YtfankinmlfnncaaGreatDoorPFnChangesG6
import Derived.ProofKit
import Derived.SevenTiedAt
import Derived.LaidMore
import Derived.LaidSub
import Derived.Lib.LaidTab
import Derived.Lib.ItoaNum
import Derived.Stop.LaidErr
import Derived.Test.YtfankinmlfnncaaGreatDoorCards
import Derived.Test.YtfankinmlfnncaaGreatDoorTie
import Derived.Test.YtfankinmlfnncaaGreatDoorPFnChangesNFinK
import Derived.Test.YtfankinmlfnncaaGreatDoorPFnChangesNFinL
import Derived.Test.YtfankinmlfnncaaGreatDoorPFnChangesNFinM
namespace Go.Proofs.YtfankinmlfnncaaGreatDoor.fnChanges
open Go.ChangeShapes Go.WideShapes Go.ChangeAt Go.RowKit Go.Cx
theorem over:Rows.FnChangesSaid:=
 OpenClaim.holds_of_wide 6 Tryz.f6 rfl rfl rfl rfl rfl rfl rfl ⟨rfl,rfl,rfl,rfl,rfl⟩ rfl rfl rfl rfl rfl named Tryz.func6 closed
  (of_decide_eq_true (by kernel_rfl)) (by unfold Func.isWrapper;first| (rw[if_pos (by decide+kernel)];kernel_rfl)| (rw[if_neg (by decide+kernel)];exact⟨rfl,rfl⟩))
  (fun os started H enc _=>lifted os started H enc)
theorem holds:Rows.FnChangesCardSaid:=
 Claim7.holds_tied_plain_at .later [] [.data,.data,.data,.sentinel,.sentinel] true Rows.fnChangesCard.stood.harness true
  over (fun _ h=>by cases h) a0 (fun _ h=>by cases h) fnChanges_row_tie rfl ⟨rfl,rfl⟩ a1 rfl
  (fun f fn hf hfn=>by
   obtain rfl:f=6:=(Option.some.inj (named.symm.trans hf)).symm;obtain rfl:fn=Tryz.f6:=(Option.some.inj (Tryz.func6.symm.trans hfn)).symm;exact⟨a2,fun j t ht=>a4 t (List.mem_of_getElem? (i:=j) (by simpa using ht))⟩)
  a3
end Go.Proofs.YtfankinmlfnncaaGreatDoor.fnChanges

/- The statement FnRuleText: for every input the law returns true and each argument reads as before. No condition. -/
import Derived.Test.YtniopaehpolofaaGreatDoorRows
import Derived.Test.YtniopaehpolofaaGreatDoorPFnRuleTextG5
import Derived.ProofKit
import Derived.SevenTiedAt
import Derived.LaidMore
import Derived.LaidSub
import Derived.Lib.LaidTab
import Derived.Lib.ItoaNum
import Derived.Stop.LaidErr
import Derived.Shelf.Vars
import Derived.Lay
import Derived.Test.YtniopaehpolofaaGreatDoorCards
import Derived.Test.YtniopaehpolofaaGreatDoorTie
import Derived.Test.YtniopaehpolofaaGreatDoorPFnRuleTextNFinK
import Derived.Test.YtniopaehpolofaaGreatDoorPFnRuleTextNFinL
import Derived.Test.YtniopaehpolofaaGreatDoorPFnRuleTextNFinM
namespace Go.Proofs.YtniopaehpolofaaGreatDoor.fnRuleText
open Go.ChangeShapes Go.WideShapes Go.ChangeAt Go.RowKit Go.Cx
theorem over:Rows.FnRuleTextSaid:=
 OpenClaim.holds_of_wide 3 Tryz.f3 rfl rfl rfl rfl rfl rfl rfl ⟨rfl,rfl,rfl,rfl,rfl⟩ rfl rfl rfl rfl rfl named Tryz.func3 closed
  (of_decide_eq_true (by kernel_rfl)) (by unfold Func.isWrapper;first| (rw[if_pos (by decide+kernel)];kernel_rfl)| (rw[if_neg (by decide+kernel)];exact⟨rfl,rfl⟩))
  (fun os started H enc _=>lifted os started H enc)
theorem holds:Rows.FnRuleTextCardSaid:=
 Claim7.holds_tied_plain_at .later [] [.data,.data,.data,.data,.sentinel,.sentinel,.data,.pinned] true Rows.fnRuleTextCard.stood.harness true
  over (fun _ h=>by cases h) a0 (fun _ h=>by cases h) fnRuleText_row_tie rfl ⟨rfl,rfl⟩ a1 rfl
  (fun f fn hf hfn=>by
   obtain rfl:f=3:=(Option.some.inj (named.symm.trans hf)).symm;obtain rfl:fn=Tryz.f3:=(Option.some.inj (Tryz.func3.symm.trans hfn)).symm;exact⟨a2,fun j t ht=>a4 t (List.mem_of_getElem? (i:=j) (by simpa using ht))⟩)
  a3
end Go.Proofs.YtniopaehpolofaaGreatDoor.fnRuleText

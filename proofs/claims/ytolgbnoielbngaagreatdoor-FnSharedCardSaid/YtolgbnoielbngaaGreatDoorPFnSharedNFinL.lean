/- The contract of the statement, lifted. No condition. -/
import Derived.Test.YtolgbnoielbngaaGreatDoorRows
import Derived.Test.YtolgbnoielbngaaGreatDoorPFnSharedG5
import Derived.ProofKit
import Derived.SevenTiedAt
import Derived.LaidMore
import Derived.LaidSub
import Derived.Lib.LaidTab
import Derived.Lib.ItoaNum
import Derived.Test.YtolgbnoielbngaaGreatDoorCards
import Derived.Test.YtolgbnoielbngaaGreatDoorTie
namespace Go.Proofs.YtolgbnoielbngaaGreatDoor.fnShared
open Go.ChangeShapes Go.WideShapes Go.ChangeAt Go.RowKit Go.Cx
theorem own:ownKnob Tryz.prog.godebug=none:=by kernel_rfl
theorem laidOut:laidOutB Tryz.prog=true:=by kernel_rfl
theorem Ud:∀t∈Tryz.f3.params.toList,E7 Tryz.prog 20 t=true/\Tryz.prog.readableRec t=true/\t<Tryz.prog.types.size:=by
 rw[Tryz.params3];intro t ht;rcases List.mem_cons.mp ht with rfl|ht
 ·exact⟨by kernel_rfl,by kernel_rfl,of_decide_eq_true (by kernel_rfl)⟩
 cases ht
theorem good(xs:List D)(h:CR Tryz.prog 20 Tryz.f3.params.toList xs):Go.Cx.Good Tryz.prog 3 xs (.bool true):=by
 rw[Tryz.params3]at h;cases h with|cons _ _ _ _ g0 h=>
 cases h;obtain⟨code,rfl⟩:=MB MC (J6.cell (by kernel_rfl) (by kernel_rfl) g0);exact Go.Cx.LawFnShared.KF code
theorem JL(os:Os)(args:Array Value):laidMetH Tryz.prog Rows.fnSharedRow.laid ((World.doorLaid Tryz.prog 400 os).forCall (fun _ _=>0) ⟨#[],args,[]⟩).memory:=
 laidMetH_of_parts3 (fuel:=8) (laidMet_of_run' 8 (by kernel_rfl) (by kernel_rfl)) (by kernel_rfl) (by kernel_rfl)
theorem QN{W:World}(h:laidMetH Tryz.prog Rows.fnSharedRow.laid W):C2 W fun _=>False:=by
 refine C2.PT (P:=Tryz.prog) fun x hx=>?_
 rcases List.mem_cons.1 hx with rfl|hx
 ·have h1:=laidMetH.filter (fun x=>x.1== "internal/strconv.uint64pow10") h;have h2:laidMet Tryz.prog [("internal/strconv.uint64pow10",Lib.tabData .u64 Lib.pow10Tab)] W:=h1;exact⟨"internal/strconv.uint64pow10",_,by kernel_rfl,Lib.tabIs_of_head (g:=3) (t:=214) (e:=175) (n:=20) (by kernel_rfl) (by kernel_rfl) (by kernel_rfl) (by kernel_rfl) (by kernel_rfl) (by kernel_rfl) h2,rfl⟩
 cases hx
set_option maxRecDepth 100000 in
theorem lifted(os:Os)(started:os.Started)(H:Type)(enc:TypeId×Value->H):
 ReturnsInHanded {} Tryz.checked os 3 .any (fun w args=>(Rows.fnSharedSpec.pre enc Tryz.prog Tryz.f3 [] false w args/\laidMetH Tryz.prog Rows.fnSharedRow.laid w)/\sizedMet enc Tryz.prog Tryz.f3 (OpenSpec.ofChange Rows.fnSharedSpec) false w args)
  (Rows.fnSharedSpec.post enc Tryz.prog Tryz.f3 false true false false):=by
 refine returnsInHanded_of_change_and (C:=Tryz.checked) (X:=fun w _=>laidMetH Tryz.prog Rows.fnSharedRow.laid w) (fun _ _ _ hh h=>h.of_heap hh) own started (by kernel_rfl) Tryz.func3
  (ChangeSpec.witness_shaped (enc:=enc) (C:=Tryz.checked) (os:=os) (X:=fun w _=>laidMetH Tryz.prog Rows.fnSharedRow.laid w) false (World.doorLaid Tryz.prog 400 os) #[.slice none 0 0] 20 rfl (World.shaped_of_RefB (by kernel_rfl) (by kernel_rfl)) (by kernel_rfl) (by kernel_rfl) (by kernel_rfl) (JL os _)) ?_
 intro W base args ds gs before hval hW _ _ hL _;refine DM (n:=20) (fn:=Tryz.f3) (s:=Rows.fnSharedSpec) laidOut Ud rfl (by kernel_rfl) rfl ?_ (QN hL) good hval hW;intro ds hds;rw[Tryz.params3]at hds
 match ds,hds with
 | [_],_=>rfl
end Go.Proofs.YtolgbnoielbngaaGreatDoor.fnShared

/- The contract of the statement, lifted. No condition. -/
import Derived.Test.YtfankinmlfnncaaGreatDoorRows
import Derived.Test.YtfankinmlfnncaaGreatDoorPFnChangesG6
import Derived.ProofKit
import Derived.SevenTiedAt
import Derived.LaidMore
import Derived.LaidSub
import Derived.Lib.LaidTab
import Derived.Lib.ItoaNum
import Derived.Stop.LaidErr
import Derived.Test.YtfankinmlfnncaaGreatDoorCards
import Derived.Test.YtfankinmlfnncaaGreatDoorTie
namespace Go.Proofs.YtfankinmlfnncaaGreatDoor.fnChanges
open Go.ChangeShapes Go.WideShapes Go.ChangeAt Go.RowKit Go.Cx
theorem own:ownKnob Tryz.prog.godebug=none:=by kernel_rfl
theorem laidOut:laidOutB Tryz.prog=true:=by kernel_rfl
theorem aG2:∀t∈Tryz.f6.params.toList,UD Tryz.prog 20 t=true/\Tryz.prog.readableRec t=true/\t<Tryz.prog.types.size:=by
 rw[Tryz.params6];intro t ht;rcases List.mem_cons.mp ht with rfl|ht
 ·exact⟨by kernel_rfl,by kernel_rfl,of_decide_eq_true (by kernel_rfl)⟩
 cases ht
theorem good(xs:List D)(h:RX Tryz.prog 20 Tryz.f6.params.toList xs):Go.Cx.Good Tryz.prog 6 xs (.bool true):=by
 rw[Tryz.params6]at h;cases h with|cons _ _ _ _ g0 h=>
 cases h;obtain⟨code,rfl⟩:=a4d a4e (a0V.cell (by kernel_rfl) (by kernel_rfl) g0);exact Go.Cx.LawFnChanges.a1p code
theorem a0t(os:Os)(args:Array Value):laidMetH Tryz.prog Rows.fnChangesRow.laid ((World.doorLaid Tryz.prog 400 os).forCall (fun _ _=>0) ⟨#[],args,[]⟩).memory:=
 laidMetH_of_parts3 (fuel:=8) (laidMet_of_run' 8 (by kernel_rfl) (by kernel_rfl)) (by kernel_rfl) (by kernel_rfl)
theorem Xf: "*" ++ "errors.errorString" = "*errors.errorString" :=by decide
theorem a8A(u:TypeId)(h:Tryz.prog.typeName? 3 u=some "*errors.errorString"):u=259:=
 typeName_ptr_named (nm:= "errors.errorString") (by rw[Xf];kernel_rfl) (by kernel_rfl) (by decide) u (by rw[Xf];exact h)
theorem vok{W:World}(h:laidMetH Tryz.prog Rows.fnChangesRow.laid W):SZ W fun _=>False:=by
 refine SZ.a99 (P:=Tryz.prog) fun x hx=>?_
 rcases List.mem_cons.1 hx with rfl|hx
 ·have h1:=laidMetH.filter (fun x=>x.1== "internal/strconv.uint64pow10") h;have h2:laidMet Tryz.prog [("internal/strconv.uint64pow10",Lib.tabData .u64 Lib.pow10Tab)] W:=h1;exact⟨"internal/strconv.uint64pow10",_,by kernel_rfl,Lib.tabIs_of_head (g:=3) (t:=252) (e:=223) (n:=20) (by kernel_rfl) (by kernel_rfl) (by kernel_rfl) (by kernel_rfl) (by kernel_rfl) (by kernel_rfl) h2,rfl⟩
 rcases List.mem_cons.1 hx with rfl|hx
 ·have h1:=laidMetH.filter (fun x=>x.1== "strconv.ErrSyntax") h;have h2:laidMet Tryz.prog [("strconv.ErrSyntax",.iface "*errors.errorString" (.ptr (.agg [.lit (.string [105,110,118,97,108,105,100,32,115,121,110,116,97,120])])))] W:=h1;obtain⟨a,s,h3,_,_,_⟩:=laid_sentinel h2 (g:=1) (ti:=198) (tp:=259) (te:=261) (ts:=9) (by kernel_rfl) (by kernel_rfl) Tryz.underlying198 a8A Tryz.underlying259 Tryz.underlying261 rfl rfl Tryz.underlying9 (by kernel_rfl) (by kernel_rfl);exact⟨"strconv.ErrSyntax",_,by kernel_rfl,h3,_,_,rfl⟩
 cases hx
set_option maxRecDepth 100000 in
theorem lifted(os:Os)(started:os.Started)(H:Type)(enc:TypeId×Value->H):
 ReturnsInHanded {} Tryz.checked os 6 .any (fun w args=>(Rows.fnChangesSpec.pre enc Tryz.prog Tryz.f6 [] false w args/\laidMetH Tryz.prog Rows.fnChangesRow.laid w)/\sizedMet enc Tryz.prog Tryz.f6 (OpenSpec.ofChange Rows.fnChangesSpec) false w args)
  (Rows.fnChangesSpec.post enc Tryz.prog Tryz.f6 false true false false):=by
 refine returnsInHanded_of_change_and (C:=Tryz.checked) (X:=fun w _=>laidMetH Tryz.prog Rows.fnChangesRow.laid w) (fun _ _ _ hh h=>h.of_heap hh) own started (by kernel_rfl) Tryz.func6
  (ChangeSpec.witness_shaped (enc:=enc) (C:=Tryz.checked) (os:=os) (X:=fun w _=>laidMetH Tryz.prog Rows.fnChangesRow.laid w) false (World.doorLaid Tryz.prog 400 os) #[.slice none 0 0] 20 rfl (World.shaped_of_RefB (by kernel_rfl) (by kernel_rfl)) (by kernel_rfl) (by kernel_rfl) (by kernel_rfl) (a0t os _)) ?_
 intro W base args ds gs before hval hW _ _ hL _;refine TG (n:=20) (fn:=Tryz.f6) (s:=Rows.fnChangesSpec) laidOut aG2 rfl (by kernel_rfl) rfl ?_ (vok hL) good hval hW;intro ds hds;rw[Tryz.params6]at hds
 match ds,hds with
 | [_],_=>rfl
end Go.Proofs.YtfankinmlfnncaaGreatDoor.fnChanges

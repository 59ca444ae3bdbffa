/- The statement FnExactConflictSet: for every input the law returns true and each argument reads as before. No condition. -/
import Derived.Test.YtbeaohmbmfjabaaGreatDoorRows
import Derived.Test.YtbeaohmbmfjabaaGreatDoorPConflictSetG7
import Derived.ProofKit
import Derived.SevenTiedAt
import Derived.LaidMore
import Derived.LaidSub
import Derived.Lib.LaidTab
import Derived.Lib.ItoaNum
import Derived.Stop.LaidErr
import Derived.Test.YtbeaohmbmfjabaaGreatDoorCards
import Derived.Test.YtbeaohmbmfjabaaGreatDoorTie
import Derived.Test.YtbeaohmbmfjabaaGreatDoorPConflictSetNFinK
namespace Go.Proofs.YtbeaohmbmfjabaaGreatDoor.fnExactConflictSet
open Go.ChangeShapes Go.WideShapes Go.ChangeAt Go.RowKit Go.Cx
theorem own:ownKnob Tryz.prog.godebug=none:=by kernel_rfl
theorem laidOut:laidOutB Tryz.prog=true:=by kernel_rfl
theorem aAM:∀t∈Tryz.f8.params.toList,Rs Tryz.prog 20 t=true/\Tryz.prog.readableRec t=true/\t<Tryz.prog.types.size:=by
 rw[Tryz.params8];intro t ht;rcases List.mem_cons.mp ht with rfl|ht
 ·exact⟨by kernel_rfl,by kernel_rfl,of_decide_eq_true (by kernel_rfl)⟩
 cases ht
theorem good(xs:List D)(h:PX Tryz.prog 20 Tryz.f8.params.toList xs):Go.Cx.Good Tryz.prog 8 xs (.bool true):=by
 rw[Tryz.params8]at h;cases h with|cons _ _ _ _ g0 h=>
 cases h;obtain⟨n,rfl⟩:=Y9.struct QN (by kernel_rfl) (by kernel_rfl) g0;exact Go.Cx.LawConflictSet.ZN n
theorem YU(os:Os)(args:Array Value):laidMetH Tryz.prog Rows.fnExactConflictSetRow.laid ((World.doorLaid Tryz.prog 400 os).forCall (fun _ _=>0) ⟨#[],args,[]⟩).memory:=
 laidMetH_of_parts3 (fuel:=8) (laidMet_of_run' 8 (by kernel_rfl) (by kernel_rfl)) (by kernel_rfl) (by kernel_rfl)
theorem VM: "*" ++ "errors.errorString" = "*errors.errorString" :=by decide
theorem a4C(u:TypeId)(h:Tryz.prog.typeName? 3 u=some "*errors.errorString"):u=300:=
 typeName_ptr_named (nm:= "errors.errorString") (by rw[VM];kernel_rfl) (by kernel_rfl) (by decide) u (by rw[VM];exact h)
theorem vok{W:World}(h:laidMetH Tryz.prog Rows.fnExactConflictSetRow.laid W):QD W fun _=>False:=by
 refine QD.a5E (P:=Tryz.prog) fun x hx=>?_
 rcases List.mem_cons.1 hx with rfl|hx
 ·have h1:=laidMetH.filter (fun x=>x.1== "internal/strconv.uint64pow10") h;have h2:laidMet Tryz.prog [("internal/strconv.uint64pow10",Lib.tabData .u64 Lib.pow10Tab)] W:=h1;exact⟨"internal/strconv.uint64pow10",_,by kernel_rfl,Lib.tabIs_of_head (g:=3) (t:=293) (e:=268) (n:=20) (by kernel_rfl) (by kernel_rfl) (by kernel_rfl) (by kernel_rfl) (by kernel_rfl) (by kernel_rfl) h2,rfl⟩
 rcases List.mem_cons.1 hx with rfl|hx
 ·have h1:=laidMetH.filter (fun x=>x.1== "strconv.ErrSyntax") h;have h2:laidMet Tryz.prog [("strconv.ErrSyntax",.iface "*errors.errorString" (.ptr (.agg [.lit (.string [105,110,118,97,108,105,100,32,115,121,110,116,97,120])])))] W:=h1;obtain⟨a,s,h3,_,_,_⟩:=laid_sentinel h2 (g:=1) (ti:=245) (tp:=300) (te:=302) (ts:=9) (by kernel_rfl) (by kernel_rfl) Tryz.underlying245 a4C Tryz.underlying300 Tryz.underlying302 rfl rfl Tryz.underlying9 (by kernel_rfl) (by kernel_rfl);exact⟨"strconv.ErrSyntax",_,by kernel_rfl,h3,_,_,rfl⟩
 cases hx
set_option maxRecDepth 100000 in
theorem lifted(os:Os)(started:os.Started)(H:Type)(enc:TypeId×Value->H):
 ReturnsInHanded {} Tryz.checked os 8 .any (fun w args=>(Rows.fnExactConflictSetSpec.pre enc Tryz.prog Tryz.f8 [] false w args/\laidMetH Tryz.prog Rows.fnExactConflictSetRow.laid w)/\sizedMet enc Tryz.prog Tryz.f8 (OpenSpec.ofChange Rows.fnExactConflictSetSpec) false w args)
  (Rows.fnExactConflictSetSpec.post enc Tryz.prog Tryz.f8 false true false false):=by
 refine returnsInHanded_of_change_and (C:=Tryz.checked) (X:=fun w _=>laidMetH Tryz.prog Rows.fnExactConflictSetRow.laid w) (fun _ _ _ hh h=>h.of_heap hh) own started (by kernel_rfl) Tryz.func8
  (ChangeSpec.witness_shaped (enc:=enc) (C:=Tryz.checked) (os:=os) (X:=fun w _=>laidMetH Tryz.prog Rows.fnExactConflictSetRow.laid w) false (World.doorLaid Tryz.prog 400 os) #[.agg #[.slice none 0 0,.slice none 0 0,.slice none 0 0,.slice none 0 0,.slice none 0 0,.int .i64 0]] 20 rfl (World.shaped_of_RefB (by kernel_rfl) (by kernel_rfl)) (by kernel_rfl) (by kernel_rfl) (by kernel_rfl) (YU os _)) ?_
 intro W base args ds gs before hval hW _ _ hL _;refine Qh (n:=20) (fn:=Tryz.f8) (s:=Rows.fnExactConflictSetSpec) laidOut aAM rfl (by kernel_rfl) rfl ?_ (vok hL) good hval hW;intro ds hds;rw[Tryz.params8]at hds
 match ds,hds with
 | [_],_=>rfl
theorem over:Rows.FnExactConflictSetSaid:=
 OpenClaim.holds_of_wide 8 Tryz.f8 rfl rfl rfl rfl rfl rfl rfl ⟨rfl,rfl,rfl,rfl,rfl⟩ rfl rfl rfl rfl rfl named Tryz.func8 closed
  (of_decide_eq_true (by kernel_rfl)) (by unfold Func.isWrapper;first| (rw[if_pos (by decide+kernel)];kernel_rfl)| (rw[if_neg (by decide+kernel)];exact⟨rfl,rfl⟩))
  (fun os started H enc _=>lifted os started H enc)
theorem holds:Rows.FnExactConflictSetCardSaid:=
 Claim7.holds_tied_plain_at .later [] [.data,.data,.data,.sentinel,.sentinel] true Rows.fnExactConflictSetCard.stood.harness true
  over (fun _ h=>by cases h) (by kernel_rfl) (fun _ h=>by cases h) fnExactConflictSet_row_tie rfl ⟨rfl,rfl⟩ (by kernel_rfl) rfl
  (fun f fn hf hfn=>by
   obtain rfl:f=8:=(Option.some.inj (named.symm.trans hf)).symm;obtain rfl:fn=Tryz.f8:=(Option.some.inj (Tryz.func8.symm.trans hfn)).symm;exact⟨by kernel_rfl,fun j t ht=>by
    rw[Tryz.params8]at ht;have hm:=List.mem_of_getElem? (l:=_) (i:=j) (a:=t) (by simpa using ht);simp only[List.mem_cons,List.not_mem_nil,or_false]at hm;rcases hm with rfl<;>(show Tryz.prog.wantsStandIn _=false;kernel_rfl)⟩)
  (by kernel_rfl)
end Go.Proofs.YtbeaohmbmfjabaaGreatDoor.fnExactConflictSet

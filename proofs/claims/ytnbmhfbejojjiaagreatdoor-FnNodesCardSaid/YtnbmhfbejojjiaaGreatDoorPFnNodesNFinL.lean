/- The contract of the statement, lifted. No condition. -/
import Derived.Test.YtnbmhfbejojjiaaGreatDoorRows
import Derived.Test.YtnbmhfbejojjiaaGreatDoorPFnNodesG7
import Derived.ProofKit
import Derived.SevenTiedAt
import Derived.LaidMore
import Derived.LaidSub
import Derived.Lib.LaidTab
import Derived.Lib.ItoaNum
import Derived.Stop.LaidErr
import Derived.Test.YtnbmhfbejojjiaaGreatDoorCards
import Derived.Test.YtnbmhfbejojjiaaGreatDoorTie
namespace Go.Proofs.YtnbmhfbejojjiaaGreatDoor.fnNodes
open Go.ChangeShapes Go.WideShapes Go.ChangeAt Go.RowKit Go.Cx
theorem own:ownKnob Tryz.prog.godebug=none:=by kernel_rfl
theorem laidOut:laidOutB Tryz.prog=true:=by kernel_rfl
theorem a5R:∀t∈Tryz.f4.params.toList,Ml Tryz.prog 20 t=true/\Tryz.prog.readableRec t=true/\t<Tryz.prog.types.size:=by
 rw[Tryz.params4];intro t ht;rcases List.mem_cons.mp ht with rfl|ht
 ·exact⟨by kernel_rfl,by kernel_rfl,of_decide_eq_true (by kernel_rfl)⟩
 cases ht
theorem good(xs:List D)(h:KW Tryz.prog 20 Tryz.f4.params.toList xs):Go.Cx.Good Tryz.prog 4 xs (.bool true):=by
 rw[Tryz.params4]at h;cases h with|cons _ _ _ _ g0 h=>
 cases h;obtain⟨code,rfl⟩:=Vt Vu (SR.cell (by kernel_rfl) (by kernel_rfl) g0);exact Go.Cx.LawFnNodes.Tm code
theorem Sk(os:Os)(args:Array Value):laidMetH Tryz.prog Rows.fnNodesRow.laid ((World.doorLaid Tryz.prog 400 os).forCall (fun _ _=>0) ⟨#[],args,[]⟩).memory:=
 laidMetH_of_parts3 (fuel:=8) (laidMet_of_run' 8 (by kernel_rfl) (by kernel_rfl)) (by kernel_rfl) (by kernel_rfl)
theorem KA{H:Type}{enc:TypeId×Value->H}{P:Program}{w:World}{base:Nat}{sp:Nat->Bool}{held:Bool}{fuel:Nat}{t e:TypeId}{n:Nat}{cs:List Value}{zs:List (List UInt8)}{p:List MemPlace}
 (ht:P.underlying t=some (.array n e)) (he:P.underlying e=some .string) (hce:P.cellsOf e=1) (hct:P.cellsOf t=n)
 (h:DataW.trod enc P w base sp held fuel t cs=some (.agg (zs.map fun z=>.lit (.string z)),p)):cs=zs.map fun z=>Value.string ⟨z.toArray⟩:=by
 cases fuel with
 |zero=>simp[DataW.trod]at h
 |succ fuel=>
  simp only[DataW.trod,ht,hce,hct,Nat.mul_one]at h;split at h
  ·rename_i hl;obtain⟨xs,hm,hx⟩:=Option.map_eq_some_iff.1 h;have hxs:xs.map (·.1)=zs.map fun z=>(DataW.lit (.string z):DataW H):=by
    have:=congrArg Prod.fst hx;simpa using this
   have hxl:xs.length=n:=by simpa using Go.Lib.mapM_length hm
   have hzl:zs.length=n:=by
    have:=congrArg List.length hxs;simp at this;omega
   apply List.ext_getElem?;intro i;by_cases hi:i<n
   ·obtain⟨b,hb,hf⟩:=Go.Lib.mapM_at hm i i (by simp[hi]);obtain⟨s,hc,rfl,_⟩:=DataW.trod_string he hf;have h1:cs[i]?=some (.string s):=by
     have:=congrArg (·[0]?) hc;simpa[List.getElem?_take,List.getElem?_drop]using this
    have h2:(xs.map (·.1))[i]?=some (DataW.lit (.string s.data.toList):DataW H):=by simp[hb]
    rw[hxs]at h2;simp only[List.getElem?_map,Option.map_eq_some_iff,DataW.lit.injEq,Lit.string.injEq]at h2;obtain⟨z',Ia,rfl⟩:=h2;simp[h1,Ia]
   ·rw[List.getElem?_eq_none (by omega),List.getElem?_eq_none (by simp;omega)]
  ·cases h
theorem MN{P:Program}{W:World}{name:String}{zs:List (List UInt8)}{rest:List (String×DataW Unit)}{g:Nat}{t e:TypeId}{n:Nat}
 (hg:P.globalNamed name=some g) (hty:(P.globals[g]?).map (·.type)=some t) (ht:P.underlying t=some (.array n e)) (he:P.underlying e=some .string) (hce:P.cellsOf e=1) (hct:P.cellsOf t=n)
 (h:laidMet P ((name,.agg (zs.map fun z=>.lit (.string z)))::rest) W):W.var? P name=some (zs.map fun z=>Value.string ⟨z.toArray⟩).toArray:=by
 obtain⟨ps,⟨g',t',cs,fuel,p,q,hg',ht',hvar,hd,_,_⟩,_⟩:=h;obtain rfl:=Option.some.inj (hg.symm.trans hg');obtain rfl:=Option.some.inj (hty.symm.trans ht');rw[hvar,<-KA ht he hce hct hd]
theorem Py: "*" ++ "errors.errorString" = "*errors.errorString" :=by decide
theorem Yv(u:TypeId)(h:Tryz.prog.typeName? 3 u=some "*errors.errorString"):u=276:=
 typeName_ptr_named (nm:= "errors.errorString") (by rw[Py];kernel_rfl) (by kernel_rfl) (by decide) u (by rw[Py];exact h)
theorem vok{W:World}(h:laidMetH Tryz.prog Rows.fnNodesRow.laid W):K9 W fun _=>False:=by
 refine K9.Zr (P:=Tryz.prog) fun x hx=>?_
 rcases List.mem_cons.1 hx with rfl|hx
 ·have h1:=laidMetH.filter (fun x=>x.1== "internal/strconv.uint64pow10") h;have h2:laidMet Tryz.prog [("internal/strconv.uint64pow10",Lib.tabData .u64 Lib.pow10Tab)] W:=h1;exact⟨"internal/strconv.uint64pow10",_,by kernel_rfl,Lib.tabIs_of_head (g:=2) (t:=232) (e:=213) (n:=20) (by kernel_rfl) (by kernel_rfl) (by kernel_rfl) (by kernel_rfl) (by kernel_rfl) (by kernel_rfl) h2,rfl⟩
 rcases List.mem_cons.1 hx with rfl|hx
 ·have h1:=laidMetH.filter (fun x=>x.1== "strconv.ErrSyntax") h;have h2:laidMet Tryz.prog [("strconv.ErrSyntax",.iface "*errors.errorString" (.ptr (.agg [.lit (.string [105,110,118,97,108,105,100,32,115,121,110,116,97,120])])))] W:=h1;obtain⟨a,s,h3,_,_,_⟩:=laid_sentinel h2 (g:=3) (ti:=209) (tp:=276) (te:=278) (ts:=9) (by kernel_rfl) (by kernel_rfl) Tryz.underlying209 Yv Tryz.underlying276 Tryz.underlying278 rfl rfl Tryz.underlying9 (by kernel_rfl) (by kernel_rfl);exact⟨"strconv.ErrSyntax",_,by kernel_rfl,h3,_,_,rfl⟩
 rcases List.mem_cons.1 hx with rfl|hx
 ·have h1:=laidMetH.filter (fun x=>x.1== "loop.example/g03015/impl.testSigns") h;have h2:laidMet Tryz.prog [("loop.example/g03015/impl.testSigns",.agg (([[32,61,32],[32,33,61,32],[32,60,32]]:List (List UInt8)).map fun z=>.lit (.string z)))] W:=h1;exact⟨"loop.example/g03015/impl.testSigns",_,by kernel_rfl,MN (g:=0) (t:=134) (e:=9) (n:=3) (by kernel_rfl) (by kernel_rfl) (by kernel_rfl) (by kernel_rfl) (by kernel_rfl) (by kernel_rfl) h2,rfl⟩
 cases hx
set_option maxRecDepth 100000 in
theorem lifted(os:Os)(started:os.Started)(H:Type)(enc:TypeId×Value->H):
 ReturnsInHanded {} Tryz.checked os 4 .any (fun w args=>(Rows.fnNodesSpec.pre enc Tryz.prog Tryz.f4 [] false w args/\laidMetH Tryz.prog Rows.fnNodesRow.laid w)/\sizedMet enc Tryz.prog Tryz.f4 (OpenSpec.ofChange Rows.fnNodesSpec) false w args)
  (Rows.fnNodesSpec.post enc Tryz.prog Tryz.f4 false true false false):=by
 refine returnsInHanded_of_change_and (C:=Tryz.checked) (X:=fun w _=>laidMetH Tryz.prog Rows.fnNodesRow.laid w) (fun _ _ _ hh h=>h.of_heap hh) own started (by kernel_rfl) Tryz.func4
  (ChangeSpec.witness_shaped (enc:=enc) (C:=Tryz.checked) (os:=os) (X:=fun w _=>laidMetH Tryz.prog Rows.fnNodesRow.laid w) false (World.doorLaid Tryz.prog 400 os) #[.slice none 0 0] 20 rfl (World.shaped_of_RefB (by kernel_rfl) (by kernel_rfl)) (by kernel_rfl) (by kernel_rfl) (by kernel_rfl) (Sk os _)) ?_
 intro W base args ds gs before hval hW _ _ hL _;refine KL (n:=20) (fn:=Tryz.f4) (s:=Rows.fnNodesSpec) laidOut a5R rfl (by kernel_rfl) (fun n hn g t h1 h2=>?_) ?_ (vok hL) good hval hW
 ·obtain rfl:=List.mem_singleton.1 (show n∈["loop.example/g03015/impl.testSigns"]from hn);obtain rfl:g=0:=Option.some.inj (h1.symm.trans (by kernel_rfl));obtain rfl:t=134:=Option.some.inj (h2.symm.trans (by kernel_rfl));exact⟨by kernel_rfl,of_decide_eq_true (by kernel_rfl)⟩
 intro ds gs hds hgs;rw[Tryz.params4]at hds
 match ds,hds,gs,hgs with
 | [_],_,[_],_=>rfl
end Go.Proofs.YtnbmhfbejojjiaaGreatDoor.fnNodes

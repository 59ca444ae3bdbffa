/- The contract of the statement, lifted. No condition. -/
import Derived.Test.YtniopaehpolofaaGreatDoorRows
import Derived.Test.YtniopaehpolofaaGreatDoorPFnRuleTextG5
import Derived.ProofKit
import Derived.SevenTiedAt
import Derived.LaidMore
import Derived.LaidSub
import Derived.Lib.LaidTab
import Derived.Lib.ItoaNum
import Derived.Stop.LaidErr
import Derived.Shelf.Vars
import Derived.Lay
import Derived.Test.YtniopaehpolofaaGreatDoorCards
import Derived.Test.YtniopaehpolofaaGreatDoorTie
namespace Go.Proofs.YtniopaehpolofaaGreatDoor.fnRuleText
open Go.ChangeShapes Go.WideShapes Go.ChangeAt Go.RowKit Go.Cx
theorem own:ownKnob Tryz.prog.godebug=none:=by kernel_rfl
theorem laidOut:laidOutB Tryz.prog=true:=by kernel_rfl
theorem Sp:∀t∈Tryz.f3.params.toList,D8 Tryz.prog 20 t=true/\Tryz.prog.readableRec t=true/\t<Tryz.prog.types.size:=by
 rw[Tryz.params3];intro t ht;rcases List.mem_cons.mp ht with rfl|ht
 ·exact⟨by kernel_rfl,by kernel_rfl,of_decide_eq_true (by kernel_rfl)⟩
 cases ht
theorem good(xs:List D)(h:BS Tryz.prog 20 Tryz.f3.params.toList xs):Go.Cx.Good Tryz.prog 3 xs (.bool true):=by
 rw[Tryz.params3]at h;cases h with|cons _ _ _ _ g0 h=>
 cases h;obtain⟨code,rfl⟩:=KV KW (Hg.cell (by kernel_rfl) (by kernel_rfl) g0);exact Go.Cx.LawFnRuleText.Is code
theorem I0(os:Os)(args:Array Value):laidMetH Tryz.prog Rows.fnRuleTextRow.laid ((World.laidAll Tryz.prog os Rows.fnRuleTextRow.laid).forCall (fun _ _=>0) ⟨#[],args,[]⟩).memory:=by
 rw[MakeChecks.laidMetH_plain _ _ _ (by kernel_rfl)];exact laidMet_laidAll _ (by kernel_rfl) (by kernel_rfl)
theorem B5{H:Type}{enc:TypeId×Value->H}{P:Program}{w:World}{base:Nat}{sp:Nat->Bool}{held:Bool}{fuel:Nat}{t e:TypeId}{n:Nat}{cs:List Value}{zs:List (List UInt8)}{p:List MemPlace}
 (ht:P.underlying t=some (.array n e)) (he:P.underlying e=some .string) (hce:P.cellsOf e=1) (hct:P.cellsOf t=n)
 (h:DataW.trod enc P w base sp held fuel t cs=some (.agg (zs.map fun z=>.lit (.string z)),p)):cs=zs.map fun z=>Value.string ⟨z.toArray⟩:=by
 cases fuel with
 |zero=>simp[DataW.trod]at h
 |succ fuel=>
  simp only[DataW.trod,ht,hce,hct,Nat.mul_one]at h;split at h
  ·rename_i hl;obtain⟨xs,hm,hx⟩:=Option.map_eq_some_iff.1 h;have hxs:xs.map (·.1)=zs.map fun z=>(DataW.lit (.string z):DataW H):=by
    have:=congrArg Prod.fst hx;simpa using this
   have hxl:xs.length=n:=by simpa using Go.Lib.mapM_length hm
   have hzl:zs.length=n:=by
    have:=congrArg List.length hxs;simp at this;omega
   apply List.ext_getElem?;intro i;by_cases hi:i<n
   ·obtain⟨b,hb,hf⟩:=Go.Lib.mapM_at hm i i (by simp[hi]);obtain⟨s,hc,rfl,_⟩:=DataW.trod_string he hf;have h1:cs[i]?=some (.string s):=by
     have:=congrArg (·[0]?) hc;simpa[List.getElem?_take,List.getElem?_drop]using this
    have h2:(xs.map (·.1))[i]?=some (DataW.lit (.string s.data.toList):DataW H):=by simp[hb]
    rw[hxs]at h2;simp only[List.getElem?_map,Option.map_eq_some_iff,DataW.lit.injEq,Lit.string.injEq]at h2;obtain⟨z',zl,rfl⟩:=h2;simp[h1,zl]
   ·rw[List.getElem?_eq_none (by omega),List.getElem?_eq_none (by simp;omega)]
  ·cases h
theorem Cj{P:Program}{W:World}{name:String}{zs:List (List UInt8)}{rest:List (String×DataW Unit)}{g:Nat}{t e:TypeId}{n:Nat}
 (hg:P.globalNamed name=some g) (hty:(P.globals[g]?).map (·.type)=some t) (ht:P.underlying t=some (.array n e)) (he:P.underlying e=some .string) (hce:P.cellsOf e=1) (hct:P.cellsOf t=n)
 (h:laidMet P ((name,.agg (zs.map fun z=>.lit (.string z)))::rest) W):W.var? P name=some (zs.map fun z=>Value.string ⟨z.toArray⟩).toArray:=by
 obtain⟨ps,⟨g',t',cs,fuel,p,q,hg',ht',hvar,hd,_,_⟩,_⟩:=h;obtain rfl:=Option.some.inj (hg.symm.trans hg');obtain rfl:=Option.some.inj (hty.symm.trans ht');rw[hvar,<-B5 ht he hce hct hd]
theorem FX: "*" ++ "errors.errorString" = "*errors.errorString" :=by decide
theorem NG(u:TypeId)(h:Tryz.prog.typeName? 3 u=some "*errors.errorString"):u=168:=
 typeName_ptr_named (nm:= "errors.errorString") (by rw[FX];kernel_rfl) (by kernel_rfl) (by decide) u (by rw[FX];exact h)
theorem BM{P:Program}{w:World}{name:String}{g:Nat}{t:TypeId}{zero:Array Value}{k:IntKind}(h:w.ShapedOpen P)(hn:P.globalNamed name=some g)(hg:g<P.globals.size)
 (h0:((begin P (fun _ _=>0) default).world.heap[g]?).bind Obj.row?=some (zero,t)) (hz:zero.size=1) (hb:P.buildable t=true) (hc:P.cellTypes P.depth t=some [t]) (hu:P.underlying t=some (.int k)):
 ∃cs,w.var? P name=some cs/\∃m,cs.toList=[Value.int k m]:=by
 obtain⟨m,hm⟩:=cell_of_shapedOpen_int h hg h0 hz hb hc hu;obtain⟨cs,hh,hs,_⟩:=h.1 g zero t hg h0;refine⟨cs,by unfold World.var?;rw[hn,Option.bind_some,hh],m,?_⟩;rw[hz]at hs;simp only[World.cell?,hh]at hm;obtain⟨l⟩:=cs
 match l,hs with
 | [v],_=>
  have:v=.int k m:=by simpa using hm
  rw[this]
theorem BA{H:Type}{enc:TypeId×Value->H}{a:Assume}{C:Checked}{os:Os}{f:FuncId}{fn:Func}{s:ChangeSpec}{conds:List PathCond}{apart fresh handsOn again:Bool}{X:World->Array Value->Prop}
 (hX:∀(w w':World) (args:Array Value),w.heap=w'.heap->X w args->X w' args)
 (own:ownKnob C.prog.godebug=none) (started:os.Started) (noInit:C.prog.inits.idxOf? f=none) (hfn:C.prog.funcs[f]?=some fn)
 (witness:∃(w:World) (tape:Tape) (i:Input),w.os=os/\(w.forCall tape i).Shaped C.prog/\i.vars=[]/\Input.okWide C.prog (w.forCall tape i) .any w.heap.size f i/\
  ((s.pre enc C.prog fn conds apart (w.forCall tape i).memory i.args/\X (w.forCall tape i).memory i.args)/\sizedMet enc C.prog fn (OpenSpec.ofChange s) apart (w.forCall tape i).memory i.args)/\a.holds C.prog (lone (Frame.enter C.prog f i.args .normal) [] (w.forCall tape i)))
 (contract:∀(W:World) (base:Nat) (args:Array Value) (ds gs:List (DataW H)) (before:List MemPlace),W.ShapedOpen C.prog->X W args->
  (∀(j:Nat) t v,fn.params[j]?=some t->args[j]?=some v->Value.okWide C.prog W .any base t v)->
  DataW.Whole enc C.prog fn.params.toList s.vars apart W args.toList ds gs before->
  Calls C.prog f args W fun e W'=>∃v,e=.returned v/\s.post enc C.prog fn apart fresh handsOn again W args v W'):
 ReturnsInHanded a C os f .any (fun w args=>(s.pre enc C.prog fn conds apart w args/\X w args)/\sizedMet enc C.prog fn (OpenSpec.ofChange s) apart w args) (s.post enc C.prog fn apart fresh handsOn again):=by
 refine returnsInHanded_of_calls own started noInit witness fun w tape i _ hsh _ hok hpre _=>?_
 obtain⟨_,_,_,fn',Rq,_,_,_,_,hval⟩:=hok;obtain rfl:fn'=fn:=Option.some.inj (Rq.symm.trans hfn);obtain⟨⟨⟨ds,gs,before,hw,_⟩,hx⟩,_⟩:=hpre;refine(contract (w.forCall tape i) w.heap.size i.args ds gs before hsh (hX _ _ _ (by rfl) hx) hval (DataW.Whole.of_heap (w':=w.forCall tape i) (by rfl) hw)).mono ?_;rintro e W' ⟨v,rfl,hp⟩;exact ChangeSpec.post_blind hp
theorem Om{W:World}(h:laidMetH Tryz.prog Rows.fnRuleTextRow.laid W)(hS:W.ShapedOpen Tryz.prog):B0 W fun _=>False:=by
 refine B0.O7 (P:=Tryz.prog) fun x hx=>?_
 rcases List.mem_cons.1 hx with rfl|hx
 ·have h1:=laidMetH.filter (fun x=>x.1== "internal/strconv.uint64pow10") h;have h2:laidMet Tryz.prog [("internal/strconv.uint64pow10",Lib.tabData .u64 Lib.pow10Tab)] W:=h1;exact⟨"internal/strconv.uint64pow10",_,by kernel_rfl,Lib.tabIs_of_head (g:=4) (t:=164) (e:=138) (n:=20) (by kernel_rfl) (by kernel_rfl) (by kernel_rfl) (by kernel_rfl) (by kernel_rfl) (by kernel_rfl) h2,rfl⟩
 rcases List.mem_cons.1 hx with rfl|hx
 ·have h1:=laidMetH.filter (fun x=>x.1== "strconv.ErrSyntax") h;have h2:laidMet Tryz.prog [("strconv.ErrSyntax",.iface "*errors.errorString" (.ptr (.agg [.lit (.string [105,110,118,97,108,105,100,32,115,121,110,116,97,120])])))] W:=h1;obtain⟨a,s,h3,_,_,_⟩:=laid_sentinel h2 (g:=2) (ti:=90) (tp:=168) (te:=170) (ts:=9) (by kernel_rfl) (by kernel_rfl) Tryz.underlying90 NG Tryz.underlying168 Tryz.underlying170 rfl rfl Tryz.underlying9 (by kernel_rfl) (by kernel_rfl);exact⟨"strconv.ErrSyntax",_,by kernel_rfl,h3,_,_,rfl⟩
 rcases List.mem_cons.1 hx with rfl|hx
 ·have h1:=laidMetH.filter (fun x=>x.1== "loop.example/g03015/impl.testSigns") h;have h2:laidMet Tryz.prog [("loop.example/g03015/impl.testSigns",.agg (([[32,61,32],[32,33,61,32],[32,60,32]]:List (List UInt8)).map fun z=>.lit (.string z)))] W:=h1;exact⟨"loop.example/g03015/impl.testSigns",_,by kernel_rfl,Cj (g:=0) (t:=88) (e:=9) (n:=3) (by kernel_rfl) (by kernel_rfl) (by kernel_rfl) (by kernel_rfl) (by kernel_rfl) (by kernel_rfl) h2,rfl⟩
 rcases List.mem_cons.1 hx with rfl|hx
 ·obtain⟨cs,h1,m,h2⟩:=BM hS (name:= "internal/bytealg.MaxLen") (g:=1) (t:=3) (zero:= #[.int .i64 0]) (k:=.i64) (by kernel_rfl) (of_decide_eq_true (by kernel_rfl)) (by kernel_rfl) rfl (by kernel_rfl) (by kernel_rfl) Tryz.underlying3;exact⟨_,cs,by kernel_rfl,h1,m,h2⟩
 cases hx
set_option maxRecDepth 100000 in
theorem lifted(os:Os)(started:os.Started)(H:Type)(enc:TypeId×Value->H):
 ReturnsInHanded {} Tryz.checked os 3 .any (fun w args=>(Rows.fnRuleTextSpec.pre enc Tryz.prog Tryz.f3 [] false w args/\laidMetH Tryz.prog Rows.fnRuleTextRow.laid w)/\sizedMet enc Tryz.prog Tryz.f3 (OpenSpec.ofChange Rows.fnRuleTextSpec) false w args)
  (Rows.fnRuleTextSpec.post enc Tryz.prog Tryz.f3 false true false false):=by
 refine BA (C:=Tryz.checked) (X:=fun w _=>laidMetH Tryz.prog Rows.fnRuleTextRow.laid w) (fun _ _ _ hh h=>h.of_heap hh) own started (by kernel_rfl) Tryz.func3
  (ChangeSpec.witness_shaped (enc:=enc) (C:=Tryz.checked) (os:=os) (X:=fun w _=>laidMetH Tryz.prog Rows.fnRuleTextRow.laid w) false (World.laidAll Tryz.prog os Rows.fnRuleTextRow.laid) #[.slice none 0 0] 20 (World.laidAll_os _ _ _) (World.shaped_of_ZipB (by kernel_rfl) (by kernel_rfl)) (by kernel_rfl) (by kernel_rfl) (by kernel_rfl) (I0 os _)) ?_
 intro W base args ds gs before hS hL hval hW;refine BJ (n:=20) (fn:=Tryz.f3) (s:=Rows.fnRuleTextSpec) laidOut Sp rfl (by kernel_rfl) (fun n hn g t h1 h2=>?_) ?_ (Om hL hS) good hval hW
 ·obtain rfl:=List.mem_singleton.1 (show n∈["loop.example/g03015/impl.testSigns"]from hn);obtain rfl:g=0:=Option.some.inj (h1.symm.trans (by kernel_rfl));obtain rfl:t=88:=Option.some.inj (h2.symm.trans (by kernel_rfl));exact⟨by kernel_rfl,of_decide_eq_true (by kernel_rfl)⟩
 intro ds gs hds Ue;rw[Tryz.params3]at hds
 match ds,hds,gs,Ue with
 | [_],_,[_],_=>rfl
end Go.Proofs.YtniopaehpolofaaGreatDoor.fnRuleText

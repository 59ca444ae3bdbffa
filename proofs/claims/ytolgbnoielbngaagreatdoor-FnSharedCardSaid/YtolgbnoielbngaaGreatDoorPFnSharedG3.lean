/- Calls that are handed slices of the caller's own, in values. No condition; plain lemmas. -/
import Derived.Test.YtolgbnoielbngaaGreatDoorPFnSharedG2
import Derived.Laws.BytesArg
import Derived.LoopN
import Derived.Test.YtolgbnoielbngaaGreatDoorProg
import Derived.KernelRfl
import Derived.Shelf.Strings.OnBuilder
import Derived.Shelf.Sort.Plain
import Derived.Shelf.Slices.In.SortNone2
import Derived.Shelf.Strconv.Itoa3
import Derived.WalkSmall
set_option linter.unusedVariables false
set_option linter.unusedSimpArgs false
namespace Go.Cx
open Go.RowKit
def GR(P:Program)(f:FuncId)(ds:aG)(d:D):Prop:=
 (∃fn,P.funcs[f]?=some fn/\fn.body.isSome=true/\(fn.name== "runtime.NumGoroutine")=false)/\
 ∀(w:World) (Θ:Nat->Nat) (args:av) (bs ts us:aI),
  C2 w (fun b=>b∈ts)->rU w args ds bs ts us->
  (∀b∈bs,Θ b=0)->(∀b,Θ b≠0->b<w.heap.size)->(∀b,Θ b<=1)->(∀b∈ts,Θ b=1/\b∈us)->us.Nodup->(∀b∈us,(b∉ts->Θ b=0)/\Wr w b)->
  Calls P f args.toArray w (fun e w'=>∃v b2 t2 u2,e=.returned v/\w'.os=w.os/\w'.tape=w.tape/\w'.output=w.output/\w.heap.size<=w'.heap.size/\
   (∀b,b<w.heap.size->b∉ts->w'.heap[b]?=w.heap[b]?)/\
   rz w' v d b2 t2 u2/\(∀b∈b2,(b<w.heap.size->Θ b=0\/b∈ts)/\b∉t2)/\u2.Nodup/\
   (∀b∈u2,(w.heap.size<=b\/b∈us)/\Wr w' b)/\∀b∈t2,b∈u2/\(w.heap.size<=b\/b∈ts))
section
variable{P:Program}{Γ:nR}{Q:Exit->St->Prop}{st:St}{κ κ':Nat->Option Value}{Θ Θ':Nat->Nat}{a:Act}{w w':World}{all:Array Oper}{rest:List Oper}
theorem T6.out{fn:Func}{d:D}{e:Exit}{a':Act}{w':World}{By:St}{κ0:Nat->Option Value}{Θ0:Nat->Nat}(hs0:cR Γ By κ0 Θ0 a' w')(Oq:J9 P fn d e By):
 (e=.ret\/e=.normal)/\a'.defers=[]/\GV Γ w'/\∃v b2 t2 u2,(results fn a'.tmps).run P w'=.ok v w'/\
  rz w' v d b2 t2 u2/\(∀b∈b2,(b<Γ.W0.heap.size->¬Γ.X b->Γ.Θ0 b=0)/\b∉t2)/\u2.Nodup/\
  (∀b∈u2,GS Γ b/\Wr w' b)/\∀b∈t2,b∈u2/\qF Γ b:=by
 obtain⟨vb,nz,NL,es,ms,qs,hres,NU,CA,Ag,MN,rfl⟩:=Oq;obtain⟨ρ0,Ov⟩:=hs0.mG;have uV:=pJ NU;obtain⟨Θ1,ρ1,hs1,hu1,hm1,DF,Ij⟩:=cR.z8 ms hs0 Ov CA (fun m hm=>by
  obtain⟨e,sz,rows,hH⟩:=uV.1 m hm;exact⟨_,e,sz,rows,hH,rfl⟩)
 obtain⟨vs,bs',m1,m2,m3,m4,m5⟩:=wB hs0 hres;have hq:∀m e sz rows,By.H[m]?=some (.row .uq e sz rows)->∃v cs ns,κ0 m=some v/\0<sz/\(∀r∈rows,r.length=sz)/\w'.ownsRow 0 e sz v rows.length cs/\oq w' (ny e) 0 cs rows.flatten ns/\ns.Nodup/\(∀b∈ns,ρ1 b=m+1)/\∀g,v.ownBlock=some g->Θ1 g=m+2:=by
  intro m e sz rows hH;have hnm:m∉ms:=fun hm=>by
   obtain⟨e',sz',cc,w9⟩:=uV.1 m hm;rw[hH]at w9;cases w9
  have D7:(kill By.H ms)[m]?=some (.row .uq e sz rows):=by rw[cU hnm];exact hH
  obtain⟨v,cs,ns,r1,r2,r3,r4,r5⟩:=hu1.rows m e sz rows D7;obtain⟨p1,p2,v2,_,_,p3,_,_,p4,_⟩:=hs1.ob m _ D7;rw[r1]at p3;cases p3;exact⟨v,cs,ns,r1,p1,p2,r2,r3,r4,r5,p4⟩
 have qC:∀m e sz rows,m∉ms->By.H[m]?=some (.row .sh e sz rows)->∃v cs ns,κ0 m=some v/\0<sz/\(∀r∈rows,r.length=sz)/\w'.ownsRow 0 e sz v rows.length cs/\iB w' cs rows.flatten ns/\(∀b∈ns,Θ1 b=0)/\∀g,v.ownBlock=some g->Θ1 g=m+2:=by
  intro m e sz rows hnm hH;obtain⟨p1,p2,v2,cs,ns,p3,p4,p5,p6,p7⟩:=hs1.ob m _ (show(kill By.H ms)[m]?=_ by rw[cU hnm];exact hH);exact⟨v2,cs,ns,p3,p1,p2,p4,p5,p7,p6⟩
 obtain⟨c,ts,us,vZ,rZ⟩:=sX (w:=w') (vs:=vs) (fun b hb=>(hu1.free b hb).1) hq qC hs0.jg NU MN Ag (by omega) (fun i d hd=>by
  obtain⟨v,b,k1,k2,k3⟩:=m4 i d hd;exact⟨v,b,k1,k2,fun x hx=>DF x (m5 x (k3 x hx))⟩) hm1
 have DB:∃v,(results fn a'.tmps).run P w'=.ok v w'/\rz w' v (AQ es) c ts us:=by
  have hrun:(results fn a'.tmps).run P w'=.ok (if h:vs.toArray.size=1 then vs.toArray[0]else .tuple vs.toArray) w':=by
   rw[results_eq,jv];simp[m1]
  cases vZ with
  |nil=>exact⟨.tuple #[],by simpa using hrun,.iz [] [] [] [] [] .nil⟩
  |cons v vs d es b1 b2 t1 t2 u1 u2 hv nO=>
   cases nO with
   |nil=>
    simp only[dS];exact⟨v,by simpa using hrun,.v hv⟩
   |cons v2 vs d2 es b3 b4 t3 t4 u3 u4 F9 nO=>exact⟨.tuple (v::v2::vs).toArray,by simpa using hrun,.iz _ _ _ _ _ (.cons _ _ _ _ _ _ _ _ _ _ hv (.cons _ _ _ _ _ _ _ _ _ _ F9 nO))⟩
 obtain⟨v,Jn,EU⟩:=DB;refine⟨vb,hs0.defers,hs0.stays,v,c,ts,us,Jn,EU,fun b hb=>⟨fun hlt hx=>?_,fun ht=>?_⟩,rZ.nd,fun b hb=>?_,fun b hb=>?_⟩
 ·have:=rZ.zero b hb;rw[<-(hs1.old b hlt hx).1];exact this
 ·obtain⟨⟨m,_,hΘ⟩,_⟩:=rZ.top b ht;have:=rZ.zero b hb;omega
 ·rcases rZ.mem b hb with h|⟨m,hm,hρ⟩
  ·obtain⟨⟨m,hm,hΘ⟩,_⟩:=rZ.top b h;exact⟨.inl (hs1.mine b (by omega)),B6 EU b h⟩
  ·have:=hu1.free b (by omega);exact⟨this.2.1,this.2.2⟩
 ·obtain⟨⟨m,hm,hΘ⟩,h2⟩:=rZ.top b hb;exact⟨h2,hs1.mine b (by omega)⟩
theorem GR.of{f:FuncId}{fn:Func}{c:Code}{ds Dp:aG}{obs:ah}{d:D}(hf:P.funcs[f]?=some fn)(hb:fn.body=some c)(hn:(fn.name== "runtime.NumGoroutine")=false)
 (hI:sB 0 ds=(Dp,obs)) (hl:Dp.length<=fn.ntmps)
 (h:(∀x∈ds.map D.Lg,kj x)->∀(Γ:nR),Γ.nt=fn.ntmps->AW P Γ c (J9 P fn d) ⟨qf 0 Dp,obs⟩):GR P f ds d:=by
 refine⟨⟨fn,hf,by simp[hb],hn⟩,?_⟩;intro w Θ args bs ts us hvs hargs hz hown h1 hts hnd mN;have Ff:=hargs.shown;obtain⟨L,q1,q2,rfl,rfl,q6,q5⟩:=hargs.inst 0;rw[hI]at q1 q5;have q1:L.map Fs.ob=obs:=q1;refine calls_of_wp hf hb ?_;let κ0:Nat->Option Value:=fun i=>(L[i]?).map Fs.v
 let Θ0:Nat->Nat:=fun b=>match AX L b with|some i=>i+2|none=>Θ b
 let ρ0:Nat->Nat:=fun b=>match mI L b with|some i=>i+1|none=>0
 let Γ:nR:=⟨w,Θ0,fun b=>b∈L.flatMap Fs.ts,fn.ntmps,fun b=>b∈L.flatMap Fs.bl,hvs⟩
 have Oe:∀i x,L[i]?=some x->κ0 i=some x.v:=fun i x hx=>by simp[κ0,hx]
 have hnm:Names κ0 0 L:=fun i x hx=>by rw[cC];exact Oe i x hx
 obtain⟨Qg,hrd,hb0⟩:=q5 κ0 hnm;have hlen:args.length=Dp.length:=hrd.len;have NV:∀(i:Nat) x b,L[i]?=some x->x.v.ownBlock=some b->b∈L.flatMap Fs.ts:=fun i x b hx hb'=>bQ.2 ⟨x,aD hx,by simp[Fs.ts,hb']⟩
 have Fh:∀(i:Nat) x b,L[i]?=some x->x.v.ownBlock=some b->Θ0 b=i+2:=by
  intro i x b hx hb';simp only[Θ0,zN hnd hx hb']
 have EX:∀b,Θ b=0->Θ0 b=0:=by
  intro b h0;have e2:b∉L.flatMap Fs.ts:=fun e=>by have:=(hts b e).1;omega
  simp only[Θ0,oX e2];exact h0
 have Jj:∀(i:Nat) x b,L[i]?=some x->b∈x.ns->Θ0 b=0:=fun i x b hx hb'=>EX b ((mN b (lP hx hb')).1 (tR hnd hx hb'))
 have qz:∀b,Θ0 b≠Θ b->b∈L.flatMap Fs.ts:=by
  intro b hne;refine cS fun ht=>hne ?_
  simp only[Θ0,oX ht]
 have FY:∀(j:Nat) o,obs[j]?=some o->∃x,L[j]?=some x/\o=x.ob:=by
  intro j o hj;rw[<-q1,bK]at hj;cases hx:L[j]? with
  |none=>simp[hx]at hj
  |some x=>simp[hx]at hj;exact⟨x,rfl,hj.symm⟩
 have Jl:obs.length=L.length:=by rw[<-q1];simp
 have hs:cR Γ ⟨qf 0 Dp,obs⟩ κ0 Θ0 {tmps:=args.toArray++Array.replicate (fn.ntmps-args.toArray.size) undef,defers:=[]} w:=by
  refine⟨rfl,?_,fun i hi=>?_,?_,?_,?_,?_,?_,?_,⟨rfl,rfl,rfl,b9 _,fun _ _ _=>rfl⟩,⟨ρ0,?_,?_,?_⟩⟩
  ·simp[Γ];omega
  ·have hi:obs.length<=i:=hi;simp only[κ0];rw[bY (by omega)];rfl
  ·intro id u hu;simp only[κ0]at hu;cases hx:L[id]? with
   |none=>simp[hx]at hu
   |some x=>simp[hx]at hu;subst hu;exact(q2 x (aD hx)).2.2.2.2
  ·intro t;rw[yz];simp only[pM,ue,sx];have Gp:∀v,args[t]?=some v->(args.toArray++Array.replicate (fn.ntmps-args.toArray.size) undef).getD t undef=v:=by
    intro v hv;have hlt:=(aB.1 hv).1;rw[bP,dW (by simpa using hlt)];simp only[dM,hv,mY]
   cases hd:Dp[t]? with
   |none=>exact⟨[],.of (.any _),by simp⟩
   |some x=>
    obtain⟨v,b',k1,k2,k3⟩:=hrd.at (i:=t) (d:=x) hd;rw[Gp v k1];exact⟨b',.v k2,fun b hb'=>EX b (hz b (hb0 b (k3 b hb')))⟩
  ·intro j o hj;obtain⟨x,hx,rfl⟩:=FY j o hj;exact Fs.rel (q2 x (aD hx)) (Oe j x hx) (fun b hb'=>Fh j x b hx hb') (fun b hb'=>Jj j x b hx hb') fun hs' b hb'=>EX b (hz b (q6 x (aD hx) hs' b hb'))
  ·intro b hb';by_cases e:Θ0 b=Θ b
   ·exact hown b (by rw[<-e];exact hb')
   ·exact hown b (by have:=(hts b (qz b e)).1;omega)
  ·intro b hlt hx;refine⟨rfl,?_⟩;have e:Θ0 b=Θ b:=cS fun e=>hx (qz b e)
   rw[e];exact h1 b
  ·intro b hb';refine .inr (qz b fun e=>?_);have:=h1 b;omega
  ·intro b hb';cases Ic:mI L b with
   |none=>simp[ρ0,Ic]at hb'
   |some i=>
    obtain⟨x,hx,sF⟩:=mZ Ic;exact⟨Jj i x b hx sF,.inr (lP hx sF),(mN b (lP hx sF)).2⟩
  ·intro id e sz rows hj;obtain⟨x,hx,Hw⟩:=FY id _ hj;obtain⟨hsh,rfl,rfl,rfl⟩:=Fs.Bs Hw.symm;have p4:=(q2 x (aD hx)).uq hsh;obtain⟨p1,p2,p3,_,_⟩:=q2 x (aD hx);exact⟨x.v,x.cs,x.ns,Oe id x hx,p3,p4,zD hnd hx,fun b hb'=>by simp[ρ0,tD hnd hx hb']⟩
  ·intro id o hj;obtain⟨x,hx,Hw⟩:=FY id _ hj;subst Hw;exact Fs.plain x
 refine wp_mono (h Ff Γ rfl _ _ _ _ hs) ?_;rintro x a' w' ⟨By,κ1,Θ1,hs0,Oq⟩;obtain⟨vb,hdf,hst,v,b2,t2,u2,hrun,hres,Hq,wo,o4,ht'⟩:=T6.out hs0 Oq;have post:a'.defers=[]/\∃v',(results fn a'.tmps).run P w'=.ok v' w'/\∃v b2 t2 u2,Ending.returned v'=.returned v/\w'.os=w.os/\w'.tape=w.tape/\w'.output=w.output/\w.heap.size<=w'.heap.size/\
  (∀b,b<w.heap.size->b∉L.flatMap Fs.ts->w'.heap[b]?=w.heap[b]?)/\
  rz w' v d b2 t2 u2/\(∀b∈b2,(b<w.heap.size->Θ b=0\/b∈L.flatMap Fs.ts)/\b∉t2)/\u2.Nodup/\
  (∀b∈u2,(w.heap.size<=b\/b∈L.flatMap Fs.bl)/\Wr w' b)/\∀b∈t2,b∈u2/\(w.heap.size<=b\/b∈L.flatMap Fs.ts):=by
  refine⟨hdf,v,hrun,v,b2,t2,u2,rfl,hst.os,hst.tape,hst.output,hst.size,fun b hlt hnt=>hst.block b hlt (fun hx=>hnt hx),hres,fun b hb'=>?_,wo,fun b hb'=>?_,fun b hb'=>?_⟩
  ·obtain⟨k1,k3⟩:=Hq b hb';refine⟨fun hlt=>?_,k3⟩;by_cases ht:b∈L.flatMap Fs.ts
   ·exact .inr ht
   ·refine .inl ?_;have:=k1 hlt (fun hx=>ht hx);have e:Θ0 b=Θ b:=cS fun e=>ht (qz b e)
    rw[<-e];exact this
  ·obtain⟨k1,k3⟩:=o4 b hb';refine⟨?_,k3⟩;rcases k1 with(k1|k1)|k1
   ·exact .inl k1
   ·exact .inr (uj k1)
   ·exact .inr k1
  ·obtain⟨k1,k2⟩:=ht' b hb';exact⟨k1,k2⟩
 rcases vb with rfl|rfl
 ·exact post
 ·exact post
theorem Is{o:Oper}{f t:Nat}{xs:Array Operand}{ty:Array TypeId}{ds:aG}{d:D}{nz:List (List (Option (Nat×Nat)))}{ms qs:aI}
 (hop:o.op=.call {callee:=.value (.func f),args:=xs,argTypes:=ty}) (hd:o.dst=some t) (hg:o.guard=none) (ht:t<Γ.nt)
 (vb:rB st.H nz (xs.toList.map st.ev)=some (ds,ms,qs)) (CA:ms.Nodup) (Ag:qs.Nodup) (MN:∀m∈qs,m∉ms) (ir:GR P f ds d)
 (h:AO P Γ all rest Q ⟨(t,(jG st.H.length d).1)::st.σ,kill st.H (ms++qs)++(jG st.H.length d).2⟩):AO P Γ all (o::rest) Q st:=by
 intro κ Θ a w hs;have uV:=pJ vb;obtain⟨ρ,hu⟩:=hs.mG;obtain⟨Θ1,ρ1,hs1,hu1,hm1,DF,Ij⟩:=cR.z8 ms hs hu CA (fun m hm=>by
  obtain⟨e,sz,rows,hH⟩:=uV.1 m hm;exact⟨_,e,sz,rows,hH,rfl⟩)
 have hq:∀m e sz rows,st.H[m]?=some (.row .uq e sz rows)->∃v cs ns,κ m=some v/\0<sz/\(∀r∈rows,r.length=sz)/\w.ownsRow 0 e sz v rows.length cs/\oq w (ny e) 0 cs rows.flatten ns/\ns.Nodup/\(∀b∈ns,ρ1 b=m+1)/\∀g,v.ownBlock=some g->Θ1 g=m+2:=by
  intro m e sz rows hH;have hnm:m∉ms:=fun hm=>by
   obtain⟨e',sz',cc,w9⟩:=uV.1 m hm;rw[hH]at w9;cases w9
  have D7:(kill st.H ms)[m]?=some (.row .uq e sz rows):=by rw[cU hnm];exact hH
  obtain⟨v,cs,ns,r1,r2,r3,r4,r5⟩:=hu1.rows m e sz rows D7;obtain⟨p1,p2,v2,_,_,p3,_,_,p4,_⟩:=hs1.ob m _ D7;rw[r1]at p3;cases p3;exact⟨v,cs,ns,r1,p1,p2,r2,r3,r4,r5,p4⟩
 have qC:∀m e sz rows,m∉ms->st.H[m]?=some (.row .sh e sz rows)->∃v cs ns,κ m=some v/\0<sz/\(∀r∈rows,r.length=sz)/\w.ownsRow 0 e sz v rows.length cs/\iB w cs rows.flatten ns/\(∀b∈ns,Θ1 b=0)/\∀g,v.ownBlock=some g->Θ1 g=m+2:=by
  intro m e sz rows hnm hH;obtain⟨p1,p2,v2,cs,ns,p3,p4,p5,p6,p7⟩:=hs1.ob m _ (show(kill st.H ms)[m]?=_ by rw[cU hnm];exact hH);exact⟨v2,cs,ns,p3,p1,p2,p4,p5,p7,p6⟩
 obtain⟨bs,ts,us,vZ,rZ⟩:=sX (w:=w) (vs:=xs.toList.map a.eval) (fun b hb=>(hu1.free b hb).1) hq qC hs.jg vb MN Ag (by simp) (fun i d hd=>by
  rw[bK]at hd;cases hx:xs.toList[i]? with
  |none=>rw[hx]at hd;cases hd
  |some x=>
   rw[hx]at hd;simp only[bW,aP]at hd;subst hd;obtain⟨b,r,z⟩:=hs.ev x;exact⟨a.eval x,b,by rw[bK,hx];rfl,r,fun y hy=>DF y (z y hy)⟩) hm1
 let Θc:Nat->Nat:=fun b=>if Θ1 b=0 then 0 else 1
 have qz:∀b,Θc b=0↔Θ1 b=0:=fun b=>by simp only[Θc];split<;>simp_all
 have yq:∀b∈ts,∃m∈qs,Θ1 b=m+2:=fun b hb=>(rZ.top b hb).1
 have Fg:C2 w fun b=>b∈ts:=by
  obtain⟨B,v1,v2⟩:=hs1.QO;refine⟨B,v1,fun b hB=>⟨(v2 b hB).2.1,fun hb'=>?_⟩⟩;have hm:qF Γ b:=by
   obtain⟨m,hm,hΘ⟩:=yq b hb';exact hs1.mine b (by omega)
  rcases hm with q|q
  ·have:=(v2 b hB).1;omega
  ·exact(v2 b hB).2.2 q
 have hwr:∀b∈us,Wr w b:=by
  intro b hb;rcases rZ.mem b hb with h|⟨m,hm,hρ⟩
  ·exact zZ vZ b h
  ·exact(hu1.free b (by omega)).2.2
 have hc:=ir.2 w Θc (xs.toList.map a.eval) bs ts us Fg vZ (fun b hb=>(qz b).2 (rZ.zero b hb)) (fun b hb=>hs1.own b (fun e=>hb ((qz b).2 e))) (fun b=>by simp only[Θc];split<;>omega)
  (fun b hb=>by
   obtain⟨m,hm,hΘ⟩:=yq b hb;exact⟨by simp only[Θc];rw[ai (by omega)],(rZ.top b hb).2⟩) rZ.nd (fun b hb=>⟨fun hnt=>by
   rcases rZ.mem b hb with h|⟨m,hm,hρ⟩
   ·exact absurd h hnt
   ·exact(qz b).2 (hu1.free b (by omega)).1,hwr b hb⟩)
 refine wpList_plain hg fun K hK=>?_
 unfold Oper.wp;rw[oK hop ir.1,Oper.upon_enter];have e0:xs.map a.eval=(xs.toList.map a.eval).toArray:=by
  rw[<-mW,eU]
 rw[e0];refine hc.mono ?_;rintro x w' ⟨v,b2,t2,u2,rfl,k1,k2,k3,k4,Fm,PJ,kb,Lc,ku,kt⟩;show K (a.put o.dst v) w';rw[hd];let N:=st.H.length
 have hs2:=hs1.forget qs;have TL:(kill st.H ms).length=N:=dO _ _;simp only[TL]at hs2;let Θ2:Nat->Nat:=fun b=>if qs.any (fun m=>Θ1 b==m+2)then N+2 else Θ1 b
 have hs2:cR Γ ⟨st.σ,kill (kill st.H ms) qs⟩ κ Θ2 a w:=hs2;have BR:∀b,Θ1 b=0->Θ2 b=0:=fun b hb=>by
  simp only[Θ2];rw[ai,hb];intro h;obtain⟨m,_,hm⟩:=cB.1 h;simp[hb]at hm
 have ve:∀b,b∈ts->Θ2 b=N+2:=by
  intro b hb;simp only[Θ2];rw[bD];obtain⟨m,hm,hΘ⟩:=yq b hb;exact cB.2 ⟨m,hm,by simp[hΘ]⟩
 have LZ:qe Γ (kill (kill st.H ms) qs) κ Θ2 w ρ1:=by
  refine⟨fun b hb=>?_,fun j e sz rows hj=>?_,fun j o hj=>?_⟩
  ·obtain⟨q1,q2⟩:=hu1.free b hb;exact⟨BR b q1,q2⟩
  ·rcases jH hj with h|⟨_,h⟩
   ·cases h
   ·exact hu1.rows j e sz rows h
  ·rcases jH hj with h|⟨_,h⟩
   ·subst h;trivial
   ·exact hu1.more j o h
 obtain⟨L,c1,c2,c3,c4,c6,c5⟩:=PJ.inst N;subst c3;subst c4;have D8:∀x∈L,x.ok w':=c2;let κ':Nat->Option Value:=fun j=>if j<N then κ j else(L[j-N]?).map Fs.v
 let Θ':Nat->Nat:=fun b=>match AX L b with|some i=>N+i+2|none=>if Θ2 b=N+2 then 0 else Θ2 b
 let ρ':Nat->Nat:=fun b=>match mI L b with|some i=>N+i+1|none=>ρ1 b
 have DH:∀(i:Nat) x b,L[i]?=some x->x.v.ownBlock=some b->Θ' b=N+i+2:=by
  intro i x b hx hb;simp only[Θ',zN Lc hx hb]
 have qy:∀b,b∉L.flatMap Fs.ts->Θ' b=if Θ2 b=N+2 then 0 else Θ2 b:=by
  intro b h2;simp only[Θ',oX h2]
 have hzero:∀b,w.heap.size<=b->Θ2 b=0:=fun b hge=>by
  cases h:Θ2 b with
  |zero=>rfl
  |succ m=>exact absurd (hs2.own b (by omega)) (by omega)
 have Hx:∀b∈b2,Θ' b=0:=by
  intro b hb;obtain⟨p1,p3⟩:=kb b hb;rw[qy b p3];by_cases hlt:b<w.heap.size
  ·rcases p1 hlt with h|h
   ·rw[BR b ((qz b).1 h)];simp
   ·rw[bD (ve b h)]
  ·rw[hzero b (by omega)];simp
 have Jk:∀(i:Nat) x b,L[i]?=some x->b∈x.ns->Θ' b=0:=by
  intro i x b hx hb;have hmem:=lP hx hb;rw[qy b (tR Lc hx hb)];rcases(ku b hmem).1 with h|h
  ·rw[hzero b h];simp
  ·rcases rZ.mem b h with h|⟨m,hm,hρ⟩
   ·rw[bD (ve b h)]
   ·rw[BR b (hu1.free b (by omega)).1];simp
 have hn:∀(j:Nat) v,κ j=some v->κ' j=some v:=by
  intro j v hj;have:j<N:=cS fun h=>by rw[hs.jx j (by omega)]at hj;cases hj
  simp only[κ'];rw[bD this];exact hj
 have nZ:Names κ' N L:=by
  intro i x hx;simp only[κ'];rw[ai (by omega),cK,hx];rfl
 have Jg:∀b∈L.flatMap Fs.ts,qF Γ b:=by
  intro b hb;rcases(kt b hb).2 with h|h
  ·exact .inl (fc hs.base h)
  ·obtain⟨m,hm,hΘ⟩:=yq b h;exact hs1.mine b (by omega)
 have k:ed w w' Θ2 Θ' (N+2):=by
  refine⟨by omega,k1,k2,k3,k4,fun b hlt hne=>Fm b hlt (fun e=>hne (ve b e)),fun b hlt hne=>?_,fun b hb=>?_⟩
  ·rw[qy b (fun e=>?_),ai hne];rcases(kt b e).2 with h|h
   ·omega
   ·exact hne (ve b h)
  ·by_cases ht':b∈L.flatMap Fs.ts
   ·obtain⟨x,T,hx⟩:=(ku b (uj ht')).2;exact(aV.1 hx).1
   ·rw[qy b ht']at hb;split at hb
    ·exact absurd rfl hb
    ·exact cF (hs2.own b hb) k4
 have hm:∀b,2<=Θ' b->qF Γ b:=by
  intro b hb;by_cases ht':b∈L.flatMap Fs.ts
  ·exact Jg b ht'
  ·rw[qy b ht']at hb;split at hb
   ·omega
   ·exact hs2.mine b hb
 have mN:=hs2.jI k hn LZ;have xh:(kill st.H (ms++qs)).length=N:=by simp[dO,N]
 have key:∀(j:Nat) y,(kill st.H (ms++qs)++L.map Fs.ob)[j]?=some y->(∃i x,j=N+i/\L[i]?=some x/\y=x.ob)\/(j<N/\(y=.gone\/(kill (kill st.H ms) qs)[j]?=some y)):=by
  intro j y hj;by_cases hlt:j<N
  ·rw[aS (by rw[xh];exact hlt)]at hj;refine .inr ⟨hlt,?_⟩;rcases jH hj with h|⟨h3,h4⟩
   ·exact .inl h
   ·refine .inr ?_;simp only[aJ,zX]at h3;rw[cU h3.2,cU h3.1];exact h4
  ·rw[aU (by omega),xh,bK]at hj;cases hx:L[j-N]? with
   |none=>simp[hx]at hj
   |some x=>simp[hx]at hj;exact .inl ⟨j-N,x,by omega,hx,hj.symm⟩
 have hs':cR Γ ⟨st.σ,kill st.H (ms++qs)++L.map Fs.ob⟩ κ' Θ' a w':=by
  have AL:∀(j:Nat) y,(kill (kill st.H ms) qs)[j]?=some y->y≠ .gone->∀b,ρ1 b=j+1->ρ' b=j+1:=by
   intro j y hy UH b P3;have hjk:j∉qs:=by
    rcases jH hy with h|h
    ·exact absurd h UH
    ·exact h.1
   have hnb:mI L b=none:=by
    cases hi:mI L b with
    |none=>rfl
    |some i=>
     exfalso;obtain⟨x,hx,sF⟩:=mZ hi;obtain⟨z0,_,TA,Vk,Ox⟩:=hu1.free b (by omega);rcases(ku b (lP hx sF)).1 with h|h
     ·have:=(aV.1 Ox).1;omega
     ·rcases rZ.mem b h with h|⟨m,hm',hρ⟩
      ·obtain⟨m,hm',hΘ⟩:=yq b h;omega
      ·exact hjk (by
        have:j=m:=by omega
        rw[this];exact hm')
   simp only[ρ',hnb];exact P3
  refine hs2.step k hm hn ?_ ?_ ?_ ⟨ρ',?_,?_,?_⟩
  ·intro i hi;simp only[af,xh,ay]at hi;simp only[κ'];rw[ai (by omega),bY (by omega)];rfl
  ·intro i u o4;simp only[κ']at o4;split at o4
   ·exact hs.jg i u o4
   ·cases hx:L[i-N]? with
    |none=>simp[hx]at o4
    |some x=>simp[hx]at o4;subst o4;exact(D8 x (aD hx)).2.2.2.2
  ·intro j y hj;rcases key j y hj with⟨i,x,rfl,hx,rfl⟩|⟨hjl,hy|hy⟩
   ·exact .inr (.inr (Fs.rel (D8 x (aD hx)) (nZ i x hx) (fun g' hg'=>DH i x g' hx hg') (fun b hb'=>Jk i x b hx hb') fun hs' b hb'=>Hx b (c6 x (aD hx) hs' b hb')))
   ·exact .inl hy
   ·exact .inr (.inl ⟨by omega,hy⟩)
  ·intro b hb;cases C8:mI L b with
   |some i=>
    obtain⟨x,hx,sF⟩:=mZ C8;have hmem:=lP hx sF;refine⟨Jk i x b hx sF,?_,(ku b hmem).2⟩;rcases(ku b hmem).1 with h|h
    ·exact .inl (.inl (fc hs.base h))
    ·rcases rZ.mem b h with h|⟨m,hm',hρ⟩
     ·obtain⟨m,hm',hΘ⟩:=yq b h;exact .inl (hs1.mine b (by omega))
     ·exact(hu1.free b (by omega)).2.1
   |none=>
    simp only[ρ',C8]at hb;exact mN.1 b hb
  ·intro j e sz rows hj;rcases key j _ hj with⟨i,x,rfl,hx,hy⟩|⟨hjl,hy|hy⟩
   ·obtain⟨hsh,rfl,rfl,rfl⟩:=Fs.Bs hy.symm;have q4:=(D8 x (aD hx)).uq hsh;obtain⟨q1,q2,q3,_,_⟩:=D8 x (aD hx);exact⟨x.v,x.cs,x.ns,nZ i x hx,q3,q4,zD Lc hx,fun b hb'=>by simp only[ρ',tD Lc hx hb']⟩
   ·cases hy
   ·obtain⟨v',c',bs',r1,r2,r3,r4,r5⟩:=mN.2.1 j e sz rows (by omega) hy;exact⟨v',c',bs',r1,r2,r3,r4,fun b hb'=>AL j _ hy (by simp) b (r5 b hb')⟩
  ·intro j y hj;rcases key j _ hj with⟨i,x,rfl,hx,hy⟩|⟨hjl,hy|hy⟩
   ·subst hy;exact Fs.plain x
   ·subst hy;trivial
   ·by_cases hg:y=.gone
    ·subst hg;trivial
    ·exact(mN.2.2 j y (by omega) hy).re (AL j y hy hg)
 rw[<-c1]at h;obtain⟨b6,r6,s6⟩:=c5 κ' nZ;refine hK _ _ (h _ _ _ _ (hs'.set (t:=t) ht r6 fun b hb=>Hx b (s6 b hb)))
end
end Go.Cx
namespace Go.Cx
open Go.RowKit
def Dw(P:Program)(f:FuncId)(e:TypeId)(sz:Nat)(rows cc:List aG):Prop:=
 (∃fn,P.funcs[f]?=some fn/\fn.body.isSome=true/\(fn.name== "runtime.NumGoroutine")=false)/\
 ∀(w:World) (v:Value) (cs:av),0<sz->(∀r∈rows,r.length=sz)->w.ownsRow 0 e sz v rows.length cs->iB w cs rows.flatten []->
  Calls P f #[v] w (fun x w'=>x=.returned (.tuple #[])/\w'.os=w.os/\w'.tape=w.tape/\w'.output=w.output/\w.heap.size<=w'.heap.size/\
   (∀b,b<w.heap.size->v.ownBlock≠some b->w'.heap[b]?=w.heap[b]?)/\(∀r∈cc,r.length=sz)/\∃cs',w'.ownsRow 0 e sz v cc.length cs'/\iB w' cs' cc.flatten [])
section
variable{P:Program}{Γ:nR}{Q:Exit->St->Prop}{st:St}{κ:Nat->Option Value}{Θ:Nat->Nat}{a:Act}{w:World}{all:Array Oper}{rest:List Oper}
theorem Iu{o:Oper}{f id e sz:Nat}{x:Operand}{ts:Array TypeId}{k0:RK}{rows cc:List aG}(hop:o.op=.call {callee:=.value (.func f),args:= #[x],argTypes:=ts})(hd:∀t,o.dst=some t->t<Γ.nt)(hg:o.guard=none)
 (hx:st.ev x=.acc id) (hH:st.H[id]?=some (.row k0 e sz rows)) (hk0:k0.hand=true) (Tc:LL e=true) (hfl:rows.flatten.all D.flat=true) (ir:Dw P f e sz rows cc)
 (h:AO P Γ all rest Q (St.put ⟨st.σ,st.H.set id (.row k0 e sz cc)⟩ o.dst (.iz []))):AO P Γ all (o::rest) Q st:=by
 intro κ Θ a w hs;obtain⟨b1,r1,_⟩:=hs.ev x;rw[hx]at r1;obtain⟨hkv,_⟩:=r1.nS;obtain⟨hsz,hrl,v,cs,bs,hk1,hown,hrd,vc,hz⟩:=hs.ob id _ hH;rw[hkv]at hk1;cases hk1;have uU:=hrd.flat hfl;subst uU;obtain⟨ρ,hu⟩:=hs.mG;refine wpList_plain hg fun K hK=>?_
 unfold Oper.wp;rw[oK hop ir.1,Oper.upon_enter];have e1:(#[x]:Array Operand).map a.eval= #[a.eval x]:=by simp
 rw[e1];refine(ir.2 w _ cs hsz hrl hown hrd).mono ?_;rintro e' w' ⟨rfl,k1,k2,k3,k4,k5,Ai,cs',yp,CC⟩;have kk:ed w w' Θ Θ (id+2):=⟨by omega,k1,k2,k3,k4,fun b hb ht=>k5 b hb fun e=>ht (vc b e),fun _ _ _=>rfl,fun b hb=>cF (hs.own b hb) k4⟩
 have hs':cR Γ ⟨st.σ,st.H.set id (.row k0 e sz cc)⟩ κ Θ a w':=by
  refine hs.put [] qQ (fun _ _ h=>h) (fun i hi=>hs.jx i (by simpa using hi)) hs.jg kk hs.mine ?_ hu (by simp) ?_ ?_
  ·refine⟨hsz,Ai,_,cs',[],hkv,yp,CC,vc,?_⟩;cases k0 with
   |cl=>simp[RK.hand]at hk0
   |mv n=>simp[RK.hand]at hk0
   |ho p n=>simp[RK.hand]at hk0
   |sh=>simp
   |uq=>simp
  ·intro e2 FA dK he;cases he;exact⟨_,cs',[],hkv,yp,.of CC (sQ (zO Tc)),by simp,by simp⟩
  ·cases k0 with
   |mv n=>simp[RK.hand]at hk0
   |ho p n=>simp[RK.hand]at hk0
   |_=>rfl
 show K (a.put o.dst (.tuple #[])) w';refine hK _ _ (h κ Θ _ w' ?_);cases DA:o.dst with
 |none=>exact hs'
 |some t=>exact hs'.set (hd t DA) (.iz [] [] [] .nil) (by simp)
end
end Go.Cx
namespace Go.Cx
open Go.RowKit
inductive An where
 |b (v:Bool)
 |row (r:aG)
 |ix (i:Nat)
 |ch (x:UInt8)
 |cut (l h:Nat)
 |d (x:D)
 |fl (v:Bool)
 |n (k:Nat)
 |n2 (π ρ:aI) (k m:Nat) (L X:aI)
 |sk (id:Nat)
 |G2 (t:Nat)
 |pb (id off e sz:Nat)
 |vw (t:Nat)
 |cn (K o:aI)
 |hl (m:Nat) (K o:aI)
 |mu (id:Nat) (rows:List aG)
 |dc (x:D)
 |gv (ms:aI) (outs:List Rw) (d:D)
 |mg (id i off:Nat) (r:aG)
 |ov (id:Nat) (rows:List aG)
 |kv (m:List (D×D))
 |gp (nz:List (List (Option (Nat×Nat)))) (cells:aG) (d:D)
 |dn (cells:aG)
 |fz
 |nl (x:D)
 |ds (x:D)
 |mz (id:Nat)
 |tk (r:aG)
 |gf (nz:List (List (Option (Nat×Nat)))) (d:D)
 |hd
abbrev tA:=List Prop
def oo:tA->Prop
 | []=>True
 |p::ps=>p/\oo ps
theorem oo.app{p q:tA}(h:oo (p++q)):oo p/\oo q:=by
 induction p with
 |nil=>exact⟨trivial,h⟩
 |cons x p ih=>exact⟨⟨h.1,(ih h.2).1⟩,(ih h.2).2⟩
def wq(P:Program)(st:St)(op:Op)(A:List An):Option (D×List An×tA):=match op with
 | .indexAddr t x i=>(match wE P t,st.ev x,st.ev i,A with
  |some (_,sz),.sl rows,.int _ n,.row r::A=>some (.ep r 0,A,[0<=n/\rows[n.toNat]?=some r/\r.length=sz])
  |some (_,sz),.acc id,.int _ n,.ix k::A=>(match st.H[id]? with|some (.row _ _ sz' rows)=>some (.op id k sz 0,A,[sz=sz'/\n=(k:Int)/\k<rows.length])|_=>none)
  |_,.val (.pointer (some ⟨g,o,none⟩)),.int _ n,.ix k::A=>(match Pp P t with|some (sz,len)=>some (.val (.pointer (some ⟨g,o+k*sz,none⟩)),A,[n=(k:Int)/\k<len])|none=>none)
  |_,_,_,_=>none)
 | .index t x i=>(match AB P t,st.ev x,st.ev i,A with
  |true,.str s,.int _ n,.ch c::A=>some (.int .u8 c.toNat,A,[0<=n/\s[n.toNat]?=some c])
  |_,_,_,_=>none)
 | .load t x=>(match st.ev x with
  | .op id i sz off=>(match rD P t,st.H[id]?,A with
   |some false,some (.row (.ho p n) _ sz' _),.hd::A=>some (.acc n,A,[sz'=sz/\i*sz+off=p])
   |some ag,some (.row k _ sz' rows),.row r::A=>(match k with
    | .ho _ _=>none
    |_=>(match xF ag (qU P t) r off with
     |some d=>some (d,A,[sz'=sz/\k.DT=true/\rows[i]?=some r/\off+(bif ag then qU P t else 1)<=sz])
     |none=>none))
   |_,_,_=>none)
  | .val (.pointer (some ⟨g,o,none⟩))=>(match rD P t,A with
   |some false,.d d::A=>some (d,A,[HN g o=some d])
   |_,_=>none)
  |_=>(match pv P st op with|some d=>some (d,A,[])|none=>none))
 | .slice t x lo hi none=>(match st.ev x,A with
  | .str s,.cut l h::A=>(match AB P t with
   |true=>some (.str ((s.take h).drop l),A,[rQ s.length (lo.map st.ev) (hi.map st.ev)=some (l,h)])
   |false=>none)
  | .sl rows,.cut l h::A=>(match wE P t with
   |some (_,sz)=>some (.sl ((rows.take h).drop l),A,[rQ rows.length (lo.map st.ev) (hi.map st.ev)=some (l,h)/\(rows.all fun r=>r.length==sz)=true])
   |none=>none)
  |_,_=>none)
 | .binOp op' t x y t'=>(match op',st.ev x,st.ev y with
  | .add,.str a,.str b=>some (.str (a++b),A,[a.length+b.length<=maxLen])
  | .quo,.int k a,.int k' b=>some (.int k (a/b),A,[k=k'/\0<=a/\0<b])
  | .rem,.int k a,.int k' b=>some (.int k (a%b),A,[k=k'/\0<=a/\0<b])
  |_,_,_=>(match pv P st op with|some d=>some (d,A,[])|none=>none))
 | .lookup T x i ok=>(match st.ev x,A with
  | .acc id,.d d::A=>(match st.H[id]? with
   |some (.mp kv)=>some (d,A,[QJ P T kv (st.ev i) ok=some d])
   |_=>none)
  |_,_=>none)
 | .pick c a b=>(match st.ev c,A with
  | .bool t,.b v::A=>(match v with|true=>some (st.ev a,A,[t=true])|false=>some (st.ev b,A,[t=false]))
  |_,_=>none)
 |_=>(match pv P st op with|some d=>some (d,A,[])|none=>none)
theorem HL{P:Program}{st:St}{op:Op}{A A':List An}{d:D}{p:tA}(h:wq P st op A=some (d,A',p))(hp:oo p):pv P st op=some d:=by
 have plain:∀ {op},(match pv P st op with|some d=>some (d,A,([]:tA))|none=>none)=some (d,A',p)->pv P st op=some d:=by
  intro op h;split at h
  ·cases h;assumption
  ·cases h
 unfold wq at h;split at h
 ·rename_i t x i;split at h
  ·rename_i e sz rows kk n r A1 h1 h2 h3;cases h;obtain⟨⟨q1,q2,q3⟩,_⟩:=hp;simp only[pv,h1,h2,h3,q1,q2,kV,q3]
  ·rename_i e sz id kk n k A1 h1 h2 h3;split at h
   ·rename_i k' e' sz' rows hH;cases h;obtain⟨⟨rfl,rfl,q3⟩,_⟩:=hp;simp[pv,h1,h2,h3,hH,q3]
   ·cases h
  ·rename_i g o' kk n k A1 h2 h3;split at h
   ·rename_i sz len hT;cases h;obtain⟨⟨rfl,q3⟩,_⟩:=hp;simp[pv,h2,h3,hT,q3]
   ·cases h
  ·cases h
 ·rename_i t x i;split at h
  ·rename_i s kk n c A1 h1 h2 h3;cases h;obtain⟨⟨q1,q2⟩,_⟩:=hp;simp only[pv,h1,h2,h3,q1,q2,kV]
  ·cases h
 ·rename_i t x;split at h
  ·rename_i id i sz off h1;split at h
   ·rename_i p' n e sz' rows A1 h2 h3;cases h;obtain⟨⟨rfl,rfl⟩,_⟩:=hp;simp only[pv,h2,h1,h3,and_self,kV]
   ·rename_i ag k e sz' rows r A1 h2 h3;split at h
    ·cases h
    ·rename_i Sq;split at h
     ·rename_i d' hd;cases h;obtain⟨⟨rfl,q2,q3,q4⟩,_⟩:=hp;cases k with
      |ho p n=>exact absurd rfl (Sq p n)
      |_=>simp only[pv,h2,h1,h3,q3,q2,q4,qZ,and_self,kV,hd]
     ·cases h
   ·cases h
  ·rename_i g o' h1;split at h
   ·rename_i d' A1 h2;cases h;simp only[pv,h2,h1];exact hp.1
   ·cases h
  ·exact plain h
 ·rename_i t x lo hi;split at h
  ·rename_i s l hh A1 h1;split at h
   ·rename_i h2;cases h;obtain⟨q1,_⟩:=hp;simp only[pv,h1,h2,q1,kV]
   ·cases h
  ·rename_i rows l hh A1 h1;split at h
   ·rename_i e sz h2;cases h;obtain⟨⟨q1,q2⟩,_⟩:=hp;simp only[pv,h1,h2,q1,q2,kV]
   ·cases h
  ·cases h
 ·rename_i op' t x y t';split at h
  ·rename_i a b h1 h2;cases h;obtain⟨q1,_⟩:=hp;simp only[pv,h1,h2,ID,q1,kV]
  ·rename_i k a k' b h1 h2;cases h;obtain⟨⟨rfl,q1,q2⟩,_⟩:=hp;simp only[pv,h1,h2,ID,q1,q2,kV,and_self]
  ·rename_i k a k' b h1 h2;cases h;obtain⟨⟨rfl,q1,q2⟩,_⟩:=hp;simp only[pv,h1,h2,ID,q1,q2,kV,and_self]
  ·exact plain h
 ·rename_i T x i ok;split at h
  ·rename_i id d' A1 h1;split at h
   ·rename_i kv hH;cases h;simp only[pv,h1,hH];exact hp.1
   ·cases h
  ·cases h
 ·split at h
  ·rename_i t v A1 h1;split at h
   ·cases h;obtain⟨rfl,_⟩:=hp;simp[pv,h1]
   ·cases h;obtain⟨rfl,_⟩:=hp;simp[pv,h1]
  ·cases h
 ·exact plain h
def bytesOf:List aG->Option Bytes
 | []=>some []
 |r::rs=>match r,bytesOf rs with
  | [.int .u8 n],some bs=>some (UInt8.ofNat n.toNat::bs)
  |_,_=>none
theorem EB:∀ {rows:List aG} {bs:Bytes},bytesOf rows=some bs->∃xs:bC,rows=xs.map (fun n=>[D.int .u8 n])/\bs=xs.map (fun n=>UInt8.ofNat n.toNat):=by
 intro rows
 induction rows with
 |nil=>intro bs h;cases h;exact⟨[],rfl,rfl⟩
 |cons r rs ih=>
  intro bs h;simp only[bytesOf]at h;split at h
  ·rename_i n bs' h1;cases h;obtain⟨xs,rfl,rfl⟩:=ih h1;exact⟨n::xs,rfl,rfl⟩
  ·cases h
theorem BJ:∀(xs:bC),(xs.map (fun n=>[D.int .u8 n])).flatten=xs.map (fun n=>D.int .u8 n)
 | []=>rfl
 |n::xs=>by simp only[ax,dB,BJ xs];rfl
def S0(A:List An)(t:Nat):Option (List An):=match A with
 | .G2 u::A=>if u=t then some A else none
 |_=>none
def T7(H:ah)(d:D)(e sz:Nat):Option (List aG×Bool×aI):=match d with
 | .nil=>some ([],true,[])
 | .acc m=>(match H[m]? with
  |some (.row k e' sz' rows)=>(match k with| .cl=>none| .uq=>(if e'=e/\sz'=sz then some (rows,true,[m])else none)| .sh=>(if e'=e/\sz'=sz then some (rows,false,[m])else none)| .mv _=>none| .ho _ _=>none)
  |_=>none)
 |_=>none
def Sj(H:ah)(d:D)(e sz:Nat)(A:List An):Option (List aG×Bool×aI×List An×tA):=match d,A with
 | .nil,A=>some ([],true,[],A,[])
 | .acc m,A=>(match H[m]? with
  |some (.row k e' sz' rows)=>(match k with| .cl=>none| .uq=>(if e'=e/\sz'=sz then some (rows,true,[m],A,[])else none)| .sh=>(if sz'=sz then some (rows,false,[m],A,[])else none)| .mv _=>none| .ho _ _=>none)
  |_=>none)
 | .sl rows,.fl f::A=>some (rows,f&&LL e,[],A,[(∀r∈rows,r.length=sz)/\(f=true->D.l6 rows=true)])
 |_,_=>none
def BW(st:St)(d:D):Option (Nat×Nat×List aG×Option Value):=match d with
 | .acc id=>(match st.H[id]? with|some (.oJ sz rows u)=>some (id,sz,rows,u)|_=>none)
 |_=>none
theorem BX{st:St}{d:D}{id sz:Nat}{rows:List aG}{u:Option Value}(h:BW st d=some (id,sz,rows,u)):d=.acc id/\st.H[id]?=some (.oJ sz rows u):=by
 unfold BW at h;split at h
 ·split at h
  ·rename_i hH;cases h;exact⟨rfl,hH⟩
  ·cases h
 ·cases h
def DN(st:St)(d:D):Option (Nat×Nat×Nat×Nat×List aG×Option Value):=match d with
 | .op id i sz off=>(match st.H[id]? with|some (.oJ sz' rows u)=>if sz'=sz then some (id,i,off,sz,rows,u)else none|_=>none)
 |_=>none
theorem Fq{st:St}{d:D}{id i off sz:Nat}{rows:List aG}{u:Option Value}(h:DN st d=some (id,i,off,sz,rows,u)):d=.op id i sz off/\st.H[id]?=some (.oJ sz rows u):=by
 unfold DN at h;split at h
 ·split at h
  ·split at h
   ·rename_i hH he;subst he;cases h;exact⟨rfl,hH⟩
   ·cases h
  ·cases h
 ·cases h
def Fv(H:ah)(A:List An):Option (ah×List An×tA):=match A with
 | .mg id i off r::A=>(match H[id]? with
  |some (.hole sz rows u p n)=>(match H[n]?,r[off]? with
   |some (.oJ _ dK _),some _=>some ((H.set n .gone).set id (.oJ sz (rows.set i (r.set off (.sl dK))) u),A,[rows[i]?=some r,p=i*sz+off])
   |_,_=>none)
  |_=>none)
 |A=>some (H,A,[])
def mV(n:Nat):aG->aG×ah
 | []=>([],[])
 |d::ds=>match d with
  | .sl rows=>(.acc n::(mV (n+1) ds).1,.tk rows::(mV (n+1) ds).2)
  |d=>(d::(mV n ds).1,(mV n ds).2)
def GG(r:aG):Bool:=r.all fun d=>match d with| .sl _=>true|d=>d.flat
def xI(P:Program)(nt:Nat)(o:Oper)(st:St)(A:List An):Option (St×List An×tA):=match o.op,o.dst with
 | .box _ x,some t=>(if t<nt then match(st.ev x).cellsOf with|some ds=>some (⟨(t,.ptr st.H.length 0)::st.σ,st.H++[.box ds]⟩,A,[])|none=>none else none)
 | .alloc T,some t=>(if t<nt then match tz P T with|some ds=>some (⟨(t,.ptr st.H.length 0)::st.σ,st.H++[.box ds]⟩,A,[])|none=>none else none)
 | .store T x y,none=>(match st.ev x,(st.ev y).cellsOf with
  | .ptr id off,some ds=>(match st.H[id]? with
   |some ob=>(match ob.Gg with
    |some cells=>(if Dh P T=true/\ds.length=qU P T/\off+ds.length<=cells.length/\ob.Gz off=true then some (⟨st.σ,st.H.set id (ob.re (cells.take off++ds++cells.drop (off+ds.length)))⟩,A,[])else none)
    |none=>none)
   |none=>none)
  | .op id i sz off,some ds=>(match st.H[id]?,yJ st.H ds,A with
   |some (.oJ sz' rows u),_,.row r::A=>(if Dh P T=true/\ds.length=qU P T/\0<ds.length/\sz'=sz/\off+ds.length<=sz/\ds.all D.flat=true then
    some (⟨st.σ,st.H.set id (.oJ sz (rows.set i (r.take off++ds++r.drop (off+ds.length))) u)⟩,A,[rows[i]?=some r])else none)
   |some (.row k e sz' rows),some (es,ms),.row r::A=>(if Dh P T=true/\ds.length=qU P T/\sz'=sz/\k.DT=true/\off+ds.length<=sz/\ms.Nodup/\id∉ms then
    some (⟨st.σ,(kill st.H ms).set id (.row (k.after (IT st.H e off ds&&JP e sz)) e sz (rows.set i (r.take off++es++r.drop (off+ds.length))))⟩,A,[rows[i]?=some r])else none)
   |_,_,_=>none)
  |_,_=>none)
 | .makeMap _ none,some t=>(if t<nt then some (⟨(t,.acc st.H.length)::st.σ,st.H++[.mp []]⟩,A,[])else none)
 | .mapUpdate T x i y,none=>(match IR P T,st.ev x,A with
  |some (kd,_),.acc id,.kv m::A=>(match st.H[id]? with
   |some (.mp kv)=>(if xm kd (st.ev i)=true/\(st.ev y).scalar=true then some (⟨st.σ,st.H.set id (.mp m)⟩,A,[yw (st.ev i) (st.ev y) kv=some m])else none)
   |_=>none)
  |_,_,_=>none)
 | .makeSlice T x y,some t=>(match wE P T,st.ev x,st.ev y with
  |some (e,sz),.int _ n,.int _ n'=>(match tz P e with
   |some zs=>(if t<nt/\0<sz then some (⟨(t,.acc st.H.length)::st.σ,st.H++[.row (oW (LL e)) e sz (List.replicate n.toNat (zs.map D.sY))]⟩,A,[n'=n/\0<=n/\LH P e*n.toNat<=281474976710656/\n.toNat<=4611686018427387904])else none)
   |none=>none)
  |_,_,_=>none)
 | .buildSlice T len parts,some t=>(match wE P T with
  |some (e,sz)=>(match tz P e with
   |some zs=>(match pI (mC len sz) (List.replicate len zs).flatten (parts.toList.map fun p=>(p.1,st.ev p.2))with
    |some ds=>(match yJ st.H ds with
     |some (es,ms)=>(if t<nt/\0<sz/\len*sz<=16777216/\ms.Nodup then some (⟨(t,.acc st.H.length)::st.σ,kill st.H ms++[.row (oW (IT st.H e 0 ds)) e sz (chunk sz len es)]⟩,A,[])else none)
     |none=>none)
    |none=>none)
   |none=>none)
  |none=>none)
 | .call c,some t=>(match c.callee,c.args.toList,c.argTypes.toList with
  | .builtin .append,[s,x],[T,T']=>(match wE P T with
   |some (e,sz)=>(match tz P e,T7 st.H (st.ev s) e sz,Sj st.H (st.ev x) e sz A with
    |some _,some (rows,u1,k1),some (dK,u2,k2,A,ow)=>(if t<nt/\0<sz/\T'=T/\(k1++k2).Nodup then
     some (⟨(t,.acc st.H.length)::st.σ,kill st.H (k1++k2)++[.row (oW ((u1&&u2)&&JP e sz)) e sz (rows++dK)]⟩,A,(rows.length+dK.length<=maxLen/\(rows.length+dK.length)*LH P e<=140737488355328)::ow)else none)
    |_,_,_=>none)
   |none=>none)
  | .builtin .len,[x],[T]=>(match BW st (st.ev x)with
   |some (_,_,rows,_)=>(if t<nt/\(wE P T).isSome=true then some (⟨(t,.int .i64 rows.length)::st.σ,st.H⟩,A,[])else none)
   |none=>(if t<nt then match wq P st o.op A with|some (d,A,ow)=>some (⟨(t,d)::st.σ,st.H⟩,A,ow)|none=>none else none))
  | .value (.func f),xs,_=>(match wu st.H (xs.map st.ev),A with
   |_,.gv ms outs d::A=>(match BV st.H ms with
    |some ins=>(if t<nt/\ms.Nodup/\((xs.map st.ev).all D.bare)=true then
     (match Fv (DW st.H ms outs) A with
     |some (H',A',ow)=>some (⟨(t,d)::st.σ,H'⟩,A',NF P f ((xs.map st.ev).map (D.HD ms)) ins outs d::ow)
     |none=>none)else none)
    |none=>none)
   |_,.gp nz cells' d::A=>(match xs with
    |x0::xr=>(match st.ev x0 with
     | .ptr id 0=>(match st.H[id]? with
      |some ob=>(match ob.Gg with
       |some zc=>(match rB st.H nz (.agg zc::xr.map st.ev)with
        |some (.agg cells::ds,ms,qs)=>(if t<nt/\ms.Nodup/\qs.Nodup/\(∀m∈qs,m∉ms)then
         some (⟨(t,(jG (st.H.length+(iv st.H.length cells').2.length) d).1)::st.σ,(kill st.H (ms++qs)).set id (ob.re (iv st.H.length cells').1)++((iv st.H.length cells').2++(jG (st.H.length+(iv st.H.length cells').2.length) d).2)⟩,A,[iA P f cells cells' ds d])else none)
        |_=>none)
       |none=>none)
      |none=>none)
     |_=>none)
    | []=>none)
   |some (ds,ms),.dn cells::A=>(if t<nt/\ms=[]then some (⟨(t,.ptr st.H.length 0)::st.σ,st.H++[.box cells]⟩,A,[yI P f ds cells])else none)
   |some (ds,_),.dc d::A=>(if t<nt/\d.Bg=true then some (⟨(t,(jG st.H.length d).1)::st.σ,st.H++(jG st.H.length d).2.map Ob.close⟩,A,[Good P f ds d])else none)
   |_,.ov id cc::A=>(match st.H[id]? with
    |some (.row .uq e sz rows)=>(if t<nt/\((xs.map st.ev).all D.bare)=true/\LL e=true then some (⟨(t,.acc st.H.length)::st.σ,kill st.H [id]++[.row .uq e sz cc]⟩,A,[rows.flatten.all D.flat=true,NE P f ((xs.map st.ev).map (D.HD [id])) e sz rows cc])else none)
    |_=>none)
   |_,.mu id cc::A=>(match xs,st.H[id]? with
    | [x],some (.row k e sz rows)=>(match st.ev x with
     | .acc id'=>(if t<nt/\id'=id/\k.hand=true/\LL e=true then some (⟨(t,.iz [])::st.σ,st.H.set id (.row k e sz cc)⟩,A,[rows.flatten.all D.flat=true,Dw P f e sz rows cc])else none)
     |_=>none)
    |_,_=>none)
   |some (ds,ms),.d d::A=>(if t<nt/\(ms=[]\/d.Bg=true)then some (⟨(t,(jG st.H.length d).1)::st.σ,st.H++(jG st.H.length d).2⟩,A,[Good P f ds d])else none)
   |_,.nl d::A=>(if t<nt/\(xs.map st.ev).all AM=true then some (⟨(t,(jG st.H.length d).1)::st.σ,st.H++(jG st.H.length d).2⟩,A,[Good P f (xs.map st.ev) d])else none)
   |_,.gf nz d::A=>(match rB st.H nz (xs.map st.ev)with
    |some (ds,ms,qs)=>(if t<nt/\ms.Nodup/\qs.Nodup/\(∀m∈qs,m∉ms)then some (⟨(t,(jG st.H.length d).1)::st.σ,kill st.H (ms++qs)++(jG st.H.length d).2⟩,A,[GR P f ds d])else none)
    |none=>none)
   |_,_=>none)
  |_,_,_=>(if t<nt then match wq P st o.op A with|some (d,A,ow)=>some (⟨(t,d)::st.σ,st.H⟩,A,ow)|none=>none else none))
 | .convert s d x,some t=>(match st.ev x with
  | .acc id=>(match st.H[id]?,wE P s with
   |some (.row _ _ _ rows),some (e,sz)=>(match bytesOf rows with
    |some bs=>(if t<nt/\sz=1/\GJ P e=some .u8/\AB P d=true then some (⟨(t,.str bs)::st.σ,st.H⟩,A,[])else none)
    |none=>none)
   |_,_=>none)
  |_=>(if t<nt then match wq P st o.op A with|some (d,A,ow)=>some (⟨(t,d)::st.σ,st.H⟩,A,ow)|none=>none else none))
 | .assign x,some t=>(match S0 A t with
  |some A=>(match st.ev x,wE P o.type with
   | .nil,some (e,sz)=>(if t<nt/\0<sz then some (⟨(t,.acc st.H.length)::st.σ,st.H++[.row .uq e sz []]⟩,A,[])else none)
   |_,_=>none)
  |none=>(if t<nt then some (⟨(t,st.ev x)::st.σ,st.H⟩,A,[])else none))
 | .slice T x none (some hi) none,some t=>(match st.ev x with
  | .acc id=>(match st.H[id]?,wE P T,st.ev hi,A with
   |some (.row .uq e sz rows),some (_,sz'),.int _ n,.cut 0 h::A=>(if t<nt/\sz'=sz then some (⟨(t,.acc st.H.length)::st.σ,kill st.H [id]++[.row .uq e sz (rows.take h)]⟩,A,[n=((h:Nat):Int)/\h<=rows.length])else none)
   |_,_,_,_=>none)
  |_=>(if t<nt then match wq P st o.op A with|some (d,A,ow)=>some (⟨(t,d)::st.σ,st.H⟩,A,ow)|none=>none else none))
 | .slice T (.tmp s) (some lo) none none,some t=>(match A,lk st.σ s with
  | .fz::A,.acc id=>(match st.H[id]? with
   |some (.row k e sz rows)=>(if t<nt/\k.DT=true then match wq P ⟨(s,.sl rows)::st.σ,st.H.set id .gone⟩ o.op A with|some (d,A,ow)=>some (⟨(t,d)::(s,.sl rows)::st.σ,st.H.set id .gone⟩,A,ow)|none=>none else none)
   |_=>none)
  |_,_=>(if t<nt then match wq P st o.op A with|some (d,A,ow)=>some (⟨(t,d)::st.σ,st.H⟩,A,ow)|none=>none else none))
 | .indexAddr T x i,some t=>(match BW st (st.ev x)with
  |some (id,sz,rows,_)=>(match wE P T,st.ev i,A with
   |some (_,sz'),.int _ n,.ix m::A=>(if t<nt/\sz'=sz then some (⟨(t,.op id m sz 0)::st.σ,st.H⟩,A,[n=(m:Int)/\m<rows.length])else none)
   |_,_,_=>none)
  |none=>(if t<nt then match wq P st o.op A with|some (d,A,ow)=>some (⟨(t,d)::st.σ,st.H⟩,A,ow)|none=>none else none))
 | .load T x,some t=>(match DN st (st.ev x)with
  |some (id,i,off,sz,rows,u)=>(match rD P T,A with
   |some false,.row r::A=>(match r[off]? with
    |some (.sl dK)=>(match wE P T with
     |some (_,FA)=>(if t<nt then some (⟨(t,.acc st.H.length)::st.σ,st.H.set id (.hole sz (rows.set i (r.set off .any)) u (i*sz+off) st.H.length)++[.oJ FA dK none]⟩,A,[rows[i]?=some r,∀q∈dK,q.length=FA])else none)
     |none=>none)
    |some d=>(if t<nt/\d.flat=true then some (⟨(t,d)::st.σ,st.H⟩,A,[rows[i]?=some r])else none)
    |none=>none)
   |_,_=>none)
  |none=>(match A,st.ev x with
   | .tk r::A,.op id i sz 0=>(match st.H[id]? with
    |some (.row (.mv n) e sz' rows)=>(if t<nt/\sz'=sz/\rD P T=some true/\qU P T=sz then
     some (⟨(t,.agg (mV st.H.length r).1)::st.σ,st.H.set id (.row (.mv (n+1)) e sz rows)++(mV st.H.length r).2⟩,A,[i=n/\rows[n]?=some r/\GG r=true])else none)
    |_=>none)
   |A,_=>(if t<nt then match wq P st o.op A with|some (d,A,ow)=>some (⟨(t,d)::st.σ,st.H⟩,A,ow)|none=>none else none)))
 |op,some t=>(if t<nt then match wq P st op A with|some (d,A,ow)=>some (⟨(t,d)::st.σ,st.H⟩,A,ow)|none=>none else none)
 |_,none=>none
section
variable{P:Program}{Γ:nR}{Q:Exit->St->Prop}{st:St}{all:Array Oper}{rest:List Oper}
theorem cR.KO{κ:Nat->Option Value}{Θ:Nat->Nat}{a:Act}{w:World}(hs:cR Γ st κ Θ a w)(e sz:Nat)(hsz:0<sz):cR Γ ⟨st.σ,st.H++[.row .uq e sz []]⟩ (pL κ st.H.length (some (.slice none 0 0))) Θ a w:=by
 obtain⟨ρ,hu⟩:=hs.mG;refine hs.put [] sV (ol (hs.jx _ (b9 _)) _) ?_ ?_ (ed.refl hs.own (by omega)) hs.mine ?_ hu (by simp) ?_
 ·intro i hi;simp only[af,aT,bH]at hi;unfold pL;rw[ai (by omega)];exact hs.jx i (by omega)
 ·intro i x hx;unfold pL at hx;split at hx
  ·cases hx;rfl
  ·exact hs.jg i x hx
 ·exact⟨hsz,by simp,_,[],[],gq _ _ _,World.ownsRow_nil w 0 e sz,.nil,by simp[Value.ownBlock],by simp⟩
 ·intro e' sz' cc he;simp only[Ob.row.injEq,qZ]at he;obtain⟨rfl,rfl,rfl⟩:=he;exact⟨_,[],[],gq _ _ _,World.ownsRow_nil w 0 e sz,.nil _,by simp,by simp⟩
theorem OH{o:Oper}{x:Operand}{t e sz:Nat}(hop:o.op=.assign x)(hd:o.dst=some t)(hg:o.guard=none)(ht:t<Γ.nt)(hx:st.ev x=.nil)(hsz:0<sz)
 (h:AO P Γ all rest Q ⟨(t,.acc st.H.length)::st.σ,st.H++[.row .uq e sz []]⟩):AO P Γ all (o::rest) Q st:=by
 intro κ Θ a w hs;obtain⟨bs,r,_⟩:=hs.ev x;rw[hx]at r;have hv:=r.zC;have hp:pv P st o.op=some .nil:=by rw[hop];simp[pv,hx]
 obtain⟨v,b2,hrun,hrd,hz⟩:=vo hs hp;have F9:=hrd.zC;subst F9;refine wpList_plain hg fun K hK=>?_
 unfold Oper.wp;rw[hrun,Oper.upon_value,hd];refine hK _ _ (h _ _ _ _ ((hs.KO e sz hsz).set (t:=t) (d:=.acc st.H.length) (bs:=[]) ht ?_ (by simp)));exact(qG.acc st.H.length _ (gq _ _ _)).Ck
theorem dF.Pn{κ:Nat->Option Value}{w:World}{n:Nat}(hk:κ n=some (.slice none 0 0)):∀ {vs:av} {ds:aG} {bs:aI},dF w κ vs ds bs->∀ {off:Nat},ds[off]?=some .nil->∃bs',dF w κ vs (ds.set off (.acc n)) bs'/\∀b∈bs',b∈bs:=by
 intro vs ds bs h
 induction h with
 |nil=>intro off h;simp at h
 |cons v vs d ds b1 b2 h1 h2 h3 ih=>
  intro off h;cases off with
  |zero=>
   simp only[sH,aP]at h;subst h;have hv:v=.slice none 0 0:=by
    cases h2 with
    |pure h2=>cases h2;rfl
   subst hv;exact⟨[]++b2,.cons _ _ _ _ _ _ h1 (.acc n _ hk) h3,fun b hb=>by simp at hb;simp[hb]⟩
  |succ off=>
   obtain⟨bs',q1,q2⟩:=ih (off:=off) (by simpa using h);exact⟨b1++bs',.cons _ _ _ _ _ _ h1 h2 q1,fun b hb=>by
    rcases aJ.1 hb with hb|hb
    ·exact aJ.2 (.inl hb)
    ·exact aJ.2 (.inr (q2 b hb))⟩
def St.prom(st:St)(id off e sz:Nat):Option St:=match st.H[id]? with
 |some (.box cells)=>(match cells[off]? with
  |some .nil=>(if 0<sz then some ⟨st.σ,(st.H++[Ob.row .uq e sz []]).set id (Ob.box (cells.set off (.acc st.H.length)))⟩else none)
  |_=>none)
 |_=>none
theorem cR.prom{κ:Nat->Option Value}{Θ:Nat->Nat}{a:Act}{w:World}{mm:St}{id off e sz:Nat}(hs:cR Γ st κ Θ a w)(h:st.prom id off e sz=some mm):∃κ',cR Γ mm κ' Θ a w:=by
 unfold St.prom at h;split at h
 ·rename_i cells hH;split at h
  ·rename_i hc;split at h
   ·rename_i hsz;cases h;have hlt:id<st.H.length:=(aB.1 hH).1;have hs1:=hs.KO e sz hsz;refine⟨_,hs1.defers,hs1.size,fun i hi=>hs1.jx i (by simpa using hi),hs1.jg,hs1.slot,?_,hs1.own,hs1.old,hs1.mine,hs1.stays,?_⟩
    ·intro j y hj;simp only[eC]at hj;split at hj
     ·rename_i e1;subst e1;split at hj
      ·cases hj;obtain⟨g,cs,T,q1,q2,q3,bs,q4,q5⟩:=hs1.ob id (.box cells) (by simpa[aS hlt]using hH);obtain⟨bs',p1,p2⟩:=dF.Pn (n:=st.H.length) (gq _ _ _) q4 hc;exact⟨g,cs,T,q1,q2,q3,bs',p1,fun b hb=>q5 b (p2 b hb)⟩
      ·cases hj
     ·exact hs1.ob j y hj
    ·obtain⟨ρ,hu⟩:=hs1.mG;refine⟨ρ,hu.free,fun i e' sz' rows hi=>hu.rows i e' sz' rows ?_,fun i o hi=>?_⟩
     ·simp only[eC]at hi;split at hi
      ·split at hi<;>cases hi
      ·exact hi
     ·simp only[eC]at hi;split at hi
      ·split at hi
       ·cases hi;trivial
       ·cases hi
      ·exact hu.more i o hi
   ·cases h
  ·cases h
 ·cases h
theorem cR.SJ{κ:Nat->Option Value}{Θ:Nat->Nat}{a:Act}{w:World}{id e sz:Nat}{rows:List aG}(hs:cR Γ st κ Θ a w)(hH:st.H[id]?=some (.row .uq e sz rows)):cR Γ ⟨st.σ,st.H.set id (.row .sh e sz rows)⟩ κ Θ a w:=by
 have hlt:id<st.H.length:=(aB.1 hH).1;refine⟨hs.defers,hs.size,fun i hi=>hs.jx i (by simpa using hi),hs.jg,hs.slot,?_,hs.own,hs.old,hs.mine,hs.stays,?_⟩
 ·intro j y hj;simp only[eC,hlt,kV]at hj;split at hj
  ·rename_i e1;subst e1;cases hj;exact(show nh w κ Θ id (.row .uq e sz rows)from hs.ob id _ hH)
  ·exact hs.ob j y hj
 ·obtain⟨ρ,hu⟩:=hs.mG;refine⟨ρ,hu.free,fun i e' sz' cc hi=>hu.rows i e' sz' cc ?_,fun i o hi=>?_⟩
  ·simp only[eC,hlt,kV]at hi;split at hi
   ·cases hi
   ·exact hi
  ·simp only[eC,hlt,kV]at hi;split at hi
   ·cases hi;trivial
   ·exact hu.more i o hi
theorem cR.X2{κ:Nat->Option Value}{Θ:Nat->Nat}{a:Act}{w:World}{id e sz:Nat}{rows:List aG}(hs:cR Γ st κ Θ a w)(hH:st.H[id]?=some (.row .uq e sz rows)):cR Γ ⟨st.σ,st.H.set id (.row (.mv 0) e sz rows)⟩ κ Θ a w:=by
 have hlt:id<st.H.length:=(aB.1 hH).1;refine⟨hs.defers,hs.size,fun i hi=>hs.jx i (by simpa using hi),hs.jg,hs.slot,?_,hs.own,hs.old,hs.mine,hs.stays,?_⟩
 ·intro j y hj;simp only[eC,hlt,kV]at hj;split at hj
  ·rename_i e1;subst e1;cases hj;exact(show nh w κ Θ id (.row .uq e sz rows)from hs.ob id _ hH)
  ·exact hs.ob j y hj
 ·obtain⟨ρ,hu⟩:=hs.mG;refine⟨ρ,hu.free,fun i e' sz' cc hi=>hu.rows i e' sz' cc ?_,fun i o hi=>?_⟩
  ·simp only[eC,hlt,kV]at hi;split at hi
   ·cases hi
   ·exact hi
  ·simp only[eC,hlt,kV]at hi;split at hi
   ·rename_i e1;subst e1;cases hi;obtain⟨v,cs,bs,q1,q2,q3,q4,q5⟩:=hu.rows id e sz rows hH;exact⟨v,cs,bs,q1,q2,by simpa using q3.rd,q4,q5⟩
   ·exact hu.more i o hi
def shares:List An->St->St×List An
 | .sk id::A,st=>(match st.H[id]? with
  |some (.row .uq e sz rows)=>shares A ⟨st.σ,st.H.set id (.row .sh e sz rows)⟩
  |_=>(st,.sk id::A))
 | .mz id::A,st=>(match st.H[id]? with
  |some (.row .uq e sz rows)=>shares A ⟨st.σ,st.H.set id (.row (.mv 0) e sz rows)⟩
  |_=>(st,.mz id::A))
 |A,st=>(st,A)
theorem cR.shares{κ:Nat->Option Value}{Θ:Nat->Nat}{a:Act}{w:World}:∀ {A A1:List An} {st og:St},cR Γ st κ Θ a w->shares A st=(og,A1)->cR Γ og κ Θ a w:=by
 intro A
 induction A with
 |nil=>intro A1 st og hs h;simp only[Cx.shares,bn]at h;obtain⟨rfl,_⟩:=h;exact hs
 |cons x A ih=>
  intro A1 st og hs h;cases x
  case sk id=>
   simp only[Cx.shares]at h;split at h
   ·rename_i e sz rows hH;exact ih (hs.SJ hH) h
   ·simp only[bn]at h;obtain⟨rfl,_⟩:=h;exact hs
  case mz id=>
   simp only[Cx.shares]at h;split at h
   ·rename_i e sz rows hH;exact ih (hs.X2 hH) h
   ·simp only[bn]at h;obtain⟨rfl,_⟩:=h;exact hs
  all_goals(simp only[Cx.shares,bn]at h;obtain⟨rfl,_⟩:=h;exact hs)
theorem Lm{o:Oper}{s d:TypeId}{x:Operand}{t id e e' sz':Nat}{k:RK}{rows:List aG}{bs:Bytes}(hop:o.op=.convert s d x)(hd:o.dst=some t)(hg:o.guard=none)(ht:t<Γ.nt)(hx:st.ev x=.acc id)
 (hH:st.H[id]?=some (.row k e' sz' rows)) (hT:wE P s=some (e,1)) (he:GJ P e=some .u8) (hs':AB P d=true) (hb:bytesOf rows=some bs) (h:AO P Γ all rest Q ⟨(t,.str bs)::st.σ,st.H⟩):AO P Γ all (o::rest) Q st:=by
 intro κ Θ a w hs;obtain⟨b0,r,_⟩:=hs.ev x;rw[hx]at r;obtain⟨hk,_⟩:=r.nS;obtain⟨hsz,hrl,v,cs,b1,hk2,hown,l7,_,_⟩:=hs.ob id _ hH;rw[hk]at hk2;cases hk2;obtain⟨xs,rfl,rfl⟩:=EB hb;obtain⟨hu,_,_⟩:=jh hT;have VF:P.underlying e=some (.int .u8):=by
  unfold GJ at he;split at he
  ·rename_i k' hk';cases he;exact hk'
  ·cases he
 have VE:=oY hs';have hfl:(xs.map (fun n=>[D.int .u8 n])).flatten=xs.map (fun n=>D.int .u8 n):=BJ xs;rw[hfl]at l7;have hcs:∀(xs:bC) (cs:av) (b:aI),iB w cs (xs.map (fun n=>D.int .u8 n)) b->cs=xs.map (Value.int .u8):=by
  intro xs
  induction xs with
  |nil=>intro cs b h;cases h;rfl
  |cons n xs ih=>
   intro cs b h;cases h with
   |cons v vs _ _ b1 b2 _ h2 h3=>
    cases h2;rw[ih _ _ h3];rfl
 have hce:=hcs xs cs b1 l7;have hlen:xs.length<=maxLen:=by
  rcases hown.2 with⟨_,hn⟩|⟨g,cap,cur,_,_,_,hnc,hcm,_⟩
  ·simp at hn;rw[hn];simp
  ·simp at hnc;omega
 have hrun:(convert s d (a.eval x)).run P w=.ok (.string (strOfNums xs)) w:=by
  rcases hown.2 with⟨hv,hn⟩|⟨g,cap,cur,hv,_,hg,hnc,hcm,_,_⟩
  ·have hx0:xs=[]:=by simpa using hn
   subst hx0;rw[hv,run_convert_bytes_nil w s e hu VF 0 0 d VE];rfl
  ·rw[hv];have hcell:=hown.cells (g:=g) (by rw[hv];simp[Value.ownBlock]);refine run_convert_bytes_arg w s e hu VF g 0 _ cap xs (by simp) (fun i hi=>?_) d VE;have hi':i<xs.length:=by simpa using hi
   have:=hcell i (.int .u8 (xs.getD i 0)) (by rw[hce];simp[List.getD,aM hi']);simpa[Addr.add_lit]using this
 refine wpList_plain hg fun K hK=>?_
 unfold Oper.wp;have EV:(execOp a.eval o).run P w=.ok (.value (.string (strOfNums xs))) w:=by
  simp only[execOp,hop];simp[hrun]
 rw[EV,Oper.upon_value,hd];refine hK _ _ (h _ _ _ _ (hs.set (t:=t) (bs:=[]) ht ?_ (by simp)));have RJ:(strOfNums xs).data.toList=xs.map (fun n=>UInt8.ofNat n.toNat):=by simp[strOfNums]
 have Wn:(strOfNums xs).size<=maxLen:=by
  have:(strOfNums xs).size=xs.length:=by
   have:=congrArg List.length RJ;simpa using this
  omega
 have:=Rd.str (w:=w) (strOfNums xs) Wn;rw[RJ]at this;exact .of this
theorem OD{o:Oper}{t:Nat}{s x:Operand}{T e sz:Nat}{zs:aG}{rows dK:List aG}{u1 u2:Bool}{k1 k2:aI}{A A':List An}{ow:tA}
 (hop:o.op=.call {callee:=.builtin .append,args:= #[s,x],argTypes:= #[T,T]}) (hd:o.dst=some t) (hg:o.guard=none) (ht:t<Γ.nt) (hT:wE P T=some (e,sz)) (hz:tz P e=some zs) (hsz:0<sz)
 (hS:T7 st.H (st.ev s) e sz=some (rows,u1,k1)) (hX:Sj st.H (st.ev x) e sz A=some (dK,u2,k2,A',ow)) (how:oo ow) (hnd:(k1++k2).Nodup)
 (h63:rows.length+dK.length<=maxLen) (hby:(rows.length+dK.length)*LH P e<=140737488355328)
 (h:AO P Γ all rest Q ⟨(t,.acc st.H.length)::st.σ,kill st.H (k1++k2)++[.row (oW ((u1&&u2)&&JP e sz)) e sz (rows++dK)]⟩):AO P Γ all (o::rest) Q st:=by
 refine HT hop hd hg ht hT hz hsz h63 hby ?_ h;intro κ Θ a w ρ hs hu;have one:∃i1 b1 c1,J5 w Θ ρ e sz (a.eval s) rows u1 i1 b1 c1/\((k1=[]/\i1=st.H.length)\/k1=[i1]):=by
  obtain⟨bs,r,_⟩:=hs.ev s;unfold T7 at hS;split at hS
  ·rename_i xz;cases hS;rw[xz]at r;have:=r.zC;rw[this];exact⟨st.H.length,[],[],JB,.inl ⟨rfl,rfl⟩⟩
  ·rename_i m xz;rw[xz]at r;obtain⟨hk,_⟩:=r.nS;split at hS
   ·rename_i k e' sz' cc hH;split at hS
    ·cases hS
    ·split at hS
     ·rename_i hc;obtain⟨rfl,rfl⟩:=hc;cases hS;obtain⟨b1,c1,hA⟩:=yL hs hu hk hH rfl;exact⟨m,b1,c1,hA,.inr rfl⟩
     ·cases hS
    ·split at hS
     ·rename_i hc;obtain⟨rfl,rfl⟩:=hc;cases hS;obtain⟨b1,c1,hA⟩:=yL hs hu hk hH rfl;exact⟨m,b1,c1,hA,.inr rfl⟩
     ·cases hS
    ·cases hS
    ·cases hS
   ·cases hS
  ·cases hS
 have two:∃i2 b2 c2,Ct w Θ ρ e sz (a.eval x) dK u2 i2 b2 c2/\(u2=true->b2=[]\/i2∈k2):=by
  obtain⟨bs,r,hz⟩:=hs.ev x;unfold Sj at hX;split at hX
  ·rename_i A1 xz;cases hX;rw[xz]at r;have:=r.zC;rw[this];exact⟨0,[],[],JC,fun _=>.inl rfl⟩
  ·rename_i A1 m xz;rw[xz]at r;obtain⟨hk,_⟩:=r.nS;split at hX
   ·rename_i k e' sz' cc hH;split at hX
    ·cases hX
    ·split at hX
     ·rename_i hc;obtain⟨rfl,rfl⟩:=hc;cases hX;obtain⟨b1,c1,hA⟩:=E5 hs hu hk hH rfl;exact⟨m,b1,c1,hA,fun _=>.inr (by simp)⟩
     ·cases hX
    ·split at hX
     ·rename_i hc;subst hc;cases hX;obtain⟨b1,c1,hA⟩:=E5 hs hu hk hH rfl;exact⟨m,b1,c1,hA.sh,fun _=>.inr (by simp)⟩
     ·cases hX
    ·cases hX
    ·cases hX
   ·cases hX
  ·rename_i cc f A1 xz;cases hX;rw[xz]at r;obtain⟨⟨q1,q2⟩,_⟩:=how;obtain⟨b2,c2,hA,hb⟩:=M2 (ρ:=ρ) r.Dc hz q1 0 (f&&LL e) (fun hh=>q2 (by simp only[aL]at hh;exact hh.1)) e (fun hh=>zO (by simp only[aL]at hh;exact hh.2));exact⟨0,b2,c2,hA,fun e=>.inl (hb e)⟩
  ·cases hX
 obtain⟨i1,b1,c1,hA,hk1⟩:=one;obtain⟨i2,b2,c2,hB,hk2⟩:=two;refine⟨u1,u2,i1,i2,b1,b2,c1,c2,hA,hB,?_,fun o4=>?_⟩
 ·rcases hk1 with⟨_,h⟩|h
  ·exact .inr h
  ·exact .inl (by simp[h])
 ·rw[aL]at o4;obtain⟨o4,JZ⟩:=o4;simp only[aL]at o4;refine⟨o4.1,o4.2,?_,JZ⟩;rcases hk2 o4.2 with h|hmem
  ·exact .inl h
  ·refine .inr ⟨by simp[hmem],fun e=>?_⟩;rcases hk1 with⟨h1,h2⟩|h1
   ·
    have hlt:i2<st.H.length:=by
     unfold Sj at hX;split at hX
     ·cases hX;cases hmem
     ·rename_i A1 m xz;split at hX
      ·rename_i k e' sz' cc hH;have:=(aB.1 hH).1;split at hX
       ·cases hX
       ·split at hX
        ·cases hX;simp at hmem;omega
        ·cases hX
       ·split at hX
        ·cases hX;simp at hmem;omega
        ·cases hX
       ·cases hX
       ·cases hX
      ·cases hX
     ·cases hX;cases hmem
     ·cases hX
    omega
   ·subst e;have:=(aY.1 hnd).2.2 i1 (by simp[h1]) i1 hmem;exact this rfl
theorem LG{κ:Nat->Option Value}{w:World}:∀ {ds:aG} {n:Nat} {vs:av} {bs:aI},iB w vs ds bs->(∀d∈ds,d.flat=true\/∃rows,d=.sl rows)->bs.Nodup->
 ∃(us:av) (L:List aI),us.length=(mV n ds).2.length/\L.length=us.length/\L.flatten=bs/\
  (∀(j:Nat) o,(mV n ds).2[j]?=some o->∃rows u b,o=.tk rows/\us[j]?=some u/\u.oneCell'=true/\L[j]?=some b/\Rd w u (.sl rows) b)/\
  (∀κ':Nat->Option Value,(∀(j:Nat) u,us[j]?=some u->κ' (n+j)=some u)->dF w κ' vs (mV n ds).1 []):=by
 intro ds
 induction ds with
 |nil=>intro n vs bs h _ _;cases h;exact⟨[],[],rfl,rfl,rfl,by simp[mV],fun _ _=>.nil⟩
 |cons d ds ih=>
  intro n vs bs h hd hnd;cases h with
  |cons v vs _ _ b1 b2 h1 h2 h3=>
   obtain⟨n1,n2,n3⟩:=aY.1 hnd;rcases hd d (by simp)with hf|⟨rows,rfl⟩
   ·have hb:=h2.flat hf;subst hb;obtain⟨us,L,q1,q2,q3,q4,q5⟩:=ih (n:=n) h3 (fun x hx=>hd x (by simp[hx])) n2;have e:mV n (d::ds)=(d::(mV n ds).1,(mV n ds).2):=by cases d<;>first|rfl| (simp[D.flat]at hf)
    rw[e];exact⟨us,L,q1,q2,q3,q4,fun κ' hk=>by simpa using dF.cons v vs d _ [] [] h1 (.pure h2) (q5 κ' hk)⟩
   ·obtain⟨us,L,q1,q2,q3,q4,q5⟩:=ih (n:=n+1) h3 (fun x hx=>hd x (by simp[hx])) n2;refine⟨v::us,b1::L,by simp[mV,q1],by simp[q2],by simp[q3],fun j o hj=>?_,fun κ' hk=>?_⟩
    ·cases j with
     |zero=>simp[mV]at hj;subst hj;exact⟨rows,v,b1,rfl,rfl,h1,rfl,h2⟩
     |succ j=>
      obtain⟨cc,u,b,r1,r2,r3,r4,r5⟩:=q4 j o (by simpa[mV]using hj);exact⟨cc,u,b,r1,by simpa using r2,r3,by simpa using r4,r5⟩
    ·have:=dF.cons v vs (.acc n) _ [] [] h1 (.acc n v (by have:=hk 0 v rfl;simpa using this)) (q5 κ' (fun j u hj=>by have:=hk (j+1) u (by simpa using hj);rw[<-this];congr 1;omega));simpa[mV]using this
theorem GH{r:aG}(h:GG r=true):∀d∈r,d.flat=true\/∃rows,d=.sl rows:=by
 intro d hd;have:=aR.1 h d hd;cases d<;>first|exact .inr ⟨_,rfl⟩|exact .inl this
theorem Lp{o:Oper}{T id i sz e t:Nat}{x:Operand}{rows:List aG}{r:aG}(hop:o.op=.load T x)(hd:o.dst=some t)(hg:o.guard=none)(ht:t<Γ.nt)
 (hx:st.ev x=.op id i sz 0) (hH:st.H[id]?=some (.row (.mv i) e sz rows)) (hrow:rows[i]?=some r) (hT:rD P T=some true) (hsz:qU P T=sz) (hok:GG r=true)
 (h:AO P Γ all rest Q ⟨(t,.agg (mV st.H.length r).1)::st.σ,st.H.set id (.row (.mv (i+1)) e sz rows)++(mV st.H.length r).2⟩):AO P Γ all (o::rest) Q st:=by
 intro κ Θ a w hs;obtain⟨b1,r1,_⟩:=hs.ev x;rw[hx]at r1;obtain⟨g,o0,len,cap,hk,hv⟩:=r1.vm;obtain⟨ρ,hu⟩:=hs.mG;obtain⟨Ot,hrl,Xj,cs0,Qg,RN,NT,U3,hΘ,pK⟩:=hs.ob id _ hH;obtain⟨vk,cs,bs,Gu,hown,l7,hnd,hρ⟩:=hu.more id _ hH;rw[hk]at Gu RN;cases Gu;cases RN;have Ih:=qO hown;subst Ih;rw[cC]at hv;have Gt:r.length=sz:=hrl r (aD hrow);have hlt:i<rows.length:=(aB.1 hrow).1;have JX:rows.drop i=r::rows.drop (i+1):=by
  rw[rM hlt]
  congr 1
  rw[aM hlt]at hrow;exact nQ hrow
 rw[JX,dB]at l7;obtain⟨v1,v2,c1,c2,Aj,uU,k1,k2⟩:=l7.split;have l1:v1.length=sz:=by rw[k1.length,Gt]
 have hcells:∀j c,cs[j]?=some c->w.cell? ⟨g,0+j,none⟩=some c:=by
  intro j c hj;have:=hown.cells (g:=g) (by simp[Value.ownBlock]) j c hj;simpa[Addr.add_lit]using this
 have L0:=iy (P:=P) (w:=w) hT (o:=i*sz+0) hcells;simp only[cC,qE]at L0 hv;have hle:(i+1)*sz<=rows.length*sz:=eG _ hlt;rw[gF,jQ]at hle;have JV:=hown.1;have hval:(cs.drop (i*sz)).take sz=v1:=by rw[Aj];exact ez l1
 have hrun:(execOp a.eval o).run P w=.ok (.value (.agg v1.toArray)) w:=by
  simp only[execOp,hop,hv];have:=L0.1 trivial (by rw[hsz,JV];omega);rw[hsz,hval]at this;simp[this]
 refine wpList_plain hg fun K hK=>?_
 unfold Oper.wp;rw[hrun,Oper.upon_value,hd];rw[uU]at hnd hρ;obtain⟨n1,n2,n3⟩:=aY.1 hnd;obtain⟨us,L,q1,q2,q3,q4,q5⟩:=LG (κ:=κ) (n:=st.H.length) k1 (GH hok) n1;let N:=st.H.length
 let κ':Nat->Option Value:=fun j=>if j<N then κ j else us[j-N]?
 let ρ':Nat->Nat:=fun b=>match ix (fun x:aI=>x.contains b) L with|some j=>N+j+1|none=>ρ b
 have hn:∀(j:Nat) v,κ j=some v->κ' j=some v:=by
  intro j v hj;have:j<N:=by
   rcases cP j N with h|h
   ·exact h
   ·rw[hs.jx j h]at hj;cases hj
  simp only[κ'];rw[bD this];exact hj
 have hk':∀(j:Nat) u,us[j]?=some u->κ' (N+j)=some u:=fun j u hj=>by
  simp only[κ'];rw[ai (by omega),cK];exact hj
 have Qm:L.flatten.Nodup:=by rw[q3];exact n1
 have RR:∀(j:Nat) x b,L[j]?=some x->b∈x->ρ' b=N+j+1:=by
  intro j x b hj hb;have:ix (fun x:aI=>x.contains b) L=some j:=vf hj (by simpa using hb) (fun m y hm hy=>by
   have hy':b∈y:=by simpa using hy
   exact cS fun hne=>by
    have key:∀(L:List aI),L.flatten.Nodup->∀(p q:Nat) x y,L[p]?=some x->L[q]?=some y->b∈x->b∈y->p=q:=by
     intro L
     induction L with
     |nil=>intro _ p q x y hp;simp at hp
     |cons z L ih=>
      intro hnd p q x y hp hq sF hby;simp only[dB]at hnd;obtain⟨m1,m2,m3⟩:=aY.1 hnd;cases p with
      |zero=>
       cases q with
       |zero=>rfl
       |succ q=>
        simp at hp hq;subst hp;exact absurd rfl (m3 b sF b (dZ.2 ⟨y,aD hq,hby⟩))
      |succ p=>
       cases q with
       |zero=>
        simp at hp hq;subst hq;exact absurd rfl (m3 b hby b (dZ.2 ⟨x,aD hp,sF⟩))
       |succ q=>simp at hp hq;rw[ih m2 p q x y hp hq sF hby]
    exact hne (key L Qm m j y x hm hj hy' hb))
  simp only[ρ',this]
 have DJ:∀b,b∉c1->ρ' b=ρ b:=by
  intro b hb;simp only[ρ'];cases hi:ix (fun x:aI=>x.contains b) L with
  |none=>rfl
  |some j=>
   obtain⟨x,hx',hp⟩:=qM hi;exact absurd (by rw[<-q3];exact dZ.2 ⟨x,aD hx',by simpa using hp⟩) hb
 have WT:id<N:=(aB.1 hH).1;have key:∀(j:Nat) y,(st.H.set id (.row (.mv (i+1)) e sz rows)++(mV st.H.length r).2)[j]?=some y->(j=id/\y=.row (.mv (i+1)) e sz rows)\/(j≠id/\j<N/\st.H[j]?=some y)\/∃m,j=N+m/\(mV st.H.length r).2[m]?=some y:=by
  intro j y hj;by_cases hlt:j<N
  ·rw[aS (by simpa using hlt)]at hj;rcases qQ j y hj with h|⟨h1,h2⟩
   ·exact .inl h
   ·exact .inr (.inl ⟨h1,hlt,h2⟩)
  ·rw[aU (by simpa using hlt)]at hj;exact .inr (.inr ⟨j-N,by omega,by simpa using hj⟩)
 have kk:ed w w Θ Θ (id+2):=ed.refl hs.own (by omega);have mN:=hs.jI kk hn hu;have hone:∀(j:Nat) u,κ' j=some u->u.oneCell'=true:=by
  intro j u hj;simp only[κ']at hj;split at hj
  ·exact hs.jg j u hj
  ·have hjl:j-N<(mV st.H.length r).2.length:=by rw[<-q1];exact(aB.1 hj).1
   obtain⟨_,u',_,_,r2,r3,_⟩:=q4 (j-N) _ (aM hjl);rw[hj]at r2;cases r2;exact r3
 have DF:∀b∈c1,Θ b=0:=fun b hb=>(hu.free b (by rw[hρ b (by simp[hb])];omega)).1
 have hs':cR Γ ⟨st.σ,st.H.set id (.row (.mv (i+1)) e sz rows)++(mV st.H.length r).2⟩ κ' Θ a w:=by
  refine hs.step kk hs.mine hn (fun j hj=>?_) hone (fun j y hj=>?_) ⟨ρ',fun b hb=>?_,fun j e2 FA dK hj=>?_,fun j y hj=>?_⟩
  ·simp only[af,jy]at hj;simp only[κ'];rw[ai (by omega)];exact bY (by rw[q1];exact Nat.le_sub_of_add_le' hj)
  ·rcases key j y hj with⟨rfl,rfl⟩|⟨h1,h2,h3⟩|⟨m,rfl,hm⟩
   ·exact .inr (.inr ⟨Ot,hrl,_,cs0,Qg,hn _ _ hk,NT,U3,hΘ,pK⟩)
   ·exact .inr (.inl ⟨by omega,h3⟩)
   ·obtain⟨cc,u,b,rfl,r2,r3,r4,r5⟩:=q4 m y hm;exact .inr (.inr ⟨u,b,hk' m u r2,r5,fun x hx'=>DF x (by rw[<-q3];exact dZ.2 ⟨b,aD r4,hx'⟩)⟩)
  ·by_cases hb':b∈c1
   ·exact mN.1 b (by rw[hρ b (by simp[hb'])];omega)
   ·rw[DJ b hb']at hb;exact mN.1 b hb
  ·rcases key j _ hj with⟨_,h⟩|⟨h1,h2,h3⟩|⟨m,rfl,hm⟩
   ·cases h
   ·obtain⟨v',cs',bs',p1,p2,p3,p4,p5⟩:=mN.2.1 j e2 FA dK (by omega) h3;refine⟨v',cs',bs',p1,p2,p3,p4,fun b hb=>?_⟩;rw[DJ b (fun hb'=>by have:=hρ b (by simp[hb']);have:=p5 b hb;omega)];exact p5 b hb
   ·obtain⟨_,_,_,h,_⟩:=q4 m _ hm;cases h
  ·rcases key j _ hj with⟨rfl,rfl⟩|⟨h1,h2,h3⟩|⟨m,rfl,hm⟩
   ·refine⟨_,cs,c2,hn _ _ hk,hown,?_,n2,fun b hb=>?_⟩
    ·have e1:cs.drop ((i+1)*sz)=v2:=by
      rw[gF,jQ,<-dX,Aj];exact dU l1
     rw[e1];exact k2
    ·rw[DJ b (fun hb'=>n3 b hb' b hb rfl)];exact hρ b (by simp[hb])
   ·refine(mN.2.2 j y (by omega) h3).re fun b hb=>?_
    rw[DJ b (fun hb'=>by have:=hρ b (by simp[hb']);omega)];exact hb
   ·obtain⟨cc,u,b,rfl,r2,r3,r4,r5⟩:=q4 m y hm;have hsub:∀x∈b,ρ' x=N+m+1:=fun x hx'=>RR m b x r4 hx'
    have TQ:b.Nodup:=by
     have PI:∀(L:List aI),L.flatten.Nodup->∀x∈L,x.Nodup:=by
      intro L
      induction L with
      |nil=>intro _ x hx';cases hx'
      |cons z L ih=>
       intro hnd x hx';simp only[dB]at hnd;obtain⟨m1,m2,_⟩:=aY.1 hnd;rcases aq.1 hx' with rfl|hx'
       ·exact m1
       ·exact ih m2 x hx'
     exact PI L Qm b (aD r4)
    exact⟨u,b,hk' m u r2,r5,TQ,hsub⟩
 refine hK _ _ (h κ' Θ _ w (hs'.set (t:=t) ht (.v (.agg v1 _ [] (q5 κ' hk'))) (by simp)))
theorem sy{o:Oper}{t:Nat}{d:D}{A A':List An}{p:tA}(hd:o.dst=some t)(hg:o.guard=none)(ht:t<Γ.nt)(hv:wq P st o.op A=some (d,A',p))(hp:oo p)(h:AO P Γ all rest Q ⟨(t,d)::st.σ,st.H⟩):
 AO P Γ all (o::rest) Q st:=ND hd hg ht (HL hv hp) h
theorem HU{o:Oper}{s id e sz:Nat}{k:RK}{rows:List aG}(hx:lk st.σ s=.acc id)(hH:st.H[id]?=some (.row k e sz rows))(hk:k.DT=true)
 (h:AO P Γ all (o::rest) Q ⟨(s,.sl rows)::st.σ,st.H.set id .gone⟩):AO P Γ all (o::rest) Q st:=by
 intro κ Θ a w hs;obtain⟨ρ,hu⟩:=hs.mG;obtain⟨Θ',ρ',hs',_,⟨v,bs,hkm,hrd,hz,_⟩,_⟩:=hs.PN hu hH hk;obtain⟨bx,rx,_⟩:=hs.slot s;rw[hx]at rx;obtain⟨R6,_⟩:=rx.nS;have hv:a.tmps.getD s undef=v:=by rw[hkm]at R6;cases R6;rfl
 refine h κ Θ' a w ⟨hs'.defers,hs'.size,hs'.jx,hs'.jg,fun u=>?_,hs'.ob,hs'.own,hs'.old,hs'.mine,hs'.stays,hs'.mG⟩;show∃bs,lD w κ (a.tmps.getD u undef) (if u=s then .sl rows else lk st.σ u) bs/\_;by_cases mN:u=s
 ·subst mN;rw[bD rfl,hv];exact⟨bs,.of hrd,hz⟩
 ·rw[ai mN];exact hs'.slot u
theorem kB(c:Call){callee:Callee}{xs:List Operand}{ts:List TypeId}(h1:c.callee=callee)(h2:c.args.toList=xs)(h3:c.argTypes.toList=ts):c= {callee:=callee,args:=xs.toArray,argTypes:=ts.toArray}:=by
 cases c;simp only at h1 h2 h3;subst h1;subst h2;subst h3;simp
theorem DP{H H':ah}{A A':List An}{p:tA}{σ:List (Nat×D)}(h:Fv H A=some (H',A',p))(hp:oo p)(hn:AO P Γ all rest Q ⟨σ,H'⟩):AO P Γ all rest Q ⟨σ,H⟩:=by
 unfold Fv at h;split at h
 ·split at h
  ·rename_i sz rows u p' n hH;split at h
   ·rename_i FA dK u2 d hN hc;cases h;have he:=hp.2.1;subst he;exact J0 (st:=⟨σ,H⟩) hH hN hp.1 hc hn
   ·cases h
  ·cases h
 ·cases h;exact hn
theorem Cs{o:Oper}{A A':List An}{mm:St}{p:tA}{nt:Nat}(hnt:Γ.nt=nt)(hg:o.guard=none)(h:xI P nt o st A=some (mm,A',p))(hp:oo p)(hn:AO P Γ all rest Q mm):AO P Γ all (o::rest) Q st:=by
 subst hnt;unfold xI at h;split at h
 ·rename_i T x t hop hd;split at h
  ·split at h
   ·cases h;exact OE hop hd hg (by assumption) (by assumption) hn
   ·cases h
  ·cases h
 ·rename_i T t hop hd;split at h
  ·split at h
   ·cases h;exact Iq hop hd hg (by assumption) (by assumption) hn
   ·cases h
  ·cases h
 ·rename_i T x y hop hd;split at h
  ·rename_i id off ds h1 h2;split at h
   ·rename_i ob h3;split at h
    ·rename_i cells h4;split at h
     ·rename_i hc;cases h;exact J2 hop hd hg h1 h3 h4 h2 hc.1 hc.2.1 hc.2.2.1 hc.2.2.2 hn
     ·cases h
    ·cases h
   ·cases h
  ·rename_i id i sz off ds h1 h2;split at h
   ·rename_i sz' rows u _ r A1 h3;split at h
    ·rename_i hc;obtain⟨c1,c2,c3,rfl,c5,c6⟩:=hc;cases h;exact HV hop hd hg h1 h3 hp.1 h2 c6 c1 c2 c3 c5 hn
    ·cases h
   ·rename_i k e sz' rows es ms r A1 h3 h4;split at h
    ·rename_i hc;obtain⟨c1,c2,rfl,c4,c5,c6,c7⟩:=hc;cases h;exact Du hop hd hg h1 h3 c4 hp.1 h2 h4 c6 c7 c1 c2 c5 hn
    ·cases h
   ·cases h
  ·cases h
 ·rename_i T t hop hd;split at h
  ·cases h;exact FC hop hd hg (by assumption) hn
  ·cases h
 ·rename_i T x i y hop hd;split at h
  ·rename_i kd dz id m A1 h1 h2;split at h
   ·rename_i kv h3;split at h
    ·rename_i hc;cases h;exact Cr hop hd hg h1 h2 h3 hc.1 hc.2 hp.1 hn
    ·cases h
   ·cases h
  ·cases h
 ·rename_i T x y t hop hd;split at h
  ·rename_i e sz k n k' n' h1 h2 h3;split at h
   ·rename_i zs h4;split at h
    ·rename_i hc;cases h;obtain⟨⟨rfl,q2,q3,q4⟩,_⟩:=hp;exact Cq hop hd hg hc.1 h1 h4 hc.2 h2 h3 q2 q3 q4 hn
    ·cases h
   ·cases h
  ·cases h
 ·rename_i T len parts t hop hd;split at h
  ·rename_i e sz h1;split at h
   ·rename_i zs h2;split at h
    ·rename_i ds h3;split at h
     ·rename_i es ms h4;split at h
      ·rename_i hc;cases h;exact C0 hop hd hg hc.1 h1 h2 hc.2.1 hc.2.2.1 h3 h4 hc.2.2.2 hn
      ·cases h
     ·cases h
    ·cases h
   ·cases h
  ·cases h
 ·rename_i c t hop hd;split at h
  ·rename_i s x T T' h1 h2 h3;split at h
   ·rename_i e sz h4;split at h
    ·rename_i zs rows u1 k1 dK u2 k2 A1 ow h5 h6 h7;split at h
     ·rename_i hc;obtain⟨c1,c2,rfl,c4⟩:=hc;cases h;obtain⟨⟨q1,q2⟩,q3⟩:=hp;exact OD (hop.trans (congrArg Op.call (kB c h1 h2 h3))) hd hg c1 h4 h5 c2 h6 h7 q3 c4 q1 q2 hn
     ·cases h
    ·cases h
   ·cases h
  ·rename_i x T h1 h2 h3;split at h
   ·rename_i id sz rows u h4;obtain⟨h5,h6⟩:=BX h4;split at h
    ·rename_i hc;cases h;exact Lo (hop.trans (congrArg Op.call (kB c h1 h2 h3))) hd hg hc.1 hc.2 h5 h6 hn
    ·cases h
   ·split at h
    ·split at h
     ·rename_i d A1 ow h4;cases h;exact sy hd hg (by assumption) h4 hp hn
     ·cases h
    ·cases h
  ·rename_i f xs ts h1;split at h
   ·rename_i ms outs d A1 h4;split at h
    ·rename_i ins h5;split at h
     ·rename_i hc;obtain⟨c1,c2,c3⟩:=hc;split at h
      ·rename_i H' A2 ow h6;cases h;exact Iy (hop.trans (congrArg Op.call (kB c h1 rfl rfl))) hd hg c1 c2 h5 (by simpa using c3) (by simpa using hp.1) (DP h6 hp.2 hn)
      ·cases h
     ·cases h
    ·cases h
   ·rename_i nz cells' d A1 h4;split at h
    ·rename_i x0 xr h5;split at h
     ·rename_i id h6;split at h
      ·rename_i ob h7;split at h
       ·rename_i zc h8;split at h
        ·rename_i cells ds ms qs h9;split at h
         ·rename_i hc;obtain⟨c1,c2,c3,c4⟩:=hc;cases h;exact Ix (hop.trans (congrArg Op.call (kB c h1 rfl rfl))) hd hg c1 (by simpa using h5) h6 h7 h8 h9 c2 c3 c4 hp.1 hn
         ·cases h
        ·cases h
       ·cases h
      ·cases h
     ·cases h
    ·cases h
   ·rename_i ds ms cells A1 h4;split at h
    ·rename_i hc;obtain⟨c1,rfl⟩:=hc;cases h;exact Iv (hop.trans (congrArg Op.call (kB c h1 rfl rfl))) hd hg c1 (by simpa using h4) hp.1 hn
    ·cases h
   ·rename_i ds ms d A1 h4;split at h
    ·rename_i hc;cases h;exact Ir (hop.trans (congrArg Op.call (kB c h1 rfl rfl))) hd hg hc.1 (by simpa using h4) hc.2 hp.1 hn
    ·cases h
   ·rename_i id cc A1 h4;split at h
    ·rename_i e sz rows h5;split at h
     ·rename_i hc;obtain⟨c1,c3⟩:=hc;cases h;exact Iw (hop.trans (congrArg Op.call (kB c h1 rfl rfl))) hd hg c1 h5 c3.2 hp.1 (by simpa using c3.1) (by simpa using hp.2.1) hn
     ·cases h
    ·cases h
   ·rename_i id cc A1 h4;split at h
    ·rename_i x k e sz rows h5 h6;split at h
     ·rename_i id' h7;split at h
      ·rename_i hc;obtain⟨c1,rfl,c3⟩:=hc;cases h;have e1:c.args= #[x]:=by rw[<-mW];simpa using h5
       refine Iu (ts:=c.argTypes) (hop.trans (congrArg Op.call ?_)) (fun t' ht'=>?_) hg h7 h6 c3.1 c3.2 hp.1 hp.2.1 ?_
       ·rw[<-e1];exact kB c h1 rfl rfl
       ·rw[hd]at ht';cases ht';exact c1
       ·rw[hd];exact hn
      ·cases h
     ·cases h
    ·cases h
   ·rename_i ds ms d A1 h4;split at h
    ·rename_i hc;cases h;exact Ll (hop.trans (congrArg Op.call (kB c h1 rfl rfl))) hd hg hc.1 (by simpa using h4) hc.2 hp.1 hn
    ·cases h
   ·rename_i d A1;split at h
    ·rename_i hc;cases h;exact It (hop.trans (congrArg Op.call (kB c h1 rfl rfl))) hd hg hc.1 (by simpa using hc.2) (by simpa using hp.1) hn
    ·cases h
   ·rename_i nz d A1;split at h
    ·rename_i ds ms qs h9;split at h
     ·rename_i hc;obtain⟨c1,c2,c3,c4⟩:=hc;cases h;exact Is (hop.trans (congrArg Op.call (kB c h1 rfl rfl))) hd hg c1 h9 c2 c3 c4 hp.1 hn
     ·cases h
    ·cases h
   ·cases h
  ·split at h
   ·split at h
    ·rename_i d A1 ow h4;cases h;exact sy hd hg (by assumption) h4 hp hn
    ·cases h
   ·cases h
 ·rename_i s d x t hop hd;split at h
  ·rename_i id h1;split at h
   ·rename_i k e' sz' rows e sz h2 h3;split at h
    ·rename_i bs h4;split at h
     ·rename_i hc;obtain⟨c1,rfl,c3,c4⟩:=hc;cases h;exact Lm hop hd hg c1 h1 h2 h3 c3 c4 h4 hn
     ·cases h
    ·cases h
   ·cases h
  ·split at h
   ·split at h
    ·rename_i d A1 ow h4;cases h;exact sy hd hg (by assumption) h4 hp hn
    ·cases h
   ·cases h
 ·rename_i x t hop hd;split at h
  ·rename_i A1;split at h
   ·rename_i e sz h1 h2;split at h
    ·rename_i hc;cases h;exact OH hop hd hg hc.1 h1 hc.2 hn
    ·cases h
   ·cases h
  ·split at h
   ·cases h;exact ND hd hg (by assumption) (by rw[hop];rfl) hn
   ·cases h
 ·rename_i T x hi t hop hd;split at h
  ·rename_i id h1;split at h
   ·rename_i e sz rows e' sz' kk n hh A1 h2 h3 h4;split at h
    ·rename_i hc;obtain⟨c1,rfl⟩:=hc;cases h;exact Ln hop hd hg c1 h3 h1 h2 (by rw[h4,hp.1.1]) hp.1.2 hn
    ·cases h
   ·cases h
  ·split at h
   ·split at h
    ·rename_i d A1 ow h4;cases h;exact sy hd hg (by assumption) h4 hp hn
    ·cases h
   ·cases h
 ·rename_i T s lo t hop hd;split at h
  ·rename_i A0 id h1;split at h
   ·rename_i k e sz rows h2;split at h
    ·rename_i hc;split at h
     ·rename_i d A1 ow h4;cases h;exact HU h1 h2 hc.2 (sy hd hg hc.1 h4 hp hn)
     ·cases h
    ·cases h
   ·cases h
  ·split at h
   ·split at h
    ·rename_i d A1 ow h4;cases h;exact sy hd hg (by assumption) h4 hp hn
    ·cases h
   ·cases h
 ·rename_i T x i t hop hd;split at h
  ·rename_i id sz rows u h1;obtain⟨h2,h3⟩:=BX h1;split at h
   ·rename_i e sz' k n m A1 h4 h5;split at h
    ·rename_i hc;obtain⟨c1,rfl⟩:=hc;cases h;exact OF hop hd hg c1 h4 h2 h5 h3 hp.1.1 hp.1.2 hn
    ·cases h
   ·cases h
  ·split at h
   ·split at h
    ·rename_i d A1 ow h4;cases h;exact sy hd hg (by assumption) h4 hp hn
    ·cases h
   ·cases h
 ·rename_i T x t hop hd;split at h
  ·rename_i id i off sz rows u h1;obtain⟨h2,h3⟩:=Fq h1;split at h
   ·rename_i r A1 h4;split at h
    ·rename_i dK h5;split at h
     ·rename_i e FA h6;split at h
      ·rename_i hc;cases h;exact J1 hop hd hg hc h4 h2 h3 hp.1 h5 hp.2.1 hn
      ·cases h
     ·cases h
    ·rename_i d _ h5;split at h
     ·rename_i hc;cases h;exact Iz hop hd hg hc.1 h4 h2 h3 hp.1 h5 hc.2 hn
     ·cases h
    ·cases h
   ·cases h
  ·split at h
   ·rename_i r A1 id i sz h1;split at h
    ·rename_i n e sz' rows h2;split at h
     ·rename_i hc;obtain⟨c1,rfl,c3,c4⟩:=hc;cases h;obtain⟨⟨rfl,q2,q3⟩,_⟩:=hp;exact Lp hop hd hg c1 h1 h2 q2 c3 c4 q3 hn
     ·cases h
    ·cases h
   ·split at h
    ·split at h
     ·rename_i d A1 ow h4;cases h;exact sy hd hg (by assumption) h4 hp hn
     ·cases h
    ·cases h
 ·split at h
  ·split at h
   ·rename_i d A1 ow h4;cases h;exact sy (by assumption) hg (by assumption) h4 hp hn
   ·cases h
  ·cases h
 ·cases h
theorem LA{o:Oper}{A A':List An}{mm:St}{p:tA}{nt:Nat}(hnt:Γ.nt=nt)(h:xI P nt o st A=some (mm,A',p)):∀ {t:Nat},o.dst=some t->t<Γ.nt:=by
 intro t ht;subst hnt;unfold xI at h;split at h
 all_goals first
  | (rename_i hd;rw[ht]at hd;cases hd;done)
  |skip
 all_goals(try(rename_i hd;rw[ht]at hd;cases hd))
 all_goals(repeat' split at h)
 all_goals(try cases h)
 all_goals first
  |assumption
  | (
   have hc:_/\_:=by assumption
   exact hc.1)
  | (simp_all;done)
end
end Go.Cx
namespace Go.Cx
open Go.RowKit
abbrev cW:=List An
section
variable{P:Program}{Γ:nR}{Q:Exit->St->Prop}{st:St}{κ:Nat->Option Value}{Θ:Nat->Nat}{a:Act}{w:World}{all:Array Oper}{X:aI}
def qd(X:aI)(H H':ah):Prop:=∀(i:Nat) o,i∉X->H[i]?=some o->H'[i]?=some o
theorem qd.refl{X:aI}(H:ah):qd X H H:=fun _ _ _ h=>h
theorem qd.trans{X:aI}{A B C:ah}(h:qd X A B)(k:qd X B C):qd X A C:=fun i o n e=>k i o n (h i o n e)
theorem qd.app{X:aI}{H H':ah}(h:qd X H H')(n:ah):qd X H (H'++n):=by
 intro i o hni hi;have:=h i o hni hi;rw[aS (aB.1 this).1,this]
theorem qd.cs{X:aI}{H H':ah}(h:qd X H H'){i:Nat}{cs:aG}(hi:i∉X)(hc:(H[i]?).bind Ob.Gg=some cs):(H'[i]?).bind Ob.Gg=some cs:=by
 obtain⟨ob,hb,Hq⟩:=j4.1 hc;rw[h i ob hi hb];exact Hq
def rj(X:aI)(st:St):Op->Bool
 | .fieldAddr _ _ _=>true
 | .field _ _ _=>true
 | .extract _ _=>true
 | .move _=>true
 | .binOp _ _ _ _ _=>true
 | .unOp _ _ _=>true
 | .nilCheck _=>true
 | .convert _ _ _=>true
 | .index _ _ _=>true
 | .build _ _=>true
 | .indexAddr _ x _=>(match st.ev x with| .sl _=>true| .acc id=> !X.contains id|_=>false)
 | .load _ x=>(match st.ev x with| .ep _ _=>true| .ptr id _=> !X.contains id| .op id _ _ _=> !X.contains id|_=>false)
 |_=>false
theorem LC{X:aI}{σ σ':List (Nat×D)}{H H':ah}{op:Op}{d:D}(hx:qd X H H')(hs:rj X ⟨σ,H⟩ op=true)(he:∀x∈op.operands.toList,St.ev ⟨σ,H⟩ x=St.ev ⟨σ',H'⟩ x)(h:pv P ⟨σ,H⟩ op=some d):pv P ⟨σ',H'⟩ op=some d:=by
 cases op<;>simp only[rj,qW]at hs<;>simp only[pv]at h⊢
 case move x=>rw[he x (by simp[Op.operands])]at*;exact h
 case nilCheck x=>rw[he x (by simp[Op.operands])]at h;exact h
 case binOp op t x y t'=>rw[he x (by simp[Op.operands]),he y (by simp[Op.operands])]at h;exact h
 case unOp op t x=>cases op<;>simp only[pv]at h⊢ <;>(try cases h)<;>(rw[he x (by simp[Op.operands])]at h;exact h)
 case convert s d x=>rw[he x (by simp[Op.operands])]at h;exact h
 case field t x f=>rw[he x (by simp[Op.operands])]at h;exact h
 case fieldAddr t x f=>rw[he x (by simp[Op.operands])]at h;exact h
 case indexAddr t x i=>
  rw[he x (by simp[Op.operands])]at hs;rw[he x (by simp[Op.operands]),he i (by simp[Op.operands])]at h;split at hs
  ·rename_i rows h0;rw[h0]at h⊢;generalize wE P t=a at h⊢;generalize St.ev ⟨σ',H'⟩ i=b at h⊢;cases a<;>cases b<;>exact h
  ·rename_i id h0;rw[h0]at h⊢;generalize wE P t=a at h⊢;generalize St.ev ⟨σ',H'⟩ i=b at h⊢;cases a<;>cases b<;>first|exact h|skip
   dsimp only at h⊢;cases hH:H[id]? with
   |none=>rw[hH]at h;cases h
   |some o=>rw[hx id o (by simpa using hs) hH];rw[hH]at h;exact h
  ·cases hs
 case load t x=>
  rw[he x (by simp[Op.operands])]at hs h;split at hs
  ·rename_i row off h0;rw[h0]at h⊢;generalize rD P t=a at h⊢;cases a<;>exact h
  ·rename_i id off h0;rw[h0]at h⊢;generalize rD P t=a at h⊢;cases a
   ·exact h
   ·dsimp only at h⊢;split at h
    ·rename_i cells hH;simp only[hx.cs (by simpa using hs) hH];exact h
    ·cases h
  ·rename_i id i sz off h0;rw[h0]at h⊢;generalize rD P t=a at h⊢;cases a
   ·exact h
   ·dsimp only at h⊢;cases hH:H[id]? with
    |none=>rw[hH]at h;cases h
    |some o=>rw[hx id o (by simpa using hs) hH];rw[hH]at h;exact h
  ·cases hs
 case extract x i=>rw[he x (by simp[Op.operands])]at h;exact h
 case index t x i=>rw[he x (by simp[Op.operands]),he i (by simp[Op.operands])]at h;exact h
 case build t parts=>
  have:(parts.toList.map fun p=>(p.1,St.ev ⟨σ,H⟩ p.2))=parts.toList.map fun p=>(p.1,St.ev ⟨σ',H'⟩ p.2):=by
   apply jD;intro p hp;rw[he p.2 (by simp only[Op.operands];simp;exact⟨p.1,by simpa using hp⟩)]
  rw[this]at h;exact h
def FH(xs acc:aI):aI:=xs.foldl (fun acc x=>bif acc.contains x then acc else x::acc) acc
theorem Fu:∀ {xs acc:aI} {x:Nat},x∈FH xs acc->x∈xs\/x∈acc:=by
 intro xs
 induction xs with
 |nil=>intro acc x h;exact .inr h
 |cons y ys ih=>
  intro acc x h;rcases ih (acc:=bif acc.contains y then acc else y::acc) h with h|h
  ·exact .inl (by simp[h])
  ·cases hc:acc.contains y with
   |true=>rw[hc]at h;exact .inr h
   |false=>
    rw[hc]at h;rcases aq.1 h with rfl|h
    ·exact .inl (by simp)
    ·exact .inr h
def NJ(acc:List aI)(es:List Edge):aI:=es.foldl (fun d e=>bif Region.binds .any e then FH (e.on::acc.getD e.on []) d else d) []
theorem I5{acc:List aI}{es:List Edge}{i:Nat}(h:i∈NJ acc es):∃e∈es,Region.binds .any e=true/\(i=e.on\/i∈acc.getD e.on []):=by
 have key:∀(es:List Edge) (d:aI),i∈es.foldl (fun d e=>bif Region.binds .any e then FH (e.on::acc.getD e.on []) d else d) d->i∈d\/∃e∈es,Region.binds .any e=true/\(i=e.on\/i∈acc.getD e.on []):=by
  intro es
  induction es with
  |nil=>intro d h;exact .inl h
  |cons e es ih=>
   intro d h;rcases ih _ h with h|⟨e',h1,h2⟩
   ·cases hb:Region.binds .any e with
    |false=>simp only[hb,aa]at h;exact .inl h
    |true=>
     simp only[hb,aN]at h;rcases Fu h with h|h
     ·exact .inr ⟨e,by simp,hb,by simpa using h⟩
     ·exact .inl h
   ·exact .inr ⟨e',by simp[h1],h2⟩
 rcases key es [] h with h|h
 ·cases h
 ·exact h
def yj(acc:List aI)(o:Oper):List aI:=acc++[NJ acc o.after.toList]
def FO(ops:List Oper):List aI:=ops.foldl yj []
theorem ME{ops:Array Oper}{listed:Array Bool}(closed:∀(j:Nat) oj,ops[j]?=some oj->listed.getD j false=true->∀e∈oj.after,Region.binds .any e=true->listed.getD e.on false=true):
 ∀(l pre:List Oper) (acc:List aI),ops.toList=pre++l->acc.length=pre.length->
  (∀(j:Nat) o,ops[j]?=some o->(∀e∈o.after,Region.binds .any e=true->listed.getD e.on false=true)->∀i∈acc.getD j [],listed.getD i false=true)->
  ∀(j:Nat) o,ops[j]?=some o->(∀e∈o.after,Region.binds .any e=true->listed.getD e.on false=true)->∀i∈(l.foldl yj acc).getD j [],listed.getD i false=true:=by
 intro l
 induction l with
 |nil=>intro pre acc _ _ h;exact h
 |cons o l ih=>
  intro pre acc hl ha h;refine ih (pre++[o]) (yj acc o) (by simp[hl]) (by simp[yj,ha]) ?_;intro j oj hj hall i hi;unfold yj at hi;rw[gW]at hi;rcases o8 j acc.length with hlt|heq|hgt
  ·rw[aS hlt,<-gW]at hi;exact h j oj hj hall i hi
  ·subst heq;rw[aU (b9 _),mX]at hi;simp only[sH,mY]at hi;have ho:oj=o:=by
    rw[<-fU,hl,aU (by omega),ha,mX]at hj;simpa using hj.symm
   subst ho;obtain⟨e,he,hb,hi⟩:=I5 hi;have he':e∈oj.after:=by simpa using he
   have hel:=hall e he' hb;rcases hi with rfl|hi
   ·exact hel
   ·cases Tv:ops[e.on]? with
    |none=>
     have h1:e.on<acc.length:=by
      rcases cP e.on acc.length with h|h
      ·exact h
      ·rw[gW,bY h]at hi;cases hi
     have h2:ops.size<=e.on:=by simpa using Tv
     have h3:ops.size=pre.length+(l.length+1):=by rw[<-n9,hl];simp
     omega
    |some oe=>exact h e.on oe Tv (closed e.on oe Tv hel) i hi
  ·rw[bY (by simp;omega)]at hi;cases hi
theorem pF{ops:Array Oper}{listed:Array Bool}(closed:∀(j:Nat) oj,ops[j]?=some oj->listed.getD j false=true->∀e∈oj.after,Region.binds .any e=true->listed.getD e.on false=true){j:Nat}(hj:j∈Region.ready .any ops listed){i:Nat}(hi:((FO ops.toList).getD j []).contains i=true):listed.getD i false=true:=by
 obtain⟨_,o,ho,hall⟩:=mem_ready.1 hj;exact ME closed ops.toList [] [] (by simp) rfl (by simp) j o ho hall i (List.contains_iff_mem.1 hi)
def JO(dp:List aI)(ops:Array Oper)(n m:Nat)(L:aI):Bool:=
 (decide (n<=m)&&decide (m<ops.size))&&
 (Region.seqB .any ops (ops.size-m) m (Array.replicate m true++Array.replicate (ops.size-m) false)&&
 (((List.range (ops.size-m)).all fun j=>(List.range m).all fun i=>(dp.getD (m+j) []).contains i)&&
 (((List.range (m-n)).all fun j=>(List.range (n+j)).all fun i=>(dp.getD (n+j) []).contains i||L.contains i)&&
 (((List.range m).all fun i=>match ops[i]? with|none=>false|some o=>o.after.all fun e=> !Region.binds .any e||decide (e.on<i))&&
 ((
  (List.range n).all fun i=>match ops[i]? with
  |none=>false
  |some o=>((o.looksAt ops).all fun t=>(List.range n).all fun j=>match ops[j]? with|some oj=> !(oj.dst==some t)||(decide (j<i)&&Region.waitsFor .any ops i j)|none=>true)&&
   (List.range n).all fun j=>j==i||(match ops[j]? with|some oj=> !(oj.dst==o.dst)||o.dst.isNone|none=>true))&&
 ((
  (List.range (m-n)).all fun j=>match ops[n+j]? with
  |none=>false
  |some o=>L.all fun i=>match ops[i]? with
   |none=>false
   |some oi=>(!(oi.dst==o.dst)&& !((oi.looksAt ops).any fun t=>o.dst==some t))&&((dp.getD (n+j) []).contains i|| !((o.looksAt ops).any fun t=>oi.dst==some t)))&&
 L.all fun i=>decide (i<n)&&(match ops[i]? with|some oi=>oi.guard.isNone&&oi.dst.isSome|none=>false)))))))
def BF(ops:Array Oper)(n m:Nat)(L:aI):Bool:=JO (FO ops.toList) ops n m L
def Step(P:Program)(Γ:nR)(o:Oper)(st og:St):Prop:=
 ∀κ Θ a w,cR Γ st κ Θ a w->o.wp P a w (fun a' w'=>∃κ' Θ',cR Γ og κ' Θ' a' w') (fun e _ _=>e=.normal)
def HS(P:Program)(Γ:nR)(X:aI)(K:St->Prop):List Oper->St->Prop
 | [],st=>K st
 |o::os,st=>∃og,((∃t d,o.dst=some t/\t<Γ.nt/\og.σ=(t,d)::st.σ)\/(o.dst=none/\og.σ=st.σ))/\qd X st.H og.H/\o.guard=none/\(∀cs b,o.op≠ .select cs b)/\Step P Γ o st og/\HS P Γ X K os og
theorem F5{o:Oper}{a b:Act}{w:World}{K K2:Act->World->Prop}{Q1 Q2:Exit->Act->World->Prop}(hsel:∀cs b,o.op≠ .select cs b)(he:∀x∈o.op.operands,a.eval x=b.eval x)
 (hK:∀v w',K (b.put o.dst v) w'->K2 (a.put o.dst v) w') (hdf:∀d w',¬K ({b with defers:=d::b.defers}.put o.dst undef) w') (hQ:∀e c w',Q1 e c w'->e=.normal) (h:o.wp P b w K Q1):o.wp P a w K2 Q2:=by
 unfold Oper.wp at*;rw[execOp_congr o hsel he];generalize(execOp b.eval o).run P w=r at*;cases r with
 |ok n w'=>
  cases n with
  |value v=>exact hK _ _ h
  |skip=>exact hK _ _ h
  |defer d=>exact absurd h (hdf _ _)
  |enter f args=>
   refine Calls.mono h ?_;intro e w'' he;cases e with
   |returned v=>exact hK _ _ he
   |panicked c=>exact absurd (hQ _ _ _ he) (by simp)
   |outgrown=>
    obtain⟨a0,w0,hq⟩:=he;exact absurd (hQ _ _ _ hq) (by simp)
  |row r args=>exact Rows.mono h fun v w'' he=>hK _ _ he
  |_=>exact h.elim
 |halt x w'=>
  cases x with
  |panic u=>exact absurd (hQ _ _ _ h) (by simp)
  |_=>exact h.elim
theorem PM{l:List (Nat×D)}{σ:List (Nat×D)}(h:∀p∈l,p.2=.any){t:Nat}(ht:t∈l.map Prod.fst):lk (l++σ) t=.any:=by
 induction l with
 |nil=>cases ht
 |cons p l ih=>
  obtain⟨u,d⟩:=p;have hd:d=.any:=h (u,d) (by simp);subst hd;simp only[iF,lk];by_cases e:t=u
  ·rw[bD e]
  ·rw[ai e];refine ih (fun p hp=>h p (by simp[hp])) ?_;simp only[ax,aq]at ht;rcases ht with h|h
   ·exact absurd h e
   ·exact h
theorem xq(a:Act){t u:Nat}(v:Value)(h:u≠t):(a.put (some t) v).tmps.getD u undef=a.tmps.getD u undef:=by
 show(a.tmps.setIfInBounds t v).getD u undef=_;simp[bP,lC h]
theorem zH(a:Act){t:Nat}(v:Value)(h:t<a.tmps.size):(a.put (some t) v).tmps.getD t undef=v:=by
 show(a.tmps.setIfInBounds t v).getD t undef=_;simp[bP,h]
theorem count_set{m i:Nat}{listed:Array Bool}(hi:i<m)(hsz:i<listed.size)(hl:listed.getD i false=false):((List.range m).filter fun j=> !(listed.setIfInBounds i true).getD j false).length+1=((List.range m).filter fun j=> !listed.getD j false).length:=by
 have Hr:((List.range m).filter fun j=> !(listed.setIfInBounds i true).getD j false)=((List.range m).filter fun j=> !listed.getD j false).erase i:=by
  have hnd:((List.range m).filter fun j=> !listed.getD j false).Nodup:=om _ sI;rw[hnd.erase_eq_filter,qX];apply rT;intro j _;by_cases e:j=i
  ·subst e;simp[hsz]
  ·rw[getD_set_ne false (lC e)];simp[e]
 have hmem:i∈(List.range m).filter fun j=> !listed.getD j false:=ew.2 ⟨au.2 hi,by simp only[hl];rfl⟩
 have hpos:0<((List.range m).filter fun j=> !listed.getD j false).length:=sw hmem;rw[Hr,kM hmem];omega
def J7(P:Program)(Γ:nR)(X:aI)(l:List Oper)(σF:List (Nat×D))(H0:ah)(i:Nat):Prop:=
 ∃o t d,l.toArray[i]?=some o/\o.guard=none/\o.dst=some t/\t<Γ.nt/\lk σF t=d/\∀σ' H',qd X H0 H'->(∀u∈o.looksAt l.toArray,lk σ' u=lk σF u)->pv P ⟨σ',H'⟩ o.op=some d
theorem ED{l:List Oper}{n m:Nat}{L:aI}{σF:List (Nat×D)}{H0:ah}(hB:BF l.toArray n m L=true)(NR:∀i∈L,J7 P Γ X l σF H0 i):
 ∀(f c:Nat) (S:St) (listed:Array Bool) (σ':List (Nat×D)) (κ:Nat->Option Value) (Θ:Nat->Nat) (a:Act) (w:World),HeadInv .any l.toArray l.toArray.size listed->
  (∀i,i<n->i∉L->listed.getD i false=true)->n+c<=m->(∀i,n<=i->i<n+c->listed.getD i false=true)->(∀i,n+c<=i->i<l.toArray.size->listed.getD i false=false)->
  ((List.range m).filter fun i=> !listed.getD i false).length=f->
  (∀t,(∀(i:Nat) o,l.toArray[i]?=some o->n<=i->i<n+c->o.dst≠some t)->lk S.σ t=lk σF t)->qd X H0 S.H->
  HS P Γ X (fun mm=>AO P Γ l.toArray (l.drop m) Q mm) ((l.drop (n+c)).take (m-(n+c))) S->
  (∀t,(∀i∈L,∀o,l.toArray[i]?=some o->listed.getD i false=false->o.dst≠some t)->lk σ' t=lk S.σ t)->
  cR Γ ⟨σ',S.H⟩ κ Θ a w->
  wpAny P .any l.toArray (fun e a' w'=>∃mm κ' Θ',cR Γ mm κ' Θ' a' w'/\Q e mm) (f+(l.toArray.size-m)) listed a w:=by
 simp only[BF,JO,aL,b8]at hB;obtain⟨⟨hnm,CA⟩,MO,Jp,hmid,JY,Jb,Ji,hL⟩:=hB;have TC:∀i,i<m->∃o,l.toArray[i]?=some o/\∀e∈o.after,Region.binds .any e=true->e.on<i:=by
  intro i hi;have:=aR.1 JY i (au.2 hi);split at this
  ·cases this
  ·rename_i o ho;refine⟨o,ho,fun e he hb=>?_⟩;have:=nU.1 this e he;simpa[hb]using this
 have vi:∀i∈L,i<n:=by
  intro i hi;have:=aR.1 hL i hi;simp only[aL,b8]at this;exact this.1
 have ER:∀(i:Nat) o,i<n->l.toArray[i]?=some o->∀u∈o.looksAt l.toArray,∀(j:Nat) oj,j<n->l.toArray[j]?=some oj->oj.dst=some u->j<i/\Region.waitsFor .any l.toArray i j=true:=by
  intro i o hi ho u hu j oj hj pG hd;have:=aR.1 Jb i (au.2 hi);simp only[ho,aL]at this;have:=aR.1 (aR.1 this.1 u hu) j (au.2 hj);simpa[pG,hd]using this
 have zA:∀(j:Nat) o,n<=j->j<m->l.toArray[j]?=some o->∀i∈L,∀oi,l.toArray[i]?=some oi->oi.dst≠o.dst/\(∀u∈oi.looksAt l.toArray,o.dst≠some u)/\(((FO l.toArray.toList).getD j []).contains i=true\/∀u∈o.looksAt l.toArray,oi.dst≠some u):=by
  intro j o yo hj2 ho i hi oi R8;have:=aR.1 Ji (j-n) (au.2 (by omega));rw[show n+(j-n)=j from by omega]at this;simp only[ho]at this;have:=aR.1 this i hi;simp only[R8,aL,j0,hO]at this;obtain⟨⟨h1,h2⟩,h3⟩:=this;refine⟨by simpa using h1,fun u hu he=>?_,h3.imp id fun h u hu he=>?_⟩
  ·have:=List.any_eq_false.1 h2 u hu;simp[he]at this
  ·have:=List.any_eq_false.1 h u hu;simp[he]at this
 intro f
 induction f with
 |zero=>
  intro c S listed σ' κ Θ a w inv hN hc hM hT jL hS hX hA hag hs;have hall:∀i,i<m->listed.getD i false=true:=by
   intro i hi;have h0:=br jL;cases hl:listed.getD i false with
   |true=>rfl
   |false=>
    have:i∈(List.range m).filter fun i=> !listed.getD i false:=ew.2 ⟨au.2 hi,by simp only[hl];rfl⟩
    rw[h0]at this;cases this
  have hcm:n+c=m:=by
   rcases cP (n+c) m with h|h
   ·have h1:=hall (n+c) h;rw[hT (n+c) (b9 _) (by omega)]at h1;cases h1
   ·omega
  have Je:listed=Array.replicate m true++Array.replicate (l.toArray.size-m) false:=by
   apply Array.ext
   ·rw[inv.size];simp at CA⊢;omega
   ·intro i h1 h2;by_cases hi:i<m
    ·have:=hall i hi;rw[rL (by simpa using hi)];simp[h1]at this;simp[this]
    ·have hi':i<l.toArray.size:=by rw[<-inv.size];exact h1
     have:=hT i (by omega) hi';rw[qV (by simpa using hi)];simp[h1]at this;simp[this]
  rw[cC];rw[hcm,mX,List.take_zero]at hA;have hA:AO P Γ l.toArray (l.drop m) Q S:=hA;have hs2:=cR.same (st:=⟨σ',S.H⟩) (σ':=S.σ) (fun t=>hag t (fun i hi o ho hl=>by rw[hall i (by have:=vi i hi;omega)]at hl;cases hl)) hs;have hwp:=hA κ Θ a w hs2;have hdl:(l.drop m).length=l.toArray.size-m:=by simp
  have:=wpAny_of_seq (md:=.any) (l.drop m) m listed a w (fun j=>by simp[ck]) (by rw[hdl,Je];exact MO) hwp
  rwa[hdl]at this
 |succ f ih=>
  intro c S listed σ' κ Θ a w inv hN hc hM hT jL hS hX hA hag hs;have hun:∃i,i<m/\listed.getD i false=false:=by
   have hne:((List.range m).filter fun i=> !listed.getD i false)≠[]:=by
    intro h0;rw[h0]at jL;simp at jL
   obtain⟨i,hi⟩:=mo _ hne;obtain⟨h1,h2⟩:=ew.1 hi;exact⟨i,au.1 h1,by simpa using h2⟩
  have hsz:=inv.size;rw[show f+1+(l.toArray.size-m)=(f+(l.toArray.size-m))+1 from by omega];refine⟨fun h0=>?_,fun i hi=>?_⟩
  ·exfalso;obtain⟨i,⟨hin,Hv⟩,hmin⟩:=exists_least (p:=fun i=>i<m/\listed.getD i false=false) hun;obtain⟨o,ho,WM⟩:=TC i hin;have:i∈Region.ready .any l.toArray listed:=by
    refine mem_ready.2 ⟨getD_in (by rw[hsz];omega) Hv,o,ho,fun e he hb=>?_⟩;have:=WM e he hb;cases hl:listed.getD e.on false with
    |true=>rfl
    |false=>have:=hmin e.on ⟨by omega,hl⟩;omega
   rw[h0]at this;cases this
  ·obtain⟨i0,Sn,hl0⟩:=hun;obtain⟨Hv,o,ho,hall⟩:=mem_ready.1 hi;have sA:=getD_both Hv;have tP:i<l.toArray.size:=(aV.1 ho).1;have him:i<m:=by
    rcases cP i m with h|h
    ·exact h
    ·have h1:=aR.1 Jp (i-m) (au.2 (by omega));have h2:=aR.1 h1 i0 (au.2 Sn);rw[show m+(i-m)=i from by omega]at h2;rw[pF inv.closed hi h2]at hl0;cases hl0
   have Hr:=count_set him (by rw[hsz];exact tP) sA;have jw:∀(j:Nat),(listed.setIfInBounds i true).getD j false=true↔(j=i\/listed.getD j false=true):=by
    intro j;by_cases e:i=j
    ·subst e;have:i<listed.size:=by rw[hsz];exact tP
     simp[this]
    ·rw[getD_set_ne false e];constructor
     ·exact .inr
     ·rintro(rfl|h)
      ·exact absurd rfl e
      ·exact h
   have V9:∀(j:Nat),(listed.setIfInBounds i true).getD j false=false->j≠i/\listed.getD j false=false:=by
    intro j h;refine⟨fun e=>?_,?_⟩
    ·have:=(jw j).2 (.inl e);rw[this]at h;cases h
    ·cases h2:listed.getD j false with
     |false=>rfl
     |true=>have:=(jw j).2 (.inr h2);rw[this]at h;cases h
   rcases cP i n with hin|hin
   ·
    have NQ:i∈L:=by
     by_cases h:i∈L
     ·exact h
     ·rw[hN i hin h]at sA;cases sA
    obtain⟨o',t,d,ho',hg,hd,htn,TW,hpv⟩:=NR i NQ;rw[ho]at ho';cases ho';have ET:∀u∈o.looksAt l.toArray,lk σ' u=lk σF u:=by
     intro u hu;rw[hag u,hS u]
     ·intro j oj pG yo hj2 he;exact(zA j oj yo (by omega) pG i NQ o ho).2.1 u hu he
     ·intro j hj oj pG hlj he;obtain⟨h1,h2⟩:=ER i o hin ho u hu j oj (vi j hj) pG he;obtain⟨o2,V5,e,xj,hb,hon⟩:=Region.waitsFor_spec h2;rw[ho]at V5;cases V5;have:=hall e xj hb;rw[hon,hlj]at this;cases this
    have hp:=hpv σ' S.H hX ET;obtain⟨v,bs,hrun,hrd,hz⟩:=vo (st:=⟨σ',S.H⟩) hs hp;refine rI ho (by simp[Region.wanted,hg]) ?_;unfold Oper.wp;rw[hrun,Oper.upon_value,hd];refine ih c S (listed.setIfInBounds i true) ((t,d)::σ') κ Θ _ w (inv.set hi tP) ?_ hc ?_ ?_ (by omega) hS hX hA ?_ (hs.set (st:=⟨σ',S.H⟩) htn hrd hz)
    ·intro j hj Tm;exact(jw j).2 (.inr (hN j hj Tm))
    ·intro j yo hj2;exact(jw j).2 (.inr (hM j yo hj2))
    ·intro j yo hj2;rw[getD_set_ne false (by omega)];exact hT j yo hj2
    ·intro u hu;simp only[lk];by_cases e:u=t
     ·rw[bD e,e,hS t,TW];intro j oj pG yo hj2 he;exact(zA j oj yo (by omega) pG i NQ o ho).1 (by rw[hd,he])
     ·rw[ai e];refine hag u fun j hj oj pG hlj he=>?_
      by_cases hji:j=i
      ·subst hji;rw[ho]at pG;cases pG;rw[hd]at he;cases he;exact e rfl
      ·exact hu j hj oj pG (by rw[getD_set_ne false (lC hji)];exact hlj) he
   ·
    have hic:i=n+c:=by
     rcases o8 i (n+c)with h|h|h
     ·rw[hM i hin h]at sA;cases sA
     ·exact h
     ·have h1:=aR.1 hmid (i-n) (au.2 (by omega));rw[show n+(i-n)=i from by omega]at h1;have h2:=aR.1 h1 (n+c) (au.2 h);simp only[hO]at h2;rcases h2 with h2|h2
      ·have:=pF inv.closed hi h2;rw[hT (n+c) (b9 _) (by omega)]at this;cases this
      ·have:=vi (n+c) (by simpa using h2);omega
    subst hic;have JX:(l.drop (n+c)).take (m-(n+c))=o::(l.drop (n+(c+1))).take (m-(n+(c+1))):=by
     have h1:l[n+c]?=some o:=by simpa using ho
     have h2:(n+c)<l.length:=(aB.1 h1).1;have h3:l[n+c]=o:=(aB.1 h1).2;rw[rM h2,h3,show m-(n+c)=(m-(n+(c+1)))+1 from by omega,nA];rfl
    rw[JX]at hA;obtain⟨S1,DA,W9,Th,hsel,hstep,Vx⟩:=hA;have Tp:∀u,o.dst≠some u->lk S1.σ u=lk S.σ u:=by
     intro u hu;rcases DA with⟨tm,dm,MK,UA,P4⟩|⟨_,P4⟩
     ·rw[P4];simp only[lk];rw[ai (fun e=>hu (by rw[MK,e]))]
     ·rw[P4]
    have RB:∀(b:Act) (v:Value),(b.put o.dst v).tmps.size=b.tmps.size:=by
     intro b v;rcases DA with⟨tm,dm,MK,_,_⟩|⟨MK,_⟩
     ·rw[MK];show(b.tmps.setIfInBounds tm v).size=_;simp
     ·rw[MK];rfl
    have RA:∀(b:Act) (v:Value),(b.put o.dst v).defers=b.defers:=by
     intro b v;cases o.dst<;>rfl
    have fill:∀k,k<=n->∃(ak:Act) (σk:List (Nat×D)),cR Γ ⟨σk,S.H⟩ κ Θ ak w/\(∀u,(∀j∈L,∀oj,l.toArray[j]?=some oj->listed.getD j false=false->k<=j->oj.dst≠some u)->lk σk u=lk S.σ u)/\
     (∀u,(∀j∈L,∀oj,l.toArray[j]?=some oj->listed.getD j false=false->oj.dst≠some u)->ak.tmps.getD u undef=a.tmps.getD u undef):=by
     intro k
     induction k with
     |zero=>intro _;exact⟨a,σ',hs,fun u hu=>hag u (fun j hj oj pG hl=>hu j hj oj pG hl (ud _)),fun _ _=>rfl⟩
     |succ k Wy=>
      intro hk;obtain⟨ak,σk,hsk,OT,Sl⟩:=Wy (by omega);by_cases R3:k∈L/\listed.getD k false=false
      ·obtain⟨Sp,WV⟩:=R3;obtain⟨ok,t,d,hok,hg,hd,htn,TW,hpv⟩:=NR k Sp;have ET:∀u∈ok.looksAt l.toArray,lk σk u=lk σF u:=by
        intro u hu;rw[OT u,hS u]
        ·intro j oj pG yo hj2 he;exact(zA j oj yo (by omega) pG k Sp ok hok).2.1 u hu he
        ·intro j hj oj pG hlj hkj he;obtain⟨h1,h2⟩:=ER k ok (by omega) hok u hu j oj (vi j hj) pG he;omega
       have hp:=hpv σk S.H hX ET;obtain⟨v,bs,hrun,hrd,hz⟩:=vo (st:=⟨σk,S.H⟩) hsk hp;refine⟨ak.put (some t) v,(t,d)::σk,hsk.set (st:=⟨σk,S.H⟩) htn hrd hz,?_,?_⟩
       ·intro u hu;simp only[lk];by_cases e:u=t
        ·rw[bD e,e,hS t,TW];intro j oj pG yo hj2 he;exact(zA j oj yo (by omega) pG k Sp ok hok).1 (by rw[hd,he])
        ·rw[ai e];refine OT u fun j hj oj pG hlj hkj he=>?_
         by_cases hjk:j=k
         ·subst hjk;rw[hok]at pG;cases pG;rw[hd]at he;cases he;exact e rfl
         ·exact hu j hj oj pG hlj (by omega) he
       ·intro u hu;rw[xq _ _ (fun e=>hu k Sp ok hok WV (by rw[hd,e])),Sl u hu]
      ·refine⟨ak,σk,hsk,fun u hu=>OT u fun j hj oj pG hlj hkj=>?_,Sl⟩;by_cases hjk:j=k
       ·subst hjk;exact absurd ⟨hj,hlj⟩ R3
       ·exact hu j hj oj pG hlj (by omega)
    obtain⟨an,σn,VB,TN,Uz⟩:=fill n (b9 _);have Wm:=cR.same (st:=⟨σn,S.H⟩) (σ':=S.σ) (fun u=>TN u (fun j hj oj pG _ Xb=>by have:=vi j hj;omega)) VB;have hwp:=hstep κ Θ an w Wm;refine rI ho (by simp[Region.wanted,Th]) (F5 (Q2:=_) hsel ?_ ?_ ?_ (fun e _ _ h=>h) hwp)
    ·intro x hx;cases x with
     |tmp u=>
      refine(Uz u fun j hj oj pG hlj he=>?_).symm;have hu:u∈o.looksAt l.toArray:=by
       unfold Oper.looksAt;exact aJ.2 (.inl (bI.2 ⟨.tmp u,by simpa using hx,rfl⟩))
      rcases(zA (n+c) o (by omega) him ho j hj oj pG).2.2 with h|h
      ·rw[pF inv.closed hi h]at hlj;cases hlj
      ·exact h u hu he
     |const v=>rfl
     |global g=>rfl
     |func f=>rfl
    ·rintro v w' ⟨κ',Θ',hs'⟩;let late:List (Nat×D):=(L.filterMap fun j=>bif listed.getD j false then none else(l.toArray[j]?).bind (·.dst)).map fun u=>(u,D.any)
     have ES:∀u,u∈late.map Prod.fst↔∃j∈L,∃oj,l.toArray[j]?=some oj/\listed.getD j false=false/\oj.dst=some u:=by
      intro u;simp only[late,List.map_map,cE,bI,Function.comp];constructor
      ·rintro⟨x,⟨j,hj,hx⟩,rfl⟩;cases hl:listed.getD j false with
       |true=>rw[hl]at hx;cases hx
       |false=>
        rw[hl,aa]at hx;cases pG:l.toArray[j]? with
        |none=>rw[pG]at hx;cases hx
        |some oj=>rw[pG]at hx;exact⟨j,hj,oj,pG,hl,hx⟩
      ·rintro⟨j,hj,oj,pG,hl,hx⟩;exact⟨u,⟨j,hj,by rw[hl,aa,pG];exact hx⟩,rfl⟩
     have hs2:cR Γ ⟨late++S1.σ,S1.H⟩ κ' Θ' (a.put o.dst v) w':=by
      refine⟨by rw[RA];exact hs.defers,by rw[RB];exact hs.size,hs'.jx,hs'.jg,?_,hs'.ob,hs'.own,hs'.old,hs'.mine,hs'.stays,hs'.mG⟩;intro u;show∃bs,lD w' κ' _ (lk (late++S1.σ) u) bs/\_;by_cases hu:u∈late.map Prod.fst
      ·rw[PM (fun p hp=>by simp only[late,cE]at hp;obtain⟨_,_,rfl⟩:=hp;rfl) hu];exact⟨[],.of (.any _),by simp⟩
      ·rw[vl _ _ _ (fun p hp e=>hu (cE.2 ⟨p,hp,e⟩))];have e1:(a.put o.dst v).tmps.getD u undef=(an.put o.dst v).tmps.getD u undef:=by
        have e0:=(Uz u fun j hj oj pG hlj he=>hu ((ES u).2 ⟨j,hj,oj,pG,hlj,he⟩)).symm;rcases DA with⟨tm,dm,MK,UA,_⟩|⟨MK,_⟩
        ·rw[MK];by_cases e:u=tm
         ·subst e;rw[zH _ _ (by rw[hs.size];exact UA),zH _ _ (by rw[VB.size];exact UA)]
         ·rw[xq _ _ e,xq _ _ e];exact e0
        ·rw[MK];exact e0
       rw[e1];exact hs'.slot u
     refine ih (c+1) S1 (listed.setIfInBounds (n+c) true) (late++S1.σ) κ' Θ' _ w' (inv.set hi tP) ?_ (by omega) ?_ ?_ (by omega) ?_ (hX.trans W9) Vx ?_ hs2
     ·intro j hj Tm;exact(jw j).2 (.inr (hN j hj Tm))
     ·intro j yo hj2;by_cases e:j=n+c
      ·exact(jw j).2 (.inl e)
      ·exact(jw j).2 (.inr (hM j yo (by omega)))
     ·intro j yo hj2;rw[getD_set_ne false (by omega)];exact hT j (by omega) hj2
     ·intro u hu;rw[Tp u (hu (n+c) o ho (by omega) (by omega))];exact hS u fun j oj pG yo hj2=>hu j oj pG yo (by omega)
     ·intro u hu;rw[vl];intro p hp e;obtain⟨j,hj,oj,pG,hl,he⟩:=(ES u).1 (cE.2 ⟨p,hp,e⟩);refine hu j hj oj pG ?_ he;rw[getD_set_ne false (by have:=vi j hj;omega)];exact hl
    ·rintro d w' ⟨κ',Θ',hs'⟩;have:=hs'.defers;cases Tu:o.dst<;>rw[Tu]at this<;>cases this
theorem AT{p:Nat->Bool}{n:Nat}:∀(k:Nat),(∀i,n<=i->i<n+k->p i=true)->((List.range (n+k)).filter p).length=((List.range n).filter p).length+k
 |0,_=>rfl
 |k+1,h=>by
  rw[<-fX,List.range_succ,List.filter_append,af,AT k (fun i h1 h2=>h i h1 (by omega))];have:p (n+k)=true:=h (n+k) (by omega) (by omega);simp[this];omega
def qc(P:Program)(Γ:nR)(ops:Array Oper)(Q:Exit->St->Prop)(st:St):Prop:=
 ∀κ Θ a w,cR Γ st κ Θ a w->wpAny P .any ops (fun e a' w'=>∃mm κ' Θ',cR Γ mm κ' Θ' a' w'/\Q e mm) ops.size (Array.replicate ops.size false) a w
theorem qc.aw{id:Nat}{ops:Array Oper}(hm:P.follows .mixedOrders=true)(h:qc P Γ ops Q st):AW P Γ (.region id ops true) Q st:=
 fun κ Θ a w hs=>wp_region_any hm (h κ Θ a w.drew hs.drew)
theorem CS{l:List Oper}(n m:Nat)(L:aI)(Ur:BF l.toArray n m L=true)
 (h:AE P Γ l.toArray st.H (fun σ acc=>(∀i∈L,∀o,l[i]?=some o->rj X ⟨σ,st.H⟩ o.op=true)/\HS P Γ X (fun mm=>AO P Γ l.toArray (l.drop m) Q mm) ((l.drop n).take (m-n)) ⟨σ,st.H++acc⟩) (l.take n) st.σ [] []):qc P Γ l.toArray Q st:=by
 have hB:=Ur;simp only[BF,JO,aL,b8]at hB;obtain⟨⟨hnm,CA⟩,MO,Jp,hmid,JY,Jb,Ji,hL⟩:=hB;have hn:n<l.toArray.size:=by omega
 have AJ:((List.range n).all fun i=>match l.toArray[i]? with
  |none=>false
  |some o=>(o.after.all fun e=> !Region.binds .any e||decide (e.on<i))&&
   ((o.looksAt l.toArray).all fun t=>(List.range n).all fun j=>match l.toArray[j]? with|some oj=> !(oj.dst==some t)||(decide (j<i)&&Region.waitsFor .any l.toArray i j)|none=>true)&&
   (List.range n).all fun j=>j==i||(match l.toArray[j]? with|some oj=> !(oj.dst==o.dst)||o.dst.isNone|none=>true))=true:=by
  rw[aR];intro i hi;have h1:=aR.1 JY i (au.2 (by have:=au.1 hi;omega));have h2:=aR.1 Jb i hi;cases ho:l.toArray[i]? with
  |none=>rw[ho]at h1;cases h1
  |some o=>
   simp only[ho,aL]at h1 h2⊢;exact⟨⟨h1,h2.1⟩,h2.2⟩
 have vi:∀i∈L,i<n:=by
  intro i hi;have:=aR.1 hL i hi;simp only[aL,b8]at this;exact this.1
 obtain⟨ps,AZ,hlen,BN,⟨hstill,hK⟩,TG,Qk,TH⟩:=AE.unfold _ _ _ _ h;simp only[j9,bH,qE,cC]at BN hK TG Qk hstill;have hn':n<l.length:=by simpa using hn
 have R9:ps.length=n:=by rw[hlen];simp;omega
 have hop:∀(i:Nat),i<n->∃o p,l.toArray[i]?=some o/\ps[i]?=some p/\o.dst=p.t/\mQ P Γ l.toArray st.H (((ps.take i).filterMap Cp.sl).reverse++st.σ) o p/\p.r=st.H.length+((ps.take i).flatMap Cp.obs).length:=by
  intro i hi;have h1:l[i]?=some l[i]:=aM (by omega);have h2:ps[i]?=some ps[i]:=aM (by omega);have h3:=BN i l[i] ps[i] (by rw[bf,bD hi];exact h1) h2;exact⟨l[i],ps[i],by simp[dM,h1],h2,h3.1.slots,h3.1,h3.2.1⟩
 have Fc:∀(i:Nat) p,ps[i]?=some p->p.r=st.H.length+((ps.take i).flatMap Cp.obs).length:=by
  intro i p hp;have hi:i<n:=by have:=(aB.1 hp).1;omega
  obtain⟨_,p',_,hp',_,_,hr⟩:=hop i hi;rw[hp]at hp';cases hp';exact hr
 have DE:∀(i:Nat) p id ob,ps[i]?=some p->p.up=some (id,ob)->st.H.length<=id/\(∃zs ds,ob=.box ds/\zs.length=ds.length/\((ps.take i).flatMap Cp.obs)[id-st.H.length]?=some (.box zs))/\∀(i2:Nat) q sG,i2<i->ps[i2]?=some q->q.up≠some (id,sG):=by
  intro i p id ob hp he;have hi:i<n:=by have:=(aB.1 hp).1;omega
  have h1:l[i]?=some l[i]:=aM (by omega);have h3:=(BN i l[i] p (by rw[bf,bD hi];exact h1) hp).2.2 id ob he;exact⟨h3.2.1,h3.2.2.1,h3.2.2.2⟩
 have Jr:∀(i j:Nat) p q id ob sG,ps[i]?=some p->ps[j]?=some q->p.up=some (id,ob)->q.up=some (id,sG)->i=j:=by
  intro i j p q id ob sG hp hq he xj;rcases o8 i j with h|h|h
  ·exact absurd he ((DE j q id sG hq xj).2.2 i p ob h hp)
  ·exact h
  ·exact absurd xj ((DE i p id ob hp he).2.2 j q sG h hq)
 have Js:∀(i:Nat) p id ob,ps[i]?=some p->p.up=some (id,ob)->p.obs=[]:=by
  intro i p id ob hp he;have hi:i<n:=by have:=(aB.1 hp).1;omega
  obtain⟨_,p',_,hp',_,hc,_⟩:=hop i hi;rw[hp]at hp';cases hp';rcases hc.LK with h|h
  ·rw[h]at he;cases he
  ·exact h
 have hfit:∀(i:Nat) p,ps[i]?=some p->p.r+p.obs.length<=st.H.length+(ps.flatMap Cp.obs).length:=by
  intro i p hp;rw[Fc i p hp,kR hp];simp only[af];omega
 have D9:∀(i j:Nat) p q,ps[i]?=some p->ps[j]?=some q->i<j->p.r+p.obs.length<=q.r:=by
  intro i j p q hp hq hij;rw[Fc i p hp,Fc j q hq];have:=Ce hp hij;omega
 have hdist:∀(i j:Nat) p q t,ps[i]?=some p->ps[j]?=some q->p.t=some t->q.t=some t->i=j:=by
  intro i j p q t hp hq TY xj;have hi:i<n:=by have:=(aB.1 hp).1;omega
  have hj:j<n:=by have:=(aB.1 hq).1;omega
  obtain⟨oi,p',ho,hp',TX,_⟩:=hop i hi;obtain⟨oj,q',pG,CB,hdj,_⟩:=hop j hj;rw[hp]at hp';cases hp';rw[hq]at CB;cases CB;have:=aR.1 AJ i (au.2 hi);simp only[ho,aL]at this;have:=aR.1 this.2 j (au.2 hj);simp only[pG,TX,hdj,TY,xj,kf,cX,nG,Option.isNone_some,nG,bq]at this;exact this.symm
 have vY:∀(i:Nat) p t,ps[i]?=some p->p.t=some t->∀q∈ps.filterMap Cp.sl,q.1=t->q=(t,p.d):=by
  intro i p t hp hpt q hq he;obtain⟨q',CB,Ag⟩:=bI.1 hq;obtain⟨j,hj,rfl⟩:=cY.1 CB;have qC:ps[j]?=some ps[j]:=aM hj;unfold Cp.sl at Ag;cases Oo:ps[j].t with
  |none=>rw[Oo]at Ag;cases Ag
  |some u=>
   rw[Oo]at Ag;simp only[bW,aP]at Ag;subst Ag;simp only at he;subst he;have:=hdist j i _ p u qC hp Oo hpt;subst this;rw[hp]at qC;cases qC;rfl
 have hlk:∀(i:Nat) (o:Oper),i<n->l.toArray[i]?=some o->∀t∈o.looksAt l.toArray,lk (((ps.take i).filterMap Cp.sl).reverse++st.σ) t=lk ((ps.filterMap Cp.sl).reverse++st.σ) t:=by
  intro i o hin ho t ht;have ym:=aR.1 AJ i (au.2 hin);simp only[ho,aL]at ym;have ym:=aR.1 ym.1.2 t ht;by_cases hex:∃(j:Nat) (q:Cp),ps[j]?=some q/\q.t=some t
  ·obtain⟨j,q,hq,Ah⟩:=hex;have hj:j<n:=by have:=(aB.1 hq).1;omega
   obtain⟨oj,q',pG,CB,hdj,_⟩:=hop j hj;rw[hq]at CB;cases CB;have:=aR.1 ym j (au.2 hj);simp only[pG,hdj,Ah,kf,cX,lf,aL,b8]at this;obtain⟨hji,_⟩:=this;rw[xo (ps.filterMap Cp.sl).reverse st.σ (t,q.d) (by rw[cO];exact bI.2 ⟨q,aD hq,by simp[Cp.sl,Ah]⟩) (fun q2 qC xj=>vY j q t hq Ah q2 (by simpa using qC) xj)];refine xo ((ps.take i).filterMap Cp.sl).reverse st.σ (t,q.d) ?_ (fun q2 qC xj=>vY j q t hq Ah q2 ?_ xj)
   ·rw[cO];exact bI.2 ⟨q,aD (i:=j) (by rw[bf,bD hji];exact hq),by simp[Cp.sl,Ah]⟩
   ·obtain⟨q3,Fe,pH⟩:=bI.1 (cO.1 qC);exact bI.2 ⟨q3,bL Fe,pH⟩
  ·have hno:∀q3∈ps,q3.t≠some t:=by
    intro q3 Fe he;obtain⟨j,hj,RD⟩:=cY.1 Fe;exact hex ⟨j,q3,by rw[<-RD];exact aM hj,he⟩
   have RJ:∀(qs:List Cp),(∀q3∈qs,q3.t≠some t)->∀p∈(qs.filterMap Cp.sl).reverse,p.1≠t:=by
    intro qs Ag p hp he;obtain⟨q3,Fe,pH⟩:=bI.1 (cO.1 hp);unfold Cp.sl at pH;cases hpt:q3.t with
    |none=>rw[hpt]at pH;cases pH
    |some u=>rw[hpt]at pH;simp only[bW,aP]at pH;subst pH;simp only at he;exact Ag q3 Fe (by rw[hpt,he])
   rw[vl _ _ _ (RJ _ hno),vl _ _ _ (RJ _ (fun q3 Fe=>hno q3 (bL Fe)))]
 have NZ:∀i∈L,∃(o:Oper) (p:Cp),l.toArray[i]?=some o/\ps[i]?=some p/\p.obs=[]/\p.up=none/\J7 P Γ X l ((ps.filterMap Cp.sl).reverse++st.σ) st.H i:=by
  intro i hi;have hin:=vi i hi;have h1:=aR.1 hL i hi;obtain⟨o,p,ho,hp,hd,hc,_⟩:=hop i hin;simp only[ho,aL]at h1;have hg:o.guard=none:=by simpa using h1.2.1
  have hst:=hstill i hi o (by simpa using ho);rcases hc with⟨t,hpt,Gs,hdt,htn,hc⟩|⟨_,_,hdt,_⟩
  ·have hc:yH P st.H (((ps.take i).filterMap Cp.sl).reverse++st.σ) o p:=by
    rcases hc with⟨_,hc⟩|⟨_,_,_,_,hg',_⟩|⟨_,_,_,hg',_⟩
    ·exact hc
    ·rw[hg]at hg';cases hg'
    ·rw[hg]at hg';cases hg'
   have hpv:pv P ⟨((ps.take i).filterMap Cp.sl).reverse++st.σ,st.H⟩ o.op=some p.d/\p.obs=[]:=by
    rcases hc with(hc|⟨f,xs,ts,ds,ms,d,FZ,_⟩)| (⟨T,zs,FZ,_⟩|⟨T,x,ds,FZ,_⟩)|⟨T,e,sz,len,parts,zs,ds,es,FZ,_⟩|⟨T,e,sz,len,parts,zs,ds,FZ,_⟩
    ·exact hc
    all_goals(rw[FZ]at hst;simp[rj]at hst)
   refine⟨o,p,ho,hp,hpv.2,Gs,o,t,p.d,ho,hg,hdt,htn,?_,?_⟩
   ·exact xo (ps.filterMap Cp.sl).reverse st.σ (t,p.d) (by rw[cO];exact bI.2 ⟨p,aD hp,by simp[Cp.sl,hpt]⟩) (fun q2 qC xj=>vY i p t hp hpt q2 (by simpa using qC) xj)
   ·intro σ' H' hX ET;have e1:pv P ⟨(ps.filterMap Cp.sl).reverse++st.σ,st.H⟩ o.op=some p.d:=DX (fun _ _ h=>h) (BG (st:=⟨_,st.H⟩) (mm:=⟨_,st.H⟩) (ops:=l.toArray) (o:=o) (fun t ht=>hlk i o hin ho t ht)) hpv.1;refine LC hX hst ?_ e1;intro x hx;rw[EF σ' H' st.H x];exact(BG (st:=⟨σ',st.H⟩) (mm:=⟨_,st.H⟩) (ops:=l.toArray) (o:=o) (fun t ht=>ET t ht) x hx).symm
  ·have:o.dst.isSome=true:=h1.2.2;rw[hdt]at this;cases this
 intro κ Θ a w hs;have switch:∀(f:Nat) (listed:Array Bool) (σ':List (Nat×D)) (H':ah) (κ:Nat->Option Value) (Θ:Nat->Nat) (a:Act) (w:World),HeadInv .any l.toArray n listed->
  ((List.range n).filter fun i=> !listed.getD i false).length=f->
  (∀(i:Nat) p t,ps[i]?=some p->p.t=some t->listed.getD i false=true->lk σ' t=p.d)->
  (∀t,(∀(i:Nat) p,ps[i]?=some p->listed.getD i false=true->p.t≠some t)->lk σ' t=lk st.σ t)->
  H'.length=st.H.length+(ps.flatMap Cp.obs).length->Ext st.H H'->
  (∀(i:Nat) p,ps[i]?=some p->listed.getD i false=true->∀(j:Nat) o,p.obs[j]?=some o->(∀(i2:Nat) q ob,ps[i2]?=some q->listed.getD i2 false=true->q.up≠some (p.r+j,ob))->H'[p.r+j]?=some o)->
  (∀(i:Nat) q id ob,ps[i]?=some q->listed.getD i false=true->q.up=some (id,ob)->H'[id]?=some ob/\∃v,κ id=some v)->
  (∀(i:Nat) p,ps[i]?=some p->listed.getD i false=false->∀j,j<p.obs.length->κ (p.r+j)=none)->
  cR Γ ⟨σ',H'⟩ κ Θ a w->(∀i,i<n->i∉L->listed.getD i false=true)->
  wpAny P .any l.toArray (fun e a' w'=>∃mm κ' Θ',cR Γ mm κ' Θ' a' w'/\Q e mm) (f+(l.toArray.size-n)) listed a w:=by
  intro f listed σ' H' κ Θ a w inv jL hA hB NM Ia Gm LY Gl hs hN;have NO:∀(i:Nat) p,ps[i]?=some p->(p.up≠none\/p.obs≠[])->listed.getD i false=true:=by
   intro i p hp hne;have hi:i<n:=by have:=(aB.1 hp).1;omega
   refine hN i hi fun NQ=>?_
   obtain⟨_,p',_,hp',h1,h2,_⟩:=NZ i NQ;rw[hp]at hp';cases hp';rcases hne with h|h
   ·exact h h2
   ·exact h h1
  have DB:∀t,(∀i∈L,∀o,l.toArray[i]?=some o->listed.getD i false=false->o.dst≠some t)->lk σ' t=lk ((ps.filterMap Cp.sl).reverse++st.σ) t:=by
   intro t hno;by_cases hex:∃(i:Nat) (p:Cp),ps[i]?=some p/\p.t=some t
   ·obtain⟨i,p,hp,hpt⟩:=hex;have hi:i<n:=by have:=(aB.1 hp).1;omega
    have WY:listed.getD i false=true:=by
     cases hl:listed.getD i false with
     |true=>rfl
     |false=>
      obtain⟨o,p',ho,hp',hd,_⟩:=hop i hi;rw[hp]at hp';cases hp';by_cases NQ:i∈L
      ·exact absurd (by rw[hd,hpt]) (hno i NQ o ho hl)
      ·rw[hN i hi NQ]at hl;cases hl
    rw[hA i p t hp hpt WY];exact(xo (ps.filterMap Cp.sl).reverse st.σ (t,p.d) (by rw[cO];exact bI.2 ⟨p,aD hp,by simp[Cp.sl,hpt]⟩) (fun q hq he=>vY i p t hp hpt q (by simpa using hq) he)).symm
   ·rw[hB t (fun i p hp _ he=>hex ⟨i,p,hp,he⟩),vl];intro q hq he;obtain⟨p,hp,hps⟩:=bI.1 (cO.1 hq);obtain⟨i,hi,hpi⟩:=cY.1 hp;refine hex ⟨i,p,by rw[<-hpi];exact aM hi,?_⟩;unfold Cp.sl at hps;cases hpt:p.t with
    |none=>rw[hpt]at hps;cases hps
    |some u=>rw[hpt]at hps;simp only[bW,aP]at hps;subst hps;simp only at he;rw[he]
  have JR:H'=st.H++AZ:=by
   apply kA;intro k;by_cases h1:k<st.H.length
   ·rw[aS h1];exact Ia k _ (aM h1)|>.trans (aM h1).symm
   ·rw[aU (by omega)];by_cases hex:∃(i:Nat) (q:Cp) (ob:Ob),ps[i]?=some q/\q.up=some (k,ob)
    ·obtain⟨i,q,ob,hq,he⟩:=hex;rw[(LY i q k ob hq (NO i q hq (.inl (by rw[he];simp))) he).1,TH i q k ob hq he]
    ·have hno:∀(i:Nat) q ob,ps[i]?=some q->q.up≠some (k,ob):=fun i q ob hq he=>hex ⟨i,q,ob,hq,he⟩
     rw[Qk (k-st.H.length) (fun i q ob hq=>by rw[show st.H.length+(k-st.H.length)=k from by omega];exact hno i q ob hq)];by_cases h2:k-st.H.length<(ps.flatMap Cp.obs).length
     ·obtain⟨i,p,j,hp,hj,hk⟩:=qL h2;have e3:p.r+j=k:=by rw[Fc i p hp];omega
      have h3:=Gm i p hp (NO i p hp (.inr (by intro e;rw[e]at hj;simp at hj))) j _ (aM hj) (fun i2 q ob hq _=>by rw[e3];exact hno i2 q ob hq);rw[e3]at h3;rw[h3,kR hp,hk,aU (by omega),cK,aS hj,aM hj]
     ·rw[bY (by omega),bY (by omega)]
  subst JR;have hsz:=inv.size;have hcm:((List.range m).filter fun i=> !listed.getD i false).length=f+(m-n):=by
   have:=AT (p:=fun i=> !listed.getD i false) (n:=n) (m-n) (fun i h1 h2=>by
    have:=getD_both (inv.tail i h1 (by omega));simp only[this];rfl)
   rw[show n+(m-n)=m from by omega]at this;rw[this,jL]
  have:=ED (Q:=Q) (H0:=st.H) Ur (fun i hi=>by obtain⟨_,_,_,_,_,_,h⟩:=NZ i hi;exact h) (f+(m-n)) 0 ⟨(ps.filterMap Cp.sl).reverse++st.σ,st.H++AZ⟩ listed σ' κ Θ a w
   ⟨hsz,inv.closed,fun t h1 h2=>absurd h2 (by omega)⟩ hN (by omega) (fun i h1 h2=>absurd h2 (by omega)) (fun i h1 h2=>getD_both (inv.tail i (by omega) h2)) hcm (fun _ _=>rfl)
   ((qd.refl _).app _) (by simpa using hK) DB hs
  rw[show f+(m-n)+(l.toArray.size-m)=f+(l.toArray.size-n)from by omega]at this;exact this
 have main:∀(f:Nat) (listed:Array Bool) (σ':List (Nat×D)) (H':ah) (κ:Nat->Option Value) (Θ:Nat->Nat) (a:Act) (w:World),HeadInv .any l.toArray n listed->
  ((List.range n).filter fun i=> !listed.getD i false).length=f->
  (∀(i:Nat) p t,ps[i]?=some p->p.t=some t->listed.getD i false=true->lk σ' t=p.d)->
  (∀t,(∀(i:Nat) p,ps[i]?=some p->listed.getD i false=true->p.t≠some t)->lk σ' t=lk st.σ t)->
  H'.length=st.H.length+(ps.flatMap Cp.obs).length->Ext st.H H'->
  (∀(i:Nat) p,ps[i]?=some p->listed.getD i false=true->∀(j:Nat) o,p.obs[j]?=some o->(∀(i2:Nat) q ob,ps[i2]?=some q->listed.getD i2 false=true->q.up≠some (p.r+j,ob))->H'[p.r+j]?=some o)->
  (∀(i:Nat) q id ob,ps[i]?=some q->listed.getD i false=true->q.up=some (id,ob)->H'[id]?=some ob/\∃v,κ id=some v)->
  (∀(i:Nat) p,ps[i]?=some p->listed.getD i false=false->∀j,j<p.obs.length->κ (p.r+j)=none)->
  cR Γ ⟨σ',H'⟩ κ Θ a w->
  wpAny P .any l.toArray (fun e a' w'=>∃mm κ' Θ',cR Γ mm κ' Θ' a' w'/\Q e mm) (f+(l.toArray.size-n)) listed a w:=by
  intro f
  induction f with
  |zero=>
   intro listed σ' H' κ Θ a w inv jL hA hB NM Ia Gm LY Gl hs;have hall:∀i,i<n->listed.getD i false=true:=by
    intro i hi;have h0:=br jL;cases hl:listed.getD i false with
    |true=>rfl
    |false=>
     have:i∈(List.range n).filter fun i=> !listed.getD i false:=ew.2 ⟨au.2 hi,by simp[hl]⟩
     rw[h0]at this;cases this
   exact switch 0 listed σ' H' κ Θ a w inv jL hA hB NM Ia Gm LY Gl hs (fun i hi _=>hall i hi)
  |succ f ih=>
   intro listed σ' H' κ Θ a w inv jL hA hB NM Ia Gm LY Gl hs;by_cases hsw:∀i,i<n->i∉L->listed.getD i false=true
   ·exact switch (f+1) listed σ' H' κ Θ a w inv jL hA hB NM Ia Gm LY Gl hs hsw
   have UD:∃i,i<n/\i∉L/\listed.getD i false=false:=by
    obtain⟨i,hi⟩:=Classical.not_forall.1 hsw;refine⟨i,?_⟩;by_cases h1:i<n
    ·by_cases h2:i∈L
     ·exact absurd (fun _ h=>absurd h2 h) hi
     ·refine⟨h1,h2,?_⟩;cases hl:listed.getD i false with
      |false=>rfl
      |true=>exact absurd (fun _ _=>hl) hi
    ·exact absurd (fun h=>absurd h h1) hi
   have hun:∃i,i<n/\listed.getD i false=false:=by
    have hne:((List.range n).filter fun i=> !listed.getD i false)≠[]:=by
     intro h0;rw[h0]at jL;simp at jL
    obtain⟨i,hi⟩:=mo _ hne;obtain⟨h1,h2⟩:=ew.1 hi;exact⟨i,au.1 h1,by simpa using h2⟩
   have hsz:=inv.size;rw[show f+1+(l.toArray.size-n)=(f+(l.toArray.size-n))+1 from by omega];refine⟨fun h0=>?_,fun i hi=>?_⟩
   ·exfalso;obtain⟨i,⟨hin,Hv⟩,hmin⟩:=exists_least (p:=fun i=>i<n/\listed.getD i false=false) hun;obtain⟨o,p,ho,_,_,_⟩:=hop i hin;have:i∈Region.ready .any l.toArray listed:=by
     refine mem_ready.2 ⟨getD_in (by rw[hsz];omega) Hv,o,ho,fun e he hb=>?_⟩;have:=aR.1 AJ i (au.2 hin);simp only[ho,aL]at this;have:=nU.1 this.1.1 e he;simp only[hb,cX,lf,b8]at this;cases hl:listed.getD e.on false with
     |true=>rfl
     |false=>
      have:=hmin e.on ⟨by omega,hl⟩;omega
    rw[h0]at this;cases this
   ·obtain⟨i0,Sn,hl0⟩:=hun;have hin:i<n:=by
     rcases cP i n with h|h
     ·exact h
     ·obtain⟨i1,hi1,Ti,hl1⟩:=UD;obtain⟨_,oi,R8,_⟩:=mem_ready.1 hi;have tP:i<l.toArray.size:=(aV.1 R8).1;exfalso;rcases cP i m with hm1|hm1
      ·have h1:=aR.1 hmid (i-n) (au.2 (by omega));have h2:=aR.1 h1 i1 (au.2 (by omega));rw[show n+(i-n)=i from by omega]at h2;simp only[hO]at h2;rcases h2 with h2|h2
       ·rw[pF inv.closed hi h2]at hl1;cases hl1
       ·exact Ti (by simpa using h2)
      ·have h1:=aR.1 Jp (i-m) (au.2 (by omega));have h2:=aR.1 h1 i1 (au.2 (by omega));rw[show m+(i-m)=i from by omega]at h2;rw[pF inv.closed hi h2]at hl1;cases hl1
    obtain⟨o,p,ho,hp,hd,hc,_⟩:=hop i hin;obtain⟨Hv,o',ho',hall⟩:=mem_ready.1 hi;rw[ho]at ho';cases ho';have sA:=getD_both Hv;have MJ:mQ P Γ l.toArray st.H σ' o p:=by
     refine mQ.congr (σ:=((ps.take i).filterMap Cp.sl).reverse++st.σ) (σ':=σ') ?_ hc;intro t ht;have ym:=aR.1 AJ i (au.2 hin);simp only[ho,aL]at ym;have ym:=aR.1 ym.1.2 t ht;by_cases hex:∃(j:Nat) (q:Cp),ps[j]?=some q/\q.t=some t
     ·obtain⟨j,q,hq,Ah⟩:=hex;have hj:j<n:=by have:=(aB.1 hq).1;omega
      obtain⟨oj,q',pG,CB,hdj,_⟩:=hop j hj;rw[hq]at CB;cases CB;have:=aR.1 ym j (au.2 hj);simp only[pG,hdj,Ah,kf,cX,lf,aL,b8]at this;obtain⟨hji,Jt⟩:=this;obtain⟨X3,Jm,e,he,hb,hon⟩:=Region.waitsFor_spec Jt;rw[ho]at Jm;cases Jm;have hjl:=hall e he hb;rw[hon]at hjl;rw[hA j q t hq Ah hjl];refine xo ((ps.take i).filterMap Cp.sl).reverse st.σ (t,q.d) ?_ (fun q2 qC xj=>vY j q t hq Ah q2 ?_ xj)
      ·rw[cO];exact bI.2 ⟨q,aD (i:=j) (by rw[bf,bD hji];exact hq),by simp[Cp.sl,Ah]⟩
      ·obtain⟨q3,Fe,pH⟩:=bI.1 (cO.1 qC);exact bI.2 ⟨q3,bL Fe,pH⟩
     ·rw[hB t (fun j q hq _ he=>hex ⟨j,q,hq,he⟩),vl];intro q hq he;obtain⟨q3,Fe,pH⟩:=bI.1 (cO.1 hq);obtain⟨j,hj,RD⟩:=cY.1 (bL Fe);refine hex ⟨j,q3,by rw[<-RD];exact aM hj,?_⟩;unfold Cp.sl at pH;cases hpt:q3.t with
      |none=>rw[hpt]at pH;cases pH
      |some u=>rw[hpt]at pH;simp only[bW,aP]at pH;subst pH;simp only at he;rw[he]
    have WO:=hfit i p hp;have Jd:∀id ob,p.up=some (id,ob)->∃v,κ id=some v:=by
     intro id ob he;rcases MJ with⟨_,_,h,_⟩|⟨_,_,_,_,T,x,y,id',ds,FZ,hx',_,_,_,_,Gs⟩
     ·rw[h]at he;cases he
     ·rw[Gs]at he;cases he;obtain⟨b1,r1,_⟩:=hs.ev x;rw[EF σ' H' st.H x,hx']at r1;obtain⟨g,hk,_⟩:=r1.qP;exact⟨_,hk⟩
    have Jq:∀id ob,p.up=some (id,ob)->∃zs ds,H'[id]?=some (.box zs)/\ob=.box ds/\zs.length=ds.length:=by
     intro id ob he;obtain⟨u1,⟨zs,ds,u2,u3,u4⟩,_⟩:=DE i p id ob hp he;refine⟨zs,ds,?_,u2,u3⟩;obtain⟨i1,p1,j1,hp1,yo,hk1⟩:=qL (aB.1 u4).1;have Fa:ps[i1]?=some p1:=by
      have:=(aB.1 hp1).1;rw[bf]at hp1;split at hp1
      ·exact hp1
      ·cases hp1
     have hi1:i1<i:=by have:=(aB.1 hp1).1;simp at this;omega
     have et:(ps.take i).take i1=ps.take i1:=by rw[mP,dA (by omega)]
     rw[et]at hk1;have e1:p1.r+j1=id:=by rw[Fc i1 p1 Fa];omega
     have qS:p1.obs[j1]?=some (.box zs):=by
      rw[kR hp1,et,hk1,aU (by omega),cK,aS yo]at u4;exact u4
     have hl1:listed.getD i1 false=true:=by
      cases hl:listed.getD i1 false with
      |true=>rfl
      |false=>
       have h0:=Gl i1 p1 Fa hl j1 yo;rw[e1]at h0;obtain⟨v,hv⟩:=Jd id ob he;rw[h0]at hv;cases hv
     have:=Gm i1 p1 Fa hl1 j1 _ qS (fun i2 q sG hq hl xj=>by
      rw[e1]at xj;have:=Jr i i2 p q id ob sG hp hq he xj;subst this;rw[sA]at hl;cases hl)
     rw[e1]at this;exact this
    refine MJ.wp hs Ia ho (by omega) (fun j hj=>Gl i p hp sA j hj) Jq fun κ' Θ' a' w' hs' hsame=>?_
    have jw:∀(j:Nat),(listed.setIfInBounds i true).getD j false=true↔(j=i\/listed.getD j false=true):=by
     intro j;by_cases e:i=j
     ·subst e;have:i<listed.size:=by rw[hsz];omega
      simp[this]
     ·rw[getD_set_ne false e];constructor
      ·exact .inr
      ·rintro(rfl|h)
       ·exact absurd rfl e
       ·exact h
    have hput:(p.sD H').length=H'.length:=by
     unfold Cp.sD;split
     ·simp
     ·exact mj (by omega)
    have Og:∀(k:Nat),k<st.H.length->(p.sD H')[k]?=H'[k]?:=by
     intro k hk;unfold Cp.sD;split
     ·rename_i id ob he;have:=(DE i p id ob hp he).1;rw[bE (by omega)]
     ·rw[mi (by omega),bD (by rw[Fc i p hp];omega)]
    refine ih (listed.setIfInBounds i true) (p.slot σ') (p.sD H') κ' Θ' a' w' (inv.set hi hin) ?_ ?_ ?_ (by rw[hput];exact NM) ?_ ?_ ?_ ?_ hs'
    ·have Hr:((List.range n).filter fun j=> !(listed.setIfInBounds i true).getD j false)=((List.range n).filter fun j=> !listed.getD j false).erase i:=by
      have hnd:((List.range n).filter fun j=> !listed.getD j false).Nodup:=om _ sI;rw[hnd.erase_eq_filter,qX];apply rT;intro j _;by_cases e:j=i
      ·subst e;have:=(jw j).2 (.inl rfl);rw[this];simp
      ·rw[getD_set_ne false (lC e)];simp[e]
     rw[Hr,kM (ew.2 ⟨au.2 hin,by simp[sA]⟩),jL];rfl
    ·intro j q t hq Ah hl;unfold Cp.slot;rcases(jw j).1 hl with rfl|tQ
     ·rw[hp]at hq;cases hq;rw[Ah];simp[lk]
     ·cases hpt:p.t with
      |none=>exact hA j q t hq Ah tQ
      |some u=>
       simp only[lk];rw[ai,hA j q t hq Ah tQ];intro e;have:=hdist j i q p t hq hp Ah (by rw[hpt,e]);subst this;rw[sA]at tQ;cases tQ
    ·intro t ht;unfold Cp.slot;have nO:=hB t (fun j q hq hl=>ht j q hq ((jw j).2 (.inr hl)));cases hpt:p.t with
     |none=>exact nO
     |some u=>
      simp only[lk];rw[ai (fun e=>ht i p hp ((jw i).2 (.inl rfl)) (by rw[hpt,e]))];exact nO
    ·intro j y hj;rw[Og j (aB.1 hj).1];exact Ia j y hj
    ·intro j q hq hl k y hy hno;have R3:=(aB.1 hy).1;unfold Cp.sD;split
     ·rename_i id ob he;have hne:q.r+k≠id:=fun e=>hno i p ob hp ((jw i).2 (.inl rfl)) (by rw[e];exact he)
      rw[bE (lC hne)];rcases(jw j).1 hl with rfl|tQ
      ·rw[hp]at hq;cases hq;rw[Js j p id ob hp he]at hy;simp at hy
      ·exact Gm j q hq tQ k y hy (fun i2 q2 sG qC Ie=>hno i2 q2 sG qC ((jw i2).2 (.inr Ie)))
     ·rw[mi (by omega)];rcases(jw j).1 hl with rfl|tQ
      ·rw[hp]at hq;cases hq;rw[ai (by omega),bD (by omega),cK];exact hy
      ·have hne:j≠i:=fun e=>by subst e;rw[sA]at tQ;cases tQ
       have h3:=Gm j q hq tQ k y hy (fun i2 q2 sG qC Ie=>hno i2 q2 sG qC ((jw i2).2 (.inr Ie)));rcases nV hne with h|h
       ·have:=D9 j i q p hq hp h;rw[bD (by omega)];exact h3
       ·have:=D9 i j p q hp hq h;rw[ai (by omega),ai (by omega)];exact h3
    ·intro j q id ob hq hl he;rcases(jw j).1 hl with rfl|tQ
     ·rw[hp]at hq;cases hq;obtain⟨zs,ds,z1,_⟩:=Jq id ob he;have hlt:=(aB.1 z1).1;refine⟨by simp only[Cp.sD,he];rw[cM hlt],?_⟩;obtain⟨v,hv⟩:=Jd id ob he;refine⟨v,?_⟩;rw[hsame id (by rw[Js j p id ob hp he];simp;omega)];exact hv
     ·obtain⟨h1,v,hv⟩:=LY j q id ob hq tQ he;have hout:id<p.r\/p.r+p.obs.length<=id:=by
       rcases cP id p.r with h|h
       ·exact .inl h
       ·rcases cP id (p.r+p.obs.length)with h2|h2
        ·have:=Gl i p hp sA (id-p.r) (by omega);rw[show p.r+(id-p.r)=id from by omega,hv]at this;cases this
        ·exact .inr h2
      refine⟨?_,v,by rw[hsame id hout];exact hv⟩;unfold Cp.sD;split
      ·rename_i Rc sG xj;have hne:Rc≠id:=fun e=>by
        subst e;have:=Jr i j p q Rc sG ob hp hq xj he;subst this;rw[sA]at tQ;cases tQ
       rw[bE hne];exact h1
      ·rw[mi (by omega)];rcases hout with h|h
       ·rw[bD h];exact h1
       ·rw[ai (by omega),ai (by omega)];exact h1
    ·intro j q hq hl k hk;have hne:j≠i:=fun e=>by
      subst e;have:=(jw j).2 (.inl rfl);rw[this]at hl;cases hl
     have tQ:listed.getD j false=false:=by
      cases h:listed.getD j false with
      |false=>rfl
      |true=>have:=(jw j).2 (.inr h);rw[this]at hl;cases hl
     have h3:=Gl j q hq tQ k hk;rw[hsame,h3];rcases nV hne with h|h
     ·have:=D9 j i q p hq hp h;omega
     ·have:=D9 i j p q hp hq h;omega
 have PF:HeadInv .any l.toArray n (Array.replicate l.toArray.size false):=
  ⟨by simp,fun j oj _ hl=>(by rw[getD_replicate_false]at hl;cases hl),fun t _ ht=>getD_in (by simpa using ht) (getD_replicate_false _ _)⟩
 have jL:((List.range n).filter fun i=> !(Array.replicate l.toArray.size false).getD i false).length=n:=by
  rw[List.filter_eq_self.2]
  ·simp
  ·intro i _;rw[getD_replicate_false];rfl
 have:=main n (Array.replicate l.toArray.size false) st.σ (st.H++List.replicate (ps.flatMap Cp.obs).length .gone) κ Θ a w PF jL (fun i p t _ _ hl=>by rw[getD_replicate_false]at hl;cases hl) (fun t _=>rfl)
  (by simp) (fun i o h=>by rw[aS (aB.1 h).1];exact h) (fun i p _ hl=>by rw[getD_replicate_false]at hl;cases hl)
  (fun i q id ob _ hl=>by rw[getD_replicate_false]at hl;cases hl)
  (fun i p hp _ j _=>hs.jx _ (by rw[Fc i p hp];omega)) (hs.room _)
 rw[show n+(l.toArray.size-n)=l.toArray.size from by omega]at this;exact this
def AP(X:aI)(st:St)(op:Op)(A:cW):Bool:=match op with
 | .buildSlice _ _ _=>true
 | .build _ _=>true
 | .extract _ _=>true
 | .field _ _ _=>true
 | .move _=>true
 | .indexAddr _ x _=>(BW st (st.ev x)).isNone
 | .load _ x=>(DN st (st.ev x)).isNone&&(match st.ev x,A with| .op id _ _ _,.tk _::_=>X.contains id|_,_=>true)
 | .store _ x _=>(match st.ev x with| .ptr id _=>X.contains id|_=>false)
 | .call c=>(match c.callee,A with
  | .builtin .append,_=>true
  | .value (.func _),.d _::_=>true
  | .value (.func _),.gf _ _::_=>true
  | .value (.func _),.gp _ _ _::_=>(match c.args.toList with|x::_=>(match st.ev x with| .ptr id _=>X.contains id|_=>false)| []=>false)
  |_,_=>false)
 |_=>false
def EN(X:aI)(H H':ah):Bool:=(List.range H.length).all fun i=>X.contains i||(match H[i]? with|some .gone=>true|_=>(match H'[i]? with|some .gone=>false|_=>true))
def Bd(P:Program)(nt:Nat)(X:aI):List Oper->St->cW->Option (St×cW×tA)
 | [],st,A=>some (st,A,[])
 |o::rest,st,A=>match o.guard,AP X st o.op A with
  |none,true=>(match xI P nt o st A with
   |some (og,A1,p)=>(match EN X st.H og.H,Bd P nt X rest og A1 with|true,some (B0,A2,q)=>some (B0,A2,p++q)|_,_=>none)
   |none=>none)
  |_,_=>none
theorem Eb{H:ah}{ms:aI}{i:Nat}(h:i∈ms)(hl:i<H.length):(kill H ms)[i]?=some .gone:=by
 induction ms generalizing H with
 |nil=>cases h
 |cons m ms ih=>
  show(kill (H.set m .gone) ms)[i]?=_;by_cases hi:i∈ms
  ·exact ih hi (by simpa using hl)
  ·rw[cU hi];rcases aq.1 h with rfl|h
   ·rw[cM hl]
   ·exact absurd h hi
theorem Gk{X:aI}{H H':ah}(h:EN X H H'=true){i:Nat}{o:Ob}(hi:i∉X)(ho:H[i]?=some o)(hg:H'[i]?=some .gone):o=.gone:=by
 have h1:=aR.1 h i (au.2 (aB.1 ho).1);rw[ho,hg,List.contains_eq_mem,hY hi,lf]at h1;cases o<;>first|rfl|cases h1
theorem BT{X:aI}{H:ah}{ms:aI}{n:ah}(h:EN X H (kill H ms++n)=true):qd X H (kill H ms++n):=by
 intro i o hi ho;have hl:=(aB.1 ho).1;have e:(kill H ms++n)[i]?=(kill H ms)[i]?:=aS (by rw[dO];exact hl);by_cases hm:i∈ms
 ·have e2:=e.trans (Eb hm hl);rw[e2,Gk h hi ho e2]
 ·rw[e,cU hm,ho]
theorem I1{X:aI}{H:ah}{ms:aI}{n:ah}{id:Nat}{b:Ob}(hid:id∈X)(h:EN X H ((kill H ms).set id b++n)=true):qd X H ((kill H ms).set id b++n):=by
 intro i o hi ho;have hne:id≠i:=fun e=>hi (e▸hid)
 have hl:=(aB.1 ho).1;have e:((kill H ms).set id b++n)[i]?=(kill H ms)[i]?:=by
  rw[aS (by rw[jy,dO];exact hl),bE hne]
 by_cases hm:i∈ms
 ·have e2:=e.trans (Eb hm hl);rw[e2,Gk h hi ho e2]
 ·rw[e,cU hm,ho]
theorem L9{X:aI}{nt:Nat}{o:Oper}{A A1:cW}{og:St}{p:tA}(hk:AP X st o.op A=true)(QA:EN X st.H og.H=true)(h:xI P nt o st A=some (og,A1,p)):((∃t d,o.dst=some t/\t<nt/\og.σ=(t,d)::st.σ)\/(o.dst=none/\og.σ=st.σ))/\qd X st.H og.H:=by
 have plain:∀ {t:Nat},o.dst=some t->(if t<nt then match wq P st o.op A with|some (d,A,ow)=>some ((⟨(t,d)::st.σ,st.H⟩:St),A,ow)|none=>none else none)=some (og,A1,p)->((∃t d,o.dst=some t/\t<nt/\og.σ=(t,d)::st.σ)\/(o.dst=none/\og.σ=st.σ))/\qd X st.H og.H:=by
  intro t hd h;split at h
  ·rename_i ht;split at h
   ·cases h;exact⟨.inl ⟨t,_,hd,ht,rfl⟩,qd.refl _⟩
   ·cases h
  ·cases h
 unfold xI at h;split at h
 case h_3=>
  rename_i T x y hop hd;rw[hop]at hk;simp only[AP]at hk;split at h
  ·rename_i id off ds h1 h2;rw[h1]at hk;split at h
   ·split at h
    ·split at h
     ·cases h;refine⟨.inr ⟨hd,rfl⟩,fun i cs hi hcs=>?_⟩;have hne:id≠i:=fun e=>hi (by subst e;simpa using hk)
      show(st.H.set id _)[i]?=_;rw[bE hne,hcs]
     ·cases h
    ·cases h
   ·cases h
  ·rename_i id i sz off ds h1 h2;rw[h1]at hk;cases hk
  ·cases h
 case h_7=>
  rename_i T len parts t hop hd;split at h
  ·split at h
   ·split at h
    ·split at h
     ·rename_i es ms hab;split at h
      ·rename_i hc;cases h;exact⟨.inl ⟨t,_,hd,hc.1,rfl⟩,BT QA⟩
      ·cases h
     ·cases h
    ·cases h
   ·cases h
  ·cases h
 case h_8=>
  rename_i c t hop hd;rw[hop]at hk;simp only[AP]at hk;split at h
  ·split at h
   ·split at h
    ·rename_i rows u1 k1 dK u2 k2 A' ow _ hS hX;split at h
     ·rename_i hc;cases h;exact⟨.inl ⟨t,_,hd,hc.1,rfl⟩,BT QA⟩
     ·cases h
    ·cases h
   ·cases h
  ·rename_i OY _ _;rw[OY]at hk;cases hk
  ·rename_i f OY;rw[OY]at hk;split at hk
   ·rename_i hb;cases hb
   ·rename_i f' d A' hb;split at h
    ·rename_i hA;cases hA
    ·rename_i hA;cases hA
    ·rename_i hA;cases hA
    ·rename_i hA;cases hA
    ·rename_i hA;cases hA
    ·rename_i hA;cases hA
    ·rename_i ds ms d' XU hv hA;split at h
     ·rename_i hc;cases h;exact⟨.inl ⟨t,_,hd,hc.1,rfl⟩,(qd.refl _).app _⟩
     ·cases h
    ·rename_i hA;cases hA
    ·rename_i hA;cases hA
    ·cases h
   ·rename_i f' nz d A' hb;generalize wu st.H (List.map st.ev c.args.toList)=q at h;rcases q with _|⟨qa,qb⟩
    all_goals
     dsimp only at h;split at h
     ·rename_i ds ms qs h9;split at h
      ·rename_i hc;cases h;exact⟨.inl ⟨t,_,hd,hc.1,rfl⟩,BT QA⟩
      ·cases h
     ·cases h
   ·rename_i f' nz cells' d A' hb;generalize wu st.H (List.map st.ev c.args.toList)=q at h;rcases q with _|⟨qa,qb⟩
    all_goals
     dsimp only at h;split at h
     ·rename_i x0 xr h5;rw[h5]at hk;split at h
      ·rename_i id h6;simp only[h6]at hk;split at h
       ·rename_i ob h7;split at h
        ·rename_i zc h8;split at h
         ·rename_i cells ds ms qs h9;split at h
          ·rename_i hc;cases h;exact⟨.inl ⟨t,_,hd,hc.1,rfl⟩,I1 (by simpa using hk) QA⟩
          ·cases h
         ·cases h
        ·cases h
       ·cases h
      ·cases h
     ·cases h
   ·cases hk
  ·exact plain hd h
 case h_13=>
  rename_i T x i t hop hd;rw[hop]at hk;simp only[AP]at hk;split at h
  ·rename_i hl;rw[hl]at hk;cases hk
  ·exact plain hd h
 case h_14=>
  rename_i T x t hop hd;rw[hop]at hk;simp only[AP]at hk;split at h
  ·rename_i hl;rw[hl]at hk;cases hk
  ·rw[aL]at hk
   replace hk:=hk.2
   split at h
   ·rename_i r A' id i sz h1;split at h
    ·rename_i n e sz' rows h2;split at h
     ·rename_i hc;cases h;refine⟨.inl ⟨t,_,hd,hc.1,rfl⟩,qd.app (fun j cs hj hcs=>?_) _⟩;have hne:id≠j:=fun e=>hj (by subst e;rw[h1]at hk;simpa using hk)
      rw[bE hne];exact hcs
     ·cases h
    ·cases h
   ·exact plain hd h
 all_goals first
  | (rename_i hop _;rw[hop]at hk;simp[AP]at hk;done)
  | (rename_i hop;rw[hop]at hk;simp[AP]at hk;done)
  |skip
 all_goals first
  |exact plain (by assumption) h
  |cases h
theorem Step.of{nt:Nat}(hnt:Γ.nt=nt){o:Oper}{A A1:cW}{og:St}{p:tA}(hg:o.guard=none)(hsel:∀cs b,o.op≠ .select cs b)(h:xI P nt o st A=some (og,A1,p))(hp:oo p):Step P Γ o st og:=by
 intro κ Θ a w hs;have h1:=Cs (P:=P) (Γ:=Γ) (all:= #[]) (rest:=[]) (Q:=fun e s=>e=.normal/\s=og) hnt hg h hp (OG ⟨rfl,rfl⟩) κ Θ a w hs;have hw:Region.wanted o (yielded #[] a.tmps)=true:=by simp[Region.wanted,hg]
 simp only[wpList,hw,kV]at h1;rcases h1 with h1|⟨_,a0,w0,mm,κ',Θ',_,hq,_⟩
 ·refine F5 hsel (fun _ _=>rfl) ?_ ?_ ?_ h1
  ·rintro v w' ⟨mm,κ',Θ',hs',_,rfl⟩;exact⟨κ',Θ',hs'⟩
  ·rintro d w' ⟨mm,κ',Θ',hs',_,rfl⟩;have:=hs'.defers;cases Tu:o.dst<;>rw[Tu]at this<;>cases this
  ·rintro e c w' ⟨mm,κ',Θ',hs',rfl,_⟩;rfl
 ·cases hq
theorem zB{X:aI}{nt:Nat}(hnt:Γ.nt=nt){K:St->Prop}{B0:St}{A2:cW}:∀ {ops:List Oper} {st:St} {A:cW} {p:tA},Bd P nt X ops st A=some (B0,A2,p)->oo p->K B0->HS P Γ X K ops st:=by
 intro ops
 induction ops with
 |nil=>intro st A p h hp hK;simp only[Bd,aP,bn]at h;obtain⟨rfl,_,_⟩:=h;exact hK
 |cons o os ih=>
  intro st A p h hp hK;simp only[Bd]at h;split at h
  ·rename_i hg hok;split at h
   ·rename_i og A1 p1 h1;split at h
    ·rename_i Mx T0 q QA h2;cases h;obtain⟨hp1,hq⟩:=hp.app;obtain⟨hd,hX⟩:=L9 hok QA h1;have hsel:∀cs b,o.op≠ .select cs b:=by
      intro cs b e;rw[e]at hok;cases hok
     exact⟨og,hd.imp (fun⟨t,d,hd,ht,hσ⟩=>⟨t,d,hd,by rw[hnt];exact ht,hσ⟩) id,hX,hg,hsel,Step.of hnt hg hsel h1 hp1,ih h2 hq hK⟩
    ·cases h
   ·cases h
  ·cases h
def LB(X:aI)(st:St)(ops:List Oper)(L:aI):Bool:=L.all fun i=>match ops[i]? with|some o=>rj X st o.op|none=>false
theorem Ch{X:aI}{st:St}{ops:List Oper}{L:aI}(h:LB X st ops L=true):∀i∈L,∀o,ops[i]?=some o->rj X st o.op=true:=by
 intro i hi o ho;have:=aR.1 h i hi;rw[ho]at this;exact this
def sW(ρ:aI)(o:Oper):Oper:= {o with after:=o.after.map fun e=> {e with on:=ρ.getD e.on 0},guard:=o.guard.map fun g=>(ρ.getD g.1 0,g.2)}
def mh(ops:Array Oper)(π ρ:aI):List Oper:=π.filterMap fun i=>(ops[i]?).map (sW ρ)
def AR(ops:Array Oper)(π ρ:aI):Bool:=
 decide (π.length=ops.size)&&(decide (ρ.length=ops.size)&&
 (((List.range ops.size).all fun i=>(match ρ[i]? with|some k=>π[k]?==some i|none=>false))&&
 (((List.range ops.size).all fun k=>(match π[k]? with|some i=>ρ[i]?==some k|none=>false))&&
 (ops.toList.all fun o=>(o.after.all fun e=>decide (e.on<ops.size))&&(match o.guard with|some g=>decide (g.1<ops.size)|none=>true)))))
theorem BH(ρ:aI)(o:Oper)(f:Operand->Value):execOp f (sW ρ o)=execOp f o:=by
 cases o;rfl
theorem LU(ρ:aI){o:Oper}{K:Act->World->Prop}{Q:Exit->Act->World->Prop}(h:(sW ρ o).wp P a w K Q):o.wp P a w K Q:=by
 unfold Oper.wp at*;rw[BH]at h;exact h
theorem FJ(ρ:aI){o:Oper}(h:(sW ρ o).asks P a w):o.asks P a w:=by
 unfold Oper.asks at*;rw[BH]at h;exact h
section
variable{ops:Array Oper}{π ρ:aI}
theorem Bh(hB:AR ops π ρ=true){k i:Nat}{o:Oper}(hk:π[k]?=some i)(ho:ops[i]?=some o):(mh ops π ρ).toArray[k]?=some (sW ρ o):=by
 simp only[AR,aL,b8]at hB;obtain⟨h1,h2,h3,h4,h5⟩:=hB;have hall:∀x∈π,∃o,ops[x]?=some o:=by
  intro x hx;obtain⟨j,hj,rfl⟩:=cY.1 hx;have:=aR.1 h4 j (au.2 (by omega));rw[aM hj]at this;simp only[bq]at this;have:=(aB.1 this).1;exact⟨_,bZ (by omega)⟩
 have key:∀(l:aI) (k:Nat),(∀x∈l,∃o,ops[x]?=some o)->l[k]?=some i->(l.filterMap fun i=>(ops[i]?).map (sW ρ))[k]?=some (sW ρ o):=by
  intro l
  induction l with
  |nil=>intro k _ h;simp at h
  |cons x l ih=>
   intro k hl h;obtain⟨ox,Hw⟩:=hl x (by simp);rw[pY];simp only[Hw,bW];cases k with
   |zero=>simp at h;subst h;rw[ho]at Hw;cases Hw;rfl
   |succ k=>simpa using ih k (fun y hy=>hl y (by simp[hy])) (by simpa using h)
 have:=key π k hall hk;simpa[mh]using this
theorem Es(hB:AR ops π ρ=true):(mh ops π ρ).toArray.size=ops.size:=by
 have Q7:=hB;simp only[AR,aL,b8]at hB;obtain⟨h1,h2,h3,h4,h5⟩:=hB;have hall:∀x∈π,∃o,ops[x]?=some o:=by
  intro x hx;obtain⟨j,hj,rfl⟩:=cY.1 hx;have:=aR.1 h4 j (au.2 (by omega));rw[aM hj]at this;simp only[bq]at this;have:=(aB.1 this).1;exact⟨_,bZ (by omega)⟩
 have key:∀(l:aI),(∀x∈l,∃o,ops[x]?=some o)->(l.filterMap fun i=>(ops[i]?).map (sW ρ)).length=l.length:=by
  intro l
  induction l with
  |nil=>intro _;rfl
  |cons x l ih=>
   intro hl;obtain⟨ox,Hw⟩:=hl x (by simp);rw[pY];simp only[Hw,bW,aT,ih (fun y hy=>hl y (by simp[hy]))]
 rw[o7,mh,key π hall,h1]
theorem KX{Q':Exit->Act->World->Prop}(hB:AR ops π ρ=true):∀(fuel:Nat) (listed listed':Array Bool) (a:Act) (w:World),listed.size=ops.size->listed'.size=ops.size->(∀(k i:Nat),π[k]?=some i->listed'.getD k false=listed.getD i false)->
 wpAny P .any (mh ops π ρ).toArray Q' fuel listed' a w->wpAny P .any ops Q' fuel listed a w:=by
 have Q7:=hB;simp only[AR,aL,b8]at Q7;obtain⟨h1,h2,h3,h4,h5⟩:=Q7;have to:∀i,i<ops.size->∃k,ρ[i]?=some k/\π[k]?=some i/\k<ops.size:=by
  intro i hi;have:=aR.1 h3 i (au.2 hi);split at this
  ·rename_i k hk;simp only[bq]at this;exact⟨k,hk,this,by have:=(aB.1 this).1;omega⟩
  ·cases this
 have back:∀k,k<ops.size->∃i,π[k]?=some i/\ρ[i]?=some k/\i<ops.size:=by
  intro k hk;have:=aR.1 h4 k (au.2 hk);split at this
  ·rename_i i hi;simp only[bq]at this;exact⟨i,hi,this,by have:=(aB.1 this).1;omega⟩
  ·cases this
 have VJ:∀(i:Nat) o,ops[i]?=some o->(∀e∈o.after,e.on<ops.size)/\∀g,o.guard=some g->g.1<ops.size:=by
  intro i o ho;have hm:o∈ops.toList:=by rw[<-fU]at ho;exact aD ho
  have:=aR.1 h5 o hm;simp only[aL]at this;refine⟨fun e he=>by simpa using nU.1 this.1 e he,fun g hg=>?_⟩;have:=this.2;rw[hg]at this;simpa using this
 have rd:∀(listed listed':Array Bool),listed.size=ops.size->listed'.size=ops.size->(∀(k i:Nat),π[k]?=some i->listed'.getD k false=listed.getD i false)->∀(k i:Nat),π[k]?=some i->(i∈Region.ready .any ops listed↔k∈Region.ready .any (mh ops π ρ).toArray listed'):=by
  intro listed listed' hs1 hs2 Ig k i hki;have hk:k<ops.size:=by have:=(aB.1 hki).1;omega
  obtain⟨i',hi',hr,hilt⟩:=back k hk;rw[hki]at hi';cases hi';have ho:ops[i]?=some ops[i]:=bZ hilt;have ho':=Bh hB hki ho;have hon:∀e∈ops[i].after,listed'.getD (ρ.getD e.on 0) false=listed.getD e.on false:=by
   intro e he;obtain⟨k2,hk2,Tn,_⟩:=to e.on ((VJ i _ ho).1 e he);rw[gW,hk2,mY];exact Ig k2 e.on Tn
  rw[mem_ready,mem_ready];constructor
  ·rintro⟨q1,o,q2,q3⟩;rw[ho]at q2;cases q2;refine⟨getD_in (by omega) (by rw[Ig k i hki];exact getD_both q1),_,ho',?_⟩;intro e he hb;simp only[sW,Array.mem_map]at he;obtain⟨e0,Ux,rfl⟩:=he;simp only;rw[hon e0 Ux];exact q3 e0 Ux hb
  ·rintro⟨q1,o,q2,q3⟩;rw[ho']at q2;cases q2;refine⟨getD_in (by omega) (by rw[<-Ig k i hki];exact getD_both q1),_,ho,?_⟩;intro e he hb;rw[<-hon e he];exact q3 {e with on:=ρ.getD e.on 0} (by simp only[sW,Array.mem_map];exact⟨e,he,rfl⟩) hb
 have lt:∀ {listed:Array Bool} {ops:Array Oper} {i:Nat},i∈Region.ready .any ops listed->i<ops.size:=by
  intro listed ops i hi;obtain⟨_,o,ho,_⟩:=mem_ready.1 hi;exact(aV.1 ho).1
 have Nb:∀(listed listed':Array Bool),listed.size=ops.size->listed'.size=ops.size->(∀(k i:Nat),π[k]?=some i->listed'.getD k false=listed.getD i false)->(Region.ready .any ops listed=[]↔Region.ready .any (mh ops π ρ).toArray listed'=[]):=by
  intro listed listed' hs1 hs2 Ig;constructor
  ·intro h;rw[dY];intro k hk;obtain⟨i,hi,_⟩:=back k (by have:=lt hk;rw[Es hB]at this;exact this);have:=(rd listed listed' hs1 hs2 Ig k i hi).2 hk;rw[h]at this;cases this
  ·intro h;rw[dY];intro i hi;obtain⟨k,_,hk,_⟩:=to i (lt hi);have:=(rd listed listed' hs1 hs2 Ig k i hk).1 hi;rw[h]at this;cases this
 intro fuel
 induction fuel with
 |zero=>
  intro listed listed' a w hs1 hs2 Ig h;exact⟨(Nb listed listed' hs1 hs2 Ig).2 h.1,h.2⟩
 |succ fuel ih=>
  intro listed listed' a w hs1 hs2 Ig h;refine⟨fun h0=>h.1 ((Nb listed listed' hs1 hs2 Ig).1 h0),fun i hi=>?_⟩;have hilt:=lt hi;obtain⟨k,Wj,hk,WX⟩:=to i hilt;have hkr:=(rd listed listed' hs1 hs2 Ig k i hk).1 hi;have ho:ops[i]?=some ops[i]:=bZ hilt;have ho':=Bh hB hk ho;have h2:=wpOp_mono (K':=wpAny P .any ops Q' fuel (listed.setIfInBounds i true)) (fun a' w' h'=>ih (listed.setIfInBounds i true) (listed'.setIfInBounds k true) a' w' (by simpa using hs1) (by simpa using hs2) (by
   intro k2 i2 Jc;by_cases e:k=k2
   ·subst e;rw[hk]at Jc;cases Jc;have g1:k<listed'.size:=by omega
    have g2:i<listed.size:=by omega
    simp[g1,g2]
   ·have e2:i≠i2:=by
     intro e3;subst e3;obtain⟨i',hi',hr',_⟩:=back k2 (by have:=(aB.1 Jc).1;omega);rw[Jc]at hi';cases hi';rw[Wj]at hr';cases hr';exact e rfl
    rw[getD_set_ne false e,getD_set_ne false e2];exact Ig k2 i2 Jc) h') (h.2 k hkr)
  have hw:Region.wanted (sW ρ ops[i]) (yielded (mh ops π ρ).toArray a.tmps)=Region.wanted ops[i] (yielded ops a.tmps):=by
   cases hg:ops[i].guard with
   |none=>simp[Region.wanted,sW,hg]
   |some g=>
    obtain⟨j,want⟩:=g;have hj:=(VJ i _ ho).2 _ hg;obtain⟨k3,U1,Tn,_⟩:=to j hj;have pG:ops[j]?=some ops[j]:=bZ hj;have Tw:=Bh hB Tn pG;have:yielded (mh ops π ρ).toArray a.tmps (ρ.getD j 0)=yielded ops a.tmps j:=by
     rw[gW,U1,mY];unfold yielded;rw[Tw,pG];rfl
    simp only[Region.wanted,sW,hg,bW];rw[this]
  unfold wpOp at h2⊢;simp only[ho',ho]at h2⊢;rw[hw]at h2;split
  ·rename_i Ik;rw[bD Ik]at h2;exact h2.imp (LU ρ) fun⟨q1,q2⟩=>⟨FJ ρ q1,q2⟩
  ·rename_i Ik;rw[ai Ik]at h2;exact h2
theorem qc.perm(hB:AR ops π ρ=true)(h:qc P Γ (mh ops π ρ).toArray Q st):qc P Γ ops Q st:=by
 intro κ Θ a w hs;have:=h κ Θ a w hs;rw[Es hB]at this;refine KX hB ops.size (Array.replicate ops.size false) (Array.replicate ops.size false) a w (by simp) (by simp) (fun k i _=>?_) this;rw[getD_replicate_false,getD_replicate_false]
end
end
end Go.Cx
namespace Go.Cx
open Go.RowKit
def pT(P:Program)(nt:Nat)(all:Array Oper):List Oper->St->cW->Option (St×cW×tA)
 | [],st,A=>(match shares A st with| (og,A1)=>some (og,A1,[]))
 |o::rest,st,A=>match o.guard with
  |none=>(match xI P nt o st A with
   |some (og,A1,p)=>(match pT P nt all rest og A1 with|some (B0,A2,q)=>some (B0,A2,p++q)|none=>none)
   |none=>none)
  |some (j,want)=>(match(all[j]?).bind (·.dst),A with
   |some s,.b v::A=>(match lk st.σ s with
    | .bool b=>(match v==want with
     |true=>(match xI P nt {o with guard:=none} st A with
      |some (og,A1,p)=>(match pT P nt all rest og A1 with|some (B0,A2,q)=>some (B0,A2,(b=v)::(p++q))|none=>none)
      |none=>none)
     |false=>(match o.dst with
      |some t=>(if t<nt then match pT P nt all rest ⟨(t,.iz [])::st.σ,st.H⟩ A with|some (B0,A2,q)=>some (B0,A2,(b=v)::q)|none=>none else none)
      |none=>(match pT P nt all rest st A with|some (B0,A2,q)=>some (B0,A2,(b=v)::q)|none=>none)))
    | .iz []=>(match o.dst with
     |some t=>(if t<nt then pT P nt all rest ⟨(t,.iz [])::st.σ,st.H⟩ A else none)
     |none=>pT P nt all rest st A)
    |_=>none)
   |_,_=>none)
def Gd(P:Program)(H:ah)(r:Nat)(σ:List (Nat×D))(o:Oper)(A:cW):Option (D×ah×cW×tA):=match o.op with
 | .call c=>(match c.callee with
  | .value (.func f)=>(match wu H (c.args.toList.map (St.ev ⟨σ,H⟩)),A with
   |some (ds,ms),.d d::A=>(if ms=[]\/d.Bg=true then some ((jG r d).1,(jG r d).2,A,[Good P f ds d])else none)
   |some (ds,ms),.ds d::A=>(if d.PU=true/\d.Bg=true then some (d.Lg,[],A,[Good P f ds d])else none)
   |_,.nl d::A=>(if(c.args.toList.map (St.ev ⟨σ,H⟩)).all AM=true then some ((jG r d).1,(jG r d).2,A,[Good P f (c.args.toList.map (St.ev ⟨σ,H⟩)) d])else none)
   |_,_=>none)
  |_=>(match wq P ⟨σ,H⟩ o.op A with|some (d,A,ow)=>some (d,[],A,ow)|none=>none))
 | .alloc T=>(match tz P T with|some zs=>some (.ptr r 0,[.box zs],A,[])|none=>none)
 | .box _ x=>(match(St.ev ⟨σ,H⟩ x).cellsOf with|some ds=>some (.ptr r 0,[.box ds],A,[])|none=>none)
 | .buildSlice T len parts=>(match wE P T with
  |some (e,sz)=>(match tz P e with
   |some zs=>(match pI (mC len sz) (List.replicate len zs).flatten (parts.toList.map fun q=>(q.1,St.ev ⟨σ,H⟩ q.2))with
    |some ds=>(match A with
     | .vw _::A=>(if 0<sz/\len*sz<=16777216/\ds.all D.Dr=true/\ds.all D.flat=true then some (.sl (chunk sz len ds),[],A,[])else none)
     |A=>(match yJ H ds with
      |some (es,ms)=>(if 0<sz/\len*sz<=16777216/\ms=[]then some (.acc r,[.row (oW (IT H e 0 ds)) e sz (chunk sz len es)],A,[])else none)
      |none=>none))
    |none=>none)
   |none=>none)
  |none=>none)
 |_=>(match wq P ⟨σ,H⟩ o.op A with|some (d,A,ow)=>some (d,[],A,ow)|none=>none)
def oc(P:Program)(nt:Nat)(all:Array Oper)(H:ah):List Oper->List (Nat×D)->ah->aI->cW->Option (List (Nat×D)×ah×cW×tA)
 | [],σ,acc,_,A=>some (σ,acc,A,[])
 |o::rest,σ,acc,U,A=>match o.dst with
  |none=>(match o.op,o.guard with
   | .store T x y,none=>(match St.ev ⟨σ,H⟩ x,(St.ev ⟨σ,H⟩ y).cellsOf with
    | .ptr id off,some ds=>(match acc[id-H.length]? with
     |some (.box zs)=>(if off=0/\H.length<=id/\id∉U/\Dh P T=true/\ds.length=qU P T/\zs.length=ds.length then oc P nt all H rest σ (acc.set (id-H.length) (.box ds)) (id::U) A else none)
     |_=>none)
    |_,_=>none)
   |_,_=>none)
  |some t=>(if t<nt then match o.guard with
   |none=>(match Gd P H (H.length+acc.length) σ o A with
    |some (d,obs,A1,p)=>(match oc P nt all H rest ((t,d)::σ) (acc++obs) U A1 with|some (σ2,E2,A2,q)=>some (σ2,E2,A2,p++q)|none=>none)
    |none=>none)
   |some (j,want)=>(match(all[j]?).bind (·.dst),A with
    |some s,.b v::A=>(match lk σ s with
     | .bool b=>(match v==want with
      |true=>(match Gd P H (H.length+acc.length) σ o A with
       |some (d,obs,A1,p)=>(match oc P nt all H rest ((t,d)::σ) (acc++obs) U A1 with|some (σ2,E2,A2,q)=>some (σ2,E2,A2,(b=v)::(p++q))|none=>none)
       |none=>none)
      |false=>(match oc P nt all H rest ((t,.iz [])::σ) acc U A with|some (σ2,E2,A2,q)=>some (σ2,E2,A2,(b=v)::q)|none=>none))
     | .iz []=>oc P nt all H rest ((t,.iz [])::σ) acc U A
     |_=>none)
    |_,_=>none)
   else none)
inductive Fr where
 |sq (c:Code)
 |bl (id:Nat)
 |lp
def depth:List Fr->Nat
 | []=>0
 | .lp::K=>depth K+1
 |_::K=>depth K
inductive T3 where
 |run (c:Code)
 |Im
 |ex (id:Nat)
inductive Stop where
 |ret (d:D)
 |lp (c:Code) (K:List Fr) (st:St)
 |cont (k:Nat) (st:St)
 |at_ (c:Code) (K:List Fr) (st:St)
def PY(P:Program)(rs:List ResultVar×List (List (Option (Nat×Nat))))(st:St):Option D:=match xG P st rs.1 with
 |some ds=>(match rB st.H rs.2 ds with|some (es,ms,qs)=>(if ms.Nodup/\qs.Nodup/\(∀m∈qs,m∉ms)then some (AQ es)else none)|none=>none)
 |none=>none
def To(A:cW)(m:Nat):Option (aI×aI):=match A with
 | .hl m' k o::_=>if m'=m then some (k,o)else none
 |_=>none
def Cn(p:tA)(x:Option (Stop×tA)):Option (Stop×tA):=match x with
 |some (s,q)=>some (s,p++q)
 |none=>none
def go(P:Program)(rf:St->Option D)(nt:Nat):Nat->T3->List Fr->St->cW->Option (Stop×tA)
 |0,_,_,_,_=>none
 |n+1,.run c,K,st,A=>(match c with
  | .skip=>go P rf nt n .Im K st A
  | .ret=>(match rf st with|some d=>some (.ret d,[])|none=>none)
  | .exit id=>go P rf nt n (.ex id) K st A
  | .seq x y=>go P rf nt n (.run x) (.sq y::K) st A
  | .block id x=>go P rf nt n (.run x) (.bl id::K) st A
  | .loop x=>(match A with
   | .cn k o::_=>(if o.Nodup then some (.lp x K (st.td k o),[])else none)
   | .pb id off e sz::A=>(match st.prom id off e sz with|some og=>(match shares A og with| (B0,A2)=>go P rf nt n (.run (.loop x)) K B0 A2)|none=>none)
   |_=>none)
  | .cond x y z=>(match st.ev x,A with
   | .bool b,.b v::A=>Cn [b=v] (go P rf nt n (.run (match v with|true=>y|false=>z)) K st A)
   |_,_=>none)
  | .region _ ops dr=>(match dr with
   |false=>(match pT P nt ops ops.toList st A with|some (og,A1,p)=>Cn p (go P rf nt n .Im K og A1)|none=>none)
   |true=>(match A with
    | .n k::A=>(match JN ops k with
     |true=>(match oc P nt ops st.H (ops.toList.take k) st.σ [] [] A with
      |some (σ1,acc,A1,p)=>(match pT P nt ops (ops.toList.drop k) ⟨σ1,st.H++acc⟩ A1 with|some (B0,A2,q)=>Cn (p++q) (go P rf nt n .Im K B0 A2)|none=>none)
      |none=>none)
     |false=>none)
    | .n2 π ρ k m L X::A=>(match AR ops π ρ,mh ops π ρ with
     |true,ops'=>(match BF ops'.toArray k m L with
      |true=>(match oc P nt ops'.toArray st.H (ops'.take k) st.σ [] [] A with
       |some (σ1,acc,A1,p)=>(match LB X ⟨σ1,st.H⟩ ops' L,Bd P nt X ((ops'.drop k).take (m-k)) ⟨σ1,st.H++acc⟩ A1 with
        |true,some (og,A2,p2)=>(match pT P nt ops'.toArray (ops'.drop m) og A2 with|some (B0,A3,q)=>Cn (p++(p2++q)) (go P rf nt n .Im K B0 A3)|none=>none)
        |_,_=>none)
       |none=>none)
      |false=>none)
     |false,_=>none)
    |_=>none))
  |_=>none)
 |n+1,.Im,K,st,A=>(match K with
  | []=>(match rf st with|some d=>some (.ret d,[])|none=>none)
  | .sq y::K=>(match To A K.length with|some (k,o)=>(if o.Nodup then some (.at_ y K (st.td k o),[])else none)|none=>go P rf nt n (.run y) K st A)
  | .bl _::K=>go P rf nt n .Im K st A
  | .lp::K=>(match A with| .cn k o::_=>(if o.Nodup then some (.cont (depth K) (st.td k o),[])else none)|_=>none))
 |n+1,.ex id,K,st,A=>(match K with
  | []=>none
  | .sq _::K=>go P rf nt n (.ex id) K st A
  | .bl i::K=>(if id=i then go P rf nt n .Im K st A else go P rf nt n (.ex id) K st A)
  | .lp::K=>go P rf nt n (.ex id) K st A)
section
variable{P:Program}{Γ:nR}{Q:Exit->St->Prop}{N:Nat->St->Prop}
def KQ(P:Program)(Γ:nR)(N:Nat->St->Prop)(Q:Exit->St->Prop):List Fr->Exit->St->Prop
 | []=>Q
 | .sq y::K=>LI (AW P Γ y (KQ P Γ N Q K)) (KQ P Γ N Q K)
 | .bl id::K=>D1 id (KQ P Γ N Q K)
 | .lp::K=>LI (fun st=>∃k o,o.Nodup/\N (depth K) (st.td k o)) (KQ P Γ N Q K)
theorem OJ:∀(K:List Fr) {st:St},Q .ret st->KQ P Γ N Q K .ret st:=by
 intro K
 induction K with
 |nil=>intro st h;exact h
 |cons f K ih=>intro st h;cases f<;>exact ih h
theorem Dy{N':Nat->St->Prop}:∀(K:List Fr),(∀d,d<depth K->N d=N' d)->KQ P Γ N Q K=KQ P Γ N' Q K:=by
 intro K
 induction K with
 |nil=>intro _;rfl
 |cons f K ih=>
  intro h;cases f with
  |sq y=>simp only[KQ];rw[ih h]
  |bl id=>simp only[KQ];rw[ih h]
  |lp=>simp only[KQ];rw[ih (fun d hd=>h d (by simp only[depth];omega)),h (depth K) (by simp only[depth];omega)]
theorem qN{nt:Nat}(hnt:Γ.nt=nt){all:Array Oper}{B0:St}{A2:cW}:∀ {ops:List Oper} {st:St} {A:cW} {p:tA},pT P nt all ops st A=some (B0,A2,p)->oo p->Q .normal B0->AO P Γ all ops Q st:=by
 intro ops
 induction ops with
 |nil=>
  intro st A p h _ hq;simp only[pT]at h;cases hsh:shares A st with
  |mk og A1=>
   rw[hsh]at h;simp only[aP,bn]at h;obtain⟨rfl,_,_⟩:=h;exact fun κ Θ a w hs=>wpList_nil ⟨_,_,_,hs.shares hsh,hq⟩
 |cons o rest ih=>
  intro st A p h hp hq;simp only[pT]at h;split at h
  ·rename_i hg;split at h
   ·rename_i og A1 p1 h1;split at h
    ·rename_i Mx T0 q h2;cases h;exact Cs hnt hg h1 hp.app.1 (ih h2 hp.app.2 hq)
    ·cases h
   ·cases h
  ·rename_i j want hg;split at h
   ·rename_i s v A1 hj;split at h
    ·rename_i b hb;split at h
     ·rename_i hv;simp only[bq]at hv;subst hv;split at h
      ·rename_i og T0 p1 h1;split at h
       ·rename_i Mx A3 q h2;cases h;refine B3 (b:=b) hg hj hb ?_ (fun _=>Cs hnt rfl h1 hp.2.app.1 (ih h2 hp.2.app.2 hq)) (fun hne=>absurd hp.1 hne);intro t ht;exact LA hnt h1 ht
       ·cases h
      ·cases h
     ·rename_i hv;split at h
      ·rename_i t hd;split at h
       ·rename_i ht;split at h
        ·rename_i Mx A3 q h2;cases h;refine B3 (b:=b) hg hj hb (fun t' ht'=>?_) (fun e=>?_) (fun _=>?_)
         ·rw[hd]at ht';cases ht';rw[hnt];exact ht
         ·exfalso;have:=hp.1;simp only[bu,ne_eq]at hv;exact hv (this.symm.trans e)
         ·rw[hd];exact ih h2 hp.2 hq
        ·cases h
       ·cases h
      ·rename_i hd;split at h
       ·rename_i Mx A3 q h2;cases h;refine B3 (b:=b) hg hj hb (fun t' ht'=>?_) (fun e=>?_) (fun _=>?_)
        ·rw[hd]at ht';cases ht'
        ·exfalso;have:=hp.1;simp only[bu,ne_eq]at hv;exact hv (this.symm.trans e)
        ·rw[hd];exact ih h2 hp.2 hq
       ·cases h
    ·rename_i hb;split at h
     ·rename_i t hd;split at h
      ·rename_i ht;refine CQ hg hj hb (fun t' ht'=>?_) ?_
       ·rw[hd]at ht';cases ht';rw[hnt];exact ht
       ·rw[hd];exact ih h hp hq
      ·cases h
     ·rename_i hd;refine CQ hg hj hb (fun t' ht'=>?_) ?_
      ·rw[hd]at ht';cases ht'
      ·rw[hd];exact ih h hp hq
    ·cases h
   ·cases h
theorem AG{H:ah}{r:Nat}{σ:List (Nat×D)}{o:Oper}{A A1:cW}{d:D}{obs:ah}{p:tA}(t:Option Nat)(u:Option (Nat×Ob))(h:Gd P H r σ o A=some (d,obs,A1,p))(hp:oo p):yH P H σ o ⟨t,d,r,obs,u⟩:=by
 have plain:∀ {x},(match wq P ⟨σ,H⟩ x A with|some (d,A,ow)=>some (d,([]:ah),A,ow)|none=>none)=some (d,obs,A1,p)->pv P ⟨σ,H⟩ x=some d/\obs=[]:=by
  intro x h;split at h
  ·rename_i d' A' ow h1;cases h;exact⟨HL h1 hp,rfl⟩
  ·cases h
 unfold Gd at h;split at h
 ·rename_i c hop;split at h
  ·rename_i f hc;split at h
   ·rename_i ds ms d' A' h1;split at h
    ·rename_i hsh;cases h;exact .inl (.inr ⟨f,_,_,ds,ms,d',hop.trans (congrArg Op.call (kB c hc rfl rfl)),.inl (by simpa using h1),hsh,hp.1,.inl rfl⟩)
    ·cases h
   ·rename_i ds ms d' A' h1;split at h
    ·rename_i tq;cases h;exact .inl (.inr ⟨f,_,_,ds,ms,d',hop.trans (congrArg Op.call (kB c hc rfl rfl)),.inl (by simpa using h1),.inr tq.2,hp.1,.inr ⟨tq.1,rfl,rfl⟩⟩)
    ·cases h
   ·rename_i d' A';split at h
    ·rename_i hk;cases h;exact .inl (.inr ⟨f,_,_,_,[],d',hop.trans (congrArg Op.call (kB c hc rfl rfl)),.inr ⟨by simpa using hk,by simp,rfl⟩,.inl rfl,hp.1,.inl rfl⟩)
    ·cases h
   ·cases h
  ·exact .inl (.inl (plain h))
 ·rename_i T hop;split at h
  ·rename_i zs hz;cases h;exact .inr (.inl (.inl ⟨T,zs,hop,hz,rfl,rfl⟩))
  ·cases h
 ·rename_i T x hop;split at h
  ·rename_i ds hc;cases h;exact .inr (.inl (.inr ⟨T,x,ds,hop,hc,rfl,rfl⟩))
  ·cases h
 ·rename_i T len parts hop;split at h
  ·rename_i e sz h1;split at h
   ·rename_i zs h2;split at h
    ·rename_i ds h3;split at h
     ·split at h
      ·rename_i hc;obtain⟨c1,c2,c3,c4⟩:=hc;cases h;exact .inr (.inr (.inr ⟨T,e,sz,len,parts,zs,ds,hop,h1,h2,c1,c2,h3,c3,c4,rfl,rfl⟩))
      ·cases h
     ·split at h
      ·rename_i es ms h4;split at h
       ·rename_i hc;obtain⟨c1,c2,rfl⟩:=hc;cases h;exact .inr (.inr (.inl ⟨T,e,sz,len,parts,zs,ds,es,hop,h1,h2,c1,c2,h3,h4,rfl,rfl⟩))
       ·cases h
      ·cases h
    ·cases h
   ·cases h
  ·cases h
 ·exact .inl (.inl (plain h))
theorem s8{nt:Nat}(hnt:Γ.nt=nt){all:Array Oper}{H:ah}{K:List (Nat×D)->ah->Prop}{σ2:List (Nat×D)}{E2:ah}{A2:cW}:∀ {ops:List Oper} {σ:List (Nat×D)} {acc:ah} {U:aI} {A:cW} {p:tA},
 oc P nt all H ops σ acc U A=some (σ2,E2,A2,p)->oo p->K σ2 E2->AE P Γ all H K ops σ acc U:=by
 subst hnt;intro ops
 induction ops with
 |nil=>
  intro σ acc U A p h _ hK;simp only[oc,aP,bn]at h;obtain⟨rfl,rfl,_,_⟩:=h;exact hK
 |cons o rest ih=>
  intro σ acc U A p h hp hK;simp only[oc]at h;split at h
  ·rename_i hd;split at h
   ·rename_i T x y hop hg;split at h
    ·rename_i id off ds h1 h2;split at h
     ·rename_i zs h3;split at h
      ·rename_i hc;obtain⟨rfl,c2,c3,c4,c5,c6⟩:=hc;exact⟨⟨none,.any,H.length+acc.length,[],some (id,.box ds)⟩,rfl,.inr ⟨rfl,rfl,hd,hg,T,x,y,id,ds,hop,h1,c2,h2,c4,c5,rfl⟩,⟨c3,c2,zs,ds,h3,rfl,c6⟩,ih h hp hK⟩
      ·cases h
     ·cases h
    ·cases h
   ·cases h
  ·rename_i t hd;split at h
   ·rename_i ht;split at h
    ·rename_i hg;split at h
     ·rename_i d obs A1 p1 h1;split at h
      ·rename_i σ3 Qb A3 q h2;cases h;exact⟨⟨some t,d,H.length+acc.length,obs,none⟩,rfl,.inl ⟨t,rfl,rfl,hd,ht,.inl ⟨hg,AG _ _ h1 hp.app.1⟩⟩,trivial,ih h2 hp.app.2 hK⟩
      ·cases h
     ·cases h
    ·rename_i j want hg;split at h
     ·rename_i s v A1 hj;split at h
      ·rename_i b hb;split at h
       ·rename_i hv;simp only[bq]at hv;subst hv;split at h
        ·rename_i d obs T0 p1 h1;split at h
         ·rename_i σ3 Qb A3 q h2;cases h;exact⟨⟨some t,d,H.length+acc.length,obs,none⟩,rfl,.inl ⟨t,rfl,rfl,hd,ht,.inr (.inl ⟨j,s,v,b,hg,hj,hb,.inl ⟨hp.1,AG _ _ h1 hp.2.app.1⟩⟩)⟩,trivial,ih h2 hp.2.app.2 hK⟩
         ·cases h
        ·cases h
       ·rename_i hv;simp only[bu,ne_eq]at hv;split at h
        ·rename_i σ3 Qb A3 q h2;cases h;refine⟨⟨some t,.iz [],H.length+acc.length,[],none⟩,rfl,.inl ⟨t,rfl,rfl,hd,ht,.inr (.inl ⟨j,s,want,b,hg,hj,hb,.inr ⟨fun e=>hv (hp.1.symm.trans e),rfl,rfl⟩⟩)⟩,trivial,?_⟩;simp only[Cp.fill,dS];exact ih h2 hp.2 hK
        ·cases h
      ·rename_i hb;refine⟨⟨some t,.iz [],H.length+acc.length,[],none⟩,rfl,.inl ⟨t,rfl,rfl,hd,ht,.inr (.inr ⟨j,s,want,hg,hj,hb,rfl,rfl⟩)⟩,trivial,?_⟩;simp only[Cp.fill,dS];exact ih h hp hK
      ·cases h
     ·cases h
   ·cases h
def FE(P:Program)(Γ:nR)(N:Nat->St->Prop)(Q:Exit->St->Prop)(d0:D):Stop->Prop
 | .ret d=>d=d0
 | .lp c K st=>AW P Γ (.loop c) (KQ P Γ N Q K) st
 | .cont k st=>N k st
 | .at_ c K st=>AW P Γ c (KQ P Γ N Q K) st
theorem Dv{c:Code}{st:St}{k o:aI}(hnd:o.Nodup)(h:AW P Γ c Q (st.td k o)):AW P Γ c Q st:=by
 intro κ Θ a w hs;obtain⟨κ',Θ',hs'⟩:=hs.td k o hnd;exact h κ' Θ' a w hs'
theorem PZ{fn:Func}{st:St}{d:D}{e:Exit}(he:e=.ret\/e=.normal){nz:List (List (Option (Nat×Nat)))}(h:PY P (fn.results.toList,nz) st=some d):J9 P fn d e st:=by
 unfold PY at h;split at h
 ·rename_i ds h1;split at h
  ·rename_i es ms qs h2;split at h
   ·rename_i hc;cases h;exact⟨he,nz,ds,es,ms,qs,h1,h2,hc.1,hc.2.1,hc.2.2,rfl⟩
   ·cases h
  ·cases h
 ·cases h
def QX(P:Program)(Γ:nR)(N:Nat->St->Prop)(Q:Exit->St->Prop)(K:List Fr)(st:St):T3->Prop
 | .run c=>AW P Γ c (KQ P Γ N Q K) st
 | .Im=>KQ P Γ N Q K .normal st
 | .ex id=>KQ P Γ N Q K (.exit id) st
theorem rH{p q:tA}{x:Option (Stop×tA)}{s:Stop}(h:Cn p x=some (s,q)):∃q',x=some (s,q')/\q=p++q':=by
 unfold Cn at h;split at h
 ·cases h;exact⟨_,rfl,rfl⟩
 ·cases h
theorem go_sound{rf:St->Option D}{d0:D}(hrf:∀st e,(e=.ret\/e=.normal)->rf st=some d0->Q e st){nt:Nat}(hnt:Γ.nt=nt)(hm:P.follows .mixedOrders=true):∀ {n:Nat} {cfg:T3} {K:List Fr} {st:St} {A:cW} {s:Stop} {p:tA},go P rf nt n cfg K st A=some (s,p)->oo p->FE P Γ N Q d0 s->QX P Γ N Q K st cfg:=by
 intro n
 induction n with
 |zero=>intro cfg K st A s p h;simp[go]at h
 |succ n ih=>
  intro cfg K st A s p h hp hs;cases cfg with
  |run c=>
   show AW P Γ c (KQ P Γ N Q K) st;cases c with
   |skip=>simp only[go]at h;exact Lv (ih h hp hs)
   |ret=>
    simp only[go]at h;split at h
    ·rename_i d hd;simp only[aP,bn]at h;obtain⟨rfl,_⟩:=h;have TV:d=d0:=hs;subst TV;exact OI (OJ K (hrf st _ (.inl rfl) hd))
    ·cases h
   |exit id=>simp only[go]at h;exact Lt (ih h hp hs)
   |seq x y=>simp only[go]at h;exact J4 (ih h hp hs)
   |block id x=>simp only[go]at h;exact J3 (ih h hp hs)
   |loop x=>
    simp only[go]at h;split at h
    ·split at h
     ·rename_i hnd;simp only[aP,bn]at h;obtain⟨rfl,_⟩:=h;exact Dv hnd hs
     ·cases h
    ·split at h
     ·rename_i A0 x0 og hst;intro κ Θ a w U6;obtain⟨κ',hs'⟩:=U6.prom hst;exact(ih h hp hs:AW P Γ (.loop x) (KQ P Γ N Q K) (shares A0 og).1) κ' Θ a w (hs'.shares (rfl:shares A0 og=((shares A0 og).1,(shares A0 og).2)))
     ·cases h
    ·cases h
   |cond x y z=>
    simp only[go]at h;split at h
    ·rename_i b v A1 hx;obtain⟨q,h1,rfl⟩:=rH h;obtain⟨hb,hp'⟩:=hp;subst hb;refine Lr hx (fun e=>?_) (fun e=>?_)
     ·subst e;exact ih h1 hp' hs
     ·subst e;exact ih h1 hp' hs
    ·cases h
   |region id ops dr=>
    simp only[go]at h;cases dr with
    |false=>
     simp only at h;split at h
     ·rename_i og A1 p1 h1;obtain⟨q,h2,rfl⟩:=rH h;have:=qN (Q:=KQ P Γ N Q K) hnt h1 hp.app.1 (ih h2 hp.app.2 hs);have hr:=HW (id:=id) (l:=ops.toList) (by simpa using this);simpa using hr
     ·cases h
    |true=>
     simp only at h;split at h
     ·rename_i k A1;split at h
      ·rename_i hB;split at h
       ·rename_i σ1 acc A2 p1 h1;split at h
        ·rename_i B0 A3 p2 h2;obtain⟨q,h3,rfl⟩:=rH h;have hq:=hp.app.1.app;have h4:=qN (Q:=KQ P Γ N Q K) hnt h2 hq.2 (ih h3 hp.app.2 hs);have h5:=s8 (Γ:=Γ) (K:=fun σ acc=>AO P Γ ops (ops.toList.drop k) (KQ P Γ N Q K) ⟨σ,st.H++acc⟩) hnt h1 hq.1 h4;have hr:=Ls (id:=id) (l:=ops.toList) (Q:=KQ P Γ N Q K) (st:=st) k hm (by simpa using hB) (by simpa using h5);simpa using hr
        ·cases h
       ·cases h
      ·cases h
     ·rename_i π ρ k m L X A1;split at h
      ·rename_i ops' TE;generalize Ol:mh ops π ρ=ops' at h;split at h
       ·rename_i hB;split at h
        ·rename_i σ1 acc A2 p1 h1;split at h
         ·rename_i og A3 p2 hst hmid;split at h
          ·rename_i B0 A4 p3 h2;obtain⟨q,h3,rfl⟩:=rH h;have hq:=hp.app.1.app;have qC:=hq.2.app;have h4:=qN (Q:=KQ P Γ N Q K) hnt h2 qC.2 (ih h3 hp.app.2 hs);have h6:=zB (Γ:=Γ) (K:=fun mm=>AO P Γ ops'.toArray (ops'.drop m) (KQ P Γ N Q K) mm) hnt hmid qC.1 h4;have h5:=s8 (Γ:=Γ) (K:=fun σ acc=>(∀i∈L,∀o,ops'[i]?=some o->rj X ⟨σ,st.H⟩ o.op=true)/\HS P Γ X (fun mm=>AO P Γ ops'.toArray (ops'.drop m) (KQ P Γ N Q K) mm) ((ops'.drop k).take (m-k)) ⟨σ,st.H++acc⟩) hnt h1 hq.1 ⟨Ch hst,h6⟩;have hr:=CS (l:=ops') (Q:=KQ P Γ N Q K) (st:=st) k m L hB h5;rw[<-Ol]at hr;exact(hr.perm TE).aw hm
          ·cases h
         ·cases h
        ·cases h
       ·cases h
      ·cases h
     ·cases h
   |_=>simp[go]at h
  |Im=>
   show KQ P Γ N Q K .normal st;simp only[go]at h;split at h
   ·split at h
    ·rename_i d hd;simp only[aP,bn]at h;obtain⟨rfl,_⟩:=h;have TV:d=d0:=hs;subst TV;exact hrf st _ (.inr rfl) hd
    ·cases h
   ·split at h
    ·split at h
     ·rename_i hnd;simp only[aP,bn]at h;obtain⟨rfl,_⟩:=h;exact Dv hnd hs
     ·cases h
    ·exact ih (cfg:=.run _) h hp hs
   ·exact ih (cfg:=.Im) h hp hs
   ·split at h
    ·split at h
     ·rename_i k o _ hnd;simp only[aP,bn]at h;obtain⟨rfl,_⟩:=h;exact⟨k,o,hnd,hs⟩
     ·cases h
    ·cases h
  |ex id=>
   show KQ P Γ N Q K (.exit id) st;simp only[go]at h;split at h
   ·cases h
   ·exact ih (cfg:=.ex id) h hp hs
   ·rename_i i K;simp only[KQ,D1];split at h
    ·rename_i e;rw[bD e];exact ih (cfg:=.Im) h hp hs
    ·rename_i e;rw[ai e];exact ih (cfg:=.ex id) h hp hs
   ·exact ih (cfg:=.ex id) h hp hs
def NK:Code->aI->List Fr->Code×List Fr
 |c,[],K=>(c,K)
 | .seq x y,i::p,K=>(match i with|0=>NK x p (.sq y::K)|_=>NK y p K)
 | .block id c,_::p,K=>NK c p (.bl id::K)
 | .cond _ x y,i::p,K=>(match i with|0=>NK x p K|_=>NK y p K)
 | .loop c,_::p,K=>NK c p (.lp::K)
 |c,_::_,K=>(c,K)
def O0(P:Program)(rs:List ResultVar×List (List (Option (Nat×Nat))))(st:St):Option D:=match xG P st rs.1,(st.H[0]?:Option Ob)with
 |some ds,some (Ob.yB cells v)=>(match rB st.H rs.2 (.agg cells::ds)with
  |some (.agg cells'::es,ms,qs)=>(if ms.Nodup/\qs.Nodup/\(∀m∈qs,m∉ms)then some (.iz [AQ es,.agg cells',.val v])else none)
  |_=>none)
 |_,_=>none
def Nz(P:Program)(rs:List ResultVar)(st:St):Option D:=match xG P st rs with
 |some [.ptr j 0]=>(match st.H[j]? with|some (.box cells)=>(if cells.all D.Dr=true then some (.agg cells)else none)|_=>none)
 |_=>none
inductive Kd where
 |q (nz:List (List (Option (Nat×Nat)))) (d:D)
 |p (nz:List (List (Option (Nat×Nat)))) (v:Value) (cells:aG) (d:D)
 |n (cells:aG)
def Kd.rf(P:Program)(fn:Func)(k:Kd)(st:St):Option D:=match k with
 | .q nz _=>PY P (fn.results.toList,nz) st
 | .p nz _ _ _=>O0 P (fn.results.toList,nz) st
 | .n _=>Nz P fn.results.toList st
def Kd.d0:Kd->D
 | .q _ d=>d
 | .p _ v cells d=>.iz [d,.agg cells,.val v]
 | .n cells=>.agg cells
def Kd.qq(P:Program)(fn:Func):Kd->Exit->St->Prop
 | .q _ d=>J9 P fn d
 | .p _ v cells d=>J8 P fn v cells d
 | .n cells=>QZ P fn cells
theorem Kd.ok{fn:Func}(k:Kd){st:St}{e:Exit}(he:e=.ret\/e=.normal)(h:k.rf P fn st=some k.d0):k.qq P fn e st:=by
 cases k with
 |q nz d=>exact PZ he h
 |p nz v cells d=>
  simp only[Kd.rf,O0,Kd.d0]at h;split at h
  ·rename_i ds D2 v' h1 h2;split at h
   ·rename_i cells' es ms qs h3;split at h
    ·rename_i hc;simp only[aP,D.iz.injEq,List.cons.injEq,D.agg.injEq,D.val.injEq,and_true]at h;obtain⟨rfl,rfl,rfl⟩:=h;exact⟨he,_,_,_,_,_,_,h1,h2,h3,hc.1,hc.2.1,hc.2.2,rfl⟩
    ·cases h
   ·cases h
  ·cases h
 |n cells=>
  simp only[Kd.rf,Nz,Kd.d0]at h;split at h
  ·rename_i j h1;split at h
   ·rename_i cells' h2;split at h
    ·rename_i hc;simp only[aP,D.agg.injEq]at h;subst h;exact⟨he,j,h1,h2,hc⟩
    ·cases h
   ·cases h
  ·cases h
theorem B4{fn:Func}{k:Kd}{nt n:Nat}{c:Code}{K:List Fr}{st:St}(A:cW)(s:Stop){p:tA}(hnt:Γ.nt=nt)(hm:P.follows .mixedOrders=true)(h:go P (k.rf P fn) nt n (.run c) K st A=some (s,p))(hp:oo p)
 (hs:FE P Γ N (k.qq P fn) k.d0 s):AW P Γ c (KQ P Γ N (k.qq P fn) K) st:=go_sound (Q:=k.qq P fn) (N:=N) (K:=K) (st:=st) (d0:=k.d0) (cfg:=.run c) (fun _ _ he h=>k.ok he h) hnt hm h hp hs
def GQ(P:Program)(Γ:nR)(c:Code)(Q:Exit->St->Prop)(n:Nat)(st:St):Prop:=
 ∀κ Θ a w,cR Γ st κ Θ a w->Code.rounds P c (fun e a' w'=>∃mm κ' Θ',cR Γ mm κ' Θ' a' w'/\Q e mm) n a w
theorem Lu{c:Code}{n:Nat}{st:St}(h:GQ P Γ c Q n st):AW P Γ (.loop c) Q st:=fun κ Θ a w hs=>wp_loop_rounds n (h κ Θ a w hs)
theorem aW{c:Code}{K:List Fr}{n:Nat}{st:St}
 (h:∀N',(∀d,d<depth K->N' d=N d)->N' (depth K)=GQ P Γ c (KQ P Γ N Q K) n->AW P Γ c (KQ P Γ N' Q (.lp::K)) st):GQ P Γ c (KQ P Γ N Q K) (n+1) st:=by
 intro κ Θ a w hs;have:=h (fun d=>if d<depth K then N d else GQ P Γ c (KQ P Γ N Q K) n) (fun d hd=>bD hd) (ai (by omega));simp only[KQ]at this;rw[ai (by omega)]at this;rw[<-Dy (N:=N) (N':=fun d=>if d<depth K then N d else GQ P Γ c (KQ P Γ N Q K) n) K (fun d hd=>(bD hd).symm)]at this;rw[rounds_succ];refine wp_mono (this κ Θ a w hs) ?_;rintro e a' w' ⟨mm,κ',Θ',hs',hq⟩;cases e with
 |normal=>
  obtain⟨k,o,hnd,W7⟩:=hq;obtain⟨κ2,Θ2,hs2⟩:=hs'.td k o hnd;exact W7 κ2 Θ2 a' w' hs2
 |exit id=>exact⟨_,_,_,hs',hq⟩
 |goto l=>exact⟨_,_,_,hs',hq⟩
 |ret=>exact⟨_,_,_,hs',hq⟩
 |panic c=>exact⟨_,_,_,hs',hq⟩
 |outgrown=>exact⟨_,_,_,hs',hq⟩
end
theorem aO{α:Type}{c:Bool}{x y:Option α}{r:α}(h:(bif c then x else y)=some r):(c=true/\x=some r)\/(c=false/\y=some r):=by
 cases c
 ·exact .inr ⟨rfl,h⟩
 ·exact .inl ⟨rfl,h⟩
theorem bp{α:Type}{c:Bool}{x:Option α}{r:α}(h:(bif c then x else none)=some r):c=true/\x=some r:=by
 cases c
 ·cases h
 ·exact⟨rfl,h⟩
theorem aE{α β:Type}{x:Option α}{f:α->Option β}{r:β}(h:x.bind f=some r):∃y,x=some y/\f y=some r:=by
 cases x with
 |none=>cases h
 |some y=>exact⟨y,rfl,h⟩
theorem aQ{α:Type}{x y:α}(h:some x=some y):x=y:=by cases h;rfl
theorem ow{p:Prop}{ps:tA}(h:p)(t:oo ps):oo (p::ps):=⟨h,t⟩
def lg{α:Type}(l:List α)(i:Int):Option α:=bif decide (0<=i)then l[i.toNat]? else none
theorem GY{α β:Type}{l:List α}{i:Int}{x:α}(f:α->β)(h:lg l i=some x):0<=i/\(l.map f)[i.toNat]?=some (f x):=by
 unfold lg at h;cases hd:decide (0<=i)with
 |false=>rw[hd]at h;cases h
 |true=>rw[hd]at h;simp only[aN]at h;exact⟨by simpa using hd,by rw[bK,h];rfl⟩
theorem OM{l:Bytes}{i:Int}{x:UInt8}(h:lg l i=some x):0<=i/\l[i.toNat]?=some x:=by
 unfold lg at h;cases hd:decide (0<=i)with
 |false=>rw[hd]at h;cases h
 |true=>rw[hd]at h;exact⟨by simpa using hd,h⟩
def fuel:Nat:=4194304
theorem xK{α:Type}{l:List α}{i:Int}{x:α}(f:α->aG)(n:Nat)(h:lg l i=some x)(hn:(f x).length=n):0<=i/\(l.map f)[i.toNat]?=some (f x)/\(f x).length=n:=⟨(GY f h).1,(GY f h).2,hn⟩
theorem ke{α:Type}{l:List α}{i:Nat}{x:α}(f:α->aG)(sz:Nat)(h:l[i]?=some x):sz=sz/\(i:Int)=((i:Nat):Int)/\i<(l.map f).length:=⟨rfl,rfl,by rw[ay];exact(aB.1 h).1⟩
theorem gU{α:Type}{l:List α}{i:Int}{x:α}(f:α->aG)(sz:Nat)(h:lg l i=some x):sz=sz/\i=((i.toNat:Nat):Int)/\i.toNat<(l.map f).length:=by
 obtain⟨h0,h1⟩:=GY f h;exact⟨rfl,by omega,(aB.1 h1).1⟩
theorem eT{α:Type}{l:List α}{i:Int}{x:α}(h:lg l i=some x):l[i.toNat]?=some x:=by
 have:=(GY (fun y=>y) h).2;simpa using this
theorem Bi{x y:Int}(k:IntKind)(h:(decide (0<=x)&&decide (0<y))=true):k=k/\0<=x/\0<y:=by simpa using h
def room(n b:Nat):Bool:=decide (n<=maxLen)&&decide (n*b<=140737488355328)
theorem cD{n b:Nat}(h:room n b=true):n<=maxLen/\n*b<=140737488355328:=by
 simp only[room,aL,b8]at h;exact h
theorem Jv{k n:Nat}(h:k<n)(hn:n<=maxLen):IntKind.i64.wrap ((k:Int)+1)=((k+1:Nat):Int):=by
 unfold maxLen at hn;rw[fT (mL.i64.2 (by omega))];omega
theorem Mc{k n:Nat}(h:k<n):decide ((k:Int)<(n:Int))=true:=by simp[h]
theorem KI{k n:Nat}(h:n<=k):decide ((k:Int)<(n:Int))=false:=by simp;omega
theorem drop_cons{α:Type}{l:List α}{k:Nat}{x:α}{xs:List α}(h:l.drop k=x::xs):l[k]?=some x/\k<l.length/\l.drop (k+1)=xs:=by
 have h1:l[k]?=some x:=by
  have:=congrArg (fun m:List α=>m[0]?) h;simpa[ck]using this
 refine⟨h1,(aB.1 h1).1,?_⟩;rw[<-dX,h];rfl
theorem drop_nil{α:Type}{l:List α}{k:Nat}(h:l.drop k=[]):l.length<=k:=by simpa using h
theorem KK{α β:Type}{l:List α}{k:Nat}{x:α}(f:α->β)(h:l[k]?=some x):0<=(k:Int)/\(l.map f)[(k:Int).toNat]?=some (f x):=⟨by omega,by simp[h]⟩
theorem cA{α:Type}{l:List α}{k:Nat}{x:α}(f:α->aG)(n:Nat)(h:l[k]?=some x)(hn:(f x).length=n):0<=(k:Int)/\(l.map f)[(k:Int).toNat]?=some (f x)/\(f x).length=n:=⟨(KK f h).1,(KK f h).2,hn⟩
theorem KJ{α β:Type}{l:List α}{k:Nat}(f:α->β)(h:k<l.length):decide ((k:Int)<((l.map f).length:Int))=true:=by rw[ay];exact Mc h
theorem I4{α β:Type}{l:List α}{k:Nat}(f:α->β)(h:l.length<=k):decide ((k:Int)<((l.map f).length:Int))=false:=by rw[ay];exact KI h
theorem cJ{α β:Type}{l:List α}{k:Nat}{x:α}(f:α->β)(h:l[k]?=some x):(l.map f)[k]?=some (f x):=by rw[bK,h];rfl
def z7{α β:Type}[BEq α](z:β)(k:α):List (α×β)->β
 | []=>z
 |p::r=>bif k==p.1 then p.2 else z7 z k r
def Md{α β:Type}[BEq α](k:α):List (α×β)->Bool
 | []=>false
 |p::r=>bif k==p.1 then true else Md k r
def BZ{α β:Type}[BEq α](k:α)(v:β):List (α×β)->List (α×β)
 | []=>[(k,v)]
 |p::r=>bif k==p.1 then(k,v)::r else p::BZ k v r
def eB(b:Bool):D:=.bool b
def kS{β:Type}(e:β->D)(p:Bytes×β):D×D:=(.str p.1,e p.2)
theorem Gj{β:Type}{e:β->D}(z:β)(k:Bytes):∀(m:List (Bytes×β)),(vh (.str k) (m.map (kS e))=some none/\Md k m=false/\z7 z k m=z)\/(vh (.str k) (m.map (kS e))=some (some (e (z7 z k m)))/\Md k m=true)
 | []=>.inl ⟨rfl,rfl,rfl⟩
 |p::r=>by
  simp only[ax,vh,kS,QG,Md,z7];cases hb:k==p.1 with
  |true=>exact .inr ⟨rfl,rfl⟩
  |false=>exact Gj z k r
theorem Ri{P:Program}{T:TypeId}{β:Type}{e:β->D}{z:β}{k:Bytes}{m:List (Bytes×β)}(hT:IR P T=some (.string,e z)):QJ P T (m.map (kS e)) (.str k) false=some (e (z7 z k m)):=by
 unfold QJ;rw[hT];rcases Gj (e:=e) z k m with⟨h1,_,h3⟩|⟨h1,_⟩
 ·simp only[xm,h1,h3,aa]
 ·simp only[xm,h1,aa]
theorem Ka{β:Type}{e:β->D}{k:Bytes}{v:β}:∀ {m:List (Bytes×β)},yw (.str k) (e v) (m.map (kS e))=some ((BZ k v m).map (kS e))
 | []=>rfl
 |p::r=>by
  simp only[ax,yw,BZ];have hq:QG (.str k) (kS e p).1=some (k==p.1):=rfl;rw[hq];cases hb:k==p.1 with
  |true=>rfl
  |false=>simp only[Ka (m:=r),bW,aa,ax]
end Go.Cx
namespace Go.Cx
open Go.RowKit
abbrev lM:=List Fr
section
variable{P:Program}{Γ:nR}{Q:Exit->St->Prop}{st:St}{a:Act}{w:World}
def C4(x:Nat)(o:Oper):Oper:= {o with after:=o.after.push ⟨x,.data⟩}
def C3(x:Nat):Nat->List Oper->List Oper
 |_,[]=>[]
 |0,o::l=>C4 x o::l
 |y+1,o::l=>o::C3 x y l
def wH(x y:Nat)(ops:Array Oper):Array Oper:=(C3 x y ops.toList).toArray
theorem E3(x:Nat):∀(l:List Oper) (y i:Nat),(C3 x y l)[i]?=if i=y then(l[i]?).map (C4 x)else l[i]?
 | [],y,i=>by simp[C3]
 |o::l,0,0=>by simp[C3]
 |o::l,0,i+1=>by simp[C3]
 |o::l,y+1,0=>by simp[C3]
 |o::l,y+1,i+1=>by simp[C3,E3 x l y i]
theorem ug(x y:Nat)(ops:Array Oper)(i:Nat):(wH x y ops)[i]?=if i=y then(ops[i]?).map (C4 x)else ops[i]?:=by
 unfold wH;rw[dM,E3,fU]
theorem E4(x:Nat):∀(l:List Oper) (y:Nat),(C3 x y l).length=l.length
 | [],y=>by cases y<;>rfl
 |_::_,0=>rfl
 |_::l,y+1=>by simp[C3,E4 x l y]
theorem He(x y:Nat)(ops:Array Oper):(wH x y ops).size=ops.size:=by unfold wH;simp[E4]
theorem CT(x:Nat)(o:Oper)(f:Operand->Value):execOp f (C4 x o)=execOp f o:=by
 cases o;rfl
theorem N7(x:Nat){o:Oper}{K:Act->World->Prop}{Q':Exit->Act->World->Prop}(h:(C4 x o).wp P a w K Q'):o.wp P a w K Q':=by
 unfold Oper.wp at*;rw[CT]at h;exact h
theorem Hh(x:Nat){o:Oper}(h:(C4 x o).asks P a w):o.asks P a w:=by
 unfold Oper.asks at*;rw[CT]at h;exact h
theorem Dn(x y:Nat)(ops:Array Oper)(t:Array Value):yielded (wH x y ops) t=yielded ops t:=by
 funext j
 unfold yielded;rw[ug];by_cases e:j=y
 ·rw[bD e];cases ops[j]?<;>rfl
 ·rw[ai e]
theorem si{x y i:Nat}{ops:Array Oper}{K:Act->World->Prop}{Q':Exit->Act->World->Prop}(h:wpOp P (wH x y ops) Q' i K a w):wpOp P ops Q' i K a w:=by
 unfold wpOp at*;rw[ug,Dn]at h;by_cases e:i=y
 ·rw[bD e]at h;cases ho:ops[i]? with
  |none=>simpa[ho]using h
  |some o=>
   simp only[ho,bW]at h⊢;have hw:Region.wanted (C4 x o) (yielded ops a.tmps)=Region.wanted o (yielded ops a.tmps):=rfl;rw[hw]at h;split
   ·rename_i hq;rw[bD hq]at h;exact h.imp (N7 x) fun⟨q1,q2⟩=>⟨Hh x q1,q2⟩
   ·rename_i hq;rw[ai hq]at h;exact h
 ·rw[ai e]at h;exact h
theorem II{x y i:Nat}{ops:Array Oper}{listed:Array Bool}(h:i∈Region.ready .any (wH x y ops) listed):i∈Region.ready .any ops listed:=by
 obtain⟨h1,o,h2,h3⟩:=mem_ready.1 h;rw[ug]at h2;by_cases e:i=y
 ·rw[bD e]at h2;cases ho:ops[i]? with
  |none=>rw[ho]at h2;cases h2
  |some o'=>
   rw[ho]at h2;cases h2;exact mem_ready.2 ⟨h1,o',ho,fun e he hb=>h3 e (by simp only[C4,Array.mem_push];exact .inl he) hb⟩
 ·rw[ai e]at h2;exact mem_ready.2 ⟨h1,o,h2,h3⟩
theorem nv{x y i:Nat}{ops:Array Oper}{listed:Array Bool}(h:i∈Region.ready .any ops listed)(hy:i≠y\/listed.getD x false=true):i∈Region.ready .any (wH x y ops) listed:=by
 obtain⟨h1,o,h2,h3⟩:=mem_ready.1 h;by_cases e:i=y
 ·refine mem_ready.2 ⟨h1,C4 x o,by rw[ug,bD e,h2];rfl,fun e' he hb=>?_⟩;simp only[C4,Array.mem_push]at he;rcases he with he|rfl
  ·exact h3 e' he hb
  ·rcases hy with hy|hy
   ·exact absurd e hy
   ·exact hy
 ·exact mem_ready.2 ⟨h1,o,by rw[ug,ai e];exact h2,h3⟩
theorem Bk{x y:Nat}{ops:Array Oper}{listed:Array Bool}(h:Region.ready .any ops listed=[]):Region.ready .any (wH x y ops) listed=[]:=by
 rw[dY]at*;exact fun i hi=>h i (II hi)
theorem Ft{listed:Array Bool}{i x:Nat}(h:listed.getD x false=true):(listed.setIfInBounds i true).getD x false=true:=by
 by_cases e:i=x
 ·subst e;have:i<listed.size:=by
   rcases cP i listed.size with h1|h1
   ·exact h1
   ·simp[h1]at h
  simp[this]
 ·rw[getD_set_ne false e];exact h
theorem wpAny_done{x y:Nat}{ops:Array Oper}{Q':Exit->Act->World->Prop}:∀(fuel:Nat) (listed:Array Bool) (a:Act) (w:World),listed.getD x false=true->wpAny P .any (wH x y ops) Q' fuel listed a w->wpAny P .any ops Q' fuel listed a w
 |0,listed,a,w,hx,h=>by
  refine⟨?_,h.2⟩;rw[dY];intro i hi;have:=nv (y:=y) hi (.inr hx);rw[h.1]at this;cases this
 |fuel+1,listed,a,w,hx,h=>by
  refine⟨fun h0=>h.1 (Bk h0),fun i hi=>?_⟩;exact si (wpOp_mono (fun a' w' h'=>wpAny_done fuel _ a' w' (Ft hx) h') (h.2 i (nv hi (.inr hx))))
def DR:Op->Bool
 | .move _=>true
 | .assign _=>true
 | .pick _ _ _=>true
 | .alloc _=>true
 | .box _ _=>true
 | .build _ _=>true
 | .buildSlice _ _ _=>true
 | .load _ _=>true
 | .store _ _ _=>true
 | .binOp _ _ _ _ _=>true
 | .unOp _ _ _=>true
 | .slice _ _ _ _ _=>true
 | .fieldAddr _ _ _=>true
 | .indexAddr _ _ _=>true
 |_=>false
theorem IS{o:Oper}{K1 K2:Act->World->Prop}{Q':Exit->Act->World->Prop}{r:Result Next}(hr:(∃v w',r=.ok (.value v) w')\/(∃w',r=.ok .skip w')\/∃x w',r=.halt x w')(h1:o.upon P a K1 Q' r)(h2:o.upon P a K2 Q' r):o.upon P a (fun a w=>K1 a w/\K2 a w) Q' r:=by
 rcases hr with⟨v,w',rfl⟩|⟨w',rfl⟩|⟨x,w',rfl⟩
 ·exact⟨h1,h2⟩
 ·exact⟨h1,h2⟩
 ·cases x<;>exact h1
theorem S4(s:Sem Value)(w:World):(∃v w',(do pure (.value (<-s)):Sem Next).run P w=.ok (.value v) w')\/∃x w',(do pure (.value (<-s)):Sem Next).run P w=.halt x w':=by
 simp only[Sem.run_bind];cases s.run P w with
 |ok v w'=>exact .inl ⟨v,w',by simp⟩
 |halt x w'=>exact .inr ⟨x,w',by simp⟩
theorem S3(s:Sem Unit)(w:World):(∃w',(do s;pure .skip:Sem Next).run P w=.ok .skip w')\/∃x w',(do s;pure .skip:Sem Next).run P w=.halt x w':=by
 simp only[Sem.run_bind];cases s.run P w with
 |ok v w'=>exact .inl ⟨w',by simp⟩
 |halt x w'=>exact .inr ⟨x,w',by simp⟩
theorem EG{o:Oper}(h:DR o.op=true)(f:Operand->Value)(w:World):(∃v w',(execOp f o).run P w=.ok (.value v) w')\/(∃w',(execOp f o).run P w=.ok .skip w')\/∃x w',(execOp f o).run P w=.halt x w':=by
 have hv:∀s:Sem Value,(∃v w',(do pure (.value (<-s)):Sem Next).run P w=.ok (.value v) w')\/(∃w',(do pure (.value (<-s)):Sem Next).run P w=.ok .skip w')\/∃x w',(do pure (.value (<-s)):Sem Next).run P w=.halt x w':=fun s=>(S4 s w).imp id .inr
 have hu:∀s:Sem Unit,(∃v w',(do s;pure .skip:Sem Next).run P w=.ok (.value v) w')\/(∃w',(do s;pure .skip:Sem Next).run P w=.ok .skip w')\/∃x w',(do s;pure .skip:Sem Next).run P w=.halt x w':=fun s=>.inr (S3 s w)
 have hp:∀c x y:Value,(∃v w',(do pure (.value (if<-asBool c then x else y)):Sem Next).run P w=.ok (.value v) w')\/(∃w',(do pure (.value (if<-asBool c then x else y)):Sem Next).run P w=.ok .skip w')\/∃z w',(do pure (.value (if<-asBool c then x else y)):Sem Next).run P w=.halt z w':=by
  intro c x y;simp only[Sem.run_bind];cases(asBool c).run P w with
  |ok v w'=>exact .inl ⟨if v then x else y,w',by simp⟩
  |halt z w'=>exact .inr (.inr ⟨z,w',by simp⟩)
 unfold execOp;cases hop:o.op<;>rw[hop]at h<;>try(cases h)
 all_goals first|exact .inl ⟨_,_,rfl⟩|exact hp _ _ _|exact hv _|exact hu _
theorem IW{i:Nat}{ops:Array Oper}{K1 K2:Act->World->Prop}{Q':Exit->Act->World->Prop}(hn:∀o,ops[i]?=some o->DR o.op=true)(h1:wpOp P ops Q' i K1 a w)(h2:wpOp P ops Q' i K2 a w):wpOp P ops Q' i (fun a w=>K1 a w/\K2 a w) a w:=by
 unfold wpOp at*;cases ho:ops[i]? with
 |none=>simp only[ho]at h1 h2⊢;exact⟨h1,h2⟩
 |some o=>
  simp only[ho]at h1 h2⊢;split
  ·rename_i hq;rw[bD hq]at h1 h2;rcases h1 with h1|h1
   ·rcases h2 with h2|h2
    ·exact .inl (IS (EG (hn o ho) _ _) h1 h2)
    ·exact .inr h2
   ·exact .inr h1
  ·rename_i hq;rw[ai hq]at h1 h2;exact⟨h1,h2⟩
def Rz(x y:Nat)(ops:Array Oper):Bool:= !(x==y)&&(List.range ops.size).all fun i=>i==x||i==y||(match ops[i]? with|some o=>DR o.op||o.after.any (fun e=>Region.binds .any e&&(e.on==x||e.on==y))|none=>true)
theorem F4{x y:Nat}{ops:Array Oper}{Q':Exit->Act->World->Prop}(hB:Rz x y ops=true):∀(fuel:Nat) (listed:Array Bool) (a:Act) (w:World),listed.size=ops.size->listed.getD x false=false->listed.getD y false=false->
 wpAny P .any (wH x y ops) Q' fuel listed a w->wpAny P .any (wH y x ops) Q' fuel listed a w->wpAny P .any ops Q' fuel listed a w
 |0,listed,a,w,hs,hx,hy,h1,h2=>by
  refine⟨?_,h1.2⟩;rw[dY];intro i hi;simp only[Rz,aL,j0,bu,ne_eq]at hB;by_cases e:i=y
  ·have:=nv (x:=y) (y:=x) hi (.inl (by rw[e];exact fun h=>hB.1 h.symm));rw[h2.1]at this;cases this
  ·have:=nv (x:=x) (y:=y) hi (.inl e);rw[h1.1]at this;cases this
 |fuel+1,listed,a,w,hs,hx,hy,h1,h2=>by
  have Q7:=hB;simp only[Rz,aL,j0,bu,ne_eq]at Q7;obtain⟨hxy,hall⟩:=Q7;refine⟨fun h0=>h1.1 (Bk h0),fun i hi=>?_⟩;have hlt:i<ops.size:=by
   obtain⟨_,o,ho,_⟩:=mem_ready.1 hi;exact(aV.1 ho).1
  have jw:(listed.setIfInBounds i true).getD i false=true:=by
   have:i<listed.size:=by omega
   simp[this]
  by_cases ex:i=x
  ·have h:=h1.2 i (nv hi (.inl (by rw[ex];exact hxy)));rw[ex]at jw h⊢;exact si (wpOp_mono (fun a' w' h'=>wpAny_done fuel _ a' w' jw h') h)
  by_cases ey:i=y
  ·have h:=h2.2 i (nv hi (.inl (by rw[ey];exact fun q=>hxy q.symm)));rw[ey]at jw h⊢;exact si (wpOp_mono (fun a' w' h'=>wpAny_done fuel _ a' w' jw h') h)
  have hn:∀o,ops[i]?=some o->DR o.op=true:=by
   intro o ho;have:=aR.1 hall i (au.2 hlt);simp only[ho,hO,bq,ex,ey,false_or]at this;rcases this with h|h
   ·exact h
   ·exfalso;obtain⟨_,o',ho',hw⟩:=mem_ready.1 hi;rw[ho]at ho';cases ho';obtain⟨e,he,hb⟩:=Array.any_eq_true'.1 h;simp only[aL,hO,bq]at hb;have hl:=hw e he hb.1;rcases hb.2 with q|q
    ·rw[q,hx]at hl;cases hl
    ·rw[q,hy]at hl;cases hl
  have k1:=si (h1.2 i (nv hi (.inl ey)));have k2:=si (h2.2 i (nv hi (.inl ex)));refine wpOp_mono (fun a' w' h'=>F4 hB fuel _ a' w' (by simpa using hs) ?_ ?_ h'.1 h'.2) (IW hn k1 k2)
  ·rw[getD_set_ne false (fun h=>ex h)];exact hx
  ·rw[getD_set_ne false (fun h=>ey h)];exact hy
theorem qc.or{x y:Nat}{ops:Array Oper}(hB:Rz x y ops=true)(h1:qc P Γ (wH x y ops) Q st)(h2:qc P Γ (wH y x ops) Q st):qc P Γ ops Q st:=by
 intro κ Θ a w hs;have k1:=h1 κ Θ a w hs;have k2:=h2 κ Θ a w hs;rw[He]at k1 k2;exact F4 hB ops.size (Array.replicate ops.size false) a w (by simp) (getD_replicate_false _ _) (getD_replicate_false _ _) k1 k2
theorem OR{N:Nat->St->Prop}{fn:Func}{kd:Kd}{nt n id:Nat}{ops:Array Oper}{K:lM}{A:cW}(s:Stop){p:tA}(hnt:Γ.nt=nt)(hm:P.follows .mixedOrders=true)
 (h:go P (kd.rf P fn) nt (n+1) (.run (.region id ops true)) K st A=some (s,p)) (hA:∃π ρ k m L X A1,A=.n2 π ρ k m L X::A1) (hp:oo p) (hs:FE P Γ N (kd.qq P fn) kd.d0 s):qc P Γ ops (KQ P Γ N (kd.qq P fn) K) st:=by
 obtain⟨π,ρ,k,m,L,X,A1,rfl⟩:=hA
 ·simp only[go]at h;split at h
  ·rename_i ops' TE;generalize Ol:mh ops π ρ=ops' at h;split at h
   ·rename_i hB;split at h
    ·rename_i σ1 acc A2 p1 h1;split at h
     ·rename_i og A3 p2 hst hmid;split at h
      ·rename_i B0 A4 p3 h2;obtain⟨q,h3,rfl⟩:=rH h;have hq:=hp.app.1.app;have qC:=hq.2.app;have h4:=qN (Q:=KQ P Γ N (kd.qq P fn) K) hnt h2 qC.2 (go_sound (Q:=kd.qq P fn) (N:=N) (K:=K) (d0:=kd.d0) (cfg:=.Im) (fun _ _ he h=>kd.ok he h) hnt hm h3 hp.app.2 hs);have h6:=zB (Γ:=Γ) (K:=fun mm=>AO P Γ ops'.toArray (ops'.drop m) (KQ P Γ N (kd.qq P fn) K) mm) hnt hmid qC.1 h4;have h5:=s8 (Γ:=Γ) (K:=fun σ acc=>(∀i∈L,∀o,ops'[i]?=some o->rj X ⟨σ,st.H⟩ o.op=true)/\HS P Γ X (fun mm=>AO P Γ ops'.toArray (ops'.drop m) (KQ P Γ N (kd.qq P fn) K) mm) ((ops'.drop k).take (m-k)) ⟨σ,st.H++acc⟩) hnt h1 hq.1 ⟨Ch hst,h6⟩;have hr:=CS (l:=ops') (Q:=KQ P Γ N (kd.qq P fn) K) (st:=st) k m L hB h5;rw[<-Ol]at hr;exact hr.perm TE
      ·cases h
     ·cases h
    ·cases h
   ·cases h
  ·cases h
def KW:Code->Array Oper
 | .region _ ops _=>ops
 | .seq (.region _ ops _) _=>ops
 |_=> #[]
def JM:Code->Bool
 | .region _ _ dr=>dr
 | .seq (.region _ _ dr) _=>dr
 |_=>false
def Qh(c:Code)(K:lM):lM:=match c with
 | .seq (.region _ _ _) y=>.sq y::K
 |_=>K
theorem QT{N:Nat->St->Prop}{Q:Exit->St->Prop}{c:Code}{K:lM}(hm:P.follows .mixedOrders=true)(i j:Nat)(hd:JM c=true)(hB:Rz i j (KW c)=true)(h1:qc P Γ (wH i j (KW c)) (KQ P Γ N Q (Qh c K)) st)(h2:qc P Γ (wH j i (KW c)) (KQ P Γ N Q (Qh c K)) st):AW P Γ c (KQ P Γ N Q K) st:=by
 have h:=qc.or hB h1 h2;unfold JM at hd;split at hd
 ·subst hd;exact h.aw hm
 ·subst hd;exact J4 (h.aw hm)
 ·cases hd
end
end Go.Cx
namespace Go.Cx
open Go.RowKit
section
variable{P:Program}{Γ:nR}{Q:Exit->St->Prop}{st:St}{κ κ':Nat->Option Value}{Θ Θ':Nat->Nat}{a:Act}{w w':World}{all:Array Oper}{rest:List Oper}
end
end Go.Cx
namespace Go.Cx
open Go.RowKit Go.Proofs Tryz
structure ar where
 rel:Bytes
 args:aC
 deriving DecidableEq
structure bh where
 var:Bytes
 value:Bytes
 deriving DecidableEq
structure aK where
 kind:Int
 pat:ar
 left:Bytes
 right:Bytes
 deriving DecidableEq
structure Action where
 kind:Int
 pat:ar
 deriving DecidableEq
structure aH where
 name:Bytes
 prio:Int
 conds:List aK
 bR:List Action
 deriving DecidableEq
structure iX where
 facts:List ar
 bind:List bh
 deriving DecidableEq
structure jE where
 rule:Bytes
 facts:List ar
 bind:List bh
 deriving DecidableEq
structure bS where
 shape:ar
 facts:List ar
 deriving DecidableEq
structure Node where
 parent:Int
 cond:aK
 Qc:Int
 tokens:List iX
 deriving DecidableEq
structure bA where
 rules:List aH
 ends:bC
 eE:List bS
 nodes:List Node
 facts:List ar
 ld:Int
 deriving DecidableEq
structure jR where
 fact:ar
 time:Int
 deriving DecidableEq
structure T5 where
 rule:Bytes
 times:bC
 deriving DecidableEq
structure T4 where
 X1:jE
 prio:Int
 times:bC
 spec:Int
 order:Int
 deriving DecidableEq
structure bz where
 b:bC
 i:Int
 h:Int
 deriving DecidableEq
abbrev tx(s:Bytes):List D:=[.str s]
abbrev yA(n:Int):List D:=[.int .i64 n]
abbrev bx(b:Bool):List D:=[.bool b]
abbrev yx(n:Int):List D:=[.int .u8 n]
abbrev dT(l:List Bytes):D:=.sl (l.map tx)
abbrev dI(l:List Int):D:=.sl (l.map yA)
abbrev ar.c(x:ar):List D:=[.str x.rel,dT x.args]
abbrev bh.c(x:bh):List D:=[.str x.var,.str x.value]
abbrev aK.c(x:aK):List D:=[.int .i64 x.kind,.str x.pat.rel,dT x.pat.args,.str x.left,.str x.right]
abbrev Action.c(x:Action):List D:=[.int .i64 x.kind,.str x.pat.rel,dT x.pat.args]
abbrev aH.c(x:aH):List D:=[.str x.name,.int .i64 x.prio,.sl (x.conds.map aK.c),.sl (x.bR.map Action.c)]
abbrev iX.c(x:iX):List D:=[.sl (x.facts.map ar.c),.sl (x.bind.map bh.c)]
abbrev jE.c(x:jE):List D:=[.str x.rule,.sl (x.facts.map ar.c),.sl (x.bind.map bh.c)]
abbrev bS.c(x:bS):List D:=[.str x.shape.rel,dT x.shape.args,.sl (x.facts.map ar.c)]
abbrev Node.c(x:Node):List D:=[.int .i64 x.parent,.int .i64 x.cond.kind,.str x.cond.pat.rel,dT x.cond.pat.args,.str x.cond.left,.str x.cond.right,.int .i64 x.Qc,.sl (x.tokens.map iX.c)]
abbrev bA.c(x:bA):List D:=[.sl (x.rules.map aH.c),dI x.ends,.sl (x.eE.map bS.c),.sl (x.nodes.map Node.c),.sl (x.facts.map ar.c),.int .i64 x.ld]
abbrev jR.c(x:jR):List D:=[.str x.fact.rel,dT x.fact.args,.int .i64 x.time]
abbrev bz.c(x:bz):List D:=[.sl (x.b.map yx),.int .i64 x.i,.int .i64 x.h]
def ul(fn:Func):Code:=match fn.body with
 |some c=>c
 |none=>.skip
theorem PO:prog.follows .mixedOrders=true:=by kernel_rfl
theorem T1{P:Program}{Γ:nR}{Q:Exit->St->Prop}{N N':Nat->St->Prop}{c:Code}{K K0:lM}{st:St}(hd:depth K=depth K0)(hN:∀d,d<depth K0->N' d=N d)(t:AW P Γ c (KQ P Γ N Q K) st):AW P Γ c (KQ P Γ N' Q K) st:=by
 rw[Dy (N:=N') (N':=N) K (fun d h=>hN d (by omega))];exact t
theorem QU{P:Program}{Γ:nR}{Q:Exit->St->Prop}{c:Code}{s s':St}(h:s=s')(t:AW P Γ c Q s'):AW P Γ c Q s:=by rw[h];exact t
abbrev bT:An:=.b true
abbrev bF:An:=.b false
structure Pre(A:List An)(p:tA):Prop where
 h:oo p
theorem aX:Pre [] []:=⟨trivial⟩
theorem oo.join{p q:tA}(h:oo p)(k:oo q):oo (p++q):=by
 induction p with
 |nil=>exact k
 |cons x p ih=>exact⟨h.1,ih h.2⟩
theorem Pre.ext{A:cW}{p:tA}(o:Pre A p)(B:cW){q:tA}(hq:oo q):Pre (A++B) (p++q):=⟨o.h.join hq⟩
section
variable{A:cW}{p:tA}
theorem Pre.b(o:Pre A p){c v:Bool}(h:c=v):Pre (A++[.b v]) (p++[c=v]):=o.ext _ ⟨h,trivial⟩
theorem Pre.r(o:Pre A p)(n:Nat){c v:Bool}(h:c=v):Pre (A++List.replicate n (.b v)) (p++List.replicate n (c=v)):=o.ext _ (by
 induction n with
 |zero=>trivial
 |succ n ih=>exact⟨h,ih⟩)
theorem Pre.T(o:Pre A p)(n:Nat):Pre (A++List.replicate n bT) (p++List.replicate n (true=true)):=o.r n rfl
theorem Pre.F(o:Pre A p)(n:Nat):Pre (A++List.replicate n bF) (p++List.replicate n (false=false)):=o.r n rfl
theorem Pre.g(o:Pre A p){f:FuncId}{ds:aG}{d:D}(h:Good prog f ds d):Pre (A++[.d d]) (p++[Good prog f ds d]):=o.ext _ ⟨h,trivial⟩
theorem Pre.hp(o:Pre A p)(nz:List (List (Option (Nat×Nat)))){f:FuncId}{cells cells' ds:aG}{d:D}(h:iA prog f cells cells' ds d):Pre (A++[.gp nz cells' d]) (p++[iA prog f cells cells' ds d]):=o.ext _ ⟨h,trivial⟩
theorem Pre.hn(o:Pre A p){f:FuncId}{ds cells:aG}(h:yI prog f ds cells):Pre (A++[.dn cells]) (p++[yI prog f ds cells]):=o.ext _ ⟨h,trivial⟩
theorem Pre.w(o:Pre A p){q:Prop}(h:q):Pre (A++[]) (p++[q]):=o.ext _ ⟨h,trivial⟩
theorem Pre.a(o:Pre A p)(B:cW):Pre (A++B) (p++[]):=o.ext _ (q:=[]) trivial
theorem Pre.l(o:Pre A p){n:Int}{rows:List aG}{r:aG}{sz:Nat}(h:0<=n/\rows[n.toNat]?=some r/\r.length=sz):Pre (A++[.row r]) (p++[0<=n/\rows[n.toNat]?=some r/\r.length=sz]):=o.ext _ ⟨h,trivial⟩
theorem Pre.i(o:Pre A p){sz sz' m k:Nat}{n:Int}(h:sz=sz'/\n=((k:Nat):Int)/\k<m):Pre (A++[.ix k]) (p++[sz=sz'/\n=((k:Nat):Int)/\k<m]):=o.ext _ ⟨h,trivial⟩
theorem Pre.o(o:Pre A p)(sz n:Nat)(k:RK){rows:List aG}{i:Nat}{r:aG}(h:rows[i]?=some r)(hk:k.DT=true:=by kernel_rfl)(hn:Nat.ble n sz=true:=by kernel_rfl):Pre (A++[.row r]) (p++[sz=sz/\k.DT=true/\rows[i]?=some r/\n<=sz]):=o.ext _ ⟨⟨rfl,hk,h,jr hn⟩,trivial⟩
theorem Pre.c(o:Pre A p){s:Bytes}{i:Int}{b:UInt8}(h:lg s i=some b):Pre (A++[.ch b]) (p++[0<=i/\s[i.toNat]?=some b]):=o.ext _ ⟨OM h,trivial⟩
theorem Pre.lt{α:Type}{l xs:List α}{i:Nat}{x:α}(o:Pre A p)(f:α->aG)(h:l.drop i=x::xs):Pre (A++[bT]) (p++[decide ((i:Int)<((l.map f).length:Int))=true]):=o.b (KJ f (drop_cons h).2.1)
theorem Pre.ge{α:Type}{l:List α}{i:Nat}(o:Pre A p)(f:α->aG)(h:l.drop i=[]):Pre (A++[bF]) (p++[decide ((i:Int)<((l.map f).length:Int))=false]):=o.b (I4 f (drop_nil h))
end
theorem dc{α:Type}{l:List α}{k:Nat}{x:α}{xs:List α}(h:l.drop k=x::xs):l[k]?=some x:=(drop_cons h).1
theorem dn{α:Type}{l:List α}{k:Nat}{x:α}{xs:List α}(h:l.drop k=x::xs):l.drop (k+1)=xs:=(drop_cons h).2.2
theorem iS{α:Type}{l:List α}{k:Nat}{x:α}{xs:List α}(h:l.drop k=x::xs)(hn:l.length<=maxLen):IntKind.i64.wrap ((k:Int)+1)=((k+1:Nat):Int):=Jv (drop_cons h).2.1 hn
theorem OO{n:Int}{m:Nat}(h:(decide (0<=n)&&decide (n.toNat<=m))=true):n=((n.toNat:Nat):Int)/\n.toNat<=m:=by
 simp only[aL,b8]at h;exact⟨by omega,h.2⟩
theorem mA{α β:Type}(f:α->β):(∀a b:List α,(a++b).map f=a.map f++b.map f)/\(∀(x:α) (a:List α),(x::a).map f=f x::a.map f)/\([]:List α).map f=[]/\(∀(l:List α) (i:Nat) (x:α),(l.set i x).map f=(l.map f).set i (f x))/\(∀(n:Nat) (x:α),(List.replicate n x).map f=List.replicate n (f x))/\(∀(l:List α) (n:Nat),(l.take n).map f=(l.map f).take n):=
 ⟨fun _ _=>az,fun _ _=>rfl,rfl,fun _ _ _=>List.map_set,fun _ _=>List.map_replicate,fun _ _=>bU⟩
section
variable{Γ:nR}{N N1:Nat->St->Prop}{fn:Func}{k:Kd}{nt:Nat}{A:cW}{p:tA}{c c':Code}{K K' K0:lM}{st mm:St}
theorem Pre.ret(o:Pre A p)(hnt:Γ.nt=nt)(h:go prog (k.rf prog fn) nt 2000 (.run c) K st A=some (.ret k.d0,p):=by kernel_rfl):AW prog Γ c (KQ prog Γ N (k.qq prog fn) K) st:=B4 (n:=2000) A _ hnt PO h o.h rfl
theorem Pre.rts(o:Pre A p)(hnt:Γ.nt=nt)(d:D)(hd:d=k.d0)(h:go prog (k.rf prog fn) nt 2000 (.run c) K st A=some (.ret d,p):=by kernel_rfl):AW prog Γ c (KQ prog Γ N (k.qq prog fn) K) st:=B4 (n:=2000) A _ hnt PO h o.h hd
theorem Pre.cs(o:Pre A p)(hnt:Γ.nt=nt){n:Nat}(hS:N1 (depth K')=GQ prog Γ c' (KQ prog Γ N (k.qq prog fn) K') n)(S:St)(e:S=mm)(t:GQ prog Γ c' (KQ prog Γ N (k.qq prog fn) K') n mm)
 (h:go prog (k.rf prog fn) nt 2000 (.run c) K st A=some (.cont (depth K') S,p):=by kernel_rfl):AW prog Γ c (KQ prog Γ N1 (k.qq prog fn) K) st:=B4 (n:=2000) A _ hnt PO h o.h ((congrFun hS _).mpr (by rw[e];exact t))
theorem Pre.cf(o:Pre A p)(hnt:Γ.nt=nt){n:Nat}(hS:N1 (depth K')=GQ prog Γ c' (KQ prog Γ N (k.qq prog fn) K') n)(t:GQ prog Γ c' (KQ prog Γ N (k.qq prog fn) K') n mm)
 (h:go prog (k.rf prog fn) nt 2000 (.run c) K st A=some (.cont (depth K') mm,p):=by kernel_rfl):AW prog Γ c (KQ prog Γ N1 (k.qq prog fn) K) st:=o.cs hnt hS _ rfl t h
theorem Pre.ct(o:Pre A p)(hnt:Γ.nt=nt){n i:Nat}{S:Int->St}(hS:N1 (depth K')=GQ prog Γ c' (KQ prog Γ N (k.qq prog fn) K') n)(hi:IntKind.i64.wrap ((i:Int)+1)=((i+1:Nat):Int))(t:GQ prog Γ c' (KQ prog Γ N (k.qq prog fn) K') n (S ((i+1:Nat):Int)))
 (h:go prog (k.rf prog fn) nt 2000 (.run c) K st A=some (.cont (depth K') (S (IntKind.i64.wrap ((i:Int)+1))),p):=by kernel_rfl):AW prog Γ c (KQ prog Γ N1 (k.qq prog fn) K) st:=o.cs hnt hS _ (congrArg S hi) t h
theorem Pre.Vt(o:Pre A p)(hnt:Γ.nt=nt)(hN:∀d,d<depth K0->N1 d=N d)(S:St)(e:S=mm)(t:AW prog Γ c' (KQ prog Γ N (k.qq prog fn) K') mm)(hd:depth K'=depth K0:=by kernel_rfl)(h:go prog (k.rf prog fn) nt 2000 (.run c) K st A=some (.at_ c' K' S,p):=by kernel_rfl):
 AW prog Γ c (KQ prog Γ N1 (k.qq prog fn) K) st:=B4 (n:=2000) A _ hnt PO h o.h (T1 (K0:=K0) hd hN (by rw[e];exact t))
theorem Pre.ex(o:Pre A p)(hnt:Γ.nt=nt)(hN:∀d,d<depth K0->N1 d=N d)(t:AW prog Γ c' (KQ prog Γ N (k.qq prog fn) K') mm)(hd:depth K'=depth K0:=by kernel_rfl)(h:go prog (k.rf prog fn) nt 2000 (.run c) K st A=some (.at_ c' K' mm,p):=by kernel_rfl):
 AW prog Γ c (KQ prog Γ N1 (k.qq prog fn) K) st:=o.Vt hnt hN _ rfl t hd h
theorem Pre.Ub(o:Pre A p)(hnt:Γ.nt=nt){n:Nat}(S:St)(e:S=mm)(t:GQ prog Γ c' (KQ prog Γ N (k.qq prog fn) K') n mm)(h:go prog (k.rf prog fn) nt 2000 (.run c) K st A=some (.lp c' K' S,p):=by kernel_rfl):
 AW prog Γ c (KQ prog Γ N (k.qq prog fn) K) st:=B4 (n:=2000) A _ hnt PO h o.h (QU e (Lu t))
theorem Pre.lp(o:Pre A p)(hnt:Γ.nt=nt){n:Nat}(t:GQ prog Γ c' (KQ prog Γ N (k.qq prog fn) K') n mm)(h:go prog (k.rf prog fn) nt 2000 (.run c) K st A=some (.lp c' K' mm,p):=by kernel_rfl):
 AW prog Γ c (KQ prog Γ N (k.qq prog fn) K) st:=o.Ub hnt _ rfl t h
def PG:cW->Bool
 | .n2 _ _ _ _ _ _::_=>true
 |_=>false
theorem Rm{A:cW}(h:PG A=true):∃π ρ k m L X A1,A=.n2 π ρ k m L X::A1:=by
 unfold PG at h;split at h
 ·exact⟨_,_,_,_,_,_,_,rfl⟩
 ·cases h
variable{ops:Array Oper}
theorem Pre.IK(o:Pre A p)(hnt:Γ.nt=nt)(h:go prog (k.rf prog fn) nt 2000 (.run (.region 0 ops true)) K st A=some (.ret k.d0,p):=by kernel_rfl)(hA:PG A=true:=by kernel_rfl):qc prog Γ ops (KQ prog Γ N (k.qq prog fn) K) st:=OR (n:=1999) _ hnt PO h (Rm hA) o.h rfl
end
abbrev lc(f:Func)(p:List Nat):Code:=(NK (ul f) p []).1
abbrev Sv(f:Func)(p:List Nat):List Fr:=(NK (ul f) p []).2
abbrev Ax(Γ:nR)(N:Nat->St->Prop)(f:Func)(k:Kd)(p:List Nat)(s:St):Prop:=AW prog Γ (lc f p) (KQ prog Γ N (k.qq prog f) (Sv f p)) s
abbrev Ar(Γ:nR)(N:Nat->St->Prop)(f:Func)(k:Kd)(p:List Nat)(n:Nat)(s:St):Prop:=GQ prog Γ (lc f (p++[0])) (KQ prog Γ N (k.qq prog f) (Sv f p)) n s
theorem gd{f:FuncId}{fn:Func}{ds:aG}{d:D}(hf:prog.funcs[f]?=some fn)(nz:List (List (Option (Nat×Nat))))(nt:Nat)(h:(∀d∈ds,kj d)->∀Γ:nR,Γ.nt=nt->AW prog Γ (ul fn) (KQ prog Γ (fun _ _=>False) ((Kd.q nz d).qq prog fn) []) ⟨qf 0 ds,[]⟩)
 (hb:fn.body=some (ul fn):=by kernel_rfl) (hn:(fn.name== "runtime.NumGoroutine")=false:=by kernel_rfl) (hl:Nat.ble ds.length fn.ntmps=true:=by kernel_rfl) (ht:fn.ntmps=nt:=by kernel_rfl):Good prog f ds d:=
 Good.of hf hb hn (jr hl) fun hr Γ hΓ=>h hr Γ (hΓ.trans ht)
theorem Vu{f:FuncId}{fn:Func}{ds cells:aG}(hf:prog.funcs[f]?=some fn)(nt:Nat)(h:(∀d∈ds,kj d)->∀Γ:nR,Γ.nt=nt->AW prog Γ (ul fn) (KQ prog Γ (fun _ _=>False) ((Kd.n cells).qq prog fn) []) ⟨qf 0 ds,[]⟩)
 (hb:fn.body=some (ul fn):=by kernel_rfl) (hn:(fn.name== "runtime.NumGoroutine")=false:=by kernel_rfl) (hl:Nat.ble ds.length fn.ntmps=true:=by kernel_rfl) (ht:fn.ntmps=nt:=by kernel_rfl):yI prog f ds cells:=
 yI.of hf hb hn (jr hl) fun hr Γ hΓ=>h hr Γ (hΓ.trans ht)
theorem Bw{f:FuncId}{fn:Func}{cells cells' ds:aG}{d:D}(hf:prog.funcs[f]?=some fn)(nz:List (List (Option (Nat×Nat))))(nt:Nat)(pP Dp:aG)(obs:ah)
 (h:(∀x∈(D.agg cells::ds).map D.Lg,kj x)->∀(v0:Value) (Γ:nR),Γ.nt=nt->AW prog Γ (ul fn) (KQ prog Γ (fun _ _=>False) ((Kd.p nz v0 cells' d).qq prog fn) []) ⟨qf 0 (.ptr 0 0::Dp),.yB pP v0::obs⟩)
 (hI:sB 1 (.agg cells::ds)=(.agg pP::Dp,obs):=by kernel_rfl) (hb:fn.body=some (ul fn):=by kernel_rfl) (hn:(fn.name== "runtime.NumGoroutine")=false:=by kernel_rfl) (hl:Nat.ble (Dp.length+1) fn.ntmps=true:=by kernel_rfl) (ht:fn.ntmps=nt:=by kernel_rfl):iA prog f cells cells' ds d:=
 iA.of hf hb hn hI (jr hl) fun hr v0 Γ hΓ _=>h hr v0 Γ (hΓ.trans ht)
end Go.Cx
namespace Go.Cx
open Go.RowKit Go.Proofs Tryz
abbrev aZ:=List aH
abbrev aj:=List aK
abbrev bX:=List bh
abbrev cV:=List Action
abbrev cy:=List bS
abbrev dL:=List Node
abbrev kT:=List ar
theorem kW{α:Type}[DecidableEq α][BEq α][LawfulBEq α](a b:α):(a==b)=decide (a=b):=by rw[bO];simp
def o6{α:Type}(w:α->Nat)(l:List α):Nat:=l.length+(l.map w).sum
def tw(s:Bytes):Nat:=s.length
theorem Dm{α:Type}(w:α->Nat):o6 w []=0:=rfl
theorem gT{α:Type}(w:α->Nat)(x:α)(l:List α):o6 w (x::l)=1+w x+o6 w l:=by simp[o6];omega
theorem tW{α:Type}(w:α->Nat)(a b:List α):o6 w (a++b)=o6 w a+o6 w b:=by
 induction a with
 |nil=>simp[o6]
 |cons x a ih=>rw[iF,gT,gT,ih];omega
theorem rp{α:Type}(w:α->Nat)(l:List α):l.length<=o6 w l:=by unfold o6;omega
theorem oM{α:Type}{w:α->Nat}{l:List α}{x:α}(h:x∈l):w x+1<=o6 w l:=by
 induction l with
 |nil=>cases h
 |cons y l ih=>
  rw[gT];rcases aq.1 h with rfl|h
  ·omega
  ·have:=ih h;omega
theorem Vr{α:Type}[DecidableEq α]{f:α->α->Option Bool}{a b:List α}{c:α->aG}(L:Option Bool->List α->Nat->Option Bool)(vX:∀k i,L k [] i=k)
 (EQ:∀k x xs i,L k (x::xs) i=(lg b (i:Int)).bind fun y=>(f x y).bind fun r=>bif !r then some false else L k xs (i+1)) (hf:∀x y,f x y=some (decide (x=y))):
 (bif (((a.map c).length:Int) != ((b.map c).length:Int))then some false else L (some true) a 0)=some (decide (a=b)):=by
 by_cases hl:a.length=b.length
 ·have e:(((a.map c).length:Int) != ((b.map c).length:Int))=false:=by simp[hl]
  rw[e];have key:∀(ra rb pa pb:List α),a=pa++ra->b=pb++rb->pa.length=pb.length->L (some true) ra pa.length=some (decide (ra=rb)):=by
   intro ra
   induction ra with
   |nil=>
    intro rb pa pb h1 h2 h3;rw[vX];have:rb=[]:=by
     have:=congrArg List.length h1;have:=congrArg List.length h2;simp at*;apply br;omega
    subst this;simp
   |cons x xs ih=>
    intro rb pa pb h1 h2 h3;cases rb with
    |nil=>
     exfalso;have:=congrArg List.length h1;have:=congrArg List.length h2;simp at*;omega
    |cons y ys=>
     rw[EQ];have e1:lg b (pa.length:Int)=some y:=by
      unfold lg;have:b[pa.length]?=some y:=by rw[h2,h3];simp
      simp[this]
     rw[e1,aA,hf,aA];have:=ih ys (pa++[x]) (pb++[y]) (by rw[h1];simp) (by rw[h2];simp) (by simp[h3]);by_cases hxy:x=y
     ·subst hxy;simp only[decide_true,cX,aa];simp only[af,aT,bH]at this;rw[this];simp
     ·simp[hxy]
  have:=key a b [] [] rfl rfl rfl;simpa using this
 ·have e:(((a.map c).length:Int) != ((b.map c).length:Int))=true:=by simp;omega
  rw[e];have:a≠b:=fun h=>hl (by rw[h])
  simp[this]
end Go.Cx
namespace Go.Cx
end Go.Cx
namespace Go.Cx
end Go.Cx
namespace Go.Cx
end Go.Cx
namespace Go.Cx
end Go.Cx
namespace Go.Cx
open Go.RowKit Go.Proofs Tryz
def ar.wt(x:ar):Nat:=tw x.rel+o6 tw x.args
def aK.wt(x:aK):Nat:=tw x.pat.rel+o6 tw x.pat.args+tw x.left+tw x.right
def Action.wt(x:Action):Nat:=tw x.pat.rel+o6 tw x.pat.args
def aH.wt(x:aH):Nat:=tw x.name+o6 aK.wt x.conds+o6 Action.wt x.bR
end Go.Cx
namespace Go.Cx
open Go.RowKit Go.Proofs Go.Shelf Tryz
theorem Rd.oh{w:World}{v:Value}{s:Bytes}{bs:aI}(h:Rd w v (.str s) bs):∃y:ByteArray,v=.string y/\y.data.toList=s/\y.size<=maxLen/\bs=[]:=by
 cases h with
 |str y hy=>exact⟨y,rfl,rfl,hy,rfl⟩
theorem iB.strs{w:World}{xs:aC}:∀ {cs:av} {bs:aI},iB w cs (xs.map D.str) bs->∃ys:List ByteArray,cs=ys.map Value.string/\ys.map (·.data.toList)=xs:=by
 induction xs with
 |nil=>intro cs bs h;cases h;exact⟨[],rfl,rfl⟩
 |cons x xs ih=>
  intro cs bs h;cases h with
  |cons v vs d ds b1 b2 h1 h2 h3=>
   obtain⟨y,e1,e2,_,_⟩:=h2.oh;obtain⟨ys,e3,e4⟩:=ih h3;exact⟨y::ys,by simp[e1,e3],by simp[e2,e4]⟩
theorem D5(xs:aC):(xs.map tx).flatten=xs.map D.str:=by
 induction xs with
 |nil=>rfl
 |cons x xs ih=>simp[tx,ih]
theorem Calls.txt{P:Program}{f:FuncId}{args:Array Value}{w:World}{r:ByteArray}{Θ:Nat->Nat}(hr:r.size<=maxLen)
 (h:Calls P f args w fun e w'=>e=.returned (.string r)/\Below w.heap.size w w'):
 Calls P f args w (fun e w'=>∃v bs' ts us,e=.returned v/\Below w.heap.size w w'/\rz w' v (.str r.data.toList) bs' ts us/\(∀b∈bs',b<w.heap.size->Θ b=0)/\(∀b∈bs',b∉ts)/\us.Nodup/\
  (∀b∈us,w.heap.size<=b/\Wr w' b)/\∀b∈ts,b∈us):=
 h.mono fun e w' ⟨h1,h2⟩=>⟨_,[],[],[],h1,h2,.v (.cell (.pure (.str r hr))),by simp,by simp,by simp,by simp,by simp⟩
end Go.Cx
namespace Go.Cx
open Go.RowKit Go.Proofs Go.Shelf Go.Sort Tryz
theorem iB.My{w:World}{xs:aC}:∀ {cs:av} {bs:aI},iB w cs (xs.map D.str) bs->∀x∈xs,x.length<=maxLen:=by
 induction xs with
 |nil=>intro cs bs h x hx;cases hx
 |cons x xs ih=>
  intro cs bs h y hy;cases h with
  |cons v vs d ds b1 b2 h1 h2 h3=>
   obtain⟨s,_,e2,e3,_⟩:=h2.oh;rcases aq.1 hy with rfl|hy
   ·rw[<-e2];exact e3
   ·exact ih h3 y hy
theorem iB.H8{w:World}:∀ {xs:aC},(∀x∈xs,x.length<=maxLen)->iB w (xs.map encStr) (xs.map D.str) []
 | [],_=>.nil
 |x::xs,h=>by
  have h1:Rd w (.string ⟨x.toArray⟩) (.str x) []:=by
   have:=Rd.str (w:=w) ⟨x.toArray⟩ (by have:=h x (by simp);simpa[ByteArray.size]using this);simpa using this
  exact .cons _ _ _ _ [] [] rfl h1 (iB.H8 fun y hy=>h y (by simp[hy]))
theorem EJ(xs:aC):(xs.map tx).flatten.all D.flat=true:=by
 rw[D5];simp[D.flat]
def j8(xs:aC):aC:=xs.mergeSort fun x y=>decide (x<=y)
theorem rC(xs:aC):(j8 xs).Perm xs:=List.mergeSort_perm _ _
theorem BU{P:Program}{ρ:Ren}(L:Lays.n192 P ρ){e:TypeId}{xs:aC}(hn:xs.length<4611686018427387904):Dw P (ρ.f 192) e 1 (xs.map tx) ((j8 xs).map tx):=by
 refine⟨⟨_,L.f192,rfl,rfl⟩,?_⟩;intro w v cs hsz hrl hown hrd;rw[D5]at hrd;have hle:=hrd.My;obtain⟨ys,rfl,hys⟩:=hrd.strs;have hlen:(j8 xs).length=xs.length:=(rC xs).length_eq;have Ai:∀r∈(j8 xs).map tx,r.length=1:=by
  intro r hr;obtain⟨x,_,rfl⟩:=cE.1 hr;rfl
 rcases hown.2 with⟨rfl,h0⟩|⟨g,cap,cur,rfl,hb,DD,hnc,hcm,hcs,EW⟩
 ·have hx:xs=[]:=by simpa using h0
  subst hx;refine(Any.sort_Strings_none L none 0 w).mono ?_;rintro e' w' ⟨rfl,rfl⟩;exact⟨rfl,rfl,rfl,rfl,b9 _,fun _ _ _=>rfl,Ai,[],⟨by simp[hlen],.inl ⟨rfl,by simp[hlen]⟩⟩,by simpa[j8]using iB.nil⟩
 ·rw[ay]at hnc EW⊢;rw[Nat.mul_one]at EW hcs;have Xe:ys.length=xs.length:=by rw[<-hys];simp
  have BO:∀j,j<xs.length->cur[j]?=some (encStr xs.toArray[j]!):=by
   intro j hj;have h1:(cur.toList.take xs.length)[j]?=cur[j]?:=by rw[nH hj];simp
   rw[<-h1,EW,bK];have hj':j<ys.length:=by omega
   rw[aM hj'];have:xs[j]?=some ys[j].data.toList:=by rw[<-hys,bK,aM hj'];rfl
   have hx:xs.toArray[j]! =ys[j].data.toList:=by
    rw[getElem!_pos _ _ (by simpa using hj)];rw[aM hj]at this;simpa using this
   rw[hx];simp[encStr]
  have hH:Holds encStr w g 0 xs.toArray:=by
   intro j hj;have hj:j<xs.length:=by simpa using hj
   refine⟨?_,?_⟩
   ·rw[<-BO j hj];simp[World.cell?,DD]
   ·simp[World.frozen?,DD]
  have hblk:g<w.heap.size:=(aV.1 DD).1;refine(Any.sort_Strings L g 0 cap xs w hH hblk hn).mono ?_;rintro e' w' ⟨rfl,n,os,rfl⟩;have hheap:(grow (putRow encStr (Sort.ahead w n) g 0 (j8 xs).toArray) os).heap=(w.heap.modify g (onCells (putCells encStr 0 (j8 xs).toArray)))++os:=rfl;have BM:∀b,b<w.heap.size->b≠g->(grow (putRow encStr (Sort.ahead w n) g 0 (j8 xs).toArray) os).heap[b]?=w.heap[b]?:=by
   intro b hb hne;rw[hheap,dW (by simpa using hb),oO,ai (fun e=>hne e.symm)]
  have hrow:(grow (putRow encStr (Sort.ahead w n) g 0 (j8 xs).toArray) os).heap[g]?=some (.cells (putCells encStr 0 (j8 xs).toArray cur) e (0,0)):=by
   rw[hheap,dW (by simpa using hblk),oO,bD rfl,DD];rfl
  refine⟨rfl,rfl,rfl,rfl,by show w.heap.size<=(grow (putRow encStr (Sort.ahead w n) g 0 (j8 xs).toArray) os).heap.size;rw[hheap];simp,fun b hb hne=>BM b hb fun e=>hne (by rw[e];rfl),Ai,(j8 xs).map encStr,⟨by simp,.inr ⟨g,cap,_,by simp[hlen],hb,hrow,by simpa[hlen]using hnc,hcm,by simp[putCells,hcs],?_⟩⟩,?_⟩
  ·apply kA;intro j;simp only[ay,Nat.mul_one];by_cases hj:j<(j8 xs).length
   ·have hj2:j<cur.size:=by omega
    rw[nH hj,bK,aM hj];simp[putCells,hj2,hj]
   ·rw[bY (by simp;omega),bY (by simp;omega)]
  ·rw[D5];exact iB.H8 fun x hx=>hle x ((rC xs).mem_iff.1 hx)
end Go.Cx
namespace Go.Cx
open Go.RowKit Go.Proofs Go.Shelf Go.Lib Tryz
theorem KB(n:Int)(h:mL .i64 n):(itoa n).length<=20:=by
 have h1: -9223372036854775808<=n:=h.1;have h2:n<=9223372036854775807:=h.2;have key:∀u:Nat,u<=9223372036854775808->nDigits u<=19:=by
  intro u hu;by_cases h0:u=0
  ·subst h0;rw[nDigits_small (by omega)];omega
  ·by_cases hk:nDigits u<=19
   ·exact hk
   ·exfalso;have PI:∀(k v:Nat),v<10^k->1<=k->nDigits v<=k:=by
     intro k
     induction k with
     |zero=>intro v _ h;omega
     |succ k ih=>
      intro v hv _;by_cases h10:v<10
      ·rw[nDigits_small h10];omega
      ·rw[nDigits_big h10];have h3:v/10<10^k:=by rw[Nat.pow_succ]at hv;omega
       have hk1:1<=k:=by
        cases k with
        |zero=>simp at hv;omega
        |succ k=>omega
       have:=ih (v/10) h3 hk1;omega
    have:=PI 19 u (by omega) (by omega);omega
 unfold itoa;split
 ·rw[aT,decDigits_length];have:=key n.natAbs (by omega);omega
 ·rw[decDigits_length];have:=key n.toNat (by omega);omega
theorem E8(w:World)(k:Nat)(os:Array Obj):Below w.heap.size w (Sort.grow (w.drewN k) os):=
 ⟨rfl,rfl,rfl,by show w.heap.size<=(w.heap++os).size;simp,fun b hb=>by show(w.heap++os)[b]?=_;rw[dW hb]⟩
theorem Ec{P:Program}{ρ:Ren}(L:LaysM.n171 P ρ){g:Nat}(hg:P.globalNamed "internal/strconv.uint64pow10" =some g)(hx:(g,fun cs:av=>cs=pow10Tab.map fun z=>Value.int .u64 z)∈rF){n:Int}:
 Good P (ρ.f 171) [.int .i64 n] (.str (itoa n)):=by
 refine⟨⟨_,L.f171,rfl,rfl⟩,?_⟩;intro w Θ args bs hv ha _ _ _;obtain _|⟨v1,_,_,_,b1,_,h1,ha⟩:=ha;cases ha;cases h1 with
 |int _ _ hr=>
  have h0: -9223372036854775808<=n:=hr.1;have h1:n<=9223372036854775807:=hr.2;have hl:=KB n hr;have ht:TabIs P w "internal/strconv.uint64pow10" .u64 pow10Tab:=by
   obtain⟨cs,h2,h3⟩:=hv.var hx hg;have h4:cs=(pow10Tab.map fun z=>Value.int .u64 z).toArray:=by rw[<-h3]
   rw[h4]at h2;exact h2
  have:=Calls.txt (Θ:=Θ) (r:=⟨(itoa n).toArray⟩) (by show(itoa n).toArray.size<=maxLen;rw[o7];unfold maxLen;omega)
   ((Any.strconv_Itoa L n h0 h1 w ht).mono fun e w' ⟨k1,k,os,k2⟩=>⟨k1,by subst k2;exact E8 w k os⟩)
  simpa using this
end Go.Cx
namespace Go.Cx
open Go.RowKit Go.Proofs Go.Shelf Tryz
def Ed:Ren:=⟨fun|192=>76|190=>106|125=>132|258=>131|128=>155|129=>156|302=>146|303=>147|304=>148|305=>149|306=>150|307=>151|308=>152|309=>153|310=>154|333=>162|329=>163|330=>164|334=>165|335=>166|336=>167|344=>175|n=>n,fun|31=>37|0=>0|9=>9|3=>3|46=>131|51=>173|53=>175|4=>4|183=>166|182=>165|131=>133|5=>5|218=>179|222=>183|228=>193|229=>194|n=>n,fun|n=>n⟩
theorem Mb:Lays.n192 prog Ed:= {
 mixed:=by kernel_rfl,
 f125:=func132.trans (congrArg some (by kernel_rfl)),
 f128:=func155.trans (congrArg some (by kernel_rfl)),
 f129:=func156.trans (congrArg some (by kernel_rfl)),
 f190:=func106.trans (congrArg some (by kernel_rfl)),
 f192:=func76.trans (congrArg some (by kernel_rfl)),
 f258:=func131.trans (congrArg some (by kernel_rfl)),
 f302:=func146.trans (congrArg some (by kernel_rfl)),
 f303:=func147.trans (congrArg some (by kernel_rfl)),
 f304:=func148.trans (congrArg some (by kernel_rfl)),
 f305:=func149.trans (congrArg some (by kernel_rfl)),
 f306:=func150.trans (congrArg some (by kernel_rfl)),
 f307:=func151.trans (congrArg some (by kernel_rfl)),
 f308:=func152.trans (congrArg some (by kernel_rfl)),
 f309:=func153.trans (congrArg some (by kernel_rfl)),
 f310:=func154.trans (congrArg some (by kernel_rfl)),
 f329:=func163.trans (congrArg some (by kernel_rfl)),
 f330:=func164.trans (congrArg some (by kernel_rfl)),
 f333:=func162.trans (congrArg some (by kernel_rfl)),
 f334:=func165.trans (congrArg some (by kernel_rfl)),
 f335:=func166.trans (congrArg some (by kernel_rfl)),
 f336:=func167.trans (congrArg some (by kernel_rfl)),
 f344:=func175.trans (congrArg some (by kernel_rfl)),
 t0:=underlying0,
 a0:=Tryz.isAgg0,
 z0:=Tryz.sizeOf0,
 v0:=Tryz.zeroValue0,
 t3:=underlying3,
 a3:=Tryz.isAgg3,
 z3:=Tryz.sizeOf3,
 v3:=Tryz.zeroValue3,
 t4:=underlying4,
 a4:=Tryz.isAgg4,
 z4:=Tryz.sizeOf4,
 v4:=Tryz.zeroValue4,
 t5:=underlying5,
 a5:=Tryz.isAgg5,
 z5:=Tryz.sizeOf5,
 v5:=Tryz.zeroValue5,
 t9:=underlying9,
 a9:=Tryz.isAgg9,
 z9:=Tryz.sizeOf9,
 v9:=Tryz.zeroValue9,
 t31:=underlying37,
 a31:=Tryz.isAgg37,
 z31:=Tryz.sizeOf37,
 v31:=Tryz.zeroValue37,
 t46:=underlying131,
 a46:=Tryz.isAgg131,
 z46:=Tryz.sizeOf131,
 v46:=Tryz.zeroValue131,
 t51:=underlying173,
 a51:=Tryz.isAgg173,
 z51:=Tryz.sizeOf173,
 v51:=Tryz.zeroValue173,
 t53:=underlying175,
 a53:=Tryz.isAgg175,
 z53:=Tryz.sizeOf175,
 v53:=Tryz.zeroValue175,
 t131:=underlying133,
 a131:=Tryz.isAgg133,
 z131:=Tryz.sizeOf133,
 v131:=Tryz.zeroValue133,
 t182:=underlying165,
 a182:=Tryz.isAgg165,
 z182:=Tryz.sizeOf165,
 v182:=Tryz.zeroValue165,
 t183:=underlying166,
 a183:=Tryz.isAgg166,
 z183:=Tryz.sizeOf166,
 v183:=Tryz.zeroValue166,
 t218:=underlying179,
 a218:=Tryz.isAgg179,
 z218:=Tryz.sizeOf179,
 v218:=Tryz.zeroValue179,
 t222:=underlying183,
 a222:=Tryz.isAgg183,
 z222:=Tryz.sizeOf183,
 v222:=Tryz.zeroValue183,
 t228:=underlying193,
 a228:=Tryz.isAgg193,
 z228:=Tryz.sizeOf193,
 v228:=Tryz.zeroValue193,
 t229:=underlying194,
 a229:=Tryz.isAgg194,
 z229:=Tryz.sizeOf194,
 v229:=Tryz.zeroValue194}
theorem wP{e:TypeId}{xs:aC}(hn:xs.length<4611686018427387904):Dw prog 76 e 1 (xs.map tx) ((j8 xs).map tx):=BU Mb hn
def AN:Ren:=⟨fun|171=>159|243=>169|246=>176|283=>180|284=>181|285=>182|286=>183|129=>156|317=>186|318=>187|319=>188|320=>189|337=>190|338=>191|n=>n,fun|3=>3|9=>9|2=>2|4=>4|171=>203|0=>0|53=>175|37=>22|5=>5|173=>205|212=>214|51=>173|20=>20|213=>215|46=>131|232=>217|233=>218|n=>n,fun|17=>3|18=>4|19=>5|n=>n⟩
theorem Ma:Lays.n171 prog AN:= {
 mixed:=by kernel_rfl,
 f129:=func156.trans (congrArg some (by kernel_rfl)),
 f171:=func159.trans (congrArg some (by kernel_rfl)),
 f243:=func169.trans (congrArg some (by kernel_rfl)),
 f246:=func176.trans (congrArg some (by kernel_rfl)),
 f283:=func180.trans (congrArg some (by kernel_rfl)),
 f284:=func181.trans (congrArg some (by kernel_rfl)),
 f285:=func182.trans (congrArg some (by kernel_rfl)),
 f286:=func183.trans (congrArg some (by kernel_rfl)),
 f317:=func186.trans (congrArg some (by kernel_rfl)),
 f318:=func187.trans (congrArg some (by kernel_rfl)),
 f319:=func188.trans (congrArg some (by kernel_rfl)),
 f320:=func189.trans (congrArg some (by kernel_rfl)),
 f337:=func190.trans (congrArg some (by kernel_rfl)),
 f338:=func191.trans (congrArg some (by kernel_rfl)),
 t0:=underlying0,
 a0:=Tryz.isAgg0,
 z0:=Tryz.sizeOf0,
 v0:=Tryz.zeroValue0,
 t2:=underlying2,
 a2:=Tryz.isAgg2,
 z2:=Tryz.sizeOf2,
 v2:=Tryz.zeroValue2,
 t3:=underlying3,
 a3:=Tryz.isAgg3,
 z3:=Tryz.sizeOf3,
 v3:=Tryz.zeroValue3,
 t4:=underlying4,
 a4:=Tryz.isAgg4,
 z4:=Tryz.sizeOf4,
 v4:=Tryz.zeroValue4,
 t5:=underlying5,
 a5:=Tryz.isAgg5,
 z5:=Tryz.sizeOf5,
 v5:=Tryz.zeroValue5,
 t9:=underlying9,
 a9:=Tryz.isAgg9,
 z9:=Tryz.sizeOf9,
 v9:=Tryz.zeroValue9,
 t20:=underlying20,
 a20:=Tryz.isAgg20,
 z20:=Tryz.sizeOf20,
 v20:=Tryz.zeroValue20,
 t37:=underlying22,
 a37:=Tryz.isAgg22,
 z37:=Tryz.sizeOf22,
 v37:=Tryz.zeroValue22,
 t46:=underlying131,
 a46:=Tryz.isAgg131,
 z46:=Tryz.sizeOf131,
 v46:=Tryz.zeroValue131,
 t51:=underlying173,
 a51:=Tryz.isAgg173,
 z51:=Tryz.sizeOf173,
 v51:=Tryz.zeroValue173,
 t53:=underlying175,
 a53:=Tryz.isAgg175,
 z53:=Tryz.sizeOf175,
 v53:=Tryz.zeroValue175,
 t171:=underlying203,
 a171:=Tryz.isAgg203,
 z171:=Tryz.sizeOf203,
 v171:=Tryz.zeroValue203,
 t173:=underlying205,
 a173:=Tryz.isAgg205,
 z173:=Tryz.sizeOf205,
 v173:=Tryz.zeroValue205,
 t212:=underlying214,
 a212:=Tryz.isAgg214,
 z212:=Tryz.sizeOf214,
 v212:=Tryz.zeroValue214,
 t213:=underlying215,
 a213:=Tryz.isAgg215,
 z213:=Tryz.sizeOf215,
 t232:=underlying217,
 a232:=Tryz.isAgg217,
 z232:=Tryz.sizeOf217,
 v232:=Tryz.zeroValue217,
 t233:=underlying218,
 a233:=Tryz.isAgg218,
 z233:=Tryz.sizeOf218,
 v233:=Tryz.zeroValue218,
 g17:=by kernel_rfl,
 g18:=by kernel_rfl,
 g19:=by kernel_rfl}
theorem KG:LaysM.n171 prog AN:= {Ma with
 i0:=by kernel_rfl,
 i2:=by kernel_rfl,
 i3:=by kernel_rfl,
 i4:=by kernel_rfl,
 i5:=by kernel_rfl,
 i9:=by kernel_rfl,
 i20:=by kernel_rfl,
 i37:=by kernel_rfl,
 i46:=by kernel_rfl,
 i51:=by kernel_rfl,
 i53:=by kernel_rfl,
 i171:=by kernel_rfl,
 i173:=by kernel_rfl,
 i212:=by kernel_rfl,
 i232:=by kernel_rfl,
 i233:=by kernel_rfl,
 m17:=by kernel_rfl,
 m18:=by kernel_rfl,
 m19:=by kernel_rfl}
def qx(aF:Int):Option Bytes:=(fun n:Int=>some (Lib.itoa n)) aF
theorem wm{aF:Int}{r:Bytes}(h:qx aF=some r):Good prog 159 [.int .i64 aF] (.str r):=by cases h;exact Ec KG (g:=3) (by kernel_rfl) (aD (i:=0) (by kernel_rfl))
end Go.Cx

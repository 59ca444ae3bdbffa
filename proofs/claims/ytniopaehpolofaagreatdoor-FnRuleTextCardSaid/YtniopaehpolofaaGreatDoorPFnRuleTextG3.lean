/- Calls that are handed slices of the caller's own, in values. No condition; plain lemmas. -/
import Derived.Test.YtniopaehpolofaaGreatDoorPFnRuleTextG2
import Derived.Laws.BytesArg
import Derived.LoopN
import Derived.Test.YtniopaehpolofaaGreatDoorProg
import Derived.KernelRfl
import Derived.Shelf.Strings.OnBuilder
import Derived.Shelf.Sort.Plain
import Derived.Shelf.Slices.In.SortNone2
import Derived.Shelf.Strconv.Itoa3
import Derived.WalkSmall
import Derived.Shelf.Strconv.Atoi
import Derived.Shelf.Strconv.ErrVar
import Derived.Shelf.Small.Strs
import Derived.Lib.AtoiBound
import Derived.Shelf.Strings.Cut
import Derived.Shelf.Strings.Split
import Derived.Shelf.Strings.Prefix
import Derived.Shelf.Small.Wraps
set_option linter.unusedVariables false
set_option linter.unusedSimpArgs false
namespace Go.Cx
open Go.RowKit
def FI(P:Program)(f:FuncId)(ds:aG)(d:D):Prop:=
 (∃fn,P.funcs[f]?=some fn/\fn.body.isSome=true/\(fn.name== "runtime.NumGoroutine")=false)/\
 ∀(w:World) (Θ:Nat->Nat) (args:aq) (bs ts us:aH),
  B0 w (fun b=>b∈ts)->qi w args ds bs ts us->
  (∀b∈bs,Θ b=0)->(∀b,Θ b≠0->b<w.heap.size)->(∀b,Θ b<=1)->(∀b∈ts,Θ b=1/\b∈us)->us.Nodup->(∀b∈us,(b∉ts->Θ b=0)/\Wr w b)->
  Calls P f args.toArray w (fun e w'=>∃v b2 t2 u2,e=.returned v/\w'.os=w.os/\w'.tape=w.tape/\w'.output=w.output/\w.heap.size<=w'.heap.size/\
   (∀b,b<w.heap.size->b∉ts->w'.heap[b]?=w.heap[b]?)/\
   qZ w' v d b2 t2 u2/\(∀b∈b2,(b<w.heap.size->Θ b=0\/b∈ts)/\b∉t2)/\u2.Nodup/\
   (∀b∈u2,(w.heap.size<=b\/b∈us)/\Wr w' b)/\∀b∈t2,b∈u2/\(w.heap.size<=b\/b∈ts))
section
variable{P:Program}{Γ:lY}{Q:Exit->St->Prop}{st:St}{κ κ':Nat->Option Value}{Θ Θ':Nat->Nat}{a:Act}{w w':World}{all:Array Oper}{rest:List Oper}
theorem RF.out{fn:Func}{d:D}{e:Exit}{a':Act}{w':World}{B2:St}{κ0:Nat->Option Value}{Θ0:Nat->Nat}(hs0:cN Γ B2 κ0 Θ0 a' w')(Nd:Hj P fn d e B2):
 (e=.ret\/e=.normal)/\a'.defers=[]/\FL Γ w'/\∃v b2 t2 u2,(results fn a'.tmps).run P w'=.ok v w'/\
  qZ w' v d b2 t2 u2/\(∀b∈b2,(b<Γ.W0.heap.size->¬Γ.X b->Γ.Θ0 b=0)/\b∉t2)/\u2.Nodup/\
  (∀b∈u2,FJ Γ b/\Wr w' b)/\∀b∈t2,b∈u2/\oy Γ b:=by
 obtain⟨ue,nz,Lu,es,ms,qs,hres,M4,BE,zX,Kg,rfl⟩:=Nd;obtain⟨ρ0,Nh⟩:=hs0.kx;have tS:=oA M4;obtain⟨Θ1,ρ1,hs1,hu1,hm1,hz1,HG⟩:=cN.xa ms hs0 Nh BE (fun m hm=>by
  obtain⟨e,sz,rows,hH⟩:=tS.1 m hm;exact⟨_,e,sz,rows,hH,rfl⟩)
 obtain⟨vs,bs',m1,m2,m3,m4,m5⟩:=vI hs0 hres;have hq:∀m e sz rows,B2.H[m]?=some (.row .uq e sz rows)->∃v cs ns,κ0 m=some v/\0<sz/\(∀r∈rows,r.length=sz)/\w'.ownsRow 0 e sz v rows.length cs/\ng w' (mX e) 0 cs rows.flatten ns/\ns.Nodup/\(∀b∈ns,ρ1 b=m+1)/\∀g,v.ownBlock=some g->Θ1 g=m+2:=by
  intro m e sz rows hH;have hnm:m∉ms:=fun hm=>by
   obtain⟨e',sz',cU,vG⟩:=tS.1 m hm;rw[hH]at vG;cases vG
  have C9:(kill B2.H ms)[m]?=some (.row .uq e sz rows):=by rw[cR hnm];exact hH
  obtain⟨v,cs,ns,r1,r2,r3,r4,r5⟩:=hu1.rows m e sz rows C9;obtain⟨p1,p2,v2,_,_,p3,_,_,p4,_⟩:=hs1.ob m _ C9;rw[r1]at p3;cases p3;exact⟨v,cs,ns,r1,p1,p2,r2,r3,r4,r5,p4⟩
 have qJ:∀m e sz rows,m∉ms->B2.H[m]?=some (.row .sh e sz rows)->∃v cs ns,κ0 m=some v/\0<sz/\(∀r∈rows,r.length=sz)/\w'.ownsRow 0 e sz v rows.length cs/\gG w' cs rows.flatten ns/\(∀b∈ns,Θ1 b=0)/\∀g,v.ownBlock=some g->Θ1 g=m+2:=by
  intro m e sz rows hnm hH;obtain⟨p1,p2,v2,cs,ns,p3,p4,p5,p6,p7⟩:=hs1.ob m _ (show(kill B2.H ms)[m]?=_ by rw[cR hnm];exact hH);exact⟨v2,cs,ns,p3,p1,p2,p4,p5,p7,p6⟩
 obtain⟨c,ts,us,ud,qo⟩:=rX (w:=w') (vs:=vs) (fun b hb=>(hu1.free b hb).1) hq qJ hs0.j9 M4 Kg zX (by omega) (fun i d hd=>by
  obtain⟨v,b,k1,k2,k3⟩:=m4 i d hd;exact⟨v,b,k1,k2,fun x hx=>hz1 x (m5 x (k3 x hx))⟩) hm1
 have CD:∃v,(results fn a'.tmps).run P w'=.ok v w'/\qZ w' v (zK es) c ts us:=by
  have hrun:(results fn a'.tmps).run P w'=.ok (if h:vs.toArray.size=1 then vs.toArray[0]else .tuple vs.toArray) w':=by
   rw[results_eq,jM];simp[m1]
  cases ud with
  |nil=>exact⟨.tuple #[],by simpa using hrun,.fy [] [] [] [] [] .nil⟩
  |cons v vs d es b1 b2 t1 t2 u1 u2 hv mM=>
   cases mM with
   |nil=>
    simp only[dw];exact⟨v,by simpa using hrun,.v hv⟩
   |cons v2 vs d2 es b3 b4 t3 t4 u3 u4 hv2 mM=>exact⟨.tuple (v::v2::vs).toArray,by simpa using hrun,.fy _ _ _ _ _ (.cons _ _ _ _ _ _ _ _ _ _ hv (.cons _ _ _ _ _ _ _ _ _ _ hv2 mM))⟩
 obtain⟨v,IS,DR⟩:=CD;refine⟨ue,hs0.defers,hs0.stays,v,c,ts,us,IS,DR,fun b hb=>⟨fun hlt hx=>?_,fun ht=>?_⟩,qo.nd,fun b hb=>?_,fun b hb=>?_⟩
 ·have:=qo.zero b hb;rw[<-(hs1.old b hlt hx).1];exact this
 ·obtain⟨⟨m,_,hΘ⟩,_⟩:=qo.top b ht;have:=qo.zero b hb;omega
 ·rcases qo.mem b hb with h|⟨m,hm,hρ⟩
  ·obtain⟨⟨m,hm,hΘ⟩,_⟩:=qo.top b h;exact⟨.inl (hs1.mine b (by omega)),A8 DR b h⟩
  ·have:=hu1.free b (by omega);exact⟨this.2.1,this.2.2⟩
 ·obtain⟨⟨m,hm,hΘ⟩,h2⟩:=qo.top b hb;exact⟨h2,hs1.mine b (by omega)⟩
theorem FI.of{f:FuncId}{fn:Func}{c:Code}{ds Cr:aG}{obs:ai}{d:D}(hf:P.funcs[f]?=some fn)(hb:fn.body=some c)(hn:(fn.name== "runtime.NumGoroutine")=false)
 (hI:rB 0 ds=(Cr,obs)) (hl:Cr.length<=fn.ntmps)
 (h:(∀x∈ds.map D.K6,n7 x)->∀(Γ:lY),Γ.nt=fn.ntmps->AW P Γ c (Hj P fn d) ⟨pV 0 Cr,obs⟩):FI P f ds d:=by
 refine⟨⟨fn,hf,by simp[hb],hn⟩,?_⟩;intro w Θ args bs ts us hvs hargs hz hown h1 hts hnd lF;have Eh:=hargs.shown;obtain⟨L,q1,q2,rfl,rfl,q6,q5⟩:=hargs.inst 0;rw[hI]at q1 q5;have q1:L.map Fs.ob=obs:=q1;refine calls_of_wp hf hb ?_;let κ0:Nat->Option Value:=fun i=>(L[i]?).map Fs.v
 let Θ0:Nat->Nat:=fun b=>match zQ L b with|some i=>i+2|none=>Θ b
 let ρ0:Nat->Nat:=fun b=>match l9 L b with|some i=>i+1|none=>0
 let Γ:lY:=⟨w,Θ0,fun b=>b∈L.flatMap Fs.ts,fn.ntmps,fun b=>b∈L.flatMap Fs.bl,hvs⟩
 have NU:∀i x,L[i]?=some x->κ0 i=some x.v:=fun i x hx=>by simp[κ0,hx]
 have hnm:Names κ0 0 L:=fun i x hx=>by rw[bq];exact NU i x hx
 obtain⟨P6,hrd,hb0⟩:=q5 κ0 hnm;have hlen:args.length=Cr.length:=hrd.len;have M5:∀(i:Nat) x b,L[i]?=some x->x.v.ownBlock=some b->b∈L.flatMap Fs.ts:=fun i x b hx hb'=>bV.2 ⟨x,aD hx,by simp[Fs.ts,hb']⟩
 have Ej:∀(i:Nat) x b,L[i]?=some x->x.v.ownBlock=some b->Θ0 b=i+2:=by
  intro i x b hx hb';simp only[Θ0,xy hnd hx hb']
 have DU:∀b,Θ b=0->Θ0 b=0:=by
  intro b h0;have e2:b∉L.flatMap Fs.ts:=fun e=>by have:=(hts b e).1;omega
  simp only[Θ0,nW e2];exact h0
 have IN:∀(i:Nat) x b,L[i]?=some x->b∈x.ns->Θ0 b=0:=fun i x b hx hb'=>DU b ((lF b (kR hx hb')).1 (sQ hnd hx hb'))
 have qL:∀b,Θ0 b≠Θ b->b∈L.flatMap Fs.ts:=by
  intro b hne;refine cO fun ht=>hne ?_
  simp only[Θ0,nW ht]
 have Eb:∀(j:Nat) o,obs[j]?=some o->∃x,L[j]?=some x/\o=x.ob:=by
  intro j o hj;rw[<-q1,b9]at hj;cases hx:L[j]? with
  |none=>simp[hx]at hj
  |some x=>simp[hx]at hj;exact⟨x,rfl,hj.symm⟩
 have IQ:obs.length=L.length:=by rw[<-q1];simp
 have hs:cN Γ ⟨pV 0 Cr,obs⟩ κ0 Θ0 {tmps:=args.toArray++Array.replicate (fn.ntmps-args.toArray.size) undef,defers:=[]} w:=by
  refine⟨rfl,?_,fun i hi=>?_,?_,?_,?_,?_,?_,?_,⟨rfl,rfl,rfl,b8 _,fun _ _ _=>rfl⟩,⟨ρ0,?_,?_,?_⟩⟩
  ·simp[Γ];omega
  ·have hi:obs.length<=i:=hi;simp only[κ0];rw[bR (by omega)];rfl
  ·intro id u hu;simp only[κ0]at hu;cases hx:L[id]? with
   |none=>simp[hx]at hu
   |some x=>simp[hx]at hu;subst hu;exact(q2 x (aD hx)).2.2.2.2
  ·intro t;rw[xY];simp only[oI,th,s8];have Fg:∀v,args[t]?=some v->(args.toArray++Array.replicate (fn.ntmps-args.toArray.size) undef).getD t undef=v:=by
    intro v hv;have hlt:=(aB.1 hv).1;rw[bM,dO (by simpa using hlt)];simp only[eH,hv,lX]
   cases hd:Cr[t]? with
   |none=>exact⟨[],.of (.any _),by simp⟩
   |some x=>
    obtain⟨v,b',k1,k2,k3⟩:=hrd.at (i:=t) (d:=x) hd;rw[Fg v k1];exact⟨b',.v k2,fun b hb'=>DU b (hz b (hb0 b (k3 b hb')))⟩
  ·intro j o hj;obtain⟨x,hx,rfl⟩:=Eb j o hj;exact Fs.rel (q2 x (aD hx)) (NU j x hx) (fun b hb'=>Ej j x b hx hb') (fun b hb'=>IN j x b hx hb') fun hs' b hb'=>DU b (hz b (q6 x (aD hx) hs' b hb'))
  ·intro b hb';by_cases e:Θ0 b=Θ b
   ·exact hown b (by rw[<-e];exact hb')
   ·exact hown b (by have:=(hts b (qL b e)).1;omega)
  ·intro b hlt hx;refine⟨rfl,?_⟩;have e:Θ0 b=Θ b:=cO fun e=>hx (qL b e)
   rw[e];exact h1 b
  ·intro b hb';refine .inr (qL b fun e=>?_);have:=h1 b;omega
  ·intro b hb';cases Fe:l9 L b with
   |none=>simp[ρ0,Fe]at hb'
   |some i=>
    obtain⟨x,hx,rG⟩:=lZ Fe;exact⟨IN i x b hx rG,.inr (kR hx rG),(lF b (kR hx rG)).2⟩
  ·intro id e sz rows hj;obtain⟨x,hx,GX⟩:=Eb id _ hj;obtain⟨hsh,rfl,rfl,rfl⟩:=Fs.Au GX.symm;have p4:=(q2 x (aD hx)).uq hsh;obtain⟨p1,p2,p3,_,_⟩:=q2 x (aD hx);exact⟨x.v,x.cs,x.ns,NU id x hx,p3,p4,xe hnd hx,fun b hb'=>by simp[ρ0,sD hnd hx hb']⟩
  ·intro id o hj;obtain⟨x,hx,GX⟩:=Eb id _ hj;subst GX;exact Fs.plain x
 refine wp_mono (h Eh Γ rfl _ _ _ _ hs) ?_;rintro x a' w' ⟨B2,κ1,Θ1,hs0,Nd⟩;obtain⟨ue,hdf,hst,v,b2,t2,u2,hrun,hres,EF,vm,n8,ht'⟩:=RF.out hs0 Nd;have post:a'.defers=[]/\∃v',(results fn a'.tmps).run P w'=.ok v' w'/\∃v b2 t2 u2,Ending.returned v'=.returned v/\w'.os=w.os/\w'.tape=w.tape/\w'.output=w.output/\w.heap.size<=w'.heap.size/\
  (∀b,b<w.heap.size->b∉L.flatMap Fs.ts->w'.heap[b]?=w.heap[b]?)/\
  qZ w' v d b2 t2 u2/\(∀b∈b2,(b<w.heap.size->Θ b=0\/b∈L.flatMap Fs.ts)/\b∉t2)/\u2.Nodup/\
  (∀b∈u2,(w.heap.size<=b\/b∈L.flatMap Fs.bl)/\Wr w' b)/\∀b∈t2,b∈u2/\(w.heap.size<=b\/b∈L.flatMap Fs.ts):=by
  refine⟨hdf,v,hrun,v,b2,t2,u2,rfl,hst.os,hst.tape,hst.output,hst.size,fun b hlt hnt=>hst.block b hlt (fun hx=>hnt hx),hres,fun b hb'=>?_,vm,fun b hb'=>?_,fun b hb'=>?_⟩
  ·obtain⟨k1,k3⟩:=EF b hb';refine⟨fun hlt=>?_,k3⟩;by_cases ht:b∈L.flatMap Fs.ts
   ·exact .inr ht
   ·refine .inl ?_;have:=k1 hlt (fun hx=>ht hx);have e:Θ0 b=Θ b:=cO fun e=>ht (qL b e)
    rw[<-e];exact this
  ·obtain⟨k1,k3⟩:=n8 b hb';refine⟨?_,k3⟩;rcases k1 with(k1|k1)|k1
   ·exact .inl k1
   ·exact .inr (tr k1)
   ·exact .inr k1
  ·obtain⟨k1,k2⟩:=ht' b hb';exact⟨k1,k2⟩
 rcases ue with rfl|rfl
 ·exact post
 ·exact post
theorem HP{o:Oper}{f t:Nat}{xs:Array Operand}{ty:Array TypeId}{ds:aG}{d:D}{nz:List (List (Option (Nat×Nat)))}{ms qs:aH}
 (hop:o.op=.call {callee:=.value (.func f),args:=xs,argTypes:=ty}) (hd:o.dst=some t) (hg:o.guard=none) (ht:t<Γ.nt)
 (ue:qO st.H nz (xs.toList.map st.ev)=some (ds,ms,qs)) (BE:ms.Nodup) (zX:qs.Nodup) (Kg:∀m∈qs,m∉ms) (iM:FI P f ds d)
 (h:AO P Γ all rest Q ⟨(t,(ir st.H.length d).1)::st.σ,kill st.H (ms++qs)++(ir st.H.length d).2⟩):AO P Γ all (o::rest) Q st:=by
 intro κ Θ a w hs;have tS:=oA ue;obtain⟨ρ,hu⟩:=hs.kx;obtain⟨Θ1,ρ1,hs1,hu1,hm1,hz1,HG⟩:=cN.xa ms hs hu BE (fun m hm=>by
  obtain⟨e,sz,rows,hH⟩:=tS.1 m hm;exact⟨_,e,sz,rows,hH,rfl⟩)
 have hq:∀m e sz rows,st.H[m]?=some (.row .uq e sz rows)->∃v cs ns,κ m=some v/\0<sz/\(∀r∈rows,r.length=sz)/\w.ownsRow 0 e sz v rows.length cs/\ng w (mX e) 0 cs rows.flatten ns/\ns.Nodup/\(∀b∈ns,ρ1 b=m+1)/\∀g,v.ownBlock=some g->Θ1 g=m+2:=by
  intro m e sz rows hH;have hnm:m∉ms:=fun hm=>by
   obtain⟨e',sz',cU,vG⟩:=tS.1 m hm;rw[hH]at vG;cases vG
  have C9:(kill st.H ms)[m]?=some (.row .uq e sz rows):=by rw[cR hnm];exact hH
  obtain⟨v,cs,ns,r1,r2,r3,r4,r5⟩:=hu1.rows m e sz rows C9;obtain⟨p1,p2,v2,_,_,p3,_,_,p4,_⟩:=hs1.ob m _ C9;rw[r1]at p3;cases p3;exact⟨v,cs,ns,r1,p1,p2,r2,r3,r4,r5,p4⟩
 have qJ:∀m e sz rows,m∉ms->st.H[m]?=some (.row .sh e sz rows)->∃v cs ns,κ m=some v/\0<sz/\(∀r∈rows,r.length=sz)/\w.ownsRow 0 e sz v rows.length cs/\gG w cs rows.flatten ns/\(∀b∈ns,Θ1 b=0)/\∀g,v.ownBlock=some g->Θ1 g=m+2:=by
  intro m e sz rows hnm hH;obtain⟨p1,p2,v2,cs,ns,p3,p4,p5,p6,p7⟩:=hs1.ob m _ (show(kill st.H ms)[m]?=_ by rw[cR hnm];exact hH);exact⟨v2,cs,ns,p3,p1,p2,p4,p5,p7,p6⟩
 obtain⟨bs,ts,us,ud,qo⟩:=rX (w:=w) (vs:=xs.toList.map a.eval) (fun b hb=>(hu1.free b hb).1) hq qJ hs.j9 ue Kg zX (by simp) (fun i d hd=>by
  rw[b9]at hd;cases hx:xs.toList[i]? with
  |none=>rw[hx]at hd;cases hd
  |some x=>
   rw[hx]at hd;simp only[bZ,aQ]at hd;subst hd;obtain⟨b,r,z⟩:=hs.ev x;exact⟨a.eval x,b,by rw[b9,hx];rfl,r,fun y hy=>hz1 y (z y hy)⟩) hm1
 let Θc:Nat->Nat:=fun b=>if Θ1 b=0 then 0 else 1
 have qL:∀b,Θc b=0↔Θ1 b=0:=fun b=>by simp only[Θc];split<;>simp_all
 have xU:∀b∈ts,∃m∈qs,Θ1 b=m+2:=fun b hb=>(qo.top b hb).1
 have Ei:B0 w fun b=>b∈ts:=by
  obtain⟨B,v1,v2⟩:=hs1.OO;refine⟨B,v1,fun b hB=>⟨(v2 b hB).2.1,fun hb'=>?_⟩⟩;have hm:oy Γ b:=by
   obtain⟨m,hm,hΘ⟩:=xU b hb';exact hs1.mine b (by omega)
  rcases hm with q|q
  ·have:=(v2 b hB).1;omega
  ·exact(v2 b hB).2.2 q
 have hwr:∀b∈us,Wr w b:=by
  intro b hb;rcases qo.mem b hb with h|⟨m,hm,hρ⟩
  ·exact yJ ud b h
  ·exact(hu1.free b (by omega)).2.2
 have hc:=iM.2 w Θc (xs.toList.map a.eval) bs ts us Ei ud (fun b hb=>(qL b).2 (qo.zero b hb)) (fun b hb=>hs1.own b (fun e=>hb ((qL b).2 e))) (fun b=>by simp only[Θc];split<;>omega)
  (fun b hb=>by
   obtain⟨m,hm,hΘ⟩:=xU b hb;exact⟨by simp only[Θc];rw[ar (by omega)],(qo.top b hb).2⟩) qo.nd (fun b hb=>⟨fun hnt=>by
   rcases qo.mem b hb with h|⟨m,hm,hρ⟩
   ·exact absurd h hnt
   ·exact(qL b).2 (hu1.free b (by omega)).1,hwr b hb⟩)
 refine wpList_plain hg fun K hK=>?_
 unfold Oper.wp;rw[nH hop iM.1,Oper.upon_enter];have e0:xs.map a.eval=(xs.toList.map a.eval).toArray:=by
  rw[<-j6,eB]
 rw[e0];refine hc.mono ?_;rintro x w' ⟨v,b2,t2,u2,rfl,k1,k2,k3,k4,Em,Nz,kb,K4,ku,kt⟩;show K (a.put o.dst v) w';rw[hd];let N:=st.H.length
 have hs2:=hs1.forget qs;have RW:(kill st.H ms).length=N:=dH _ _;simp only[RW]at hs2;let Θ2:Nat->Nat:=fun b=>if qs.any (fun m=>Θ1 b==m+2)then N+2 else Θ1 b
 have hs2:cN Γ ⟨st.σ,kill (kill st.H ms) qs⟩ κ Θ2 a w:=hs2;have AV:∀b,Θ1 b=0->Θ2 b=0:=fun b hb=>by
  simp only[Θ2];rw[ar,hb];intro h;obtain⟨m,_,hm⟩:=bt.1 h;simp[hb]at hm
 have ug:∀b,b∈ts->Θ2 b=N+2:=by
  intro b hb;simp only[Θ2];rw[bG];obtain⟨m,hm,hΘ⟩:=xU b hb;exact bt.2 ⟨m,hm,by simp[hΘ]⟩
 have K1:pU Γ (kill (kill st.H ms) qs) κ Θ2 w ρ1:=by
  refine⟨fun b hb=>?_,fun j e sz rows hj=>?_,fun j o hj=>?_⟩
  ·obtain⟨q1,q2⟩:=hu1.free b hb;exact⟨AV b q1,q2⟩
  ·rcases iv hj with h|⟨_,h⟩
   ·cases h
   ·exact hu1.rows j e sz rows h
  ·rcases iv hj with h|⟨_,h⟩
   ·subst h;trivial
   ·exact hu1.more j o h
 obtain⟨L,c1,c2,c3,c4,c6,c5⟩:=Nz.inst N;subst c3;subst c4;have CA:∀x∈L,x.ok w':=c2;let κ':Nat->Option Value:=fun j=>if j<N then κ j else(L[j-N]?).map Fs.v
 let Θ':Nat->Nat:=fun b=>match zQ L b with|some i=>N+i+2|none=>if Θ2 b=N+2 then 0 else Θ2 b
 let ρ':Nat->Nat:=fun b=>match l9 L b with|some i=>N+i+1|none=>ρ1 b
 have CH:∀(i:Nat) x b,L[i]?=some x->x.v.ownBlock=some b->Θ' b=N+i+2:=by
  intro i x b hx hb;simp only[Θ',xy K4 hx hb]
 have qK:∀b,b∉L.flatMap Fs.ts->Θ' b=if Θ2 b=N+2 then 0 else Θ2 b:=by
  intro b h2;simp only[Θ',nW h2]
 have hzero:∀b,w.heap.size<=b->Θ2 b=0:=fun b hge=>by
  cases h:Θ2 b with
  |zero=>rfl
  |succ m=>exact absurd (hs2.own b (by omega)) (by omega)
 have GY:∀b∈b2,Θ' b=0:=by
  intro b hb;obtain⟨p1,p3⟩:=kb b hb;rw[qK b p3];by_cases hlt:b<w.heap.size
  ·rcases p1 hlt with h|h
   ·rw[AV b ((qL b).1 h)];simp
   ·rw[bG (ug b h)]
  ·rw[hzero b (by omega)];simp
 have IP:∀(i:Nat) x b,L[i]?=some x->b∈x.ns->Θ' b=0:=by
  intro i x b hx hb;have hmem:=kR hx hb;rw[qK b (sQ K4 hx hb)];rcases(ku b hmem).1 with h|h
  ·rw[hzero b h];simp
  ·rcases qo.mem b h with h|⟨m,hm,hρ⟩
   ·rw[bG (ug b h)]
   ·rw[AV b (hu1.free b (by omega)).1];simp
 have hn:∀(j:Nat) v,κ j=some v->κ' j=some v:=by
  intro j v hj;have:j<N:=cO fun h=>by rw[hs.jN j (by omega)]at hj;cases hj
  simp only[κ'];rw[bG this];exact hj
 have mY:Names κ' N L:=by
  intro i x hx;simp only[κ'];rw[ar (by omega),cC,hx];rfl
 have IK:∀b∈L.flatMap Fs.ts,oy Γ b:=by
  intro b hb;rcases(kt b hb).2 with h|h
  ·exact .inl (eg hs.base h)
  ·obtain⟨m,hm,hΘ⟩:=xU b h;exact hs1.mine b (by omega)
 have k:eT w w' Θ2 Θ' (N+2):=by
  refine⟨by omega,k1,k2,k3,k4,fun b hlt hne=>Em b hlt (fun e=>hne (ug b e)),fun b hlt hne=>?_,fun b hb=>?_⟩
  ·rw[qK b (fun e=>?_),ar hne];rcases(kt b e).2 with h|h
   ·omega
   ·exact hne (ug b h)
  ·by_cases ht':b∈L.flatMap Fs.ts
   ·obtain⟨x,T,hx⟩:=(ku b (tr ht')).2;exact(aX.1 hx).1
   ·rw[qK b ht']at hb;split at hb
    ·exact absurd rfl hb
    ·exact bw (hs2.own b hb) k4
 have hm:∀b,2<=Θ' b->oy Γ b:=by
  intro b hb;by_cases ht':b∈L.flatMap Fs.ts
  ·exact IK b ht'
  ·rw[qK b ht']at hb;split at hb
   ·omega
   ·exact hs2.mine b hb
 have lF:=hs2.iw k hn K1;have wT:(kill st.H (ms++qs)).length=N:=by simp[dH,N]
 have key:∀(j:Nat) y,(kill st.H (ms++qs)++L.map Fs.ob)[j]?=some y->(∃i x,j=N+i/\L[i]?=some x/\y=x.ob)\/(j<N/\(y=.gone\/(kill (kill st.H ms) qs)[j]?=some y)):=by
  intro j y hj;by_cases hlt:j<N
  ·rw[aS (by rw[wT];exact hlt)]at hj;refine .inr ⟨hlt,?_⟩;rcases iv hj with h|⟨h3,h4⟩
   ·exact .inl h
   ·refine .inr ?_;simp only[aF,yH]at h3;rw[cR h3.2,cR h3.1];exact h4
  ·rw[aV (by omega),wT,b9]at hj;cases hx:L[j-N]? with
   |none=>simp[hx]at hj
   |some x=>simp[hx]at hj;exact .inl ⟨j-N,x,by omega,hx,hj.symm⟩
 have hs':cN Γ ⟨st.σ,kill st.H (ms++qs)++L.map Fs.ob⟩ κ' Θ' a w':=by
  have zE:∀(j:Nat) y,(kill (kill st.H ms) qs)[j]?=some y->y≠ .gone->∀b,ρ1 b=j+1->ρ' b=j+1:=by
   intro j y hy SZ b No;have hjk:j∉qs:=by
    rcases iv hy with h|h
    ·exact absurd h SZ
    ·exact h.1
   have hnb:l9 L b=none:=by
    cases hi:l9 L b with
    |none=>rfl
    |some i=>
     exfalso;obtain⟨x,hx,rG⟩:=lZ hi;obtain⟨z0,_,RJ,U6,Nj⟩:=hu1.free b (by omega);rcases(ku b (kR hx rG)).1 with h|h
     ·have:=(aX.1 Nj).1;omega
     ·rcases qo.mem b h with h|⟨m,hm',hρ⟩
      ·obtain⟨m,hm',hΘ⟩:=xU b h;omega
      ·exact hjk (by
        have:j=m:=by omega
        rw[this];exact hm')
   simp only[ρ',hnb];exact No
  refine hs2.step k hm hn ?_ ?_ ?_ ⟨ρ',?_,?_,?_⟩
  ·intro i hi;simp only[af,wT,bL]at hi;simp only[κ'];rw[ar (by omega),bR (by omega)];rfl
  ·intro i u n8;simp only[κ']at n8;split at n8
   ·exact hs.j9 i u n8
   ·cases hx:L[i-N]? with
    |none=>simp[hx]at n8
    |some x=>simp[hx]at n8;subst n8;exact(CA x (aD hx)).2.2.2.2
  ·intro j y hj;rcases key j y hj with⟨i,x,rfl,hx,rfl⟩|⟨hjl,hy|hy⟩
   ·exact .inr (.inr (Fs.rel (CA x (aD hx)) (mY i x hx) (fun g' hg'=>CH i x g' hx hg') (fun b hb'=>IP i x b hx hb') fun hs' b hb'=>GY b (c6 x (aD hx) hs' b hb')))
   ·exact .inl hy
   ·exact .inr (.inl ⟨by omega,hy⟩)
  ·intro b hb;cases BC:l9 L b with
   |some i=>
    obtain⟨x,hx,rG⟩:=lZ BC;have hmem:=kR hx rG;refine⟨IP i x b hx rG,?_,(ku b hmem).2⟩;rcases(ku b hmem).1 with h|h
    ·exact .inl (.inl (eg hs.base h))
    ·rcases qo.mem b h with h|⟨m,hm',hρ⟩
     ·obtain⟨m,hm',hΘ⟩:=xU b h;exact .inl (hs1.mine b (by omega))
     ·exact(hu1.free b (by omega)).2.1
   |none=>
    simp only[ρ',BC]at hb;exact lF.1 b hb
  ·intro j e sz rows hj;rcases key j _ hj with⟨i,x,rfl,hx,hy⟩|⟨hjl,hy|hy⟩
   ·obtain⟨hsh,rfl,rfl,rfl⟩:=Fs.Au hy.symm;have q4:=(CA x (aD hx)).uq hsh;obtain⟨q1,q2,q3,_,_⟩:=CA x (aD hx);exact⟨x.v,x.cs,x.ns,mY i x hx,q3,q4,xe K4 hx,fun b hb'=>by simp only[ρ',sD K4 hx hb']⟩
   ·cases hy
   ·obtain⟨v',c',bs',r1,r2,r3,r4,r5⟩:=lF.2.1 j e sz rows (by omega) hy;exact⟨v',c',bs',r1,r2,r3,r4,fun b hb'=>zE j _ hy (by simp) b (r5 b hb')⟩
  ·intro j y hj;rcases key j _ hj with⟨i,x,rfl,hx,hy⟩|⟨hjl,hy|hy⟩
   ·subst hy;exact Fs.plain x
   ·subst hy;trivial
   ·by_cases hg:y=.gone
    ·subst hg;trivial
    ·exact(lF.2.2 j y (by omega) hy).re (zE j y hy hg)
 rw[<-c1]at h;obtain⟨b6,r6,s6⟩:=c5 κ' mY;refine hK _ _ (h _ _ _ _ (hs'.set (t:=t) ht r6 fun b hb=>GY b (s6 b hb)))
end
end Go.Cx
namespace Go.Cx
open Go.RowKit
def Cz(P:Program)(f:FuncId)(e:TypeId)(sz:Nat)(rows cU:List aG):Prop:=
 (∃fn,P.funcs[f]?=some fn/\fn.body.isSome=true/\(fn.name== "runtime.NumGoroutine")=false)/\
 ∀(w:World) (v:Value) (cs:aq),0<sz->(∀r∈rows,r.length=sz)->w.ownsRow 0 e sz v rows.length cs->gG w cs rows.flatten []->
  Calls P f #[v] w (fun x w'=>x=.returned (.tuple #[])/\w'.os=w.os/\w'.tape=w.tape/\w'.output=w.output/\w.heap.size<=w'.heap.size/\
   (∀b,b<w.heap.size->v.ownBlock≠some b->w'.heap[b]?=w.heap[b]?)/\(∀r∈cU,r.length=sz)/\∃cs',w'.ownsRow 0 e sz v cU.length cs'/\gG w' cs' cU.flatten [])
section
variable{P:Program}{Γ:lY}{Q:Exit->St->Prop}{st:St}{κ:Nat->Option Value}{Θ:Nat->Nat}{a:Act}{w:World}{all:Array Oper}{rest:List Oper}
theorem HR{o:Oper}{f id e sz:Nat}{x:Operand}{ts:Array TypeId}{k0:RK}{rows cU:List aG}(hop:o.op=.call {callee:=.value (.func f),args:= #[x],argTypes:=ts})(hd:∀t,o.dst=some t->t<Γ.nt)(hg:o.guard=none)
 (hx:st.ev x=.acc id) (hH:st.H[id]?=some (.row k0 e sz rows)) (hk0:k0.hand=true) (Ro:Jq e=true) (hfl:rows.flatten.all D.flat=true) (iM:Cz P f e sz rows cU)
 (h:AO P Γ all rest Q (St.put ⟨st.σ,st.H.set id (.row k0 e sz cU)⟩ o.dst (.fy []))):AO P Γ all (o::rest) Q st:=by
 intro κ Θ a w hs;obtain⟨b1,r1,_⟩:=hs.ev x;rw[hx]at r1;obtain⟨hkv,_⟩:=r1.mQ;obtain⟨hsz,hrl,v,cs,bs,hk1,hown,hrd,uf,hz⟩:=hs.ob id _ hH;rw[hkv]at hk1;cases hk1;have tR:=hrd.flat hfl;subst tR;obtain⟨ρ,hu⟩:=hs.kx;refine wpList_plain hg fun K hK=>?_
 unfold Oper.wp;rw[nH hop iM.1,Oper.upon_enter];have e1:(#[x]:Array Operand).map a.eval= #[a.eval x]:=by simp
 rw[e1];refine(iM.2 w _ cs hsz hrl hown hrd).mono ?_;rintro e' w' ⟨rfl,k1,k2,k3,k4,k5,zZ,cs',xT,BG⟩;have kk:eT w w' Θ Θ (id+2):=⟨by omega,k1,k2,k3,k4,fun b hb ht=>k5 b hb fun e=>ht (uf b e),fun _ _ _=>rfl,fun b hb=>bw (hs.own b hb) k4⟩
 have hs':cN Γ ⟨st.σ,st.H.set id (.row k0 e sz cU)⟩ κ Θ a w':=by
  refine hs.put [] pG (fun _ _ h=>h) (fun i hi=>hs.jN i (by simpa using hi)) hs.j9 kk hs.mine ?_ hu (by simp) ?_ ?_
  ·refine⟨hsz,zZ,_,cs',[],hkv,xT,BG,uf,?_⟩;cases k0 with
   |cl=>simp[RK.hand]at hk0
   |mv n=>simp[RK.hand]at hk0
   |ho p n=>simp[RK.hand]at hk0
   |sh=>simp
   |uq=>simp
  ·intro e2 EH dF he;cases he;exact⟨_,cs',[],hkv,xT,.of BG (rS (xz Ro)),by simp,by simp⟩
  ·cases k0 with
   |mv n=>simp[RK.hand]at hk0
   |ho p n=>simp[RK.hand]at hk0
   |_=>rfl
 show K (a.put o.dst (.tuple #[])) w';refine hK _ _ (h κ Θ _ w' ?_);cases CC:o.dst with
 |none=>exact hs'
 |some t=>exact hs'.set (hd t CC) (.fy [] [] [] .nil) (by simp)
end
end Go.Cx
namespace Go.Cx
open Go.RowKit
inductive An where
 |b (v:Bool)
 |row (r:aG)
 |ix (i:Nat)
 |ch (x:UInt8)
 |cut (l h:Nat)
 |d (x:D)
 |fl (v:Bool)
 |n (k:Nat)
 |n2 (π ρ:aH) (k m:Nat) (L X:aH)
 |sk (id:Nat)
 |JD (t:Nat)
 |pb (id off e sz:Nat)
 |vw (t:Nat)
 |cn (K o:aH)
 |hl (m:Nat) (K o:aH)
 |mu (id:Nat) (rows:List aG)
 |dc (x:D)
 |gv (ms:aH) (outs:List Rw) (d:D)
 |mg (id i off:Nat) (r:aG)
 |ov (id:Nat) (rows:List aG)
 |kv (m:List (D×D))
 |gp (nz:List (List (Option (Nat×Nat)))) (cells:aG) (d:D)
 |dn (cells:aG)
 |fz
 |nl (x:D)
 |ds (x:D)
 |mz (id:Nat)
 |tk (r:aG)
 |gf (nz:List (List (Option (Nat×Nat)))) (d:D)
 |hd
abbrev si:=List Prop
def oK:si->Prop
 | []=>True
 |p::ps=>p/\oK ps
theorem oK.app{p q:si}(h:oK (p++q)):oK p/\oK q:=by
 induction p with
 |nil=>exact⟨trivial,h⟩
 |cons x p ih=>exact⟨⟨h.1,(ih h.2).1⟩,(ih h.2).2⟩
def vn(P:Program)(st:St)(op:Op)(A:List An):Option (D×List An×si):=match op with
 | .indexAddr t x i=>(match vJ P t,st.ev x,st.ev i,A with
  |some (_,sz),.sl rows,.int _ n,.row r::A=>some (.ep r 0,A,[0<=n/\rows[n.toNat]?=some r/\r.length=sz])
  |some (_,sz),.acc id,.int _ n,.ix k::A=>(match st.H[id]? with|some (.row _ _ sz' rows)=>some (.op id k sz 0,A,[sz=sz'/\n=(k:Int)/\k<rows.length])|_=>none)
  |_,.val (.pointer (some ⟨g,o,none⟩)),.int _ n,.ix k::A=>(match OL P t with|some (sz,len)=>some (.val (.pointer (some ⟨g,o+k*sz,none⟩)),A,[n=(k:Int)/\k<len])|none=>none)
  |_,_,_,_=>none)
 | .index t x i=>(match yq P t,st.ev x,st.ev i,A with
  |true,.str s,.int _ n,.ch c::A=>some (.int .u8 c.toNat,A,[0<=n/\s[n.toNat]?=some c])
  |false,.agg cells,.int _ n,.d d::A=>(match OM P t with|some len=>some (d,A,[(0<=n/\n<(len:Int))/\cells[n.toNat]?=some d])|none=>none)
  |_,_,_,_=>none)
 | .load t x=>(match st.ev x with
  | .op id i sz off=>(match pH P t,st.H[id]?,A with
   |some false,some (.row (.ho p n) _ sz' _),.hd::A=>some (.acc n,A,[sz'=sz/\i*sz+off=p])
   |some ag,some (.row k _ sz' rows),.row r::A=>(match k with
    | .ho _ _=>none
    |_=>(match w8 ag (oX P t) r off with
     |some d=>some (d,A,[sz'=sz/\k.CW=true/\rows[i]?=some r/\off+(bif ag then oX P t else 1)<=sz])
     |none=>none))
   |_,_,_=>none)
  | .val (.pointer (some ⟨g,o,none⟩))=>(match pH P t,A with
   |some false,.d d::A=>some (d,A,[Bs g o=some d])
   |some true,A=>(match FF g o (oX P t)with|some d=>some (d,A,[])|none=>none)
   |_,_=>none)
  |_=>(match pv P st op with|some d=>some (d,A,[])|none=>none))
 | .slice t x lo hi none=>(match st.ev x,A with
  | .str s,.cut l h::A=>(match yq P t with
   |true=>some (.str ((s.take h).drop l),A,[o8 s.length (lo.map st.ev) (hi.map st.ev)=some (l,h)])
   |false=>none)
  | .sl rows,.cut l h::A=>(match vJ P t with
   |some (_,sz)=>some (.sl ((rows.take h).drop l),A,[o8 rows.length (lo.map st.ev) (hi.map st.ev)=some (l,h)/\(rows.all fun r=>r.length==sz)=true])
   |none=>none)
  |_,_=>none)
 | .binOp op' t x y t'=>(match op',st.ev x,st.ev y with
  | .add,.str a,.str b=>some (.str (a++b),A,[a.length+b.length<=maxLen])
  | .quo,.int k a,.int k' b=>some (.int k (a/b),A,[k=k'/\0<=a/\0<b])
  | .rem,.int k a,.int k' b=>some (.int k (a%b),A,[k=k'/\0<=a/\0<b])
  |_,_,_=>(match pv P st op with|some d=>some (d,A,[])|none=>none))
 | .lookup T x i ok=>(match st.ev x,A with
  | .acc id,.d d::A=>(match st.H[id]? with
   |some (.mp kv)=>some (d,A,[Sq P T kv (st.ev i) ok=some d])
   |_=>none)
  |_,_=>none)
 | .pick c a b=>(match st.ev c,A with
  | .bool t,.b v::A=>(match v with|true=>some (st.ev a,A,[t=true])|false=>some (st.ev b,A,[t=false]))
  |_,_=>none)
 |_=>(match pv P st op with|some d=>some (d,A,[])|none=>none)
theorem G9{P:Program}{st:St}{op:Op}{A A':List An}{d:D}{p:si}(h:vn P st op A=some (d,A',p))(hp:oK p):pv P st op=some d:=by
 have plain:∀ {op},(match pv P st op with|some d=>some (d,A,([]:si))|none=>none)=some (d,A',p)->pv P st op=some d:=by
  intro op h;split at h
  ·cases h;assumption
  ·cases h
 unfold vn at h;split at h
 ·rename_i t x i;split at h
  ·rename_i e sz rows kk n r A1 h1 h2 h3;cases h;obtain⟨⟨q1,q2,q3⟩,_⟩:=hp;simp only[pv,h1,h2,h3,q1,q2,jV,q3]
  ·rename_i e sz id kk n k A1 h1 h2 h3;split at h
   ·rename_i k' e' sz' rows hH;cases h;obtain⟨⟨rfl,rfl,q3⟩,_⟩:=hp;simp[pv,h1,h2,h3,hH,q3]
   ·cases h
  ·rename_i g o' kk n k A1 h2 h3;split at h
   ·rename_i sz len hT;cases h;obtain⟨⟨rfl,q3⟩,_⟩:=hp;simp[pv,h2,h3,hT,q3]
   ·cases h
  ·cases h
 ·rename_i t x i;split at h
  ·rename_i s kk n c A1 h1 h2 h3;cases h;obtain⟨⟨q1,q2⟩,_⟩:=hp;simp only[pv,h1,h2,h3,q1,q2,jV]
  ·rename_i cells kk n d' A1 h1 h2 h3;split at h
   ·rename_i len hT;cases h;obtain⟨⟨q1,q2⟩,_⟩:=hp;simp only[pv,h1,h2,h3,hT,q1,q2,wk,jV]
   ·cases h
  ·cases h
 ·rename_i t x;split at h
  ·rename_i id i sz off h1;split at h
   ·rename_i p' n e sz' rows A1 h2 h3;cases h;obtain⟨⟨rfl,rfl⟩,_⟩:=hp;simp only[pv,h2,h1,h3,wk,jV]
   ·rename_i ag k e sz' rows r A1 h2 h3;split at h
    ·cases h
    ·rename_i R2;split at h
     ·rename_i d' hd;cases h;obtain⟨⟨rfl,q2,q3,q4⟩,_⟩:=hp;cases k with
      |ho p n=>exact absurd rfl (R2 p n)
      |_=>simp only[pv,h2,h1,h3,q3,q2,q4,pS,wk,jV,hd]
     ·cases h
   ·cases h
  ·rename_i g o' h1;split at h
   ·rename_i d' A1 h2;cases h;simp only[pv,h2,h1];exact hp.1
   ·rename_i h2;split at h
    ·rename_i d' hA;cases h;simp only[pv,h2,h1];exact hA
    ·cases h
   ·cases h
  ·exact plain h
 ·rename_i t x lo hi;split at h
  ·rename_i s l hh A1 h1;split at h
   ·rename_i h2;cases h;obtain⟨q1,_⟩:=hp;simp only[pv,h1,h2,q1,jV]
   ·cases h
  ·rename_i rows l hh A1 h1;split at h
   ·rename_i e sz h2;cases h;obtain⟨⟨q1,q2⟩,_⟩:=hp;simp only[pv,h1,h2,q1,q2,jV]
   ·cases h
  ·cases h
 ·rename_i op' t x y t';split at h
  ·rename_i a b h1 h2;cases h;obtain⟨q1,_⟩:=hp;simp only[pv,h1,h2,Gp,q1,jV]
  ·rename_i k a k' b h1 h2;cases h;obtain⟨⟨rfl,q1,q2⟩,_⟩:=hp;simp only[pv,h1,h2,Gp,q1,q2,jV,wk]
  ·rename_i k a k' b h1 h2;cases h;obtain⟨⟨rfl,q1,q2⟩,_⟩:=hp;simp only[pv,h1,h2,Gp,q1,q2,jV,wk]
  ·exact plain h
 ·rename_i T x i ok;split at h
  ·rename_i id d' A1 h1;split at h
   ·rename_i kv hH;cases h;simp only[pv,h1,hH];exact hp.1
   ·cases h
  ·cases h
 ·split at h
  ·rename_i t v A1 h1;split at h
   ·cases h;obtain⟨rfl,_⟩:=hp;simp[pv,h1]
   ·cases h;obtain⟨rfl,_⟩:=hp;simp[pv,h1]
  ·cases h
 ·exact plain h
def bytesOf:List aG->Option Bytes
 | []=>some []
 |r::rs=>match r,bytesOf rs with
  | [.int .u8 n],some bs=>some (UInt8.ofNat n.toNat::bs)
  |_,_=>none
theorem DD:∀ {rows:List aG} {bs:Bytes},bytesOf rows=some bs->∃xs:bz,rows=xs.map (fun n=>[D.int .u8 n])/\bs=xs.map (fun n=>UInt8.ofNat n.toNat):=by
 intro rows
 induction rows with
 |nil=>intro bs h;cases h;exact⟨[],rfl,rfl⟩
 |cons r rs ih=>
  intro bs h;simp only[bytesOf]at h;split at h
  ·rename_i n bs' h1;cases h;obtain⟨xs,rfl,rfl⟩:=ih h1;exact⟨n::xs,rfl,rfl⟩
  ·cases h
theorem AM:∀(xs:bz),(xs.map (fun n=>[D.int .u8 n])).flatten=xs.map (fun n=>D.int .u8 n)
 | []=>rfl
 |n::xs=>by simp only[ax,cw,AM xs];rfl
def QM(A:List An)(t:Nat):Option (List An):=match A with
 | .JD u::A=>if u=t then some A else none
 |_=>none
def RG(H:ai)(d:D)(e sz:Nat):Option (List aG×Bool×aH):=match d with
 | .nil=>some ([],true,[])
 | .acc m=>(match H[m]? with
  |some (.row k e' sz' rows)=>(match k with| .cl=>none| .uq=>(if e'=e/\sz'=sz then some (rows,true,[m])else none)| .sh=>(if e'=e/\sz'=sz then some (rows,false,[m])else none)| .mv _=>none| .ho _ _=>none)
  |_=>none)
 |_=>none
def Qw(H:ai)(d:D)(e sz:Nat)(A:List An):Option (List aG×Bool×aH×List An×si):=match d,A with
 | .nil,A=>some ([],true,[],A,[])
 | .acc m,A=>(match H[m]? with
  |some (.row k e' sz' rows)=>(match k with| .cl=>none| .uq=>(if e'=e/\sz'=sz then some (rows,true,[m],A,[])else none)| .sh=>(if sz'=sz then some (rows,false,[m],A,[])else none)| .mv _=>none| .ho _ _=>none)
  |_=>none)
 | .sl rows,.fl f::A=>some (rows,f&&Jq e,[],A,[(∀r∈rows,r.length=sz)/\(f=true->D.qH rows=true)])
 |_,_=>none
def Ad(st:St)(d:D):Option (Nat×Nat×List aG×Option Value):=match d with
 | .acc id=>(match st.H[id]? with|some (.nF sz rows u)=>some (id,sz,rows,u)|_=>none)
 |_=>none
theorem Ae{st:St}{d:D}{id sz:Nat}{rows:List aG}{u:Option Value}(h:Ad st d=some (id,sz,rows,u)):d=.acc id/\st.H[id]?=some (.nF sz rows u):=by
 unfold Ad at h;split at h
 ·split at h
  ·rename_i hH;cases h;exact⟨rfl,hH⟩
  ·cases h
 ·cases h
def CO(st:St)(d:D):Option (Nat×Nat×Nat×Nat×List aG×Option Value):=match d with
 | .op id i sz off=>(match st.H[id]? with|some (.nF sz' rows u)=>if sz'=sz then some (id,i,off,sz,rows,u)else none|_=>none)
 |_=>none
theorem Er{st:St}{d:D}{id i off sz:Nat}{rows:List aG}{u:Option Value}(h:CO st d=some (id,i,off,sz,rows,u)):d=.op id i sz off/\st.H[id]?=some (.nF sz rows u):=by
 unfold CO at h;split at h
 ·split at h
  ·split at h
   ·rename_i hH he;subst he;cases h;exact⟨rfl,hH⟩
   ·cases h
  ·cases h
 ·cases h
def Et(H:ai)(A:List An):Option (ai×List An×si):=match A with
 | .mg id i off r::A=>(match H[id]? with
  |some (.hole sz rows u p n)=>(match H[n]?,r[off]? with
   |some (.nF _ dF _),some _=>some ((H.set n .gone).set id (.nF sz (rows.set i (r.set off (.sl dF))) u),A,[rows[i]?=some r,p=i*sz+off])
   |_,_=>none)
  |_=>none)
 |A=>some (H,A,[])
def lU(n:Nat):aG->aG×ai
 | []=>([],[])
 |d::ds=>match d with
  | .sl rows=>(.acc n::(lU (n+1) ds).1,.tk rows::(lU (n+1) ds).2)
  |d=>(d::(lU n ds).1,(lU n ds).2)
def F8(r:aG):Bool:=r.all fun d=>match d with| .sl _=>true|d=>d.flat
def wB(P:Program)(nt:Nat)(o:Oper)(st:St)(A:List An):Option (St×List An×si):=match o.op,o.dst with
 | .box _ x,some t=>(if t<nt then match(st.ev x).cellsOf with|some ds=>some (⟨(t,.ptr st.H.length 0)::st.σ,st.H++[.box ds]⟩,A,[])|none=>none else none)
 | .alloc T,some t=>(if t<nt then match tz P T with|some ds=>some (⟨(t,.ptr st.H.length 0)::st.σ,st.H++[.box ds]⟩,A,[])|none=>none else none)
 | .store T x y,none=>(match st.ev x,(st.ev y).cellsOf with
  | .ptr id off,some ds=>(match st.H[id]? with
   |some ob=>(match ob.FW with
    |some cells=>(if Ck P T=true/\ds.length=oX P T/\off+ds.length<=cells.length/\ob.Fu off=true then some (⟨st.σ,st.H.set id (ob.re (cells.take off++ds++cells.drop (off+ds.length)))⟩,A,[])else none)
    |none=>none)
   |none=>none)
  | .op id i sz off,some ds=>(match st.H[id]?,wq st.H ds,A with
   |some (.nF sz' rows u),_,.row r::A=>(if Ck P T=true/\ds.length=oX P T/\0<ds.length/\sz'=sz/\off+ds.length<=sz/\ds.all D.flat=true then
    some (⟨st.σ,st.H.set id (.nF sz (rows.set i (r.take off++ds++r.drop (off+ds.length))) u)⟩,A,[rows[i]?=some r])else none)
   |some (.row k e sz' rows),some (es,ms),.row r::A=>(if Ck P T=true/\ds.length=oX P T/\sz'=sz/\k.CW=true/\off+ds.length<=sz/\ms.Nodup/\id∉ms then
    some (⟨st.σ,(kill st.H ms).set id (.row (k.after (H6 st.H e off ds&&I3 e sz)) e sz (rows.set i (r.take off++es++r.drop (off+ds.length))))⟩,A,[rows[i]?=some r])else none)
   |_,_,_=>none)
  |_,_=>none)
 | .makeMap _ none,some t=>(if t<nt then some (⟨(t,.acc st.H.length)::st.σ,st.H++[.mp []]⟩,A,[])else none)
 | .mapUpdate T x i y,none=>(match Jm P T,st.ev x,A with
  |some (kd,_),.acc id,.kv m::A=>(match st.H[id]? with
   |some (.mp kv)=>(if ye kd (st.ev i)=true/\(st.ev y).scalar=true then some (⟨st.σ,st.H.set id (.mp m)⟩,A,[Ba (st.ev i) (st.ev y) kv=some m])else none)
   |_=>none)
  |_,_,_=>none)
 | .makeSlice T x y,some t=>(match vJ P T,st.ev x,st.ev y with
  |some (e,sz),.int _ n,.int _ n'=>(match tz P e with
   |some zs=>(if t<nt/\0<sz then some (⟨(t,.acc st.H.length)::st.σ,st.H++[.row (nV (Jq e)) e sz (List.replicate n.toNat (zs.map D.rZ))]⟩,A,[n'=n/\0<=n/\Jk P e*n.toNat<=281474976710656/\n.toNat<=4611686018427387904])else none)
   |none=>none)
  |_,_,_=>none)
 | .buildSlice T len parts,some t=>(match vJ P T with
  |some (e,sz)=>(match tz P e with
   |some zs=>(match o9 (kp len sz) (List.replicate len zs).flatten (parts.toList.map fun p=>(p.1,st.ev p.2))with
    |some ds=>(match wq st.H ds with
     |some (es,ms)=>(if t<nt/\0<sz/\len*sz<=16777216/\ms.Nodup then some (⟨(t,.acc st.H.length)::st.σ,kill st.H ms++[.row (nV (H6 st.H e 0 ds)) e sz (chunk sz len es)]⟩,A,[])else none)
     |none=>none)
    |none=>none)
   |none=>none)
  |none=>none)
 | .call c,some t=>(match c.callee,c.args.toList,c.argTypes.toList with
  | .builtin .append,[s,x],[T,T']=>(match vJ P T with
   |some (e,sz)=>(match tz P e,RG st.H (st.ev s) e sz,Qw st.H (st.ev x) e sz A with
    |some _,some (rows,u1,k1),some (dF,u2,k2,A,ow)=>(if t<nt/\0<sz/\T'=T/\(k1++k2).Nodup then
     some (⟨(t,.acc st.H.length)::st.σ,kill st.H (k1++k2)++[.row (nV ((u1&&u2)&&I3 e sz)) e sz (rows++dF)]⟩,A,(rows.length+dF.length<=maxLen/\(rows.length+dF.length)*Jk P e<=140737488355328)::ow)else none)
    |_,_,_=>none)
   |none=>none)
  | .builtin .len,[x],[T]=>(match Ad st (st.ev x)with
   |some (_,_,rows,_)=>(if t<nt/\(vJ P T).isSome=true then some (⟨(t,.int .i64 rows.length)::st.σ,st.H⟩,A,[])else none)
   |none=>(if t<nt then match vn P st o.op A with|some (d,A,ow)=>some (⟨(t,d)::st.σ,st.H⟩,A,ow)|none=>none else none))
  | .value (.func f),xs,_=>(match vo st.H (xs.map st.ev),A with
   |_,.gv ms outs d::A=>(match Ac st.H ms with
    |some ins=>(if t<nt/\ms.Nodup/\((xs.map st.ev).all D.bare)=true then
     (match Et (CZ st.H ms outs) A with
     |some (H',A',ow)=>some (⟨(t,d)::st.σ,H'⟩,A',Lm P f ((xs.map st.ev).map (D.G2 ms)) ins outs d::ow)
     |none=>none)else none)
    |none=>none)
   |_,.gp nz cells' d::A=>(match xs with
    |x0::xr=>(match st.ev x0 with
     | .ptr id 0=>(match st.H[id]? with
      |some ob=>(match ob.FW with
       |some yN=>(match qO st.H nz (.agg yN::xr.map st.ev)with
        |some (.agg cells::ds,ms,qs)=>(if t<nt/\ms.Nodup/\qs.Nodup/\(∀m∈qs,m∉ms)then
         some (⟨(t,(ir (st.H.length+(iN st.H.length cells').2.length) d).1)::st.σ,(kill st.H (ms++qs)).set id (ob.re (iN st.H.length cells').1)++((iN st.H.length cells').2++(ir (st.H.length+(iN st.H.length cells').2.length) d).2)⟩,A,[jB P f cells cells' ds d])else none)
        |_=>none)
       |none=>none)
      |none=>none)
     |_=>none)
    | []=>none)
   |some (ds,ms),.dn cells::A=>(if t<nt/\ms=[]then some (⟨(t,.ptr st.H.length 0)::st.σ,st.H++[.box cells]⟩,A,[wo P f ds cells])else none)
   |some (ds,_),.dc d::A=>(if t<nt/\d.Ak=true then some (⟨(t,(ir st.H.length d).1)::st.σ,st.H++(ir st.H.length d).2.map Ob.close⟩,A,[Good P f ds d])else none)
   |_,.ov id cU::A=>(match st.H[id]? with
    |some (.row .uq e sz rows)=>(if t<nt/\((xs.map st.ev).all D.bare)=true/\Jq e=true then some (⟨(t,.acc st.H.length)::st.σ,kill st.H [id]++[.row .uq e sz cU]⟩,A,[rows.flatten.all D.flat=true,Ll P f ((xs.map st.ev).map (D.G2 [id])) e sz rows cU])else none)
    |_=>none)
   |_,.mu id cU::A=>(match xs,st.H[id]? with
    | [x],some (.row k e sz rows)=>(match st.ev x with
     | .acc id'=>(if t<nt/\id'=id/\k.hand=true/\Jq e=true then some (⟨(t,.fy [])::st.σ,st.H.set id (.row k e sz cU)⟩,A,[rows.flatten.all D.flat=true,Cz P f e sz rows cU])else none)
     |_=>none)
    |_,_=>none)
   |some (ds,ms),.d d::A=>(if t<nt/\(ms=[]\/d.Ak=true)then some (⟨(t,(ir st.H.length d).1)::st.σ,st.H++(ir st.H.length d).2⟩,A,[Good P f ds d])else none)
   |_,.nl d::A=>(if t<nt/\(xs.map st.ev).all zF=true then some (⟨(t,(ir st.H.length d).1)::st.σ,st.H++(ir st.H.length d).2⟩,A,[Good P f (xs.map st.ev) d])else none)
   |_,.gf nz d::A=>(match qO st.H nz (xs.map st.ev)with
    |some (ds,ms,qs)=>(if t<nt/\ms.Nodup/\qs.Nodup/\(∀m∈qs,m∉ms)then some (⟨(t,(ir st.H.length d).1)::st.σ,kill st.H (ms++qs)++(ir st.H.length d).2⟩,A,[FI P f ds d])else none)
    |none=>none)
   |_,_=>none)
  |_,_,_=>(if t<nt then match vn P st o.op A with|some (d,A,ow)=>some (⟨(t,d)::st.σ,st.H⟩,A,ow)|none=>none else none))
 | .convert s d x,some t=>(match st.ev x with
  | .acc id=>(match st.H[id]?,vJ P s with
   |some (.row _ _ _ rows),some (e,sz)=>(match bytesOf rows with
    |some bs=>(if t<nt/\sz=1/\FA P e=some .u8/\yq P d=true then some (⟨(t,.str bs)::st.σ,st.H⟩,A,[])else none)
    |none=>none)
   |_,_=>none)
  |_=>(if t<nt then match vn P st o.op A with|some (d,A,ow)=>some (⟨(t,d)::st.σ,st.H⟩,A,ow)|none=>none else none))
 | .assign x,some t=>(match QM A t with
  |some A=>(match st.ev x,vJ P o.type with
   | .nil,some (e,sz)=>(if t<nt/\0<sz then some (⟨(t,.acc st.H.length)::st.σ,st.H++[.row .uq e sz []]⟩,A,[])else none)
   |_,_=>none)
  |none=>(if t<nt then some (⟨(t,st.ev x)::st.σ,st.H⟩,A,[])else none))
 | .slice T x none (some hi) none,some t=>(match st.ev x with
  | .acc id=>(match st.H[id]?,vJ P T,st.ev hi,A with
   |some (.row .uq e sz rows),some (_,sz'),.int _ n,.cut 0 h::A=>(if t<nt/\sz'=sz then some (⟨(t,.acc st.H.length)::st.σ,kill st.H [id]++[.row .uq e sz (rows.take h)]⟩,A,[n=((h:Nat):Int)/\h<=rows.length])else none)
   |_,_,_,_=>none)
  |_=>(if t<nt then match vn P st o.op A with|some (d,A,ow)=>some (⟨(t,d)::st.σ,st.H⟩,A,ow)|none=>none else none))
 | .slice T (.tmp s) (some lo) none none,some t=>(match A,lk st.σ s with
  | .fz::A,.acc id=>(match st.H[id]? with
   |some (.row k e sz rows)=>(if t<nt/\k.CW=true then match vn P ⟨(s,.sl rows)::st.σ,st.H.set id .gone⟩ o.op A with|some (d,A,ow)=>some (⟨(t,d)::(s,.sl rows)::st.σ,st.H.set id .gone⟩,A,ow)|none=>none else none)
   |_=>none)
  |_,_=>(if t<nt then match vn P st o.op A with|some (d,A,ow)=>some (⟨(t,d)::st.σ,st.H⟩,A,ow)|none=>none else none))
 | .indexAddr T x i,some t=>(match Ad st (st.ev x)with
  |some (id,sz,rows,_)=>(match vJ P T,st.ev i,A with
   |some (_,sz'),.int _ n,.ix m::A=>(if t<nt/\sz'=sz then some (⟨(t,.op id m sz 0)::st.σ,st.H⟩,A,[n=(m:Int)/\m<rows.length])else none)
   |_,_,_=>none)
  |none=>(if t<nt then match vn P st o.op A with|some (d,A,ow)=>some (⟨(t,d)::st.σ,st.H⟩,A,ow)|none=>none else none))
 | .load T x,some t=>(match CO st (st.ev x)with
  |some (id,i,off,sz,rows,u)=>(match pH P T,A with
   |some false,.row r::A=>(match r[off]? with
    |some (.sl dF)=>(match vJ P T with
     |some (_,EH)=>(if t<nt then some (⟨(t,.acc st.H.length)::st.σ,st.H.set id (.hole sz (rows.set i (r.set off .any)) u (i*sz+off) st.H.length)++[.nF EH dF none]⟩,A,[rows[i]?=some r,∀q∈dF,q.length=EH])else none)
     |none=>none)
    |some d=>(if t<nt/\d.flat=true then some (⟨(t,d)::st.σ,st.H⟩,A,[rows[i]?=some r])else none)
    |none=>none)
   |_,_=>none)
  |none=>(match A,st.ev x with
   | .tk r::A,.op id i sz 0=>(match st.H[id]? with
    |some (.row (.mv n) e sz' rows)=>(if t<nt/\sz'=sz/\pH P T=some true/\oX P T=sz then
     some (⟨(t,.agg (lU st.H.length r).1)::st.σ,st.H.set id (.row (.mv (n+1)) e sz rows)++(lU st.H.length r).2⟩,A,[i=n/\rows[n]?=some r/\F8 r=true])else none)
    |_=>none)
   |A,_=>(if t<nt then match vn P st o.op A with|some (d,A,ow)=>some (⟨(t,d)::st.σ,st.H⟩,A,ow)|none=>none else none)))
 |op,some t=>(if t<nt then match vn P st op A with|some (d,A,ow)=>some (⟨(t,d)::st.σ,st.H⟩,A,ow)|none=>none else none)
 |_,none=>none
section
variable{P:Program}{Γ:lY}{Q:Exit->St->Prop}{st:St}{all:Array Oper}{rest:List Oper}
theorem cN.J4{κ:Nat->Option Value}{Θ:Nat->Nat}{a:Act}{w:World}(hs:cN Γ st κ Θ a w)(e sz:Nat)(hsz:0<sz):cN Γ ⟨st.σ,st.H++[.row .uq e sz []]⟩ (oG κ st.H.length (some (.slice none 0 0))) Θ a w:=by
 obtain⟨ρ,hu⟩:=hs.kx;refine hs.put [] rV (nj (hs.jN _ (b8 _)) _) ?_ ?_ (eT.refl hs.own (by omega)) hs.mine ?_ hu (by simp) ?_
 ·intro i hi;simp only[af,aR,bC]at hi;unfold oG;rw[ar (by omega)];exact hs.jN i (by omega)
 ·intro i x hx;unfold oG at hx;split at hx
  ·cases hx;rfl
  ·exact hs.j9 i x hx
 ·exact⟨hsz,by simp,_,[],[],gQ _ _ _,World.ownsRow_nil w 0 e sz,.nil,by simp[Value.ownBlock],by simp⟩
 ·intro e' sz' cU he;simp only[Ob.row.injEq,pS]at he;obtain⟨rfl,rfl,rfl⟩:=he;exact⟨_,[],[],gQ _ _ _,World.ownsRow_nil w 0 e sz,.nil _,by simp,by simp⟩
theorem N0{o:Oper}{x:Operand}{t e sz:Nat}(hop:o.op=.assign x)(hd:o.dst=some t)(hg:o.guard=none)(ht:t<Γ.nt)(hx:st.ev x=.nil)(hsz:0<sz)
 (h:AO P Γ all rest Q ⟨(t,.acc st.H.length)::st.σ,st.H++[.row .uq e sz []]⟩):AO P Γ all (o::rest) Q st:=by
 intro κ Θ a w hs;obtain⟨bs,r,_⟩:=hs.ev x;rw[hx]at r;have hv:=r.xd;have hp:pv P st o.op=some .nil:=by rw[hop];simp[pv,hx]
 obtain⟨v,b2,hrun,hrd,hz⟩:=uy hs hp;have hv2:=hrd.xd;subst hv2;refine wpList_plain hg fun K hK=>?_
 unfold Oper.wp;rw[hrun,Oper.upon_value,hd];refine hK _ _ (h _ _ _ _ ((hs.J4 e sz hsz).set (t:=t) (d:=.acc st.H.length) (bs:=[]) ht ?_ (by simp)));exact(oz.acc st.H.length _ (gQ _ _ _)).Bq
theorem dA.OJ{κ:Nat->Option Value}{w:World}{n:Nat}(hk:κ n=some (.slice none 0 0)):∀ {vs:aq} {ds:aG} {bs:aH},dA w κ vs ds bs->∀ {off:Nat},ds[off]?=some .nil->∃bs',dA w κ vs (ds.set off (.acc n)) bs'/\∀b∈bs',b∈bs:=by
 intro vs ds bs h
 induction h with
 |nil=>intro off h;simp at h
 |cons v vs d ds b1 b2 h1 h2 h3 ih=>
  intro off h;cases off with
  |zero=>
   simp only[rI,aQ]at h;subst h;have hv:v=.slice none 0 0:=by
    cases h2 with
    |pure h2=>cases h2;rfl
   subst hv;exact⟨[]++b2,.cons _ _ _ _ _ _ h1 (.acc n _ hk) h3,fun b hb=>by simp at hb;simp[hb]⟩
  |succ off=>
   obtain⟨bs',q1,q2⟩:=ih (off:=off) (by simpa using h);exact⟨b1++bs',.cons _ _ _ _ _ _ h1 h2 q1,fun b hb=>by
    rcases aF.1 hb with hb|hb
    ·exact aF.2 (.inl hb)
    ·exact aF.2 (.inr (q2 b hb))⟩
def St.prom(st:St)(id off e sz:Nat):Option St:=match st.H[id]? with
 |some (.box cells)=>(match cells[off]? with
  |some .nil=>(if 0<sz then some ⟨st.σ,(st.H++[Ob.row .uq e sz []]).set id (Ob.box (cells.set off (.acc st.H.length)))⟩else none)
  |_=>none)
 |_=>none
theorem cN.prom{κ:Nat->Option Value}{Θ:Nat->Nat}{a:Act}{w:World}{mO:St}{id off e sz:Nat}(hs:cN Γ st κ Θ a w)(h:st.prom id off e sz=some mO):∃κ',cN Γ mO κ' Θ a w:=by
 unfold St.prom at h;split at h
 ·rename_i cells hH;split at h
  ·rename_i hc;split at h
   ·rename_i hsz;cases h;have hlt:id<st.H.length:=(aB.1 hH).1;have hs1:=hs.J4 e sz hsz;refine⟨_,hs1.defers,hs1.size,fun i hi=>hs1.jN i (by simpa using hi),hs1.j9,hs1.slot,?_,hs1.own,hs1.old,hs1.mine,hs1.stays,?_⟩
    ·intro j y hj;simp only[dX]at hj;split at hj
     ·rename_i e1;subst e1;split at hj
      ·cases hj;obtain⟨g,cs,T,q1,q2,q3,bs,q4,q5⟩:=hs1.ob id (.box cells) (by simpa[aS hlt]using hH);obtain⟨bs',p1,p2⟩:=dA.OJ (n:=st.H.length) (gQ _ _ _) q4 hc;exact⟨g,cs,T,q1,q2,q3,bs',p1,fun b hb=>q5 b (p2 b hb)⟩
      ·cases hj
     ·exact hs1.ob j y hj
    ·obtain⟨ρ,hu⟩:=hs1.kx;refine⟨ρ,hu.free,fun i e' sz' rows hi=>hu.rows i e' sz' rows ?_,fun i o hi=>?_⟩
     ·simp only[dX]at hi;split at hi
      ·split at hi<;>cases hi
      ·exact hi
     ·simp only[dX]at hi;split at hi
      ·split at hi
       ·cases hi;trivial
       ·cases hi
      ·exact hu.more i o hi
   ·cases h
  ·cases h
 ·cases h
theorem cN.Qa{κ:Nat->Option Value}{Θ:Nat->Nat}{a:Act}{w:World}{id e sz:Nat}{rows:List aG}(hs:cN Γ st κ Θ a w)(hH:st.H[id]?=some (.row .uq e sz rows)):cN Γ ⟨st.σ,st.H.set id (.row .sh e sz rows)⟩ κ Θ a w:=by
 have hlt:id<st.H.length:=(aB.1 hH).1;refine⟨hs.defers,hs.size,fun i hi=>hs.jN i (by simpa using hi),hs.j9,hs.slot,?_,hs.own,hs.old,hs.mine,hs.stays,?_⟩
 ·intro j y hj;simp only[dX,hlt,jV]at hj;split at hj
  ·rename_i e1;subst e1;cases hj;exact(show mh w κ Θ id (.row .uq e sz rows)from hs.ob id _ hH)
  ·exact hs.ob j y hj
 ·obtain⟨ρ,hu⟩:=hs.kx;refine⟨ρ,hu.free,fun i e' sz' cU hi=>hu.rows i e' sz' cU ?_,fun i o hi=>?_⟩
  ·simp only[dX,hlt,jV]at hi;split at hi
   ·cases hi
   ·exact hi
  ·simp only[dX,hlt,jV]at hi;split at hi
   ·cases hi;trivial
   ·exact hu.more i o hi
theorem cN.VE{κ:Nat->Option Value}{Θ:Nat->Nat}{a:Act}{w:World}{id e sz:Nat}{rows:List aG}(hs:cN Γ st κ Θ a w)(hH:st.H[id]?=some (.row .uq e sz rows)):cN Γ ⟨st.σ,st.H.set id (.row (.mv 0) e sz rows)⟩ κ Θ a w:=by
 have hlt:id<st.H.length:=(aB.1 hH).1;refine⟨hs.defers,hs.size,fun i hi=>hs.jN i (by simpa using hi),hs.j9,hs.slot,?_,hs.own,hs.old,hs.mine,hs.stays,?_⟩
 ·intro j y hj;simp only[dX,hlt,jV]at hj;split at hj
  ·rename_i e1;subst e1;cases hj;exact(show mh w κ Θ id (.row .uq e sz rows)from hs.ob id _ hH)
  ·exact hs.ob j y hj
 ·obtain⟨ρ,hu⟩:=hs.kx;refine⟨ρ,hu.free,fun i e' sz' cU hi=>hu.rows i e' sz' cU ?_,fun i o hi=>?_⟩
  ·simp only[dX,hlt,jV]at hi;split at hi
   ·cases hi
   ·exact hi
  ·simp only[dX,hlt,jV]at hi;split at hi
   ·rename_i e1;subst e1;cases hi;obtain⟨v,cs,bs,q1,q2,q3,q4,q5⟩:=hu.rows id e sz rows hH;exact⟨v,cs,bs,q1,q2,by simpa using q3.rd,q4,q5⟩
   ·exact hu.more i o hi
def shares:List An->St->St×List An
 | .sk id::A,st=>(match st.H[id]? with
  |some (.row .uq e sz rows)=>shares A ⟨st.σ,st.H.set id (.row .sh e sz rows)⟩
  |_=>(st,.sk id::A))
 | .mz id::A,st=>(match st.H[id]? with
  |some (.row .uq e sz rows)=>shares A ⟨st.σ,st.H.set id (.row (.mv 0) e sz rows)⟩
  |_=>(st,.mz id::A))
 |A,st=>(st,A)
theorem cN.shares{κ:Nat->Option Value}{Θ:Nat->Nat}{a:Act}{w:World}:∀ {A A1:List An} {st oC:St},cN Γ st κ Θ a w->shares A st=(oC,A1)->cN Γ oC κ Θ a w:=by
 intro A
 induction A with
 |nil=>intro A1 st oC hs h;simp only[Cx.shares,bW]at h;obtain⟨rfl,_⟩:=h;exact hs
 |cons x A ih=>
  intro A1 st oC hs h;cases x
  case sk id=>
   simp only[Cx.shares]at h;split at h
   ·rename_i e sz rows hH;exact ih (hs.Qa hH) h
   ·simp only[bW]at h;obtain⟨rfl,_⟩:=h;exact hs
  case mz id=>
   simp only[Cx.shares]at h;split at h
   ·rename_i e sz rows hH;exact ih (hs.VE hH) h
   ·simp only[bW]at h;obtain⟨rfl,_⟩:=h;exact hs
  all_goals(simp only[Cx.shares,bW]at h;obtain⟨rfl,_⟩:=h;exact hs)
theorem KC{o:Oper}{s d:TypeId}{x:Operand}{t id e e' sz':Nat}{k:RK}{rows:List aG}{bs:Bytes}(hop:o.op=.convert s d x)(hd:o.dst=some t)(hg:o.guard=none)(ht:t<Γ.nt)(hx:st.ev x=.acc id)
 (hH:st.H[id]?=some (.row k e' sz' rows)) (hT:vJ P s=some (e,1)) (he:FA P e=some .u8) (hs':yq P d=true) (hb:bytesOf rows=some bs) (h:AO P Γ all rest Q ⟨(t,.str bs)::st.σ,st.H⟩):AO P Γ all (o::rest) Q st:=by
 intro κ Θ a w hs;obtain⟨b0,r,_⟩:=hs.ev x;rw[hx]at r;obtain⟨hk,_⟩:=r.mQ;obtain⟨hsz,hrl,v,cs,b1,hk2,hown,hrs,_,_⟩:=hs.ob id _ hH;rw[hk]at hk2;cases hk2;obtain⟨xs,rfl,rfl⟩:=DD hb;obtain⟨hu,_,_⟩:=jA hT;have TU:P.underlying e=some (.int .u8):=by
  unfold FA at he;split at he
  ·rename_i k' hk';cases he;exact hk'
  ·cases he
 have TT:=nX hs';have hfl:(xs.map (fun n=>[D.int .u8 n])).flatten=xs.map (fun n=>D.int .u8 n):=AM xs;rw[hfl]at hrs;have hcs:∀(xs:bz) (cs:aq) (b:aH),gG w cs (xs.map (fun n=>D.int .u8 n)) b->cs=xs.map (Value.int .u8):=by
  intro xs
  induction xs with
  |nil=>intro cs b h;cases h;rfl
  |cons n xs ih=>
   intro cs b h;cases h with
   |cons v vs _ _ b1 b2 _ h2 h3=>
    cases h2;rw[ih _ _ h3];rfl
 have hce:=hcs xs cs b1 hrs;have hlen:xs.length<=maxLen:=by
  rcases hown.2 with⟨_,hn⟩|⟨g,cap,cur,_,_,_,hnc,hcm,_⟩
  ·simp at hn;rw[hn];simp
  ·simp at hnc;omega
 have hrun:(convert s d (a.eval x)).run P w=.ok (.string (strOfNums xs)) w:=by
  rcases hown.2 with⟨hv,hn⟩|⟨g,cap,cur,hv,_,hg,hnc,hcm,_,_⟩
  ·have hx0:xs=[]:=by simpa using hn
   subst hx0;rw[hv,run_convert_bytes_nil w s e hu TU 0 0 d TT];rfl
  ·rw[hv];have hcell:=hown.cells (g:=g) (by rw[hv];simp[Value.ownBlock]);refine run_convert_bytes_arg w s e hu TU g 0 _ cap xs (by simp) (fun i hi=>?_) d TT;have hi':i<xs.length:=by simpa using hi
   have:=hcell i (.int .u8 (xs.getD i 0)) (by rw[hce];simp[List.getD,aN hi']);simpa[Addr.add_lit]using this
 refine wpList_plain hg fun K hK=>?_
 unfold Oper.wp;have DS:(execOp a.eval o).run P w=.ok (.value (.string (strOfNums xs))) w:=by
  simp only[execOp,hop];simp[hrun]
 rw[DS,Oper.upon_value,hd];refine hK _ _ (h _ _ _ _ (hs.set (t:=t) (bs:=[]) ht ?_ (by simp)));have Pj:(strOfNums xs).data.toList=xs.map (fun n=>UInt8.ofNat n.toNat):=by simp[strOfNums]
 have Uz:(strOfNums xs).size<=maxLen:=by
  have:(strOfNums xs).size=xs.length:=by
   have:=congrArg List.length Pj;simpa using this
  omega
 have:=Rd.str (w:=w) (strOfNums xs) Uz;rw[Pj]at this;exact .of this
theorem Mw{o:Oper}{t:Nat}{s x:Operand}{T e sz:Nat}{zs:aG}{rows dF:List aG}{u1 u2:Bool}{k1 k2:aH}{A A':List An}{ow:si}
 (hop:o.op=.call {callee:=.builtin .append,args:= #[s,x],argTypes:= #[T,T]}) (hd:o.dst=some t) (hg:o.guard=none) (ht:t<Γ.nt) (hT:vJ P T=some (e,sz)) (hz:tz P e=some zs) (hsz:0<sz)
 (hS:RG st.H (st.ev s) e sz=some (rows,u1,k1)) (hX:Qw st.H (st.ev x) e sz A=some (dF,u2,k2,A',ow)) (how:oK ow) (hnd:(k1++k2).Nodup)
 (h63:rows.length+dF.length<=maxLen) (hby:(rows.length+dF.length)*Jk P e<=140737488355328)
 (h:AO P Γ all rest Q ⟨(t,.acc st.H.length)::st.σ,kill st.H (k1++k2)++[.row (nV ((u1&&u2)&&I3 e sz)) e sz (rows++dF)]⟩):AO P Γ all (o::rest) Q st:=by
 refine GD hop hd hg ht hT hz hsz h63 hby ?_ h;intro κ Θ a w ρ hs hu;have one:∃i1 b1 c1,Hf w Θ ρ e sz (a.eval s) rows u1 i1 b1 c1/\((k1=[]/\i1=st.H.length)\/k1=[i1]):=by
  obtain⟨bs,r,_⟩:=hs.ev s;unfold RG at hS;split at hS
  ·rename_i wi;cases hS;rw[wi]at r;have:=r.xd;rw[this];exact⟨st.H.length,[],[],Hp,.inl ⟨rfl,rfl⟩⟩
  ·rename_i m wi;rw[wi]at r;obtain⟨hk,_⟩:=r.mQ;split at hS
   ·rename_i k e' sz' cU hH;split at hS
    ·cases hS
    ·split at hS
     ·rename_i hc;obtain⟨rfl,rfl⟩:=hc;cases hS;obtain⟨b1,c1,hA⟩:=wu hs hu hk hH rfl;exact⟨m,b1,c1,hA,.inr rfl⟩
     ·cases hS
    ·split at hS
     ·rename_i hc;obtain⟨rfl,rfl⟩:=hc;cases hS;obtain⟨b1,c1,hA⟩:=wu hs hu hk hH rfl;exact⟨m,b1,c1,hA,.inr rfl⟩
     ·cases hS
    ·cases hS
    ·cases hS
   ·cases hS
  ·cases hS
 have two:∃i2 b2 c2,C0 w Θ ρ e sz (a.eval x) dF u2 i2 b2 c2/\(u2=true->b2=[]\/i2∈k2):=by
  obtain⟨bs,r,hz⟩:=hs.ev x;unfold Qw at hX;split at hX
  ·rename_i A1 wi;cases hX;rw[wi]at r;have:=r.xd;rw[this];exact⟨0,[],[],Hq,fun _=>.inl rfl⟩
  ·rename_i A1 m wi;rw[wi]at r;obtain⟨hk,_⟩:=r.mQ;split at hX
   ·rename_i k e' sz' cU hH;split at hX
    ·cases hX
    ·split at hX
     ·rename_i hc;obtain⟨rfl,rfl⟩:=hc;cases hX;obtain⟨b1,c1,hA⟩:=D7 hs hu hk hH rfl;exact⟨m,b1,c1,hA,fun _=>.inr (by simp)⟩
     ·cases hX
    ·split at hX
     ·rename_i hc;subst hc;cases hX;obtain⟨b1,c1,hA⟩:=D7 hs hu hk hH rfl;exact⟨m,b1,c1,hA.sh,fun _=>.inr (by simp)⟩
     ·cases hX
    ·cases hX
    ·cases hX
   ·cases hX
  ·rename_i cU f A1 wi;cases hX;rw[wi]at r;obtain⟨⟨q1,q2⟩,_⟩:=how;obtain⟨b2,c2,hA,hb⟩:=KO (ρ:=ρ) r.Cg hz q1 0 (f&&Jq e) (fun hh=>q2 (by simp only[aM]at hh;exact hh.1)) e (fun hh=>xz (by simp only[aM]at hh;exact hh.2));exact⟨0,b2,c2,hA,fun e=>.inl (hb e)⟩
  ·cases hX
 obtain⟨i1,b1,c1,hA,hk1⟩:=one;obtain⟨i2,b2,c2,hB,hk2⟩:=two;refine⟨u1,u2,i1,i2,b1,b2,c1,c2,hA,hB,?_,fun n8=>?_⟩
 ·rcases hk1 with⟨_,h⟩|h
  ·exact .inr h
  ·exact .inl (by simp[h])
 ·rw[aM]at n8;obtain⟨n8,IC⟩:=n8;simp only[aM]at n8;refine⟨n8.1,n8.2,?_,IC⟩;rcases hk2 n8.2 with h|hmem
  ·exact .inl h
  ·refine .inr ⟨by simp[hmem],fun e=>?_⟩;rcases hk1 with⟨h1,h2⟩|h1
   ·
    have hlt:i2<st.H.length:=by
     unfold Qw at hX;split at hX
     ·cases hX;cases hmem
     ·rename_i A1 m wi;split at hX
      ·rename_i k e' sz' cU hH;have:=(aB.1 hH).1;split at hX
       ·cases hX
       ·split at hX
        ·cases hX;simp at hmem;omega
        ·cases hX
       ·split at hX
        ·cases hX;simp at hmem;omega
        ·cases hX
       ·cases hX
       ·cases hX
      ·cases hX
     ·cases hX;cases hmem
     ·cases hX
    omega
   ·subst e;have:=(aZ.1 hnd).2.2 i1 (by simp[h1]) i1 hmem;exact this rfl
theorem Jj{κ:Nat->Option Value}{w:World}:∀ {ds:aG} {n:Nat} {vs:aq} {bs:aH},gG w vs ds bs->(∀d∈ds,d.flat=true\/∃rows,d=.sl rows)->bs.Nodup->
 ∃(us:aq) (L:List aH),us.length=(lU n ds).2.length/\L.length=us.length/\L.flatten=bs/\
  (∀(j:Nat) o,(lU n ds).2[j]?=some o->∃rows u b,o=.tk rows/\us[j]?=some u/\u.oneCell'=true/\L[j]?=some b/\Rd w u (.sl rows) b)/\
  (∀κ':Nat->Option Value,(∀(j:Nat) u,us[j]?=some u->κ' (n+j)=some u)->dA w κ' vs (lU n ds).1 []):=by
 intro ds
 induction ds with
 |nil=>intro n vs bs h _ _;cases h;exact⟨[],[],rfl,rfl,rfl,by simp[lU],fun _ _=>.nil⟩
 |cons d ds ih=>
  intro n vs bs h hd hnd;cases h with
  |cons v vs _ _ b1 b2 h1 h2 h3=>
   obtain⟨n1,n2,n3⟩:=aZ.1 hnd;rcases hd d (by simp)with hf|⟨rows,rfl⟩
   ·have hb:=h2.flat hf;subst hb;obtain⟨us,L,q1,q2,q3,q4,q5⟩:=ih (n:=n) h3 (fun x hx=>hd x (by simp[hx])) n2;have e:lU n (d::ds)=(d::(lU n ds).1,(lU n ds).2):=by cases d<;>first|rfl| (simp[D.flat]at hf)
    rw[e];exact⟨us,L,q1,q2,q3,q4,fun κ' hk=>by simpa using dA.cons v vs d _ [] [] h1 (.pure h2) (q5 κ' hk)⟩
   ·obtain⟨us,L,q1,q2,q3,q4,q5⟩:=ih (n:=n+1) h3 (fun x hx=>hd x (by simp[hx])) n2;refine⟨v::us,b1::L,by simp[lU,q1],by simp[q2],by simp[q3],fun j o hj=>?_,fun κ' hk=>?_⟩
    ·cases j with
     |zero=>simp[lU]at hj;subst hj;exact⟨rows,v,b1,rfl,rfl,h1,rfl,h2⟩
     |succ j=>
      obtain⟨cU,u,b,r1,r2,r3,r4,r5⟩:=q4 j o (by simpa[lU]using hj);exact⟨cU,u,b,r1,by simpa using r2,r3,by simpa using r4,r5⟩
    ·have:=dA.cons v vs (.acc n) _ [] [] h1 (.acc n v (by have:=hk 0 v rfl;simpa using this)) (q5 κ' (fun j u hj=>by have:=hk (j+1) u (by simpa using hj);rw[<-this];congr 1;omega));simpa[lU]using this
theorem F9{r:aG}(h:F8 r=true):∀d∈r,d.flat=true\/∃rows,d=.sl rows:=by
 intro d hd;have:=aO.1 h d hd;cases d<;>first|exact .inr ⟨_,rfl⟩|exact .inl this
theorem KF{o:Oper}{T id i sz e t:Nat}{x:Operand}{rows:List aG}{r:aG}(hop:o.op=.load T x)(hd:o.dst=some t)(hg:o.guard=none)(ht:t<Γ.nt)
 (hx:st.ev x=.op id i sz 0) (hH:st.H[id]?=some (.row (.mv i) e sz rows)) (hrow:rows[i]?=some r) (hT:pH P T=some true) (hsz:oX P T=sz) (hok:F8 r=true)
 (h:AO P Γ all rest Q ⟨(t,.agg (lU st.H.length r).1)::st.σ,st.H.set id (.row (.mv (i+1)) e sz rows)++(lU st.H.length r).2⟩):AO P Γ all (o::rest) Q st:=by
 intro κ Θ a w hs;obtain⟨b1,r1,_⟩:=hs.ev x;rw[hx]at r1;obtain⟨g,o0,len,cap,hk,hv⟩:=r1.uw;obtain⟨ρ,hu⟩:=hs.kx;obtain⟨Nf,hrl,Vu,cs0,P6,Pm,M3,SJ,hΘ,oF⟩:=hs.ob id _ hH;obtain⟨vk,cs,bs,Fm,hown,hrs,hnd,hρ⟩:=hu.more id _ hH;rw[hk]at Fm Pm;cases Fm;cases Pm;have Fi:=pE hown;subst Fi;rw[bq]at hv;have Fl:r.length=sz:=hrl r (aD hrow);have hlt:i<rows.length:=(aB.1 hrow).1;have IA:rows.drop i=r::rows.drop (i+1):=by
  rw[qX hlt]
  congr 1
  rw[aN hlt]at hrow;exact mP hrow
 rw[IA,cw]at hrs;obtain⟨v1,v2,c1,c2,za,tR,k1,k2⟩:=hrs.split;have l1:v1.length=sz:=by rw[k1.length,Fl]
 have hcells:∀j c,cs[j]?=some c->w.cell? ⟨g,0+j,none⟩=some c:=by
  intro j c hj;have:=hown.cells (g:=g) (by simp[Value.ownBlock]) j c hj;simpa[Addr.add_lit]using this
 have L0:=gP (P:=P) (w:=w) hT (o:=i*sz+0) hcells;simp only[bq,ou]at L0 hv;have hle:(i+1)*sz<=rows.length*sz:=cx _ hlt;rw[eR,j3]at hle;have I9:=hown.1;have hval:(cs.drop (i*sz)).take sz=v1:=by rw[za];exact eY l1
 have hrun:(execOp a.eval o).run P w=.ok (.value (.agg v1.toArray)) w:=by
  simp only[execOp,hop,hv];have:=L0.1 trivial (by rw[hsz,I9];omega);rw[hsz,hval]at this;simp[this]
 refine wpList_plain hg fun K hK=>?_
 unfold Oper.wp;rw[hrun,Oper.upon_value,hd];rw[tR]at hnd hρ;obtain⟨n1,n2,n3⟩:=aZ.1 hnd;obtain⟨us,L,q1,q2,q3,q4,q5⟩:=Jj (κ:=κ) (n:=st.H.length) k1 (F9 hok) n1;let N:=st.H.length
 let κ':Nat->Option Value:=fun j=>if j<N then κ j else us[j-N]?
 let ρ':Nat->Nat:=fun b=>match ix (fun x:aH=>x.contains b) L with|some j=>N+j+1|none=>ρ b
 have hn:∀(j:Nat) v,κ j=some v->κ' j=some v:=by
  intro j v hj;have:j<N:=by
   rcases cY j N with h|h
   ·exact h
   ·rw[hs.jN j h]at hj;cases hj
  simp only[κ'];rw[bG this];exact hj
 have hk':∀(j:Nat) u,us[j]?=some u->κ' (N+j)=some u:=fun j u hj=>by
  simp only[κ'];rw[ar (by omega),cC];exact hj
 have PC:L.flatten.Nodup:=by rw[q3];exact n1
 have Pp:∀(j:Nat) x b,L[j]?=some x->b∈x->ρ' b=N+j+1:=by
  intro j x b hj hb;have:ix (fun x:aH=>x.contains b) L=some j:=uh hj (by simpa using hb) (fun m y hm hy=>by
   have hy':b∈y:=by simpa using hy
   exact cO fun hne=>by
    have key:∀(L:List aH),L.flatten.Nodup->∀(p q:Nat) x y,L[p]?=some x->L[q]?=some y->b∈x->b∈y->p=q:=by
     intro L
     induction L with
     |nil=>intro _ p q x y hp;simp at hp
     |cons z L ih=>
      intro hnd p q x y hp hq rG hby;simp only[cw]at hnd;obtain⟨m1,m2,m3⟩:=aZ.1 hnd;cases p with
      |zero=>
       cases q with
       |zero=>rfl
       |succ q=>
        simp at hp hq;subst hp;exact absurd rfl (m3 b rG b (cu.2 ⟨y,aD hq,hby⟩))
      |succ p=>
       cases q with
       |zero=>
        simp at hp hq;subst hq;exact absurd rfl (m3 b hby b (cu.2 ⟨x,aD hp,rG⟩))
       |succ q=>simp at hp hq;rw[ih m2 p q x y hp hq rG hby]
    exact hne (key L PC m j y x hm hj hy' hb))
  simp only[ρ',this]
 have CJ:∀b,b∉c1->ρ' b=ρ b:=by
  intro b hb;simp only[ρ'];cases hi:ix (fun x:aH=>x.contains b) L with
  |none=>rfl
  |some j=>
   obtain⟨x,hx',hp⟩:=p9 hi;exact absurd (by rw[<-q3];exact cu.2 ⟨x,aD hx',by simpa using hp⟩) hb
 have Ug:id<N:=(aB.1 hH).1;have key:∀(j:Nat) y,(st.H.set id (.row (.mv (i+1)) e sz rows)++(lU st.H.length r).2)[j]?=some y->(j=id/\y=.row (.mv (i+1)) e sz rows)\/(j≠id/\j<N/\st.H[j]?=some y)\/∃m,j=N+m/\(lU st.H.length r).2[m]?=some y:=by
  intro j y hj;by_cases hlt:j<N
  ·rw[aS (by simpa using hlt)]at hj;rcases pG j y hj with h|⟨h1,h2⟩
   ·exact .inl h
   ·exact .inr (.inl ⟨h1,hlt,h2⟩)
  ·rw[aV (by simpa using hlt)]at hj;exact .inr (.inr ⟨j-N,by omega,by simpa using hj⟩)
 have kk:eT w w Θ Θ (id+2):=eT.refl hs.own (by omega);have lF:=hs.iw kk hn hu;have hone:∀(j:Nat) u,κ' j=some u->u.oneCell'=true:=by
  intro j u hj;simp only[κ']at hj;split at hj
  ·exact hs.j9 j u hj
  ·have hjl:j-N<(lU st.H.length r).2.length:=by rw[<-q1];exact(aB.1 hj).1
   obtain⟨_,u',_,_,r2,r3,_⟩:=q4 (j-N) _ (aN hjl);rw[hj]at r2;cases r2;exact r3
 have hz1:∀b∈c1,Θ b=0:=fun b hb=>(hu.free b (by rw[hρ b (by simp[hb])];omega)).1
 have hs':cN Γ ⟨st.σ,st.H.set id (.row (.mv (i+1)) e sz rows)++(lU st.H.length r).2⟩ κ' Θ a w:=by
  refine hs.step kk hs.mine hn (fun j hj=>?_) hone (fun j y hj=>?_) ⟨ρ',fun b hb=>?_,fun j e2 EH dF hj=>?_,fun j y hj=>?_⟩
  ·simp only[af,jO]at hj;simp only[κ'];rw[ar (by omega)];exact bR (by rw[q1];exact Nat.le_sub_of_add_le' hj)
  ·rcases key j y hj with⟨rfl,rfl⟩|⟨h1,h2,h3⟩|⟨m,rfl,hm⟩
   ·exact .inr (.inr ⟨Nf,hrl,_,cs0,P6,hn _ _ hk,M3,SJ,hΘ,oF⟩)
   ·exact .inr (.inl ⟨by omega,h3⟩)
   ·obtain⟨cU,u,b,rfl,r2,r3,r4,r5⟩:=q4 m y hm;exact .inr (.inr ⟨u,b,hk' m u r2,r5,fun x hx'=>hz1 x (by rw[<-q3];exact cu.2 ⟨b,aD r4,hx'⟩)⟩)
  ·by_cases hb':b∈c1
   ·exact lF.1 b (by rw[hρ b (by simp[hb'])];omega)
   ·rw[CJ b hb']at hb;exact lF.1 b hb
  ·rcases key j _ hj with⟨_,h⟩|⟨h1,h2,h3⟩|⟨m,rfl,hm⟩
   ·cases h
   ·obtain⟨v',cs',bs',p1,p2,p3,p4,p5⟩:=lF.2.1 j e2 EH dF (by omega) h3;refine⟨v',cs',bs',p1,p2,p3,p4,fun b hb=>?_⟩;rw[CJ b (fun hb'=>by have:=hρ b (by simp[hb']);have:=p5 b hb;omega)];exact p5 b hb
   ·obtain⟨_,_,_,h,_⟩:=q4 m _ hm;cases h
  ·rcases key j _ hj with⟨rfl,rfl⟩|⟨h1,h2,h3⟩|⟨m,rfl,hm⟩
   ·refine⟨_,cs,c2,hn _ _ hk,hown,?_,n2,fun b hb=>?_⟩
    ·have e1:cs.drop ((i+1)*sz)=v2:=by
      rw[eR,j3,<-dP,za];exact dM l1
     rw[e1];exact k2
    ·rw[CJ b (fun hb'=>n3 b hb' b hb rfl)];exact hρ b (by simp[hb])
   ·refine(lF.2.2 j y (by omega) h3).re fun b hb=>?_
    rw[CJ b (fun hb'=>by have:=hρ b (by simp[hb']);omega)];exact hb
   ·obtain⟨cU,u,b,rfl,r2,r3,r4,r5⟩:=q4 m y hm;have hsub:∀x∈b,ρ' x=N+m+1:=fun x hx'=>Pp m b x r4 hx'
    have Rb:b.Nodup:=by
     have Ny:∀(L:List aH),L.flatten.Nodup->∀x∈L,x.Nodup:=by
      intro L
      induction L with
      |nil=>intro _ x hx';cases hx'
      |cons z L ih=>
       intro hnd x hx';simp only[cw]at hnd;obtain⟨m1,m2,_⟩:=aZ.1 hnd;rcases aY.1 hx' with rfl|hx'
       ·exact m1
       ·exact ih m2 x hx'
     exact Ny L PC b (aD r4)
    exact⟨u,b,hk' m u r2,r5,Rb,hsub⟩
 refine hK _ _ (h κ' Θ _ w (hs'.set (t:=t) ht (.v (.agg v1 _ [] (q5 κ' hk'))) (by simp)))
theorem s9{o:Oper}{t:Nat}{d:D}{A A':List An}{p:si}(hd:o.dst=some t)(hg:o.guard=none)(ht:t<Γ.nt)(hv:vn P st o.op A=some (d,A',p))(hp:oK p)(h:AO P Γ all rest Q ⟨(t,d)::st.σ,st.H⟩):
 AO P Γ all (o::rest) Q st:=Lj hd hg ht (G9 hv hp) h
theorem GF{o:Oper}{s id e sz:Nat}{k:RK}{rows:List aG}(hx:lk st.σ s=.acc id)(hH:st.H[id]?=some (.row k e sz rows))(hk:k.CW=true)
 (h:AO P Γ all (o::rest) Q ⟨(s,.sl rows)::st.σ,st.H.set id .gone⟩):AO P Γ all (o::rest) Q st:=by
 intro κ Θ a w hs;obtain⟨ρ,hu⟩:=hs.kx;obtain⟨Θ',ρ',hs',_,⟨v,bs,hkm,hrd,hz,_⟩,_⟩:=hs.O4 hu hH hk;obtain⟨bx,rx,_⟩:=hs.slot s;rw[hx]at rx;obtain⟨PW,_⟩:=rx.mQ;have hv:a.tmps.getD s undef=v:=by rw[hkm]at PW;cases PW;rfl
 refine h κ Θ' a w ⟨hs'.defers,hs'.size,hs'.jN,hs'.j9,fun u=>?_,hs'.ob,hs'.own,hs'.old,hs'.mine,hs'.stays,hs'.kx⟩;show∃bs,kF w κ (a.tmps.getD u undef) (if u=s then .sl rows else lk st.σ u) bs/\_;by_cases lF:u=s
 ·subst lF;rw[bG rfl,hv];exact⟨bs,.of hrd,hz⟩
 ·rw[ar lF];exact hs'.slot u
theorem jW(c:Call){callee:Callee}{xs:List Operand}{ts:List TypeId}(h1:c.callee=callee)(h2:c.args.toList=xs)(h3:c.argTypes.toList=ts):c= {callee:=callee,args:=xs.toArray,argTypes:=ts.toArray}:=by
 cases c;simp only at h1 h2 h3;subst h1;subst h2;subst h3;simp
theorem CQ{H H':ai}{A A':List An}{p:si}{σ:List (Nat×D)}(h:Et H A=some (H',A',p))(hp:oK p)(hn:AO P Γ all rest Q ⟨σ,H'⟩):AO P Γ all rest Q ⟨σ,H⟩:=by
 unfold Et at h;split at h
 ·split at h
  ·rename_i sz rows u p' n hH;split at h
   ·rename_i EH dF u2 d hN hc;cases h;have he:=hp.2.1;subst he;exact HX (st:=⟨σ,H⟩) hH hN hp.1 hc hn
   ·cases h
  ·cases h
 ·cases h;exact hn
theorem Bz{o:Oper}{A A':List An}{mO:St}{p:si}{nt:Nat}(hnt:Γ.nt=nt)(hg:o.guard=none)(h:wB P nt o st A=some (mO,A',p))(hp:oK p)(hn:AO P Γ all rest Q mO):AO P Γ all (o::rest) Q st:=by
 subst hnt;unfold wB at h;split at h
 ·rename_i T x t hop hd;split at h
  ·split at h
   ·cases h;exact Mx hop hd hg (by assumption) (by assumption) hn
   ·cases h
  ·cases h
 ·rename_i T t hop hd;split at h
  ·split at h
   ·cases h;exact HN hop hd hg (by assumption) (by assumption) hn
   ·cases h
  ·cases h
 ·rename_i T x y hop hd;split at h
  ·rename_i id off ds h1 h2;split at h
   ·rename_i ob h3;split at h
    ·rename_i cells h4;split at h
     ·rename_i hc;cases h;exact HZ hop hd hg h1 h3 h4 h2 hc.1 hc.2.1 hc.2.2.1 hc.2.2.2 hn
     ·cases h
    ·cases h
   ·cases h
  ·rename_i id i sz off ds h1 h2;split at h
   ·rename_i sz' rows u _ r A1 h3;split at h
    ·rename_i hc;obtain⟨c1,c2,c3,rfl,c5,c6⟩:=hc;cases h;exact GG hop hd hg h1 h3 hp.1 h2 c6 c1 c2 c3 c5 hn
    ·cases h
   ·rename_i k e sz' rows es ms r A1 h3 h4;split at h
    ·rename_i hc;obtain⟨c1,c2,rfl,c4,c5,c6,c7⟩:=hc;cases h;exact Cw hop hd hg h1 h3 c4 hp.1 h2 h4 c6 c7 c1 c2 c5 hn
    ·cases h
   ·cases h
  ·cases h
 ·rename_i T t hop hd;split at h
  ·cases h;exact EJ hop hd hg (by assumption) hn
  ·cases h
 ·rename_i T x i y hop hd;split at h
  ·rename_i kd dz id m A1 h1 h2;split at h
   ·rename_i kv h3;split at h
    ·rename_i hc;cases h;exact By hop hd hg h1 h2 h3 hc.1 hc.2 hp.1 hn
    ·cases h
   ·cases h
  ·cases h
 ·rename_i T x y t hop hd;split at h
  ·rename_i e sz k n k' n' h1 h2 h3;split at h
   ·rename_i zs h4;split at h
    ·rename_i hc;cases h;obtain⟨⟨rfl,q2,q3,q4⟩,_⟩:=hp;exact Bx hop hd hg hc.1 h1 h4 hc.2 h2 h3 q2 q3 q4 hn
    ·cases h
   ·cases h
  ·cases h
 ·rename_i T len parts t hop hd;split at h
  ·rename_i e sz h1;split at h
   ·rename_i zs h2;split at h
    ·rename_i ds h3;split at h
     ·rename_i es ms h4;split at h
      ·rename_i hc;cases h;exact B3 hop hd hg hc.1 h1 h2 hc.2.1 hc.2.2.1 h3 h4 hc.2.2.2 hn
      ·cases h
     ·cases h
    ·cases h
   ·cases h
  ·cases h
 ·rename_i c t hop hd;split at h
  ·rename_i s x T T' h1 h2 h3;split at h
   ·rename_i e sz h4;split at h
    ·rename_i zs rows u1 k1 dF u2 k2 A1 ow h5 h6 h7;split at h
     ·rename_i hc;obtain⟨c1,c2,rfl,c4⟩:=hc;cases h;obtain⟨⟨q1,q2⟩,q3⟩:=hp;exact Mw (hop.trans (congrArg Op.call (jW c h1 h2 h3))) hd hg c1 h4 h5 c2 h6 h7 q3 c4 q1 q2 hn
     ·cases h
    ·cases h
   ·cases h
  ·rename_i x T h1 h2 h3;split at h
   ·rename_i id sz rows u h4;obtain⟨h5,h6⟩:=Ae h4;split at h
    ·rename_i hc;cases h;exact KE (hop.trans (congrArg Op.call (jW c h1 h2 h3))) hd hg hc.1 hc.2 h5 h6 hn
    ·cases h
   ·split at h
    ·split at h
     ·rename_i d A1 ow h4;cases h;exact s9 hd hg (by assumption) h4 hp hn
     ·cases h
    ·cases h
  ·rename_i f xs ts h1;split at h
   ·rename_i ms outs d A1 h4;split at h
    ·rename_i ins h5;split at h
     ·rename_i hc;obtain⟨c1,c2,c3⟩:=hc;split at h
      ·rename_i H' A2 ow h6;cases h;exact HV (hop.trans (congrArg Op.call (jW c h1 rfl rfl))) hd hg c1 c2 h5 (by simpa using c3) (by simpa using hp.1) (CQ h6 hp.2 hn)
      ·cases h
     ·cases h
    ·cases h
   ·rename_i nz cells' d A1 h4;split at h
    ·rename_i x0 xr h5;split at h
     ·rename_i id h6;split at h
      ·rename_i ob h7;split at h
       ·rename_i yN h8;split at h
        ·rename_i cells ds ms qs h9;split at h
         ·rename_i hc;obtain⟨c1,c2,c3,c4⟩:=hc;cases h;exact HU (hop.trans (congrArg Op.call (jW c h1 rfl rfl))) hd hg c1 (by simpa using h5) h6 h7 h8 h9 c2 c3 c4 hp.1 hn
         ·cases h
        ·cases h
       ·cases h
      ·cases h
     ·cases h
    ·cases h
   ·rename_i ds ms cells A1 h4;split at h
    ·rename_i hc;obtain⟨c1,rfl⟩:=hc;cases h;exact HS (hop.trans (congrArg Op.call (jW c h1 rfl rfl))) hd hg c1 (by simpa using h4) hp.1 hn
    ·cases h
   ·rename_i ds ms d A1 h4;split at h
    ·rename_i hc;cases h;exact HO (hop.trans (congrArg Op.call (jW c h1 rfl rfl))) hd hg hc.1 (by simpa using h4) hc.2 hp.1 hn
    ·cases h
   ·rename_i id cU A1 h4;split at h
    ·rename_i e sz rows h5;split at h
     ·rename_i hc;obtain⟨c1,c3⟩:=hc;cases h;exact HT (hop.trans (congrArg Op.call (jW c h1 rfl rfl))) hd hg c1 h5 c3.2 hp.1 (by simpa using c3.1) (by simpa using hp.2.1) hn
     ·cases h
    ·cases h
   ·rename_i id cU A1 h4;split at h
    ·rename_i x k e sz rows h5 h6;split at h
     ·rename_i id' h7;split at h
      ·rename_i hc;obtain⟨c1,rfl,c3⟩:=hc;cases h;have e1:c.args= #[x]:=by rw[<-j6];simpa using h5
       refine HR (ts:=c.argTypes) (hop.trans (congrArg Op.call ?_)) (fun t' ht'=>?_) hg h7 h6 c3.1 c3.2 hp.1 hp.2.1 ?_
       ·rw[<-e1];exact jW c h1 rfl rfl
       ·rw[hd]at ht';cases ht';exact c1
       ·rw[hd];exact hn
      ·cases h
     ·cases h
    ·cases h
   ·rename_i ds ms d A1 h4;split at h
    ·rename_i hc;cases h;exact KB (hop.trans (congrArg Op.call (jW c h1 rfl rfl))) hd hg hc.1 (by simpa using h4) hc.2 hp.1 hn
    ·cases h
   ·rename_i d A1;split at h
    ·rename_i hc;cases h;exact HQ (hop.trans (congrArg Op.call (jW c h1 rfl rfl))) hd hg hc.1 (by simpa using hc.2) (by simpa using hp.1) hn
    ·cases h
   ·rename_i nz d A1;split at h
    ·rename_i ds ms qs h9;split at h
     ·rename_i hc;obtain⟨c1,c2,c3,c4⟩:=hc;cases h;exact HP (hop.trans (congrArg Op.call (jW c h1 rfl rfl))) hd hg c1 h9 c2 c3 c4 hp.1 hn
     ·cases h
    ·cases h
   ·cases h
  ·split at h
   ·split at h
    ·rename_i d A1 ow h4;cases h;exact s9 hd hg (by assumption) h4 hp hn
    ·cases h
   ·cases h
 ·rename_i s d x t hop hd;split at h
  ·rename_i id h1;split at h
   ·rename_i k e' sz' rows e sz h2 h3;split at h
    ·rename_i bs h4;split at h
     ·rename_i hc;obtain⟨c1,rfl,c3,c4⟩:=hc;cases h;exact KC hop hd hg c1 h1 h2 h3 c3 c4 h4 hn
     ·cases h
    ·cases h
   ·cases h
  ·split at h
   ·split at h
    ·rename_i d A1 ow h4;cases h;exact s9 hd hg (by assumption) h4 hp hn
    ·cases h
   ·cases h
 ·rename_i x t hop hd;split at h
  ·rename_i A1;split at h
   ·rename_i e sz h1 h2;split at h
    ·rename_i hc;cases h;exact N0 hop hd hg hc.1 h1 hc.2 hn
    ·cases h
   ·cases h
  ·split at h
   ·cases h;exact Lj hd hg (by assumption) (by rw[hop];rfl) hn
   ·cases h
 ·rename_i T x hi t hop hd;split at h
  ·rename_i id h1;split at h
   ·rename_i e sz rows e' sz' kk n hh A1 h2 h3 h4;split at h
    ·rename_i hc;obtain⟨c1,rfl⟩:=hc;cases h;exact KD hop hd hg c1 h3 h1 h2 (by rw[h4,hp.1.1]) hp.1.2 hn
    ·cases h
   ·cases h
  ·split at h
   ·split at h
    ·rename_i d A1 ow h4;cases h;exact s9 hd hg (by assumption) h4 hp hn
    ·cases h
   ·cases h
 ·rename_i T s lo t hop hd;split at h
  ·rename_i A0 id h1;split at h
   ·rename_i k e sz rows h2;split at h
    ·rename_i hc;split at h
     ·rename_i d A1 ow h4;cases h;exact GF h1 h2 hc.2 (s9 hd hg hc.1 h4 hp hn)
     ·cases h
    ·cases h
   ·cases h
  ·split at h
   ·split at h
    ·rename_i d A1 ow h4;cases h;exact s9 hd hg (by assumption) h4 hp hn
    ·cases h
   ·cases h
 ·rename_i T x i t hop hd;split at h
  ·rename_i id sz rows u h1;obtain⟨h2,h3⟩:=Ae h1;split at h
   ·rename_i e sz' k n m A1 h4 h5;split at h
    ·rename_i hc;obtain⟨c1,rfl⟩:=hc;cases h;exact My hop hd hg c1 h4 h2 h5 h3 hp.1.1 hp.1.2 hn
    ·cases h
   ·cases h
  ·split at h
   ·split at h
    ·rename_i d A1 ow h4;cases h;exact s9 hd hg (by assumption) h4 hp hn
    ·cases h
   ·cases h
 ·rename_i T x t hop hd;split at h
  ·rename_i id i off sz rows u h1;obtain⟨h2,h3⟩:=Er h1;split at h
   ·rename_i r A1 h4;split at h
    ·rename_i dF h5;split at h
     ·rename_i e EH h6;split at h
      ·rename_i hc;cases h;exact HY hop hd hg hc h4 h2 h3 hp.1 h5 hp.2.1 hn
      ·cases h
     ·cases h
    ·rename_i d _ h5;split at h
     ·rename_i hc;cases h;exact HW hop hd hg hc.1 h4 h2 h3 hp.1 h5 hc.2 hn
     ·cases h
    ·cases h
   ·cases h
  ·split at h
   ·rename_i r A1 id i sz h1;split at h
    ·rename_i n e sz' rows h2;split at h
     ·rename_i hc;obtain⟨c1,rfl,c3,c4⟩:=hc;cases h;obtain⟨⟨rfl,q2,q3⟩,_⟩:=hp;exact KF hop hd hg c1 h1 h2 q2 c3 c4 q3 hn
     ·cases h
    ·cases h
   ·split at h
    ·split at h
     ·rename_i d A1 ow h4;cases h;exact s9 hd hg (by assumption) h4 hp hn
     ·cases h
    ·cases h
 ·split at h
  ·split at h
   ·rename_i d A1 ow h4;cases h;exact s9 (by assumption) hg (by assumption) h4 hp hn
   ·cases h
  ·cases h
 ·cases h
theorem Jf{o:Oper}{A A':List An}{mO:St}{p:si}{nt:Nat}(hnt:Γ.nt=nt)(h:wB P nt o st A=some (mO,A',p)):∀ {t:Nat},o.dst=some t->t<Γ.nt:=by
 intro t ht;subst hnt;unfold wB at h;split at h
 all_goals first
  | (rename_i hd;rw[ht]at hd;cases hd;done)
  |skip
 all_goals(try(rename_i hd;rw[ht]at hd;cases hd))
 all_goals(repeat' split at h)
 all_goals(try cases h)
 all_goals first
  |assumption
  | (
   have hc:_/\_:=by assumption
   exact hc.1)
  | (simp_all;done)
end
end Go.Cx
namespace Go.Cx
open Go.RowKit
abbrev cj:=List An
section
variable{P:Program}{Γ:lY}{Q:Exit->St->Prop}{st:St}{κ:Nat->Option Value}{Θ:Nat->Nat}{a:Act}{w:World}{all:Array Oper}{X:aH}
def oL(X:aH)(H H':ai):Prop:=∀(i:Nat) o,i∉X->H[i]?=some o->H'[i]?=some o
theorem oL.refl{X:aH}(H:ai):oL X H H:=fun _ _ _ h=>h
theorem oL.trans{X:aH}{A B C:ai}(h:oL X A B)(k:oL X B C):oL X A C:=fun i o n e=>k i o n (h i o n e)
theorem oL.app{X:aH}{H H':ai}(h:oL X H H')(n:ai):oL X H (H'++n):=by
 intro i o hni hi;have:=h i o hni hi;rw[aS (aB.1 this).1,this]
theorem oL.cs{X:aH}{H H':ai}(h:oL X H H'){i:Nat}{cs:aG}(hi:i∉X)(hc:(H[i]?).bind Ob.FW=some cs):(H'[i]?).bind Ob.FW=some cs:=by
 obtain⟨ob,hb,EF⟩:=aJ.1 hc;rw[h i ob hi hb];exact EF
def sU(X:aH)(st:St):Op->Bool
 | .fieldAddr _ _ _=>true
 | .field _ _ _=>true
 | .extract _ _=>true
 | .move _=>true
 | .binOp _ _ _ _ _=>true
 | .unOp _ _ _=>true
 | .nilCheck _=>true
 | .convert _ _ _=>true
 | .index _ _ _=>true
 | .build _ _=>true
 | .indexAddr _ x _=>(match st.ev x with| .sl _=>true| .acc id=> !X.contains id|_=>false)
 | .load _ x=>(match st.ev x with| .ep _ _=>true| .ptr id _=> !X.contains id| .op id _ _ _=> !X.contains id|_=>false)
 |_=>false
theorem Jh{X:aH}{σ σ':List (Nat×D)}{H H':ai}{op:Op}{d:D}(hx:oL X H H')(hs:sU X ⟨σ,H⟩ op=true)(he:∀x∈op.operands.toList,St.ev ⟨σ,H⟩ x=St.ev ⟨σ',H'⟩ x)(h:pv P ⟨σ,H⟩ op=some d):pv P ⟨σ',H'⟩ op=some d:=by
 cases op<;>simp only[sU,pN]at hs<;>simp only[pv]at h⊢
 case move x=>rw[he x (by simp[Op.operands])]at*;exact h
 case nilCheck x=>rw[he x (by simp[Op.operands])]at h;exact h
 case binOp op t x y t'=>rw[he x (by simp[Op.operands]),he y (by simp[Op.operands])]at h;exact h
 case unOp op t x=>cases op<;>simp only[pv]at h⊢ <;>(try cases h)<;>(rw[he x (by simp[Op.operands])]at h;exact h)
 case convert s d x=>rw[he x (by simp[Op.operands])]at h;exact h
 case field t x f=>rw[he x (by simp[Op.operands])]at h;exact h
 case fieldAddr t x f=>rw[he x (by simp[Op.operands])]at h;exact h
 case indexAddr t x i=>
  rw[he x (by simp[Op.operands])]at hs;rw[he x (by simp[Op.operands]),he i (by simp[Op.operands])]at h;split at hs
  ·rename_i rows h0;rw[h0]at h⊢;generalize vJ P t=a at h⊢;generalize St.ev ⟨σ',H'⟩ i=b at h⊢;cases a<;>cases b<;>exact h
  ·rename_i id h0;rw[h0]at h⊢;generalize vJ P t=a at h⊢;generalize St.ev ⟨σ',H'⟩ i=b at h⊢;cases a<;>cases b<;>first|exact h|skip
   dsimp only at h⊢;cases hH:H[id]? with
   |none=>rw[hH]at h;cases h
   |some o=>rw[hx id o (by simpa using hs) hH];rw[hH]at h;exact h
  ·cases hs
 case load t x=>
  rw[he x (by simp[Op.operands])]at hs h;split at hs
  ·rename_i row off h0;rw[h0]at h⊢;generalize pH P t=a at h⊢;cases a<;>exact h
  ·rename_i id off h0;rw[h0]at h⊢;generalize pH P t=a at h⊢;cases a
   ·exact h
   ·dsimp only at h⊢;split at h
    ·rename_i cells hH;simp only[hx.cs (by simpa using hs) hH];exact h
    ·cases h
  ·rename_i id i sz off h0;rw[h0]at h⊢;generalize pH P t=a at h⊢;cases a
   ·exact h
   ·dsimp only at h⊢;cases hH:H[id]? with
    |none=>rw[hH]at h;cases h
    |some o=>rw[hx id o (by simpa using hs) hH];rw[hH]at h;exact h
  ·cases hs
 case extract x i=>rw[he x (by simp[Op.operands])]at h;exact h
 case index t x i=>rw[he x (by simp[Op.operands]),he i (by simp[Op.operands])]at h;exact h
 case build t parts=>
  have:(parts.toList.map fun p=>(p.1,St.ev ⟨σ,H⟩ p.2))=parts.toList.map fun p=>(p.1,St.ev ⟨σ',H'⟩ p.2):=by
   apply ig;intro p hp;rw[he p.2 (by simp only[Op.operands];simp;exact⟨p.1,by simpa using hp⟩)]
  rw[this]at h;exact h
def EM(xs acc:aH):aH:=xs.foldl (fun acc x=>bif acc.contains x then acc else x::acc) acc
theorem Es:∀ {xs acc:aH} {x:Nat},x∈EM xs acc->x∈xs\/x∈acc:=by
 intro xs
 induction xs with
 |nil=>intro acc x h;exact .inr h
 |cons y ys ih=>
  intro acc x h;rcases ih (acc:=bif acc.contains y then acc else y::acc) h with h|h
  ·exact .inl (by simp[h])
  ·cases hc:acc.contains y with
   |true=>rw[hc]at h;exact .inr h
   |false=>
    rw[hc]at h;rcases aY.1 h with rfl|h
    ·exact .inl (by simp)
    ·exact .inr h
def Ls(acc:List aH)(es:List Edge):aH:=es.foldl (fun d e=>bif Region.binds .any e then EM (e.on::acc.getD e.on []) d else d) []
theorem Gj{acc:List aH}{es:List Edge}{i:Nat}(h:i∈Ls acc es):∃e∈es,Region.binds .any e=true/\(i=e.on\/i∈acc.getD e.on []):=by
 have key:∀(es:List Edge) (d:aH),i∈es.foldl (fun d e=>bif Region.binds .any e then EM (e.on::acc.getD e.on []) d else d) d->i∈d\/∃e∈es,Region.binds .any e=true/\(i=e.on\/i∈acc.getD e.on []):=by
  intro es
  induction es with
  |nil=>intro d h;exact .inl h
  |cons e es ih=>
   intro d h;rcases ih _ h with h|⟨e',h1,h2⟩
   ·cases hb:Region.binds .any e with
    |false=>simp only[hb,aP]at h;exact .inl h
    |true=>
     simp only[hb,aK]at h;rcases Es h with h|h
     ·exact .inr ⟨e,by simp,hb,by simpa using h⟩
     ·exact .inl h
   ·exact .inr ⟨e',by simp[h1],h2⟩
 rcases key es [] h with h|h
 ·cases h
 ·exact h
def xO(acc:List aH)(o:Oper):List aH:=acc++[Ls acc o.after.toList]
def ER(ops:List Oper):List aH:=ops.foldl xO []
theorem KY{ops:Array Oper}{listed:Array Bool}(closed:∀(j:Nat) oj,ops[j]?=some oj->listed.getD j false=true->∀e∈oj.after,Region.binds .any e=true->listed.getD e.on false=true):
 ∀(l pre:List Oper) (acc:List aH),ops.toList=pre++l->acc.length=pre.length->
  (∀(j:Nat) o,ops[j]?=some o->(∀e∈o.after,Region.binds .any e=true->listed.getD e.on false=true)->∀i∈acc.getD j [],listed.getD i false=true)->
  ∀(j:Nat) o,ops[j]?=some o->(∀e∈o.after,Region.binds .any e=true->listed.getD e.on false=true)->∀i∈(l.foldl xO acc).getD j [],listed.getD i false=true:=by
 intro l
 induction l with
 |nil=>intro pre acc _ _ h;exact h
 |cons o l ih=>
  intro pre acc hl ha h;refine ih (pre++[o]) (xO acc o) (by simp[hl]) (by simp[xO,ha]) ?_;intro j oj hj hall i hi;unfold xO at hi;rw[gE]at hi;rcases nA j acc.length with hlt|heq|hgt
  ·rw[aS hlt,<-gE]at hi;exact h j oj hj hall i hi
  ·subst heq;rw[aV (b8 _),lW]at hi;simp only[rI,lX]at hi;have ho:oj=o:=by
    rw[<-gh,hl,aV (by omega),ha,lW]at hj;simpa using hj.symm
   subst ho;obtain⟨e,he,hb,hi⟩:=Gj hi;have he':e∈oj.after:=by simpa using he
   have hel:=hall e he' hb;rcases hi with rfl|hi
   ·exact hel
   ·cases SA:ops[e.on]? with
    |none=>
     have h1:e.on<acc.length:=by
      rcases cY e.on acc.length with h|h
      ·exact h
      ·rw[gE,bR h]at hi;cases hi
     have h2:ops.size<=e.on:=by simpa using SA
     have h3:ops.size=pre.length+(l.length+1):=by rw[<-jo,hl];simp
     omega
    |some oe=>exact h e.on oe SA (closed e.on oe SA hel) i hi
  ·rw[bR (by simp;omega)]at hi;cases hi
theorem ny{ops:Array Oper}{listed:Array Bool}(closed:∀(j:Nat) oj,ops[j]?=some oj->listed.getD j false=true->∀e∈oj.after,Region.binds .any e=true->listed.getD e.on false=true){j:Nat}(hj:j∈Region.ready .any ops listed){i:Nat}(hi:((ER ops.toList).getD j []).contains i=true):listed.getD i false=true:=by
 obtain⟨_,o,ho,hall⟩:=mem_ready.1 hj;exact KY closed ops.toList [] [] (by simp) rfl (by simp) j o ho hall i (List.contains_iff_mem.1 hi)
def I2(dp:List aH)(ops:Array Oper)(n m:Nat)(L:aH):Bool:=
 (decide (n<=m)&&decide (m<ops.size))&&
 (Region.seqB .any ops (ops.size-m) m (Array.replicate m true++Array.replicate (ops.size-m) false)&&
 (((List.range (ops.size-m)).all fun j=>(List.range m).all fun i=>(dp.getD (m+j) []).contains i)&&
 (((List.range (m-n)).all fun j=>(List.range (n+j)).all fun i=>(dp.getD (n+j) []).contains i||L.contains i)&&
 (((List.range m).all fun i=>match ops[i]? with|none=>false|some o=>o.after.all fun e=> !Region.binds .any e||decide (e.on<i))&&
 ((
  (List.range n).all fun i=>match ops[i]? with
  |none=>false
  |some o=>((o.looksAt ops).all fun t=>(List.range n).all fun j=>match ops[j]? with|some oj=> !(oj.dst==some t)||(decide (j<i)&&Region.waitsFor .any ops i j)|none=>true)&&
   (List.range n).all fun j=>j==i||(match ops[j]? with|some oj=> !(oj.dst==o.dst)||o.dst.isNone|none=>true))&&
 ((
  (List.range (m-n)).all fun j=>match ops[n+j]? with
  |none=>false
  |some o=>L.all fun i=>match ops[i]? with
   |none=>false
   |some oi=>(!(oi.dst==o.dst)&& !((oi.looksAt ops).any fun t=>o.dst==some t))&&((dp.getD (n+j) []).contains i|| !((o.looksAt ops).any fun t=>oi.dst==some t)))&&
 L.all fun i=>decide (i<n)&&(match ops[i]? with|some oi=>oi.guard.isNone&&oi.dst.isSome|none=>false)))))))
def AI(ops:Array Oper)(n m:Nat)(L:aH):Bool:=I2 (ER ops.toList) ops n m L
def Step(P:Program)(Γ:lY)(o:Oper)(st oC:St):Prop:=
 ∀κ Θ a w,cN Γ st κ Θ a w->o.wp P a w (fun a' w'=>∃κ' Θ',cN Γ oC κ' Θ' a' w') (fun e _ _=>e=.normal)
def HM(P:Program)(Γ:lY)(X:aH)(K:St->Prop):List Oper->St->Prop
 | [],st=>K st
 |o::os,st=>∃oC,((∃t d,o.dst=some t/\t<Γ.nt/\oC.σ=(t,d)::st.σ)\/(o.dst=none/\oC.σ=st.σ))/\oL X st.H oC.H/\o.guard=none/\(∀cs b,o.op≠ .select cs b)/\Step P Γ o st oC/\HM P Γ X K os oC
theorem EC{o:Oper}{a b:Act}{w:World}{K K2:Act->World->Prop}{Q1 Q2:Exit->Act->World->Prop}(hsel:∀cs b,o.op≠ .select cs b)(he:∀x∈o.op.operands,a.eval x=b.eval x)
 (hK:∀v w',K (b.put o.dst v) w'->K2 (a.put o.dst v) w') (hdf:∀d w',¬K ({b with defers:=d::b.defers}.put o.dst undef) w') (hQ:∀e c w',Q1 e c w'->e=.normal) (h:o.wp P b w K Q1):o.wp P a w K2 Q2:=by
 unfold Oper.wp at*;rw[execOp_congr o hsel he];generalize(execOp b.eval o).run P w=r at*;cases r with
 |ok n w'=>
  cases n with
  |value v=>exact hK _ _ h
  |skip=>exact hK _ _ h
  |defer d=>exact absurd h (hdf _ _)
  |enter f args=>
   refine Calls.mono h ?_;intro e w'' he;cases e with
   |returned v=>exact hK _ _ he
   |panicked c=>exact absurd (hQ _ _ _ he) (by simp)
   |outgrown=>
    obtain⟨a0,w0,hq⟩:=he;exact absurd (hQ _ _ _ hq) (by simp)
  |row r args=>exact Rows.mono h fun v w'' he=>hK _ _ he
  |_=>exact h.elim
 |halt x w'=>
  cases x with
  |panic u=>exact absurd (hQ _ _ _ h) (by simp)
  |_=>exact h.elim
theorem O3{l:List (Nat×D)}{σ:List (Nat×D)}(h:∀p∈l,p.2=.any){t:Nat}(ht:t∈l.map Prod.fst):lk (l++σ) t=.any:=by
 induction l with
 |nil=>cases ht
 |cons p l ih=>
  obtain⟨u,d⟩:=p;have hd:d=.any:=h (u,d) (by simp);subst hd;simp only[eC,lk];by_cases e:t=u
  ·rw[bG e]
  ·rw[ar e];refine ih (fun p hp=>h p (by simp[hp])) ?_;simp only[ax,aY]at ht;rcases ht with h|h
   ·exact absurd h e
   ·exact h
theorem we(a:Act){t u:Nat}(v:Value)(h:u≠t):(a.put (some t) v).tmps.getD u undef=a.tmps.getD u undef:=by
 show(a.tmps.setIfInBounds t v).getD u undef=_;simp[bM,kE h]
theorem xh(a:Act){t:Nat}(v:Value)(h:t<a.tmps.size):(a.put (some t) v).tmps.getD t undef=v:=by
 show(a.tmps.setIfInBounds t v).getD t undef=_;simp[bM,h]
theorem count_set{m i:Nat}{listed:Array Bool}(hi:i<m)(hsz:i<listed.size)(hl:listed.getD i false=false):((List.range m).filter fun j=> !(listed.setIfInBounds i true).getD j false).length+1=((List.range m).filter fun j=> !listed.getD j false).length:=by
 have GR:((List.range m).filter fun j=> !(listed.setIfInBounds i true).getD j false)=((List.range m).filter fun j=> !listed.getD j false).erase i:=by
  have hnd:((List.range m).filter fun j=> !listed.getD j false).Nodup:=nk _ rK;rw[hnd.erase_eq_filter,pP];apply qh;intro j _;by_cases e:j=i
  ·subst e;simp[hsz]
  ·rw[getD_set_ne false (kE e)];simp[e]
 have hmem:i∈(List.range m).filter fun j=> !listed.getD j false:=fN.2 ⟨az.2 hi,by simp only[hl];rfl⟩
 have hpos:0<((List.range m).filter fun j=> !listed.getD j false).length:=List.length_pos_of_mem hmem;rw[GR,mL hmem];omega
def Hh(P:Program)(Γ:lY)(X:aH)(l:List Oper)(σF:List (Nat×D))(H0:ai)(i:Nat):Prop:=
 ∃o t d,l.toArray[i]?=some o/\o.guard=none/\o.dst=some t/\t<Γ.nt/\lk σF t=d/\∀σ' H',oL X H0 H'->(∀u∈o.looksAt l.toArray,lk σ' u=lk σF u)->pv P ⟨σ',H'⟩ o.op=some d
theorem DF{l:List Oper}{n m:Nat}{L:aH}{σF:List (Nat×D)}{H0:ai}(hB:AI l.toArray n m L=true)(M1:∀i∈L,Hh P Γ X l σF H0 i):
 ∀(f c:Nat) (S:St) (listed:Array Bool) (σ':List (Nat×D)) (κ:Nat->Option Value) (Θ:Nat->Nat) (a:Act) (w:World),HeadInv .any l.toArray l.toArray.size listed->
  (∀i,i<n->i∉L->listed.getD i false=true)->n+c<=m->(∀i,n<=i->i<n+c->listed.getD i false=true)->(∀i,n+c<=i->i<l.toArray.size->listed.getD i false=false)->
  ((List.range m).filter fun i=> !listed.getD i false).length=f->
  (∀t,(∀(i:Nat) o,l.toArray[i]?=some o->n<=i->i<n+c->o.dst≠some t)->lk S.σ t=lk σF t)->oL X H0 S.H->
  HM P Γ X (fun mO=>AO P Γ l.toArray (l.drop m) Q mO) ((l.drop (n+c)).take (m-(n+c))) S->
  (∀t,(∀i∈L,∀o,l.toArray[i]?=some o->listed.getD i false=false->o.dst≠some t)->lk σ' t=lk S.σ t)->
  cN Γ ⟨σ',S.H⟩ κ Θ a w->
  wpAny P .any l.toArray (fun e a' w'=>∃mO κ' Θ',cN Γ mO κ' Θ' a' w'/\Q e mO) (f+(l.toArray.size-m)) listed a w:=by
 simp only[AI,I2,aM,bA]at hB;obtain⟨⟨hnm,BE⟩,Kh,IU,hmid,IB,IE,IM,hL⟩:=hB;have RL:∀i,i<m->∃o,l.toArray[i]?=some o/\∀e∈o.after,Region.binds .any e=true->e.on<i:=by
  intro i hi;have:=aO.1 IB i (az.2 hi);split at this
  ·cases this
  ·rename_i o ho;refine⟨o,ho,fun e he hb=>?_⟩;have:=mT.1 this e he;simpa[hb]using this
 have uk:∀i∈L,i<n:=by
  intro i hi;have:=aO.1 hL i hi;simp only[aM,bA]at this;exact this.1
 have DO:∀(i:Nat) o,i<n->l.toArray[i]?=some o->∀u∈o.looksAt l.toArray,∀(j:Nat) oj,j<n->l.toArray[j]?=some oj->oj.dst=some u->j<i/\Region.waitsFor .any l.toArray i j=true:=by
  intro i o hi ho u hu j oj hj o4 hd;have:=aO.1 IE i (az.2 hi);simp only[ho,aM]at this;have:=aO.1 (aO.1 this.1 u hu) j (az.2 hj);simpa[o4,hd]using this
 have xb:∀(j:Nat) o,n<=j->j<m->l.toArray[j]?=some o->∀i∈L,∀oi,l.toArray[i]?=some oi->oi.dst≠o.dst/\(∀u∈oi.looksAt l.toArray,o.dst≠some u)/\(((ER l.toArray.toList).getD j []).contains i=true\/∀u∈o.looksAt l.toArray,oi.dst≠some u):=by
  intro j o xS hj2 ho i hi oi Pa;have:=aO.1 IM (j-n) (az.2 (by omega));rw[show n+(j-n)=j from by omega]at this;simp only[ho]at this;have:=aO.1 this i hi;simp only[Pa,aM,kz,fM]at this;obtain⟨⟨h1,h2⟩,h3⟩:=this;refine⟨by simpa using h1,fun u hu he=>?_,h3.imp id fun h u hu he=>?_⟩
  ·have:=List.any_eq_false.1 h2 u hu;simp[he]at this
  ·have:=List.any_eq_false.1 h u hu;simp[he]at this
 intro f
 induction f with
 |zero=>
  intro c S listed σ' κ Θ a w inv hN hc hM hT j0 hS hX hA hag hs;have hall:∀i,i<m->listed.getD i false=true:=by
   intro i hi;have h0:=bn j0;cases hl:listed.getD i false with
   |true=>rfl
   |false=>
    have:i∈(List.range m).filter fun i=> !listed.getD i false:=fN.2 ⟨az.2 hi,by simp only[hl];rfl⟩
    rw[h0]at this;cases this
  have hcm:n+c=m:=by
   rcases cY (n+c) m with h|h
   ·have h1:=hall (n+c) h;rw[hT (n+c) (b8 _) (by omega)]at h1;cases h1
   ·omega
  have II:listed=Array.replicate m true++Array.replicate (l.toArray.size-m) false:=by
   apply Array.ext
   ·rw[inv.size];simp at BE⊢;omega
   ·intro i h1 h2;by_cases hi:i<m
    ·have:=hall i hi;rw[qW (by simpa using hi)];simp[h1]at this;simp[this]
    ·have hi':i<l.toArray.size:=by rw[<-inv.size];exact h1
     have:=hT i (by omega) hi';rw[pM (by simpa using hi)];simp[h1]at this;simp[this]
  rw[bq];rw[hcm,lW,List.take_zero]at hA;have hA:AO P Γ l.toArray (l.drop m) Q S:=hA;have hs2:=cN.same (st:=⟨σ',S.H⟩) (σ':=S.σ) (fun t=>hag t (fun i hi o ho hl=>by rw[hall i (by have:=uk i hi;omega)]at hl;cases hl)) hs;have hwp:=hA κ Θ a w hs2;have hdl:(l.drop m).length=l.toArray.size-m:=by simp
  have:=wpAny_of_seq (md:=.any) (l.drop m) m listed a w (fun j=>by simp[cW]) (by rw[hdl,II];exact Kh) hwp
  rwa[hdl]at this
 |succ f ih=>
  intro c S listed σ' κ Θ a w inv hN hc hM hT j0 hS hX hA hag hs;have hun:∃i,i<m/\listed.getD i false=false:=by
   have hne:((List.range m).filter fun i=> !listed.getD i false)≠[]:=by
    intro h0;rw[h0]at j0;simp at j0
   obtain⟨i,hi⟩:=mC _ hne;obtain⟨h1,h2⟩:=fN.1 hi;exact⟨i,az.1 h1,by simpa using h2⟩
  have hsz:=inv.size;rw[show f+1+(l.toArray.size-m)=(f+(l.toArray.size-m))+1 from by omega];refine⟨fun h0=>?_,fun i hi=>?_⟩
  ·exfalso;obtain⟨i,⟨hin,GW⟩,hmin⟩:=exists_least (p:=fun i=>i<m/\listed.getD i false=false) hun;obtain⟨o,ho,UZ⟩:=RL i hin;have:i∈Region.ready .any l.toArray listed:=by
    refine mem_ready.2 ⟨getD_in (by rw[hsz];omega) GW,o,ho,fun e he hb=>?_⟩;have:=UZ e he hb;cases hl:listed.getD e.on false with
    |true=>rfl
    |false=>have:=hmin e.on ⟨by omega,hl⟩;omega
   rw[h0]at this;cases this
  ·obtain⟨i0,hi0,hl0⟩:=hun;obtain⟨GW,o,ho,hall⟩:=mem_ready.1 hi;have rA:=getD_both GW;have sN:i<l.toArray.size:=(aX.1 ho).1;have him:i<m:=by
    rcases cY i m with h|h
    ·exact h
    ·have h1:=aO.1 IU (i-m) (az.2 (by omega));have h2:=aO.1 h1 i0 (az.2 hi0);rw[show m+(i-m)=i from by omega]at h2;rw[ny inv.closed hi h2]at hl0;cases hl0
   have GR:=count_set him (by rw[hsz];exact sN) rA;have k9:∀(j:Nat),(listed.setIfInBounds i true).getD j false=true↔(j=i\/listed.getD j false=true):=by
    intro j;by_cases e:i=j
    ·subst e;have:i<listed.size:=by rw[hsz];exact sN
     simp[this]
    ·rw[getD_set_ne false e];constructor
     ·exact .inr
     ·rintro(rfl|h)
      ·exact absurd rfl e
      ·exact h
   have TP:∀(j:Nat),(listed.setIfInBounds i true).getD j false=false->j≠i/\listed.getD j false=false:=by
    intro j h;refine⟨fun e=>?_,?_⟩
    ·have:=(k9 j).2 (.inl e);rw[this]at h;cases h
    ·cases h2:listed.getD j false with
     |false=>rfl
     |true=>have:=(k9 j).2 (.inr h2);rw[this]at h;cases h
   rcases cY i n with hin|hin
   ·
    have M0:i∈L:=by
     by_cases h:i∈L
     ·exact h
     ·rw[hN i hin h]at rA;cases rA
    obtain⟨o',t,d,ho',hg,hd,htn,Ri,hpv⟩:=M1 i M0;rw[ho]at ho';cases ho';have DQ:∀u∈o.looksAt l.toArray,lk σ' u=lk σF u:=by
     intro u hu;rw[hag u,hS u]
     ·intro j oj o4 xS hj2 he;exact(xb j oj xS (by omega) o4 i M0 o ho).2.1 u hu he
     ·intro j hj oj o4 hlj he;obtain⟨h1,h2⟩:=DO i o hin ho u hu j oj (uk j hj) o4 he;obtain⟨o2,TL,e,wV,hb,hon⟩:=Region.waitsFor_spec h2;rw[ho]at TL;cases TL;have:=hall e wV hb;rw[hon,hlj]at this;cases this
    have hp:=hpv σ' S.H hX DQ;obtain⟨v,bs,hrun,hrd,hz⟩:=uy (st:=⟨σ',S.H⟩) hs hp;refine qV ho (by simp[Region.wanted,hg]) ?_;unfold Oper.wp;rw[hrun,Oper.upon_value,hd];refine ih c S (listed.setIfInBounds i true) ((t,d)::σ') κ Θ _ w (inv.set hi sN) ?_ hc ?_ ?_ (by omega) hS hX hA ?_ (hs.set (st:=⟨σ',S.H⟩) htn hrd hz)
    ·intro j hj S0;exact(k9 j).2 (.inr (hN j hj S0))
    ·intro j xS hj2;exact(k9 j).2 (.inr (hM j xS hj2))
    ·intro j xS hj2;rw[getD_set_ne false (by omega)];exact hT j xS hj2
    ·intro u hu;simp only[lk];by_cases e:u=t
     ·rw[bG e,e,hS t,Ri];intro j oj o4 xS hj2 he;exact(xb j oj xS (by omega) o4 i M0 o ho).1 (by rw[hd,he])
     ·rw[ar e];refine hag u fun j hj oj o4 hlj he=>?_
      by_cases hji:j=i
      ·subst hji;rw[ho]at o4;cases o4;rw[hd]at he;cases he;exact e rfl
      ·exact hu j hj oj o4 (by rw[getD_set_ne false (kE hji)];exact hlj) he
   ·
    have hic:i=n+c:=by
     rcases nA i (n+c)with h|h|h
     ·rw[hM i hin h]at rA;cases rA
     ·exact h
     ·have h1:=aO.1 hmid (i-n) (az.2 (by omega));rw[show n+(i-n)=i from by omega]at h1;have h2:=aO.1 h1 (n+c) (az.2 h);simp only[fM]at h2;rcases h2 with h2|h2
      ·have:=ny inv.closed hi h2;rw[hT (n+c) (b8 _) (by omega)]at this;cases this
      ·have:=uk (n+c) (by simpa using h2);omega
    subst hic;have IA:(l.drop (n+c)).take (m-(n+c))=o::(l.drop (n+(c+1))).take (m-(n+(c+1))):=by
     have h1:l[n+c]?=some o:=by simpa using ho
     have h2:(n+c)<l.length:=(aB.1 h1).1;have h3:l[n+c]=o:=(aB.1 h1).2;rw[qX h2,h3,show m-(n+c)=(m-(n+(c+1)))+1 from by omega,jq];rfl
    rw[IA]at hA;obtain⟨S1,CC,UN,Ru,hsel,hstep,UH⟩:=hA;have S4:∀u,o.dst≠some u->lk S1.σ u=lk S.σ u:=by
     intro u hu;rcases CC with⟨tm,dm,Ke,SQ,Np⟩|⟨_,Np⟩
     ·rw[Np];simp only[lk];rw[ar (fun e=>hu (by rw[Ke,e]))]
     ·rw[Np]
    have Pc:∀(b:Act) (v:Value),(b.put o.dst v).tmps.size=b.tmps.size:=by
     intro b v;rcases CC with⟨tm,dm,Ke,_,_⟩|⟨Ke,_⟩
     ·rw[Ke];show(b.tmps.setIfInBounds tm v).size=_;simp
     ·rw[Ke];rfl
    have Pb:∀(b:Act) (v:Value),(b.put o.dst v).defers=b.defers:=by
     intro b v;cases o.dst<;>rfl
    have fill:∀k,k<=n->∃(ak:Act) (σk:List (Nat×D)),cN Γ ⟨σk,S.H⟩ κ Θ ak w/\(∀u,(∀j∈L,∀oj,l.toArray[j]?=some oj->listed.getD j false=false->k<=j->oj.dst≠some u)->lk σk u=lk S.σ u)/\
     (∀u,(∀j∈L,∀oj,l.toArray[j]?=some oj->listed.getD j false=false->oj.dst≠some u)->ak.tmps.getD u undef=a.tmps.getD u undef):=by
     intro k
     induction k with
     |zero=>intro _;exact⟨a,σ',hs,fun u hu=>hag u (fun j hj oj o4 hl=>hu j hj oj o4 hl (tg _)),fun _ _=>rfl⟩
     |succ k VA=>
      intro hk;obtain⟨ak,σk,hsk,NJ,Qz⟩:=VA (by omega);by_cases PT:k∈L/\listed.getD k false=false
      ·obtain⟨R1,Ui⟩:=PT;obtain⟨ok,t,d,hok,hg,hd,htn,Ri,hpv⟩:=M1 k R1;have DQ:∀u∈ok.looksAt l.toArray,lk σk u=lk σF u:=by
        intro u hu;rw[NJ u,hS u]
        ·intro j oj o4 xS hj2 he;exact(xb j oj xS (by omega) o4 k R1 ok hok).2.1 u hu he
        ·intro j hj oj o4 hlj hkj he;obtain⟨h1,h2⟩:=DO k ok (by omega) hok u hu j oj (uk j hj) o4 he;omega
       have hp:=hpv σk S.H hX DQ;obtain⟨v,bs,hrun,hrd,hz⟩:=uy (st:=⟨σk,S.H⟩) hsk hp;refine⟨ak.put (some t) v,(t,d)::σk,hsk.set (st:=⟨σk,S.H⟩) htn hrd hz,?_,?_⟩
       ·intro u hu;simp only[lk];by_cases e:u=t
        ·rw[bG e,e,hS t,Ri];intro j oj o4 xS hj2 he;exact(xb j oj xS (by omega) o4 k R1 ok hok).1 (by rw[hd,he])
        ·rw[ar e];refine NJ u fun j hj oj o4 hlj hkj he=>?_
         by_cases hjk:j=k
         ·subst hjk;rw[hok]at o4;cases o4;rw[hd]at he;cases he;exact e rfl
         ·exact hu j hj oj o4 hlj (by omega) he
       ·intro u hu;rw[we _ _ (fun e=>hu k R1 ok hok Ui (by rw[hd,e])),Qz u hu]
      ·refine⟨ak,σk,hsk,fun u hu=>NJ u fun j hj oj o4 hlj hkj=>?_,Qz⟩;by_cases hjk:j=k
       ·subst hjk;exact absurd ⟨hj,hlj⟩ PT
       ·exact hu j hj oj o4 hlj (by omega)
    obtain⟨an,σn,TR,RY,TF⟩:=fill n (b8 _);have Ux:=cN.same (st:=⟨σn,S.H⟩) (σ':=S.σ) (fun u=>RY u (fun j hj oj o4 _ Vo=>by have:=uk j hj;omega)) TR;have hwp:=hstep κ Θ an w Ux;refine qV ho (by simp[Region.wanted,Ru]) (EC (Q2:=_) hsel ?_ ?_ ?_ (fun e _ _ h=>h) hwp)
    ·intro x hx;cases x with
     |tmp u=>
      refine(TF u fun j hj oj o4 hlj he=>?_).symm;have hu:u∈o.looksAt l.toArray:=by
       unfold Oper.looksAt;exact aF.2 (.inl (bJ.2 ⟨.tmp u,by simpa using hx,rfl⟩))
      rcases(xb (n+c) o (by omega) him ho j hj oj o4).2.2 with h|h
      ·rw[ny inv.closed hi h]at hlj;cases hlj
      ·exact h u hu he
     |const v=>rfl
     |global g=>rfl
     |func f=>rfl
    ·rintro v w' ⟨κ',Θ',hs'⟩;let late:List (Nat×D):=(L.filterMap fun j=>bif listed.getD j false then none else(l.toArray[j]?).bind (·.dst)).map fun u=>(u,D.any)
     have DP:∀u,u∈late.map Prod.fst↔∃j∈L,∃oj,l.toArray[j]?=some oj/\listed.getD j false=false/\oj.dst=some u:=by
      intro u;simp only[late,List.map_map,cQ,bJ,Function.comp];constructor
      ·rintro⟨x,⟨j,hj,hx⟩,rfl⟩;cases hl:listed.getD j false with
       |true=>rw[hl]at hx;cases hx
       |false=>
        rw[hl,aP]at hx;cases o4:l.toArray[j]? with
        |none=>rw[o4]at hx;cases hx
        |some oj=>rw[o4]at hx;exact⟨j,hj,oj,o4,hl,hx⟩
      ·rintro⟨j,hj,oj,o4,hl,hx⟩;exact⟨u,⟨j,hj,by rw[hl,aP,o4];exact hx⟩,rfl⟩
     have hs2:cN Γ ⟨late++S1.σ,S1.H⟩ κ' Θ' (a.put o.dst v) w':=by
      refine⟨by rw[Pb];exact hs.defers,by rw[Pc];exact hs.size,hs'.jN,hs'.j9,?_,hs'.ob,hs'.own,hs'.old,hs'.mine,hs'.stays,hs'.kx⟩;intro u;show∃bs,kF w' κ' _ (lk (late++S1.σ) u) bs/\_;by_cases hu:u∈late.map Prod.fst
      ·rw[O3 (fun p hp=>by simp only[late,cQ]at hp;obtain⟨_,_,rfl⟩:=hp;rfl) hu];exact⟨[],.of (.any _),by simp⟩
      ·rw[uo _ _ _ (fun p hp e=>hu (cQ.2 ⟨p,hp,e⟩))];have e1:(a.put o.dst v).tmps.getD u undef=(an.put o.dst v).tmps.getD u undef:=by
        have e0:=(TF u fun j hj oj o4 hlj he=>hu ((DP u).2 ⟨j,hj,oj,o4,hlj,he⟩)).symm;rcases CC with⟨tm,dm,Ke,SQ,_⟩|⟨Ke,_⟩
        ·rw[Ke];by_cases e:u=tm
         ·subst e;rw[xh _ _ (by rw[hs.size];exact SQ),xh _ _ (by rw[TR.size];exact SQ)]
         ·rw[we _ _ e,we _ _ e];exact e0
        ·rw[Ke];exact e0
       rw[e1];exact hs'.slot u
     refine ih (c+1) S1 (listed.setIfInBounds (n+c) true) (late++S1.σ) κ' Θ' _ w' (inv.set hi sN) ?_ (by omega) ?_ ?_ (by omega) ?_ (hX.trans UN) UH ?_ hs2
     ·intro j hj S0;exact(k9 j).2 (.inr (hN j hj S0))
     ·intro j xS hj2;by_cases e:j=n+c
      ·exact(k9 j).2 (.inl e)
      ·exact(k9 j).2 (.inr (hM j xS (by omega)))
     ·intro j xS hj2;rw[getD_set_ne false (by omega)];exact hT j (by omega) hj2
     ·intro u hu;rw[S4 u (hu (n+c) o ho (by omega) (by omega))];exact hS u fun j oj o4 xS hj2=>hu j oj o4 xS (by omega)
     ·intro u hu;rw[uo];intro p hp e;obtain⟨j,hj,oj,o4,hl,he⟩:=(DP u).1 (cQ.2 ⟨p,hp,e⟩);refine hu j hj oj o4 ?_ he;rw[getD_set_ne false (by have:=uk j hj;omega)];exact hl
    ·rintro d w' ⟨κ',Θ',hs'⟩;have:=hs'.defers;cases S9:o.dst<;>rw[S9]at this<;>cases this
theorem zN{p:Nat->Bool}{n:Nat}:∀(k:Nat),(∀i,n<=i->i<n+k->p i=true)->((List.range (n+k)).filter p).length=((List.range n).filter p).length+k
 |0,_=>rfl
 |k+1,h=>by
  rw[<-fJ,List.range_succ,List.filter_append,af,zN k (fun i h1 h2=>h i h1 (by omega))];have:p (n+k)=true:=h (n+k) (by omega) (by omega);simp[this];omega
def BR(P:Program)(Γ:lY)(ops:Array Oper)(Q:Exit->St->Prop)(st:St):Prop:=
 ∀κ Θ a w,cN Γ st κ Θ a w->wpAny P .any ops (fun e a' w'=>∃mO κ' Θ',cN Γ mO κ' Θ' a' w'/\Q e mO) ops.size (Array.replicate ops.size false) a w
theorem BR.aw{id:Nat}{ops:Array Oper}(hm:P.follows .mixedOrders=true)(h:BR P Γ ops Q st):AW P Γ (.region id ops true) Q st:=
 fun κ Θ a w hs=>wp_region_any hm (h κ Θ a w.drew hs.drew)
theorem GM{l:List Oper}(n m:Nat)(L:aH)(T5:AI l.toArray n m L=true)
 (h:yy P Γ l.toArray st.H (fun σ acc=>(∀i∈L,∀o,l[i]?=some o->sU X ⟨σ,st.H⟩ o.op=true)/\HM P Γ X (fun mO=>AO P Γ l.toArray (l.drop m) Q mO) ((l.drop n).take (m-n)) ⟨σ,st.H++acc⟩) (l.take n) st.σ [] []):BR P Γ l.toArray Q st:=by
 have hB:=T5;simp only[AI,I2,aM,bA]at hB;obtain⟨⟨hnm,BE⟩,Kh,IU,hmid,IB,IE,IM,hL⟩:=hB;have hn:n<l.toArray.size:=by omega
 have zC:((List.range n).all fun i=>match l.toArray[i]? with
  |none=>false
  |some o=>(o.after.all fun e=> !Region.binds .any e||decide (e.on<i))&&
   ((o.looksAt l.toArray).all fun t=>(List.range n).all fun j=>match l.toArray[j]? with|some oj=> !(oj.dst==some t)||(decide (j<i)&&Region.waitsFor .any l.toArray i j)|none=>true)&&
   (List.range n).all fun j=>j==i||(match l.toArray[j]? with|some oj=> !(oj.dst==o.dst)||o.dst.isNone|none=>true))=true:=by
  rw[aO];intro i hi;have h1:=aO.1 IB i (az.2 (by have:=az.1 hi;omega));have h2:=aO.1 IE i hi;cases ho:l.toArray[i]? with
  |none=>rw[ho]at h1;cases h1
  |some o=>
   simp only[ho,aM]at h1 h2⊢;exact⟨⟨h1,h2.1⟩,h2.2⟩
 have uk:∀i∈L,i<n:=by
  intro i hi;have:=aO.1 hL i hi;simp only[aM,bA]at this;exact this.1
 obtain⟨ps,zR,hlen,AR,⟨hstill,hK⟩,RQ,PA,RR⟩:=yy.unfold _ _ _ _ h;simp only[dN,bC,ou,bq]at AR hK RQ PA hstill;have hn':n<l.length:=by simpa using hn
 have hpl:ps.length=n:=by rw[hlen];simp;omega
 have hop:∀(i:Nat),i<n->∃o p,l.toArray[i]?=some o/\ps[i]?=some p/\o.dst=p.t/\lJ P Γ l.toArray st.H (((ps.take i).filterMap Cp.sl).reverse++st.σ) o p/\p.r=st.H.length+((ps.take i).flatMap Cp.obs).length:=by
  intro i hi;have h1:l[i]?=some l[i]:=aN (by omega);have h2:ps[i]?=some ps[i]:=aN (by omega);have h3:=AR i l[i] ps[i] (by rw[bU,bG hi];exact h1) h2;exact⟨l[i],ps[i],by simp[eH,h1],h2,h3.1.slots,h3.1,h3.2.1⟩
 have Ef:∀(i:Nat) p,ps[i]?=some p->p.r=st.H.length+((ps.take i).flatMap Cp.obs).length:=by
  intro i p hp;have hi:i<n:=by have:=(aB.1 hp).1;omega
  obtain⟨_,p',_,hp',_,_,hr⟩:=hop i hi;rw[hp]at hp';cases hp';exact hr
 have CF:∀(i:Nat) p id ob,ps[i]?=some p->p.up=some (id,ob)->st.H.length<=id/\(∃zs ds,ob=.box ds/\zs.length=ds.length/\((ps.take i).flatMap Cp.obs)[id-st.H.length]?=some (.box zs))/\∀(i2:Nat) q rH,i2<i->ps[i2]?=some q->q.up≠some (id,rH):=by
  intro i p id ob hp he;have hi:i<n:=by have:=(aB.1 hp).1;omega
  have h1:l[i]?=some l[i]:=aN (by omega);have h3:=(AR i l[i] p (by rw[bU,bG hi];exact h1) hp).2.2 id ob he;exact⟨h3.2.1,h3.2.2.1,h3.2.2.2⟩
 have IW:∀(i j:Nat) p q id ob rH,ps[i]?=some p->ps[j]?=some q->p.up=some (id,ob)->q.up=some (id,rH)->i=j:=by
  intro i j p q id ob rH hp hq he wV;rcases nA i j with h|h|h
  ·exact absurd he ((CF j q id rH hq wV).2.2 i p ob h hp)
  ·exact h
  ·exact absurd wV ((CF i p id ob hp he).2.2 j q rH h hq)
 have IX:∀(i:Nat) p id ob,ps[i]?=some p->p.up=some (id,ob)->p.obs=[]:=by
  intro i p id ob hp he;have hi:i<n:=by have:=(aB.1 hp).1;omega
  obtain⟨_,p',_,hp',_,hc,_⟩:=hop i hi;rw[hp]at hp';cases hp';rcases hc.Jp with h|h
  ·rw[h]at he;cases he
  ·exact h
 have hfit:∀(i:Nat) p,ps[i]?=some p->p.r+p.obs.length<=st.H.length+(ps.flatMap Cp.obs).length:=by
  intro i p hp;rw[Ef i p hp,jk hp];simp only[af];omega
 have CB:∀(i j:Nat) p q,ps[i]?=some p->ps[j]?=some q->i<j->p.r+p.obs.length<=q.r:=by
  intro i j p q hp hq hij;rw[Ef i p hp,Ef j q hq];have:=Bi hp hij;omega
 have hdist:∀(i j:Nat) p q t,ps[i]?=some p->ps[j]?=some q->p.t=some t->q.t=some t->i=j:=by
  intro i j p q t hp hq Rl wV;have hi:i<n:=by have:=(aB.1 hp).1;omega
  have hj:j<n:=by have:=(aB.1 hq).1;omega
  obtain⟨oi,p',ho,hp',Rk,_⟩:=hop i hi;obtain⟨oj,q',o4,BF,hdj,_⟩:=hop j hj;rw[hp]at hp';cases hp';rw[hq]at BF;cases BF;have:=aO.1 zC i (az.2 hi);simp only[ho,aM]at this;have:=aO.1 this.2 j (az.2 hj);simp only[o4,Rk,hdj,Rl,wV,ju,bB,nc,Option.isNone_some,nc,bX]at this;exact this.symm
 have uc:∀(i:Nat) p t,ps[i]?=some p->p.t=some t->∀q∈ps.filterMap Cp.sl,q.1=t->q=(t,p.d):=by
  intro i p t hp hpt q hq he;obtain⟨q',BF,zX⟩:=bJ.1 hq;obtain⟨j,hj,rfl⟩:=cS.1 BF;have qJ:ps[j]?=some ps[j]:=aN hj;unfold Cp.sl at zX;cases Nc:ps[j].t with
  |none=>rw[Nc]at zX;cases zX
  |some u=>
   rw[Nc]at zX;simp only[bZ,aQ]at zX;subst zX;simp only at he;subst he;have:=hdist j i _ p u qJ hp Nc hpt;subst this;rw[hp]at qJ;cases qJ;rfl
 have hlk:∀(i:Nat) (o:Oper),i<n->l.toArray[i]?=some o->∀t∈o.looksAt l.toArray,lk (((ps.take i).filterMap Cp.sl).reverse++st.σ) t=lk ((ps.filterMap Cp.sl).reverse++st.σ) t:=by
  intro i o hin ho t ht;have xR:=aO.1 zC i (az.2 hin);simp only[ho,aM]at xR;have xR:=aO.1 xR.1.2 t ht;by_cases hex:∃(j:Nat) (q:Cp),ps[j]?=some q/\q.t=some t
  ·obtain⟨j,q,hq,zY⟩:=hex;have hj:j<n:=by have:=(aB.1 hq).1;omega
   obtain⟨oj,q',o4,BF,hdj,_⟩:=hop j hj;rw[hq]at BF;cases BF;have:=aO.1 xR j (az.2 hj);simp only[o4,hdj,zY,ju,bB,kZ,aM,bA]at this;obtain⟨hji,_⟩:=this;rw[wY (ps.filterMap Cp.sl).reverse st.σ (t,q.d) (by rw[cL];exact bJ.2 ⟨q,aD hq,by simp[Cp.sl,zY]⟩) (fun q2 qJ wV=>uc j q t hq zY q2 (by simpa using qJ) wV)];refine wY ((ps.take i).filterMap Cp.sl).reverse st.σ (t,q.d) ?_ (fun q2 qJ wV=>uc j q t hq zY q2 ?_ wV)
   ·rw[cL];exact bJ.2 ⟨q,aD (i:=j) (by rw[bU,bG hji];exact hq),by simp[Cp.sl,zY]⟩
   ·obtain⟨q3,Eg,o5⟩:=bJ.1 (cL.1 qJ);exact bJ.2 ⟨q3,bQ Eg,o5⟩
  ·have hno:∀q3∈ps,q3.t≠some t:=by
    intro q3 Eg he;obtain⟨j,hj,Pe⟩:=cS.1 Eg;exact hex ⟨j,q3,by rw[<-Pe];exact aN hj,he⟩
   have Pj:∀(qs:List Cp),(∀q3∈qs,q3.t≠some t)->∀p∈(qs.filterMap Cp.sl).reverse,p.1≠t:=by
    intro qs zX p hp he;obtain⟨q3,Eg,o5⟩:=bJ.1 (cL.1 hp);unfold Cp.sl at o5;cases hpt:q3.t with
    |none=>rw[hpt]at o5;cases o5
    |some u=>rw[hpt]at o5;simp only[bZ,aQ]at o5;subst o5;simp only at he;exact zX q3 Eg (by rw[hpt,he])
   rw[uo _ _ _ (Pj _ hno),uo _ _ _ (Pj _ (fun q3 Eg=>hno q3 (bQ Eg)))]
 have MD:∀i∈L,∃(o:Oper) (p:Cp),l.toArray[i]?=some o/\ps[i]?=some p/\p.obs=[]/\p.up=none/\Hh P Γ X l ((ps.filterMap Cp.sl).reverse++st.σ) st.H i:=by
  intro i hi;have hin:=uk i hi;have h1:=aO.1 hL i hi;obtain⟨o,p,ho,hp,hd,hc,_⟩:=hop i hin;simp only[ho,aM]at h1;have hg:o.guard=none:=by simpa using h1.2.1
  have hst:=hstill i hi o (by simpa using ho);rcases hc with⟨t,hpt,Fk,hdt,htn,hc⟩|⟨_,_,hdt,_⟩
  ·have hc:wm P st.H (((ps.take i).filterMap Cp.sl).reverse++st.σ) o p:=by
    rcases hc with⟨_,hc⟩|⟨_,_,_,_,hg',_⟩|⟨_,_,_,hg',_⟩
    ·exact hc
    ·rw[hg]at hg';cases hg'
    ·rw[hg]at hg';cases hg'
   have hpv:pv P ⟨((ps.take i).filterMap Cp.sl).reverse++st.σ,st.H⟩ o.op=some p.d/\p.obs=[]:=by
    rcases hc with(hc|⟨f,xs,ts,ds,ms,d,Ec,_⟩)| (⟨T,zs,Ec,_⟩|⟨T,x,ds,Ec,_⟩)|⟨T,e,sz,len,parts,zs,ds,es,Ec,_⟩|⟨T,e,sz,len,parts,zs,ds,Ec,_⟩
    ·exact hc
    all_goals(rw[Ec]at hst;simp[sU]at hst)
   refine⟨o,p,ho,hp,hpv.2,Fk,o,t,p.d,ho,hg,hdt,htn,?_,?_⟩
   ·exact wY (ps.filterMap Cp.sl).reverse st.σ (t,p.d) (by rw[cL];exact bJ.2 ⟨p,aD hp,by simp[Cp.sl,hpt]⟩) (fun q2 qJ wV=>uc i p t hp hpt q2 (by simpa using qJ) wV)
   ·intro σ' H' hX DQ;have e1:pv P ⟨(ps.filterMap Cp.sl).reverse++st.σ,st.H⟩ o.op=some p.d:=Ca (fun _ _ h=>h) (AJ (st:=⟨_,st.H⟩) (mO:=⟨_,st.H⟩) (ops:=l.toArray) (o:=o) (fun t ht=>hlk i o hin ho t ht)) hpv.1;refine Jh hX hst ?_ e1;intro x hx;rw[DH σ' H' st.H x];exact(AJ (st:=⟨σ',st.H⟩) (mO:=⟨_,st.H⟩) (ops:=l.toArray) (o:=o) (fun t ht=>DQ t ht) x hx).symm
  ·have:o.dst.isSome=true:=h1.2.2;rw[hdt]at this;cases this
 intro κ Θ a w hs;have switch:∀(f:Nat) (listed:Array Bool) (σ':List (Nat×D)) (H':ai) (κ:Nat->Option Value) (Θ:Nat->Nat) (a:Act) (w:World),HeadInv .any l.toArray n listed->
  ((List.range n).filter fun i=> !listed.getD i false).length=f->
  (∀(i:Nat) p t,ps[i]?=some p->p.t=some t->listed.getD i false=true->lk σ' t=p.d)->
  (∀t,(∀(i:Nat) p,ps[i]?=some p->listed.getD i false=true->p.t≠some t)->lk σ' t=lk st.σ t)->
  H'.length=st.H.length+(ps.flatMap Cp.obs).length->Ext st.H H'->
  (∀(i:Nat) p,ps[i]?=some p->listed.getD i false=true->∀(j:Nat) o,p.obs[j]?=some o->(∀(i2:Nat) q ob,ps[i2]?=some q->listed.getD i2 false=true->q.up≠some (p.r+j,ob))->H'[p.r+j]?=some o)->
  (∀(i:Nat) q id ob,ps[i]?=some q->listed.getD i false=true->q.up=some (id,ob)->H'[id]?=some ob/\∃v,κ id=some v)->
  (∀(i:Nat) p,ps[i]?=some p->listed.getD i false=false->∀j,j<p.obs.length->κ (p.r+j)=none)->
  cN Γ ⟨σ',H'⟩ κ Θ a w->(∀i,i<n->i∉L->listed.getD i false=true)->
  wpAny P .any l.toArray (fun e a' w'=>∃mO κ' Θ',cN Γ mO κ' Θ' a' w'/\Q e mO) (f+(l.toArray.size-n)) listed a w:=by
  intro f listed σ' H' κ Θ a w inv j0 hA hB Lv HB Fc Jz Fb hs hN;have Lx:∀(i:Nat) p,ps[i]?=some p->(p.up≠none\/p.obs≠[])->listed.getD i false=true:=by
   intro i p hp hne;have hi:i<n:=by have:=(aB.1 hp).1;omega
   refine hN i hi fun M0=>?_
   obtain⟨_,p',_,hp',h1,h2,_⟩:=MD i M0;rw[hp]at hp';cases hp';rcases hne with h|h
   ·exact h h2
   ·exact h h1
  have CD:∀t,(∀i∈L,∀o,l.toArray[i]?=some o->listed.getD i false=false->o.dst≠some t)->lk σ' t=lk ((ps.filterMap Cp.sl).reverse++st.σ) t:=by
   intro t hno;by_cases hex:∃(i:Nat) (p:Cp),ps[i]?=some p/\p.t=some t
   ·obtain⟨i,p,hp,hpt⟩:=hex;have hi:i<n:=by have:=(aB.1 hp).1;omega
    have Ul:listed.getD i false=true:=by
     cases hl:listed.getD i false with
     |true=>rfl
     |false=>
      obtain⟨o,p',ho,hp',hd,_⟩:=hop i hi;rw[hp]at hp';cases hp';by_cases M0:i∈L
      ·exact absurd (by rw[hd,hpt]) (hno i M0 o ho hl)
      ·rw[hN i hi M0]at hl;cases hl
    rw[hA i p t hp hpt Ul];exact(wY (ps.filterMap Cp.sl).reverse st.σ (t,p.d) (by rw[cL];exact bJ.2 ⟨p,aD hp,by simp[Cp.sl,hpt]⟩) (fun q hq he=>uc i p t hp hpt q (by simpa using hq) he)).symm
   ·rw[hB t (fun i p hp _ he=>hex ⟨i,p,hp,he⟩),uo];intro q hq he;obtain⟨p,hp,hps⟩:=bJ.1 (cL.1 hq);obtain⟨i,hi,hpi⟩:=cS.1 hp;refine hex ⟨i,p,by rw[<-hpi];exact aN hi,?_⟩;unfold Cp.sl at hps;cases hpt:p.t with
    |none=>rw[hpt]at hps;cases hps
    |some u=>rw[hpt]at hps;simp only[bZ,aQ]at hps;subst hps;simp only at he;rw[he]
  have I5:H'=st.H++zR:=by
   apply jU;intro k;by_cases h1:k<st.H.length
   ·rw[aS h1];exact HB k _ (aN h1)|>.trans (aN h1).symm
   ·rw[aV (by omega)];by_cases hex:∃(i:Nat) (q:Cp) (ob:Ob),ps[i]?=some q/\q.up=some (k,ob)
    ·obtain⟨i,q,ob,hq,he⟩:=hex;rw[(Jz i q k ob hq (Lx i q hq (.inl (by rw[he];simp))) he).1,RR i q k ob hq he]
    ·have hno:∀(i:Nat) q ob,ps[i]?=some q->q.up≠some (k,ob):=fun i q ob hq he=>hex ⟨i,q,ob,hq,he⟩
     rw[PA (k-st.H.length) (fun i q ob hq=>by rw[show st.H.length+(k-st.H.length)=k from by omega];exact hno i q ob hq)];by_cases h2:k-st.H.length<(ps.flatMap Cp.obs).length
     ·obtain⟨i,p,j,hp,hj,hk⟩:=p8 h2;have e3:p.r+j=k:=by rw[Ef i p hp];omega
      have h3:=Fc i p hp (Lx i p hp (.inr (by intro e;rw[e]at hj;simp at hj))) j _ (aN hj) (fun i2 q ob hq _=>by rw[e3];exact hno i2 q ob hq);rw[e3]at h3;rw[h3,jk hp,hk,aV (by omega),cC,aS hj,aN hj]
     ·rw[bR (by omega),bR (by omega)]
  subst I5;have hsz:=inv.size;have hcm:((List.range m).filter fun i=> !listed.getD i false).length=f+(m-n):=by
   have:=zN (p:=fun i=> !listed.getD i false) (n:=n) (m-n) (fun i h1 h2=>by
    have:=getD_both (inv.tail i h1 (by omega));simp only[this];rfl)
   rw[show n+(m-n)=m from by omega]at this;rw[this,j0]
  have:=DF (Q:=Q) (H0:=st.H) T5 (fun i hi=>by obtain⟨_,_,_,_,_,_,h⟩:=MD i hi;exact h) (f+(m-n)) 0 ⟨(ps.filterMap Cp.sl).reverse++st.σ,st.H++zR⟩ listed σ' κ Θ a w
   ⟨hsz,inv.closed,fun t h1 h2=>absurd h2 (by omega)⟩ hN (by omega) (fun i h1 h2=>absurd h2 (by omega)) (fun i h1 h2=>getD_both (inv.tail i (by omega) h2)) hcm (fun _ _=>rfl)
   ((oL.refl _).app _) (by simpa using hK) CD hs
  rw[show f+(m-n)+(l.toArray.size-m)=f+(l.toArray.size-n)from by omega]at this;exact this
 have main:∀(f:Nat) (listed:Array Bool) (σ':List (Nat×D)) (H':ai) (κ:Nat->Option Value) (Θ:Nat->Nat) (a:Act) (w:World),HeadInv .any l.toArray n listed->
  ((List.range n).filter fun i=> !listed.getD i false).length=f->
  (∀(i:Nat) p t,ps[i]?=some p->p.t=some t->listed.getD i false=true->lk σ' t=p.d)->
  (∀t,(∀(i:Nat) p,ps[i]?=some p->listed.getD i false=true->p.t≠some t)->lk σ' t=lk st.σ t)->
  H'.length=st.H.length+(ps.flatMap Cp.obs).length->Ext st.H H'->
  (∀(i:Nat) p,ps[i]?=some p->listed.getD i false=true->∀(j:Nat) o,p.obs[j]?=some o->(∀(i2:Nat) q ob,ps[i2]?=some q->listed.getD i2 false=true->q.up≠some (p.r+j,ob))->H'[p.r+j]?=some o)->
  (∀(i:Nat) q id ob,ps[i]?=some q->listed.getD i false=true->q.up=some (id,ob)->H'[id]?=some ob/\∃v,κ id=some v)->
  (∀(i:Nat) p,ps[i]?=some p->listed.getD i false=false->∀j,j<p.obs.length->κ (p.r+j)=none)->
  cN Γ ⟨σ',H'⟩ κ Θ a w->
  wpAny P .any l.toArray (fun e a' w'=>∃mO κ' Θ',cN Γ mO κ' Θ' a' w'/\Q e mO) (f+(l.toArray.size-n)) listed a w:=by
  intro f
  induction f with
  |zero=>
   intro listed σ' H' κ Θ a w inv j0 hA hB Lv HB Fc Jz Fb hs;have hall:∀i,i<n->listed.getD i false=true:=by
    intro i hi;have h0:=bn j0;cases hl:listed.getD i false with
    |true=>rfl
    |false=>
     have:i∈(List.range n).filter fun i=> !listed.getD i false:=fN.2 ⟨az.2 hi,by simp[hl]⟩
     rw[h0]at this;cases this
   exact switch 0 listed σ' H' κ Θ a w inv j0 hA hB Lv HB Fc Jz Fb hs (fun i hi _=>hall i hi)
  |succ f ih=>
   intro listed σ' H' κ Θ a w inv j0 hA hB Lv HB Fc Jz Fb hs;by_cases hsw:∀i,i<n->i∉L->listed.getD i false=true
   ·exact switch (f+1) listed σ' H' κ Θ a w inv j0 hA hB Lv HB Fc Jz Fb hs hsw
   have SV:∃i,i<n/\i∉L/\listed.getD i false=false:=by
    obtain⟨i,hi⟩:=Classical.not_forall.1 hsw;refine⟨i,?_⟩;by_cases h1:i<n
    ·by_cases h2:i∈L
     ·exact absurd (fun _ h=>absurd h2 h) hi
     ·refine⟨h1,h2,?_⟩;cases hl:listed.getD i false with
      |false=>rfl
      |true=>exact absurd (fun _ _=>hl) hi
    ·exact absurd (fun h=>absurd h h1) hi
   have hun:∃i,i<n/\listed.getD i false=false:=by
    have hne:((List.range n).filter fun i=> !listed.getD i false)≠[]:=by
     intro h0;rw[h0]at j0;simp at j0
    obtain⟨i,hi⟩:=mC _ hne;obtain⟨h1,h2⟩:=fN.1 hi;exact⟨i,az.1 h1,by simpa using h2⟩
   have hsz:=inv.size;rw[show f+1+(l.toArray.size-n)=(f+(l.toArray.size-n))+1 from by omega];refine⟨fun h0=>?_,fun i hi=>?_⟩
   ·exfalso;obtain⟨i,⟨hin,GW⟩,hmin⟩:=exists_least (p:=fun i=>i<n/\listed.getD i false=false) hun;obtain⟨o,p,ho,_,_,_⟩:=hop i hin;have:i∈Region.ready .any l.toArray listed:=by
     refine mem_ready.2 ⟨getD_in (by rw[hsz];omega) GW,o,ho,fun e he hb=>?_⟩;have:=aO.1 zC i (az.2 hin);simp only[ho,aM]at this;have:=mT.1 this.1.1 e he;simp only[hb,bB,kZ,bA]at this;cases hl:listed.getD e.on false with
     |true=>rfl
     |false=>
      have:=hmin e.on ⟨by omega,hl⟩;omega
    rw[h0]at this;cases this
   ·obtain⟨i0,hi0,hl0⟩:=hun;have hin:i<n:=by
     rcases cY i n with h|h
     ·exact h
     ·obtain⟨i1,hi1,Rv,hl1⟩:=SV;obtain⟨_,oi,Pa,_⟩:=mem_ready.1 hi;have sN:i<l.toArray.size:=(aX.1 Pa).1;exfalso;rcases cY i m with hm1|hm1
      ·have h1:=aO.1 hmid (i-n) (az.2 (by omega));have h2:=aO.1 h1 i1 (az.2 (by omega));rw[show n+(i-n)=i from by omega]at h2;simp only[fM]at h2;rcases h2 with h2|h2
       ·rw[ny inv.closed hi h2]at hl1;cases hl1
       ·exact Rv (by simpa using h2)
      ·have h1:=aO.1 IU (i-m) (az.2 (by omega));have h2:=aO.1 h1 i1 (az.2 (by omega));rw[show m+(i-m)=i from by omega]at h2;rw[ny inv.closed hi h2]at hl1;cases hl1
    obtain⟨o,p,ho,hp,hd,hc,_⟩:=hop i hin;obtain⟨GW,o',ho',hall⟩:=mem_ready.1 hi;rw[ho]at ho';cases ho';have rA:=getD_both GW;have NN:lJ P Γ l.toArray st.H σ' o p:=by
     refine lJ.congr (σ:=((ps.take i).filterMap Cp.sl).reverse++st.σ) (σ':=σ') ?_ hc;intro t ht;have xR:=aO.1 zC i (az.2 hin);simp only[ho,aM]at xR;have xR:=aO.1 xR.1.2 t ht;by_cases hex:∃(j:Nat) (q:Cp),ps[j]?=some q/\q.t=some t
     ·obtain⟨j,q,hq,zY⟩:=hex;have hj:j<n:=by have:=(aB.1 hq).1;omega
      obtain⟨oj,q',o4,BF,hdj,_⟩:=hop j hj;rw[hq]at BF;cases BF;have:=aO.1 xR j (az.2 hj);simp only[o4,hdj,zY,ju,bB,kZ,aM,bA]at this;obtain⟨hji,IY⟩:=this;obtain⟨VF,IR,e,he,hb,hon⟩:=Region.waitsFor_spec IY;rw[ho]at IR;cases IR;have hjl:=hall e he hb;rw[hon]at hjl;rw[hA j q t hq zY hjl];refine wY ((ps.take i).filterMap Cp.sl).reverse st.σ (t,q.d) ?_ (fun q2 qJ wV=>uc j q t hq zY q2 ?_ wV)
      ·rw[cL];exact bJ.2 ⟨q,aD (i:=j) (by rw[bU,bG hji];exact hq),by simp[Cp.sl,zY]⟩
      ·obtain⟨q3,Eg,o5⟩:=bJ.1 (cL.1 qJ);exact bJ.2 ⟨q3,bQ Eg,o5⟩
     ·rw[hB t (fun j q hq _ he=>hex ⟨j,q,hq,he⟩),uo];intro q hq he;obtain⟨q3,Eg,o5⟩:=bJ.1 (cL.1 hq);obtain⟨j,hj,Pe⟩:=cS.1 (bQ Eg);refine hex ⟨j,q3,by rw[<-Pe];exact aN hj,?_⟩;unfold Cp.sl at o5;cases hpt:q3.t with
      |none=>rw[hpt]at o5;cases o5
      |some u=>rw[hpt]at o5;simp only[bZ,aQ]at o5;subst o5;simp only at he;rw[he]
    have Uc:=hfit i p hp;have IG:∀id ob,p.up=some (id,ob)->∃v,κ id=some v:=by
     intro id ob he;rcases NN with⟨_,_,h,_⟩|⟨_,_,_,_,T,x,y,id',ds,Ec,hx',_,_,_,_,Fk⟩
     ·rw[h]at he;cases he
     ·rw[Fk]at he;cases he;obtain⟨b1,r1,_⟩:=hs.ev x;rw[DH σ' H' st.H x,hx']at r1;obtain⟨g,hk,_⟩:=r1.pF;exact⟨_,hk⟩
    have IV:∀id ob,p.up=some (id,ob)->∃zs ds,H'[id]?=some (.box zs)/\ob=.box ds/\zs.length=ds.length:=by
     intro id ob he;obtain⟨u1,⟨zs,ds,u2,u3,u4⟩,_⟩:=CF i p id ob hp he;refine⟨zs,ds,?_,u2,u3⟩;obtain⟨i1,p1,j1,hp1,xS,hk1⟩:=p8 (aB.1 u4).1;have Ed:ps[i1]?=some p1:=by
      have:=(aB.1 hp1).1;rw[bU]at hp1;split at hp1
      ·exact hp1
      ·cases hp1
     have hi1:i1<i:=by have:=(aB.1 hp1).1;simp at this;omega
     have et:(ps.take i).take i1=ps.take i1:=by rw[lH,cv (by omega)]
     rw[et]at hk1;have e1:p1.r+j1=id:=by rw[Ef i1 p1 Ed];omega
     have pK:p1.obs[j1]?=some (.box zs):=by
      rw[jk hp1,et,hk1,aV (by omega),cC,aS xS]at u4;exact u4
     have hl1:listed.getD i1 false=true:=by
      cases hl:listed.getD i1 false with
      |true=>rfl
      |false=>
       have h0:=Fb i1 p1 Ed hl j1 xS;rw[e1]at h0;obtain⟨v,hv⟩:=IG id ob he;rw[h0]at hv;cases hv
     have:=Fc i1 p1 Ed hl1 j1 _ pK (fun i2 q rH hq hl wV=>by
      rw[e1]at wV;have:=IW i i2 p q id ob rH hp hq he wV;subst this;rw[rA]at hl;cases hl)
     rw[e1]at this;exact this
    refine NN.wp hs HB ho (by omega) (fun j hj=>Fb i p hp rA j hj) IV fun κ' Θ' a' w' hs' hsame=>?_
    have k9:∀(j:Nat),(listed.setIfInBounds i true).getD j false=true↔(j=i\/listed.getD j false=true):=by
     intro j;by_cases e:i=j
     ·subst e;have:i<listed.size:=by rw[hsz];omega
      simp[this]
     ·rw[getD_set_ne false e];constructor
      ·exact .inr
      ·rintro(rfl|h)
       ·exact absurd rfl e
       ·exact h
    have hput:(p.rC H').length=H'.length:=by
     unfold Cp.rC;split
     ·simp
     ·exact lq (by omega)
    have NW:∀(k:Nat),k<st.H.length->(p.rC H')[k]?=H'[k]?:=by
     intro k hk;unfold Cp.rC;split
     ·rename_i id ob he;have:=(CF i p id ob hp he).1;rw[bH (by omega)]
     ·rw[lm (by omega),bG (by rw[Ef i p hp];omega)]
    refine ih (listed.setIfInBounds i true) (p.slot σ') (p.rC H') κ' Θ' a' w' (inv.set hi hin) ?_ ?_ ?_ (by rw[hput];exact Lv) ?_ ?_ ?_ ?_ hs'
    ·have GR:((List.range n).filter fun j=> !(listed.setIfInBounds i true).getD j false)=((List.range n).filter fun j=> !listed.getD j false).erase i:=by
      have hnd:((List.range n).filter fun j=> !listed.getD j false).Nodup:=nk _ rK;rw[hnd.erase_eq_filter,pP];apply qh;intro j _;by_cases e:j=i
      ·subst e;have:=(k9 j).2 (.inl rfl);rw[this];simp
      ·rw[getD_set_ne false (kE e)];simp[e]
     rw[GR,mL (fN.2 ⟨az.2 hin,by simp[rA]⟩),j0];rfl
    ·intro j q t hq zY hl;unfold Cp.slot;rcases(k9 j).1 hl with rfl|sO
     ·rw[hp]at hq;cases hq;rw[zY];simp[lk]
     ·cases hpt:p.t with
      |none=>exact hA j q t hq zY sO
      |some u=>
       simp only[lk];rw[ar,hA j q t hq zY sO];intro e;have:=hdist j i q p t hq hp zY (by rw[hpt,e]);subst this;rw[rA]at sO;cases sO
    ·intro t ht;unfold Cp.slot;have mM:=hB t (fun j q hq hl=>ht j q hq ((k9 j).2 (.inr hl)));cases hpt:p.t with
     |none=>exact mM
     |some u=>
      simp only[lk];rw[ar (fun e=>ht i p hp ((k9 i).2 (.inl rfl)) (by rw[hpt,e]))];exact mM
    ·intro j y hj;rw[NW j (aB.1 hj).1];exact HB j y hj
    ·intro j q hq hl k y hy hno;have PT:=(aB.1 hy).1;unfold Cp.rC;split
     ·rename_i id ob he;have hne:q.r+k≠id:=fun e=>hno i p ob hp ((k9 i).2 (.inl rfl)) (by rw[e];exact he)
      rw[bH (kE hne)];rcases(k9 j).1 hl with rfl|sO
      ·rw[hp]at hq;cases hq;rw[IX j p id ob hp he]at hy;simp at hy
      ·exact Fc j q hq sO k y hy (fun i2 q2 rH qJ HD=>hno i2 q2 rH qJ ((k9 i2).2 (.inr HD)))
     ·rw[lm (by omega)];rcases(k9 j).1 hl with rfl|sO
      ·rw[hp]at hq;cases hq;rw[ar (by omega),bG (by omega),cC];exact hy
      ·have hne:j≠i:=fun e=>by subst e;rw[rA]at sO;cases sO
       have h3:=Fc j q hq sO k y hy (fun i2 q2 rH qJ HD=>hno i2 q2 rH qJ ((k9 i2).2 (.inr HD)));rcases mU hne with h|h
       ·have:=CB j i q p hq hp h;rw[bG (by omega)];exact h3
       ·have:=CB i j p q hp hq h;rw[ar (by omega),ar (by omega)];exact h3
    ·intro j q id ob hq hl he;rcases(k9 j).1 hl with rfl|sO
     ·rw[hp]at hq;cases hq;obtain⟨zs,ds,z1,_⟩:=IV id ob he;have hlt:=(aB.1 z1).1;refine⟨by simp only[Cp.rC,he];rw[cI hlt],?_⟩;obtain⟨v,hv⟩:=IG id ob he;refine⟨v,?_⟩;rw[hsame id (by rw[IX j p id ob hp he];simp;omega)];exact hv
     ·obtain⟨h1,v,hv⟩:=Jz j q id ob hq sO he;have hout:id<p.r\/p.r+p.obs.length<=id:=by
       rcases cY id p.r with h|h
       ·exact .inl h
       ·rcases cY id (p.r+p.obs.length)with h2|h2
        ·have:=Fb i p hp rA (id-p.r) (by omega);rw[show p.r+(id-p.r)=id from by omega,hv]at this;cases this
        ·exact .inr h2
      refine⟨?_,v,by rw[hsame id hout];exact hv⟩;unfold Cp.rC;split
      ·rename_i Py rH wV;have hne:Py≠id:=fun e=>by
        subst e;have:=IW i j p q Py rH ob hp hq wV he;subst this;rw[rA]at sO;cases sO
       rw[bH hne];exact h1
      ·rw[lm (by omega)];rcases hout with h|h
       ·rw[bG h];exact h1
       ·rw[ar (by omega),ar (by omega)];exact h1
    ·intro j q hq hl k hk;have hne:j≠i:=fun e=>by
      subst e;have:=(k9 j).2 (.inl rfl);rw[this]at hl;cases hl
     have sO:listed.getD j false=false:=by
      cases h:listed.getD j false with
      |false=>rfl
      |true=>have:=(k9 j).2 (.inr h);rw[this]at hl;cases hl
     have h3:=Fb j q hq sO k hk;rw[hsame,h3];rcases mU hne with h|h
     ·have:=CB j i q p hq hp h;omega
     ·have:=CB i j p q hp hq h;omega
 have Nx:HeadInv .any l.toArray n (Array.replicate l.toArray.size false):=
  ⟨by simp,fun j oj _ hl=>(by rw[getD_replicate_false]at hl;cases hl),fun t _ ht=>getD_in (by simpa using ht) (getD_replicate_false _ _)⟩
 have j0:((List.range n).filter fun i=> !(Array.replicate l.toArray.size false).getD i false).length=n:=by
  rw[List.filter_eq_self.2]
  ·simp
  ·intro i _;rw[getD_replicate_false];rfl
 have:=main n (Array.replicate l.toArray.size false) st.σ (st.H++List.replicate (ps.flatMap Cp.obs).length .gone) κ Θ a w Nx j0 (fun i p t _ _ hl=>by rw[getD_replicate_false]at hl;cases hl) (fun t _=>rfl)
  (by simp) (fun i o h=>by rw[aS (aB.1 h).1];exact h) (fun i p _ hl=>by rw[getD_replicate_false]at hl;cases hl)
  (fun i q id ob _ hl=>by rw[getD_replicate_false]at hl;cases hl)
  (fun i p hp _ j _=>hs.jN _ (by rw[Ef i p hp];omega)) (hs.room _)
 rw[show n+(l.toArray.size-n)=l.toArray.size from by omega]at this;exact this
def zI(X:aH)(st:St)(op:Op)(A:cj):Bool:=match op with
 | .buildSlice _ _ _=>true
 | .build _ _=>true
 | .extract _ _=>true
 | .field _ _ _=>true
 | .move _=>true
 | .alloc _=>true
 | .binOp _ _ _ _ _=>true
 | .indexAddr _ x _=>(Ad st (st.ev x)).isNone
 | .load _ x=>(CO st (st.ev x)).isNone&&(match st.ev x,A with| .op id _ _ _,.tk _::_=>X.contains id|_,_=>true)
 | .store _ x _=>(match st.ev x with| .ptr id _=>X.contains id|_=>false)
 | .call c=>(match c.callee,A with
  | .builtin .append,_=>true
  | .value (.func _),.d _::_=>true
  | .value (.func _),.gf _ _::_=>true
  | .value (.func _),.gp _ _ _::_=>(match c.args.toList with|x::_=>(match st.ev x with| .ptr id _=>X.contains id|_=>false)| []=>false)
  |_,_=>false)
 |_=>false
def DM(X:aH)(H H':ai):Bool:=(List.range H.length).all fun i=>X.contains i||(match H[i]? with|some .gone=>true|_=>(match H'[i]? with|some .gone=>false|_=>true))
def Ai(P:Program)(nt:Nat)(X:aH):List Oper->St->cj->Option (St×cj×si)
 | [],st,A=>some (st,A,[])
 |o::rest,st,A=>match o.guard,zI X st o.op A with
  |none,true=>(match wB P nt o st A with
   |some (oC,A1,p)=>(match DM X st.H oC.H,Ai P nt X rest oC A1 with|true,some (Ap,A2,q)=>some (Ap,A2,p++q)|_,_=>none)
   |none=>none)
  |_,_=>none
theorem Db{H:ai}{ms:aH}{i:Nat}(h:i∈ms)(hl:i<H.length):(kill H ms)[i]?=some .gone:=by
 induction ms generalizing H with
 |nil=>cases h
 |cons m ms ih=>
  show(kill (H.set m .gone) ms)[i]?=_;by_cases hi:i∈ms
  ·exact ih hi (by simpa using hl)
  ·rw[cR hi];rcases aY.1 h with rfl|h
   ·rw[cI hl]
   ·exact absurd h hi
theorem Fa{X:aH}{H H':ai}(h:DM X H H'=true){i:Nat}{o:Ob}(hi:i∉X)(ho:H[i]?=some o)(hg:H'[i]?=some .gone):o=.gone:=by
 have h1:=aO.1 h i (az.2 (aB.1 ho).1);rw[ho,hg,List.contains_eq_mem,bf hi,kZ]at h1;cases o<;>first|rfl|cases h1
theorem AZ{X:aH}{H:ai}{ms:aH}{n:ai}(h:DM X H (kill H ms++n)=true):oL X H (kill H ms++n):=by
 intro i o hi ho;have hl:=(aB.1 ho).1;have e:(kill H ms++n)[i]?=(kill H ms)[i]?:=aS (by rw[dH];exact hl);by_cases hm:i∈ms
 ·have e2:=e.trans (Db hm hl);rw[e2,Fa h hi ho e2]
 ·rw[e,cR hm,ho]
theorem Gf{X:aH}{H:ai}{ms:aH}{n:ai}{id:Nat}{b:Ob}(hid:id∈X)(h:DM X H ((kill H ms).set id b++n)=true):oL X H ((kill H ms).set id b++n):=by
 intro i o hi ho;have hne:id≠i:=fun e=>hi (e▸hid)
 have hl:=(aB.1 ho).1;have e:((kill H ms).set id b++n)[i]?=(kill H ms)[i]?:=by
  rw[aS (by rw[jO,dH];exact hl),bH hne]
 by_cases hm:i∈ms
 ·have e2:=e.trans (Db hm hl);rw[e2,Fa h hi ho e2]
 ·rw[e,cR hm,ho]
theorem Je{X:aH}{nt:Nat}{o:Oper}{A A1:cj}{oC:St}{p:si}(hk:zI X st o.op A=true)(Oa:DM X st.H oC.H=true)(h:wB P nt o st A=some (oC,A1,p)):((∃t d,o.dst=some t/\t<nt/\oC.σ=(t,d)::st.σ)\/(o.dst=none/\oC.σ=st.σ))/\oL X st.H oC.H:=by
 have plain:∀ {t:Nat},o.dst=some t->(if t<nt then match vn P st o.op A with|some (d,A,ow)=>some ((⟨(t,d)::st.σ,st.H⟩:St),A,ow)|none=>none else none)=some (oC,A1,p)->((∃t d,o.dst=some t/\t<nt/\oC.σ=(t,d)::st.σ)\/(o.dst=none/\oC.σ=st.σ))/\oL X st.H oC.H:=by
  intro t hd h;split at h
  ·rename_i ht;split at h
   ·cases h;exact⟨.inl ⟨t,_,hd,ht,rfl⟩,oL.refl _⟩
   ·cases h
  ·cases h
 unfold wB at h;split at h
 case h_2=>
  rename_i T t hop hd;split at h
  ·rename_i hc;split at h
   ·cases h;exact⟨.inl ⟨t,_,hd,hc,rfl⟩,oL.app (oL.refl _) _⟩
   ·cases h
  ·cases h
 case h_3=>
  rename_i T x y hop hd;rw[hop]at hk;simp only[zI]at hk;split at h
  ·rename_i id off ds h1 h2;rw[h1]at hk;split at h
   ·split at h
    ·split at h
     ·cases h;refine⟨.inr ⟨hd,rfl⟩,fun i cs hi hcs=>?_⟩;have hne:id≠i:=fun e=>hi (by subst e;simpa using hk)
      show(st.H.set id _)[i]?=_;rw[bH hne,hcs]
     ·cases h
    ·cases h
   ·cases h
  ·rename_i id i sz off ds h1 h2;rw[h1]at hk;cases hk
  ·cases h
 case h_7=>
  rename_i T len parts t hop hd;split at h
  ·split at h
   ·split at h
    ·split at h
     ·rename_i es ms hab;split at h
      ·rename_i hc;cases h;exact⟨.inl ⟨t,_,hd,hc.1,rfl⟩,AZ Oa⟩
      ·cases h
     ·cases h
    ·cases h
   ·cases h
  ·cases h
 case h_8=>
  rename_i c t hop hd;rw[hop]at hk;simp only[zI]at hk;split at h
  ·split at h
   ·split at h
    ·rename_i rows u1 k1 dF u2 k2 A' ow _ hS hX;split at h
     ·rename_i hc;cases h;exact⟨.inl ⟨t,_,hd,hc.1,rfl⟩,AZ Oa⟩
     ·cases h
    ·cases h
   ·cases h
  ·rename_i NP _ _;rw[NP]at hk;cases hk
  ·rename_i f NP;rw[NP]at hk;split at hk
   ·rename_i hb;cases hb
   ·rename_i f' d A' hb;split at h
    ·rename_i hA;cases hA
    ·rename_i hA;cases hA
    ·rename_i hA;cases hA
    ·rename_i hA;cases hA
    ·rename_i hA;cases hA
    ·rename_i hA;cases hA
    ·rename_i ds ms d' Vh hv hA;split at h
     ·rename_i hc;cases h;exact⟨.inl ⟨t,_,hd,hc.1,rfl⟩,(oL.refl _).app _⟩
     ·cases h
    ·rename_i hA;cases hA
    ·rename_i hA;cases hA
    ·cases h
   ·rename_i f' nz d A' hb;generalize vo st.H (List.map st.ev c.args.toList)=q at h;rcases q with _|⟨qa,qb⟩
    all_goals
     dsimp only at h;split at h
     ·rename_i ds ms qs h9;split at h
      ·rename_i hc;cases h;exact⟨.inl ⟨t,_,hd,hc.1,rfl⟩,AZ Oa⟩
      ·cases h
     ·cases h
   ·rename_i f' nz cells' d A' hb;generalize vo st.H (List.map st.ev c.args.toList)=q at h;rcases q with _|⟨qa,qb⟩
    all_goals
     dsimp only at h;split at h
     ·rename_i x0 xr h5;rw[h5]at hk;split at h
      ·rename_i id h6;simp only[h6]at hk;split at h
       ·rename_i ob h7;split at h
        ·rename_i yN h8;split at h
         ·rename_i cells ds ms qs h9;split at h
          ·rename_i hc;cases h;exact⟨.inl ⟨t,_,hd,hc.1,rfl⟩,Gf (by simpa using hk) Oa⟩
          ·cases h
         ·cases h
        ·cases h
       ·cases h
      ·cases h
     ·cases h
   ·cases hk
  ·exact plain hd h
 case h_13=>
  rename_i T x i t hop hd;rw[hop]at hk;simp only[zI]at hk;split at h
  ·rename_i hl;rw[hl]at hk;cases hk
  ·exact plain hd h
 case h_14=>
  rename_i T x t hop hd;rw[hop]at hk;simp only[zI]at hk;split at h
  ·rename_i hl;rw[hl]at hk;cases hk
  ·rw[aM]at hk
   replace hk:=hk.2
   split at h
   ·rename_i r A' id i sz h1;split at h
    ·rename_i n e sz' rows h2;split at h
     ·rename_i hc;cases h;refine⟨.inl ⟨t,_,hd,hc.1,rfl⟩,oL.app (fun j cs hj hcs=>?_) _⟩;have hne:id≠j:=fun e=>hj (by subst e;rw[h1]at hk;simpa using hk)
      rw[bH hne];exact hcs
     ·cases h
    ·cases h
   ·exact plain hd h
 all_goals first
  | (rename_i hop _;rw[hop]at hk;simp[zI]at hk;done)
  | (rename_i hop;rw[hop]at hk;simp[zI]at hk;done)
  |skip
 all_goals first
  |exact plain (by assumption) h
  |cases h
theorem Step.of{nt:Nat}(hnt:Γ.nt=nt){o:Oper}{A A1:cj}{oC:St}{p:si}(hg:o.guard=none)(hsel:∀cs b,o.op≠ .select cs b)(h:wB P nt o st A=some (oC,A1,p))(hp:oK p):Step P Γ o st oC:=by
 intro κ Θ a w hs;have h1:=Bz (P:=P) (Γ:=Γ) (all:= #[]) (rest:=[]) (Q:=fun e s=>e=.normal/\s=oC) hnt hg h hp (Mz ⟨rfl,rfl⟩) κ Θ a w hs;have hw:Region.wanted o (yielded #[] a.tmps)=true:=by simp[Region.wanted,hg]
 simp only[wpList,hw,jV]at h1;rcases h1 with h1|⟨_,a0,w0,mO,κ',Θ',_,hq,_⟩
 ·refine EC hsel (fun _ _=>rfl) ?_ ?_ ?_ h1
  ·rintro v w' ⟨mO,κ',Θ',hs',_,rfl⟩;exact⟨κ',Θ',hs'⟩
  ·rintro d w' ⟨mO,κ',Θ',hs',_,rfl⟩;have:=hs'.defers;cases S9:o.dst<;>rw[S9]at this<;>cases this
  ·rintro e c w' ⟨mO,κ',Θ',hs',rfl,_⟩;rfl
 ·cases hq
theorem CR{X:aH}{nt:Nat}(hnt:Γ.nt=nt){K:St->Prop}{Ap:St}{A2:cj}:∀ {ops:List Oper} {st:St} {A:cj} {p:si},Ai P nt X ops st A=some (Ap,A2,p)->oK p->K Ap->HM P Γ X K ops st:=by
 intro ops
 induction ops with
 |nil=>intro st A p h hp hK;simp only[Ai,aQ,bW]at h;obtain⟨rfl,_,_⟩:=h;exact hK
 |cons o os ih=>
  intro st A p h hp hK;simp only[Ai]at h;split at h
  ·rename_i hg hok;split at h
   ·rename_i oC A1 p1 h1;split at h
    ·rename_i LX RA q Oa h2;cases h;obtain⟨hp1,hq⟩:=hp.app;obtain⟨hd,hX⟩:=Je hok Oa h1;have hsel:∀cs b,o.op≠ .select cs b:=by
      intro cs b e;rw[e]at hok;cases hok
     exact⟨oC,hd.imp (fun⟨t,d,hd,ht,hσ⟩=>⟨t,d,hd,by rw[hnt];exact ht,hσ⟩) id,hX,hg,hsel,Step.of hnt hg hsel h1 hp1,ih h2 hq hK⟩
    ·cases h
   ·cases h
  ·cases h
def Jg(X:aH)(st:St)(ops:List Oper)(L:aH):Bool:=L.all fun i=>match ops[i]? with|some o=>sU X st o.op|none=>false
theorem Gw{X:aH}{st:St}{ops:List Oper}{L:aH}(h:Jg X st ops L=true):∀i∈L,∀o,ops[i]?=some o->sU X st o.op=true:=by
 intro i hi o ho;have:=aO.1 h i hi;rw[ho]at this;exact this
def rW(ρ:aH)(o:Oper):Oper:= {o with after:=o.after.map fun e=> {e with on:=ρ.getD e.on 0},guard:=o.guard.map fun g=>(ρ.getD g.1 0,g.2)}
def mS(ops:Array Oper)(π ρ:aH):List Oper:=π.filterMap fun i=>(ops[i]?).map (rW ρ)
def zL(ops:Array Oper)(π ρ:aH):Bool:=
 decide (π.length=ops.size)&&(decide (ρ.length=ops.size)&&
 (((List.range ops.size).all fun i=>(match ρ[i]? with|some k=>π[k]?==some i|none=>false))&&
 (((List.range ops.size).all fun k=>(match π[k]? with|some i=>ρ[i]?==some k|none=>false))&&
 (ops.toList.all fun o=>(o.after.all fun e=>decide (e.on<ops.size))&&(match o.guard with|some g=>decide (g.1<ops.size)|none=>true)))))
theorem AK(ρ:aH)(o:Oper)(f:Operand->Value):execOp f (rW ρ o)=execOp f o:=by
 cases o;rfl
theorem Jw(ρ:aH){o:Oper}{K:Act->World->Prop}{Q:Exit->Act->World->Prop}(h:(rW ρ o).wp P a w K Q):o.wp P a w K Q:=by
 unfold Oper.wp at*;rw[AK]at h;exact h
theorem EO(ρ:aH){o:Oper}(h:(rW ρ o).asks P a w):o.asks P a w:=by
 unfold Oper.asks at*;rw[AK]at h;exact h
section
variable{ops:Array Oper}{π ρ:aH}
theorem Al(hB:zL ops π ρ=true){k i:Nat}{o:Oper}(hk:π[k]?=some i)(ho:ops[i]?=some o):(mS ops π ρ).toArray[k]?=some (rW ρ o):=by
 simp only[zL,aM,bA]at hB;obtain⟨h1,h2,h3,h4,h5⟩:=hB;have hall:∀x∈π,∃o,ops[x]?=some o:=by
  intro x hx;obtain⟨j,hj,rfl⟩:=cS.1 hx;have:=aO.1 h4 j (az.2 (by omega));rw[aN hj]at this;simp only[bX]at this;have:=(aB.1 this).1;exact⟨_,bS (by omega)⟩
 have key:∀(l:aH) (k:Nat),(∀x∈l,∃o,ops[x]?=some o)->l[k]?=some i->(l.filterMap fun i=>(ops[i]?).map (rW ρ))[k]?=some (rW ρ o):=by
  intro l
  induction l with
  |nil=>intro k _ h;simp at h
  |cons x l ih=>
   intro k hl h;obtain⟨ox,GX⟩:=hl x (by simp);rw[oZ];simp only[GX,bZ];cases k with
   |zero=>simp at h;subst h;rw[ho]at GX;cases GX;rfl
   |succ k=>simpa using ih k (fun y hy=>hl y (by simp[hy])) (by simpa using h)
 have:=key π k hall hk;simpa[mS]using this
theorem E0(hB:zL ops π ρ=true):(mS ops π ρ).toArray.size=ops.size:=by
 have RN:=hB;simp only[zL,aM,bA]at hB;obtain⟨h1,h2,h3,h4,h5⟩:=hB;have hall:∀x∈π,∃o,ops[x]?=some o:=by
  intro x hx;obtain⟨j,hj,rfl⟩:=cS.1 hx;have:=aO.1 h4 j (az.2 (by omega));rw[aN hj]at this;simp only[bX]at this;have:=(aB.1 this).1;exact⟨_,bS (by omega)⟩
 have key:∀(l:aH),(∀x∈l,∃o,ops[x]?=some o)->(l.filterMap fun i=>(ops[i]?).map (rW ρ)).length=l.length:=by
  intro l
  induction l with
  |nil=>intro _;rfl
  |cons x l ih=>
   intro hl;obtain⟨ox,GX⟩:=hl x (by simp);rw[oZ];simp only[GX,bZ,aR,ih (fun y hy=>hl y (by simp[hy]))]
 rw[gF,mS,key π hall,h1]
theorem JC{Q':Exit->Act->World->Prop}(hB:zL ops π ρ=true):∀(fuel:Nat) (listed listed':Array Bool) (a:Act) (w:World),listed.size=ops.size->listed'.size=ops.size->(∀(k i:Nat),π[k]?=some i->listed'.getD k false=listed.getD i false)->
 wpAny P .any (mS ops π ρ).toArray Q' fuel listed' a w->wpAny P .any ops Q' fuel listed a w:=by
 have RN:=hB;simp only[zL,aM,bA]at RN;obtain⟨h1,h2,h3,h4,h5⟩:=RN;have to:∀i,i<ops.size->∃k,ρ[i]?=some k/\π[k]?=some i/\k<ops.size:=by
  intro i hi;have:=aO.1 h3 i (az.2 hi);split at this
  ·rename_i k hk;simp only[bX]at this;exact⟨k,hk,this,by have:=(aB.1 this).1;omega⟩
  ·cases this
 have back:∀k,k<ops.size->∃i,π[k]?=some i/\ρ[i]?=some k/\i<ops.size:=by
  intro k hk;have:=aO.1 h4 k (az.2 hk);split at this
  ·rename_i i hi;simp only[bX]at this;exact⟨i,hi,this,by have:=(aB.1 this).1;omega⟩
  ·cases this
 have TZ:∀(i:Nat) o,ops[i]?=some o->(∀e∈o.after,e.on<ops.size)/\∀g,o.guard=some g->g.1<ops.size:=by
  intro i o ho;have hm:o∈ops.toList:=by rw[<-gh]at ho;exact aD ho
  have:=aO.1 h5 o hm;simp only[aM]at this;refine⟨fun e he=>by simpa using mT.1 this.1 e he,fun g hg=>?_⟩;have:=this.2;rw[hg]at this;simpa using this
 have rd:∀(listed listed':Array Bool),listed.size=ops.size->listed'.size=ops.size->(∀(k i:Nat),π[k]?=some i->listed'.getD k false=listed.getD i false)->∀(k i:Nat),π[k]?=some i->(i∈Region.ready .any ops listed↔k∈Region.ready .any (mS ops π ρ).toArray listed'):=by
  intro listed listed' hs1 hs2 HE k i hki;have hk:k<ops.size:=by have:=(aB.1 hki).1;omega
  obtain⟨i',hi',hr,hilt⟩:=back k hk;rw[hki]at hi';cases hi';have ho:ops[i]?=some ops[i]:=bS hilt;have ho':=Al hB hki ho;have hon:∀e∈ops[i].after,listed'.getD (ρ.getD e.on 0) false=listed.getD e.on false:=by
   intro e he;obtain⟨k2,hk2,S2,_⟩:=to e.on ((TZ i _ ho).1 e he);rw[gE,hk2,lX];exact HE k2 e.on S2
  rw[mem_ready,mem_ready];constructor
  ·rintro⟨q1,o,q2,q3⟩;rw[ho]at q2;cases q2;refine⟨getD_in (by omega) (by rw[HE k i hki];exact getD_both q1),_,ho',?_⟩;intro e he hb;simp only[rW,Array.mem_map]at he;obtain⟨e0,TD,rfl⟩:=he;simp only;rw[hon e0 TD];exact q3 e0 TD hb
  ·rintro⟨q1,o,q2,q3⟩;rw[ho']at q2;cases q2;refine⟨getD_in (by omega) (by rw[<-HE k i hki];exact getD_both q1),_,ho,?_⟩;intro e he hb;rw[<-hon e he];exact q3 {e with on:=ρ.getD e.on 0} (by simp only[rW,Array.mem_map];exact⟨e,he,rfl⟩) hb
 have lt:∀ {listed:Array Bool} {ops:Array Oper} {i:Nat},i∈Region.ready .any ops listed->i<ops.size:=by
  intro listed ops i hi;obtain⟨_,o,ho,_⟩:=mem_ready.1 hi;exact(aX.1 ho).1
 have MF:∀(listed listed':Array Bool),listed.size=ops.size->listed'.size=ops.size->(∀(k i:Nat),π[k]?=some i->listed'.getD k false=listed.getD i false)->(Region.ready .any ops listed=[]↔Region.ready .any (mS ops π ρ).toArray listed'=[]):=by
  intro listed listed' hs1 hs2 HE;constructor
  ·intro h;rw[jt];intro k hk;obtain⟨i,hi,_⟩:=back k (by have:=lt hk;rw[E0 hB]at this;exact this);have:=(rd listed listed' hs1 hs2 HE k i hi).2 hk;rw[h]at this;cases this
  ·intro h;rw[jt];intro i hi;obtain⟨k,_,hk,_⟩:=to i (lt hi);have:=(rd listed listed' hs1 hs2 HE k i hk).1 hi;rw[h]at this;cases this
 intro fuel
 induction fuel with
 |zero=>
  intro listed listed' a w hs1 hs2 HE h;exact⟨(MF listed listed' hs1 hs2 HE).2 h.1,h.2⟩
 |succ fuel ih=>
  intro listed listed' a w hs1 hs2 HE h;refine⟨fun h0=>h.1 ((MF listed listed' hs1 hs2 HE).1 h0),fun i hi=>?_⟩;have hilt:=lt hi;obtain⟨k,Uu,hk,Uk⟩:=to i hilt;have hkr:=(rd listed listed' hs1 hs2 HE k i hk).1 hi;have ho:ops[i]?=some ops[i]:=bS hilt;have ho':=Al hB hk ho;have h2:=wpOp_mono (K':=wpAny P .any ops Q' fuel (listed.setIfInBounds i true)) (fun a' w' h'=>ih (listed.setIfInBounds i true) (listed'.setIfInBounds k true) a' w' (by simpa using hs1) (by simpa using hs2) (by
   intro k2 i2 IF;by_cases e:k=k2
   ·subst e;rw[hk]at IF;cases IF;have g1:k<listed'.size:=by omega
    have g2:i<listed.size:=by omega
    simp[g1,g2]
   ·have e2:i≠i2:=by
     intro e3;subst e3;obtain⟨i',hi',hr',_⟩:=back k2 (by have:=(aB.1 IF).1;omega);rw[IF]at hi';cases hi';rw[Uu]at hr';cases hr';exact e rfl
    rw[getD_set_ne false e,getD_set_ne false e2];exact HE k2 i2 IF) h') (h.2 k hkr)
  have hw:Region.wanted (rW ρ ops[i]) (yielded (mS ops π ρ).toArray a.tmps)=Region.wanted ops[i] (yielded ops a.tmps):=by
   cases hg:ops[i].guard with
   |none=>simp[Region.wanted,rW,hg]
   |some g=>
    obtain⟨j,want⟩:=g;have hj:=(TZ i _ ho).2 _ hg;obtain⟨k3,SH,S2,_⟩:=to j hj;have o4:ops[j]?=some ops[j]:=bS hj;have SB:=Al hB S2 o4;have:yielded (mS ops π ρ).toArray a.tmps (ρ.getD j 0)=yielded ops a.tmps j:=by
     rw[gE,SH,lX];unfold yielded;rw[SB,o4];rfl
    simp only[Region.wanted,rW,hg,bZ];rw[this]
  unfold wpOp at h2⊢;simp only[ho',ho]at h2⊢;rw[hw]at h2;split
  ·rename_i IZ;rw[bG IZ]at h2;exact h2.imp (Jw ρ) fun⟨q1,q2⟩=>⟨EO ρ q1,q2⟩
  ·rename_i IZ;rw[ar IZ]at h2;exact h2
theorem BR.perm(hB:zL ops π ρ=true)(h:BR P Γ (mS ops π ρ).toArray Q st):BR P Γ ops Q st:=by
 intro κ Θ a w hs;have:=h κ Θ a w hs;rw[E0 hB]at this;refine JC hB ops.size (Array.replicate ops.size false) (Array.replicate ops.size false) a w (by simp) (by simp) (fun k i _=>?_) this;rw[getD_replicate_false,getD_replicate_false]
end
end
end Go.Cx
namespace Go.Cx
open Go.RowKit
def oR(P:Program)(nt:Nat)(all:Array Oper):List Oper->St->cj->Option (St×cj×si)
 | [],st,A=>(match shares A st with| (oC,A1)=>some (oC,A1,[]))
 |o::rest,st,A=>match o.guard with
  |none=>(match wB P nt o st A with
   |some (oC,A1,p)=>(match oR P nt all rest oC A1 with|some (Ap,A2,q)=>some (Ap,A2,p++q)|none=>none)
   |none=>none)
  |some (j,want)=>(match(all[j]?).bind (·.dst),A with
   |some s,.b v::A=>(match lk st.σ s with
    | .bool b=>(match v==want with
     |true=>(match wB P nt {o with guard:=none} st A with
      |some (oC,A1,p)=>(match oR P nt all rest oC A1 with|some (Ap,A2,q)=>some (Ap,A2,(b=v)::(p++q))|none=>none)
      |none=>none)
     |false=>(match o.dst with
      |some t=>(if t<nt then match oR P nt all rest ⟨(t,.fy [])::st.σ,st.H⟩ A with|some (Ap,A2,q)=>some (Ap,A2,(b=v)::q)|none=>none else none)
      |none=>(match oR P nt all rest st A with|some (Ap,A2,q)=>some (Ap,A2,(b=v)::q)|none=>none)))
    | .fy []=>(match o.dst with
     |some t=>(if t<nt then oR P nt all rest ⟨(t,.fy [])::st.σ,st.H⟩ A else none)
     |none=>oR P nt all rest st A)
    |_=>none)
   |_,_=>none)
def FU(P:Program)(H:ai)(r:Nat)(σ:List (Nat×D))(o:Oper)(A:cj):Option (D×ai×cj×si):=match o.op with
 | .call c=>(match c.callee with
  | .value (.func f)=>(match vo H (c.args.toList.map (St.ev ⟨σ,H⟩)),A with
   |some (ds,ms),.d d::A=>(if ms=[]\/d.Ak=true then some ((ir r d).1,(ir r d).2,A,[Good P f ds d])else none)
   |some (ds,ms),.ds d::A=>(if d.O8=true/\d.Ak=true then some (d.K6,[],A,[Good P f ds d])else none)
   |_,.nl d::A=>(if(c.args.toList.map (St.ev ⟨σ,H⟩)).all zF=true then some ((ir r d).1,(ir r d).2,A,[Good P f (c.args.toList.map (St.ev ⟨σ,H⟩)) d])else none)
   |_,_=>none)
  |_=>(match vn P ⟨σ,H⟩ o.op A with|some (d,A,ow)=>some (d,[],A,ow)|none=>none))
 | .alloc T=>(match tz P T with|some zs=>some (.ptr r 0,[.box zs],A,[])|none=>none)
 | .box _ x=>(match(St.ev ⟨σ,H⟩ x).cellsOf with|some ds=>some (.ptr r 0,[.box ds],A,[])|none=>none)
 | .buildSlice T len parts=>(match vJ P T with
  |some (e,sz)=>(match tz P e with
   |some zs=>(match o9 (kp len sz) (List.replicate len zs).flatten (parts.toList.map fun q=>(q.1,St.ev ⟨σ,H⟩ q.2))with
    |some ds=>(match A with
     | .vw _::A=>(if 0<sz/\len*sz<=16777216/\ds.all D.Cu=true/\ds.all D.flat=true then some (.sl (chunk sz len ds),[],A,[])else none)
     |A=>(match wq H ds with
      |some (es,ms)=>(if 0<sz/\len*sz<=16777216/\ms=[]then some (.acc r,[.row (nV (H6 H e 0 ds)) e sz (chunk sz len es)],A,[])else none)
      |none=>none))
    |none=>none)
   |none=>none)
  |none=>none)
 |_=>(match vn P ⟨σ,H⟩ o.op A with|some (d,A,ow)=>some (d,[],A,ow)|none=>none)
def nh(P:Program)(nt:Nat)(all:Array Oper)(H:ai):List Oper->List (Nat×D)->ai->aH->cj->Option (List (Nat×D)×ai×cj×si)
 | [],σ,acc,_,A=>some (σ,acc,A,[])
 |o::rest,σ,acc,U,A=>match o.dst with
  |none=>(match o.op,o.guard with
   | .store T x y,none=>(match St.ev ⟨σ,H⟩ x,(St.ev ⟨σ,H⟩ y).cellsOf with
    | .ptr id off,some ds=>(match acc[id-H.length]? with
     |some (.box zs)=>(if off=0/\H.length<=id/\id∉U/\Ck P T=true/\ds.length=oX P T/\zs.length=ds.length then nh P nt all H rest σ (acc.set (id-H.length) (.box ds)) (id::U) A else none)
     |_=>none)
    |_,_=>none)
   |_,_=>none)
  |some t=>(if t<nt then match o.guard with
   |none=>(match FU P H (H.length+acc.length) σ o A with
    |some (d,obs,A1,p)=>(match nh P nt all H rest ((t,d)::σ) (acc++obs) U A1 with|some (σ2,D6,A2,q)=>some (σ2,D6,A2,p++q)|none=>none)
    |none=>none)
   |some (j,want)=>(match(all[j]?).bind (·.dst),A with
    |some s,.b v::A=>(match lk σ s with
     | .bool b=>(match v==want with
      |true=>(match FU P H (H.length+acc.length) σ o A with
       |some (d,obs,A1,p)=>(match nh P nt all H rest ((t,d)::σ) (acc++obs) U A1 with|some (σ2,D6,A2,q)=>some (σ2,D6,A2,(b=v)::(p++q))|none=>none)
       |none=>none)
      |false=>(match nh P nt all H rest ((t,.fy [])::σ) acc U A with|some (σ2,D6,A2,q)=>some (σ2,D6,A2,(b=v)::q)|none=>none))
     | .fy []=>nh P nt all H rest ((t,.fy [])::σ) acc U A
     |_=>none)
    |_,_=>none)
   else none)
inductive Fr where
 |sq (c:Code)
 |bl (id:Nat)
 |lp
def depth:List Fr->Nat
 | []=>0
 | .lp::K=>depth K+1
 |_::K=>depth K
inductive RC where
 |run (c:Code)
 |J7
 |ex (id:Nat)
inductive Stop where
 |ret (d:D)
 |lp (c:Code) (K:List Fr) (st:St)
 |cont (k:Nat) (st:St)
 |at_ (c:Code) (K:List Fr) (st:St)
def OC(P:Program)(rs:List ResultVar×List (List (Option (Nat×Nat))))(st:St):Option D:=match w9 P st rs.1 with
 |some ds=>(match qO st.H rs.2 ds with|some (es,ms,qs)=>(if ms.Nodup/\qs.Nodup/\(∀m∈qs,m∉ms)then some (zK es)else none)|none=>none)
 |none=>none
def S3(A:cj)(m:Nat):Option (aH×aH):=match A with
 | .hl m' k o::_=>if m'=m then some (k,o)else none
 |_=>none
def Bu(p:si)(x:Option (Stop×si)):Option (Stop×si):=match x with
 |some (s,q)=>some (s,p++q)
 |none=>none
def go(P:Program)(rf:St->Option D)(nt:Nat):Nat->RC->List Fr->St->cj->Option (Stop×si)
 |0,_,_,_,_=>none
 |n+1,.run c,K,st,A=>(match c with
  | .skip=>go P rf nt n .J7 K st A
  | .ret=>(match rf st with|some d=>some (.ret d,[])|none=>none)
  | .exit id=>go P rf nt n (.ex id) K st A
  | .seq x y=>go P rf nt n (.run x) (.sq y::K) st A
  | .block id x=>go P rf nt n (.run x) (.bl id::K) st A
  | .loop x=>(match A with
   | .cn k o::_=>(if o.Nodup then some (.lp x K (st.sj k o),[])else none)
   | .pb id off e sz::A=>(match st.prom id off e sz with|some oC=>(match shares A oC with| (Ap,A2)=>go P rf nt n (.run (.loop x)) K Ap A2)|none=>none)
   |_=>none)
  | .cond x y z=>(match st.ev x,A with
   | .bool b,.b v::A=>Bu [b=v] (go P rf nt n (.run (match v with|true=>y|false=>z)) K st A)
   |_,_=>none)
  | .region _ ops dr=>(match dr with
   |false=>(match oR P nt ops ops.toList st A with|some (oC,A1,p)=>Bu p (go P rf nt n .J7 K oC A1)|none=>none)
   |true=>(match A with
    | .n k::A=>(match I1 ops k with
     |true=>(match nh P nt ops st.H (ops.toList.take k) st.σ [] [] A with
      |some (σ1,acc,A1,p)=>(match oR P nt ops (ops.toList.drop k) ⟨σ1,st.H++acc⟩ A1 with|some (Ap,A2,q)=>Bu (p++q) (go P rf nt n .J7 K Ap A2)|none=>none)
      |none=>none)
     |false=>none)
    | .n2 π ρ k m L X::A=>(match zL ops π ρ,mS ops π ρ with
     |true,ops'=>(match AI ops'.toArray k m L with
      |true=>(match nh P nt ops'.toArray st.H (ops'.take k) st.σ [] [] A with
       |some (σ1,acc,A1,p)=>(match Jg X ⟨σ1,st.H⟩ ops' L,Ai P nt X ((ops'.drop k).take (m-k)) ⟨σ1,st.H++acc⟩ A1 with
        |true,some (oC,A2,p2)=>(match oR P nt ops'.toArray (ops'.drop m) oC A2 with|some (Ap,A3,q)=>Bu (p++(p2++q)) (go P rf nt n .J7 K Ap A3)|none=>none)
        |_,_=>none)
       |none=>none)
      |false=>none)
     |false,_=>none)
    |_=>none))
  |_=>none)
 |n+1,.J7,K,st,A=>(match K with
  | []=>(match rf st with|some d=>some (.ret d,[])|none=>none)
  | .sq y::K=>(match S3 A K.length with|some (k,o)=>(if o.Nodup then some (.at_ y K (st.sj k o),[])else none)|none=>go P rf nt n (.run y) K st A)
  | .bl _::K=>go P rf nt n .J7 K st A
  | .lp::K=>(match A with| .cn k o::_=>(if o.Nodup then some (.cont (depth K) (st.sj k o),[])else none)|_=>none))
 |n+1,.ex id,K,st,A=>(match K with
  | []=>none
  | .sq _::K=>go P rf nt n (.ex id) K st A
  | .bl i::K=>(if id=i then go P rf nt n .J7 K st A else go P rf nt n (.ex id) K st A)
  | .lp::K=>go P rf nt n (.ex id) K st A)
section
variable{P:Program}{Γ:lY}{Q:Exit->St->Prop}{N:Nat->St->Prop}
def KQ(P:Program)(Γ:lY)(N:Nat->St->Prop)(Q:Exit->St->Prop):List Fr->Exit->St->Prop
 | []=>Q
 | .sq y::K=>Jl (AW P Γ y (KQ P Γ N Q K)) (KQ P Γ N Q K)
 | .bl id::K=>C7 id (KQ P Γ N Q K)
 | .lp::K=>Jl (fun st=>∃k o,o.Nodup/\N (depth K) (st.sj k o)) (KQ P Γ N Q K)
theorem N8:∀(K:List Fr) {st:St},Q .ret st->KQ P Γ N Q K .ret st:=by
 intro K
 induction K with
 |nil=>intro st h;exact h
 |cons f K ih=>intro st h;cases f<;>exact ih h
theorem D1{N':Nat->St->Prop}:∀(K:List Fr),(∀d,d<depth K->N d=N' d)->KQ P Γ N Q K=KQ P Γ N' Q K:=by
 intro K
 induction K with
 |nil=>intro _;rfl
 |cons f K ih=>
  intro h;cases f with
  |sq y=>simp only[KQ];rw[ih h]
  |bl id=>simp only[KQ];rw[ih h]
  |lp=>simp only[KQ];rw[ih (fun d hd=>h d (by simp only[depth];omega)),h (depth K) (by simp only[depth];omega)]
theorem sR{nt:Nat}(hnt:Γ.nt=nt){all:Array Oper}{Ap:St}{A2:cj}:∀ {ops:List Oper} {st:St} {A:cj} {p:si},oR P nt all ops st A=some (Ap,A2,p)->oK p->Q .normal Ap->AO P Γ all ops Q st:=by
 intro ops
 induction ops with
 |nil=>
  intro st A p h _ hq;simp only[oR]at h;cases hsh:shares A st with
  |mk oC A1=>
   rw[hsh]at h;simp only[aQ,bW]at h;obtain⟨rfl,_,_⟩:=h;exact fun κ Θ a w hs=>wpList_nil ⟨_,_,_,hs.shares hsh,hq⟩
 |cons o rest ih=>
  intro st A p h hp hq;simp only[oR]at h;split at h
  ·rename_i hg;split at h
   ·rename_i oC A1 p1 h1;split at h
    ·rename_i LX RA q h2;cases h;exact Bz hnt hg h1 hp.app.1 (ih h2 hp.app.2 hq)
    ·cases h
   ·cases h
  ·rename_i j want hg;split at h
   ·rename_i s v A1 hj;split at h
    ·rename_i b hb;split at h
     ·rename_i hv;simp only[bX]at hv;subst hv;split at h
      ·rename_i oC RA p1 h1;split at h
       ·rename_i LX A3 q h2;cases h;refine A5 (b:=b) hg hj hb ?_ (fun _=>Bz hnt rfl h1 hp.2.app.1 (ih h2 hp.2.app.2 hq)) (fun hne=>absurd hp.1 hne);intro t ht;exact Jf hnt h1 ht
       ·cases h
      ·cases h
     ·rename_i hv;split at h
      ·rename_i t hd;split at h
       ·rename_i ht;split at h
        ·rename_i LX A3 q h2;cases h;refine A5 (b:=b) hg hj hb (fun t' ht'=>?_) (fun e=>?_) (fun _=>?_)
         ·rw[hd]at ht';cases ht';rw[hnt];exact ht
         ·exfalso;have:=hp.1;simp only[eE,ne_eq]at hv;exact hv (this.symm.trans e)
         ·rw[hd];exact ih h2 hp.2 hq
        ·cases h
       ·cases h
      ·rename_i hd;split at h
       ·rename_i LX A3 q h2;cases h;refine A5 (b:=b) hg hj hb (fun t' ht'=>?_) (fun e=>?_) (fun _=>?_)
        ·rw[hd]at ht';cases ht'
        ·exfalso;have:=hp.1;simp only[eE,ne_eq]at hv;exact hv (this.symm.trans e)
        ·rw[hd];exact ih h2 hp.2 hq
       ·cases h
    ·rename_i hb;split at h
     ·rename_i t hd;split at h
      ·rename_i ht;refine BQ hg hj hb (fun t' ht'=>?_) ?_
       ·rw[hd]at ht';cases ht';rw[hnt];exact ht
       ·rw[hd];exact ih h hp hq
      ·cases h
     ·rename_i hd;refine BQ hg hj hb (fun t' ht'=>?_) ?_
      ·rw[hd]at ht';cases ht'
      ·rw[hd];exact ih h hp hq
    ·cases h
   ·cases h
theorem z7{H:ai}{r:Nat}{σ:List (Nat×D)}{o:Oper}{A A1:cj}{d:D}{obs:ai}{p:si}(t:Option Nat)(u:Option (Nat×Ob))(h:FU P H r σ o A=some (d,obs,A1,p))(hp:oK p):wm P H σ o ⟨t,d,r,obs,u⟩:=by
 have plain:∀ {x},(match vn P ⟨σ,H⟩ x A with|some (d,A,ow)=>some (d,([]:ai),A,ow)|none=>none)=some (d,obs,A1,p)->pv P ⟨σ,H⟩ x=some d/\obs=[]:=by
  intro x h;split at h
  ·rename_i d' A' ow h1;cases h;exact⟨G9 h1 hp,rfl⟩
  ·cases h
 unfold FU at h;split at h
 ·rename_i c hop;split at h
  ·rename_i f hc;split at h
   ·rename_i ds ms d' A' h1;split at h
    ·rename_i hsh;cases h;exact .inl (.inr ⟨f,_,_,ds,ms,d',hop.trans (congrArg Op.call (jW c hc rfl rfl)),.inl (by simpa using h1),hsh,hp.1,.inl rfl⟩)
    ·cases h
   ·rename_i ds ms d' A' h1;split at h
    ·rename_i su;cases h;exact .inl (.inr ⟨f,_,_,ds,ms,d',hop.trans (congrArg Op.call (jW c hc rfl rfl)),.inl (by simpa using h1),.inr su.2,hp.1,.inr ⟨su.1,rfl,rfl⟩⟩)
    ·cases h
   ·rename_i d' A';split at h
    ·rename_i hk;cases h;exact .inl (.inr ⟨f,_,_,_,[],d',hop.trans (congrArg Op.call (jW c hc rfl rfl)),.inr ⟨by simpa using hk,by simp,rfl⟩,.inl rfl,hp.1,.inl rfl⟩)
    ·cases h
   ·cases h
  ·exact .inl (.inl (plain h))
 ·rename_i T hop;split at h
  ·rename_i zs hz;cases h;exact .inr (.inl (.inl ⟨T,zs,hop,hz,rfl,rfl⟩))
  ·cases h
 ·rename_i T x hop;split at h
  ·rename_i ds hc;cases h;exact .inr (.inl (.inr ⟨T,x,ds,hop,hc,rfl,rfl⟩))
  ·cases h
 ·rename_i T len parts hop;split at h
  ·rename_i e sz h1;split at h
   ·rename_i zs h2;split at h
    ·rename_i ds h3;split at h
     ·split at h
      ·rename_i hc;obtain⟨c1,c2,c3,c4⟩:=hc;cases h;exact .inr (.inr (.inr ⟨T,e,sz,len,parts,zs,ds,hop,h1,h2,c1,c2,h3,c3,c4,rfl,rfl⟩))
      ·cases h
     ·split at h
      ·rename_i es ms h4;split at h
       ·rename_i hc;obtain⟨c1,c2,rfl⟩:=hc;cases h;exact .inr (.inr (.inl ⟨T,e,sz,len,parts,zs,ds,es,hop,h1,h2,c1,c2,h3,h4,rfl,rfl⟩))
       ·cases h
      ·cases h
    ·cases h
   ·cases h
  ·cases h
 ·exact .inl (.inl (plain h))
theorem w4{nt:Nat}(hnt:Γ.nt=nt){all:Array Oper}{H:ai}{K:List (Nat×D)->ai->Prop}{σ2:List (Nat×D)}{D6:ai}{A2:cj}:∀ {ops:List Oper} {σ:List (Nat×D)} {acc:ai} {U:aH} {A:cj} {p:si},
 nh P nt all H ops σ acc U A=some (σ2,D6,A2,p)->oK p->K σ2 D6->yy P Γ all H K ops σ acc U:=by
 subst hnt;intro ops
 induction ops with
 |nil=>
  intro σ acc U A p h _ hK;simp only[nh,aQ,bW]at h;obtain⟨rfl,rfl,_,_⟩:=h;exact hK
 |cons o rest ih=>
  intro σ acc U A p h hp hK;simp only[nh]at h;split at h
  ·rename_i hd;split at h
   ·rename_i T x y hop hg;split at h
    ·rename_i id off ds h1 h2;split at h
     ·rename_i zs h3;split at h
      ·rename_i hc;obtain⟨rfl,c2,c3,c4,c5,c6⟩:=hc;exact⟨⟨none,.any,H.length+acc.length,[],some (id,.box ds)⟩,rfl,.inr ⟨rfl,rfl,hd,hg,T,x,y,id,ds,hop,h1,c2,h2,c4,c5,rfl⟩,⟨c3,c2,zs,ds,h3,rfl,c6⟩,ih h hp hK⟩
      ·cases h
     ·cases h
    ·cases h
   ·cases h
  ·rename_i t hd;split at h
   ·rename_i ht;split at h
    ·rename_i hg;split at h
     ·rename_i d obs A1 p1 h1;split at h
      ·rename_i σ3 P0 A3 q h2;cases h;exact⟨⟨some t,d,H.length+acc.length,obs,none⟩,rfl,.inl ⟨t,rfl,rfl,hd,ht,.inl ⟨hg,z7 _ _ h1 hp.app.1⟩⟩,trivial,ih h2 hp.app.2 hK⟩
      ·cases h
     ·cases h
    ·rename_i j want hg;split at h
     ·rename_i s v A1 hj;split at h
      ·rename_i b hb;split at h
       ·rename_i hv;simp only[bX]at hv;subst hv;split at h
        ·rename_i d obs RA p1 h1;split at h
         ·rename_i σ3 P0 A3 q h2;cases h;exact⟨⟨some t,d,H.length+acc.length,obs,none⟩,rfl,.inl ⟨t,rfl,rfl,hd,ht,.inr (.inl ⟨j,s,v,b,hg,hj,hb,.inl ⟨hp.1,z7 _ _ h1 hp.2.app.1⟩⟩)⟩,trivial,ih h2 hp.2.app.2 hK⟩
         ·cases h
        ·cases h
       ·rename_i hv;simp only[eE,ne_eq]at hv;split at h
        ·rename_i σ3 P0 A3 q h2;cases h;refine⟨⟨some t,.fy [],H.length+acc.length,[],none⟩,rfl,.inl ⟨t,rfl,rfl,hd,ht,.inr (.inl ⟨j,s,want,b,hg,hj,hb,.inr ⟨fun e=>hv (hp.1.symm.trans e),rfl,rfl⟩⟩)⟩,trivial,?_⟩;simp only[Cp.fill,dw];exact ih h2 hp.2 hK
        ·cases h
      ·rename_i hb;refine⟨⟨some t,.fy [],H.length+acc.length,[],none⟩,rfl,.inl ⟨t,rfl,rfl,hd,ht,.inr (.inr ⟨j,s,want,hg,hj,hb,rfl,rfl⟩)⟩,trivial,?_⟩;simp only[Cp.fill,dw];exact ih h hp hK
      ·cases h
     ·cases h
   ·cases h
def Hl(P:Program)(Γ:lY)(N:Nat->St->Prop)(Q:Exit->St->Prop)(d0:D):Stop->Prop
 | .ret d=>d=d0
 | .lp c K st=>AW P Γ (.loop c) (KQ P Γ N Q K) st
 | .cont k st=>N k st
 | .at_ c K st=>AW P Γ c (KQ P Γ N Q K) st
theorem Cy{c:Code}{st:St}{k o:aH}(hnd:o.Nodup)(h:AW P Γ c Q (st.sj k o)):AW P Γ c Q st:=by
 intro κ Θ a w hs;obtain⟨κ',Θ',hs'⟩:=hs.sj k o hnd;exact h κ' Θ' a w hs'
theorem OD{fn:Func}{st:St}{d:D}{e:Exit}(he:e=.ret\/e=.normal){nz:List (List (Option (Nat×Nat)))}(h:OC P (fn.results.toList,nz) st=some d):Hj P fn d e st:=by
 unfold OC at h;split at h
 ·rename_i ds h1;split at h
  ·rename_i es ms qs h2;split at h
   ·rename_i hc;cases h;exact⟨he,nz,ds,es,ms,qs,h1,h2,hc.1,hc.2.1,hc.2.2,rfl⟩
   ·cases h
  ·cases h
 ·cases h
def Ow(P:Program)(Γ:lY)(N:Nat->St->Prop)(Q:Exit->St->Prop)(K:List Fr)(st:St):RC->Prop
 | .run c=>AW P Γ c (KQ P Γ N Q K) st
 | .J7=>KQ P Γ N Q K .normal st
 | .ex id=>KQ P Γ N Q K (.exit id) st
theorem sX{p q:si}{x:Option (Stop×si)}{s:Stop}(h:Bu p x=some (s,q)):∃q',x=some (s,q')/\q=p++q':=by
 unfold Bu at h;split at h
 ·cases h;exact⟨_,rfl,rfl⟩
 ·cases h
theorem go_sound{rf:St->Option D}{d0:D}(hrf:∀st e,(e=.ret\/e=.normal)->rf st=some d0->Q e st){nt:Nat}(hnt:Γ.nt=nt)(hm:P.follows .mixedOrders=true):∀ {n:Nat} {cfg:RC} {K:List Fr} {st:St} {A:cj} {s:Stop} {p:si},go P rf nt n cfg K st A=some (s,p)->oK p->Hl P Γ N Q d0 s->Ow P Γ N Q K st cfg:=by
 intro n
 induction n with
 |zero=>intro cfg K st A s p h;simp[go]at h
 |succ n ih=>
  intro cfg K st A s p h hp hs;cases cfg with
  |run c=>
   show AW P Γ c (KQ P Γ N Q K) st;cases c with
   |skip=>simp only[go]at h;exact KK (ih h hp hs)
   |ret=>
    simp only[go]at h;split at h
    ·rename_i d hd;simp only[aQ,bW]at h;obtain⟨rfl,_⟩:=h;have Rh:d=d0:=hs;subst Rh;exact N6 (N8 K (hrf st _ (.inl rfl) hd))
    ·cases h
   |exit id=>simp only[go]at h;exact KI (ih h hp hs)
   |seq x y=>simp only[go]at h;exact N7 (ih h hp hs)
   |block id x=>simp only[go]at h;exact He (ih h hp hs)
   |loop x=>
    simp only[go]at h;split at h
    ·split at h
     ·rename_i hnd;simp only[aQ,bW]at h;obtain⟨rfl,_⟩:=h;exact Cy hnd hs
     ·cases h
    ·split at h
     ·rename_i A0 x0 oC hst;intro κ Θ a w SM;obtain⟨κ',hs'⟩:=SM.prom hst;exact(ih h hp hs:AW P Γ (.loop x) (KQ P Γ N Q K) (shares A0 oC).1) κ' Θ a w (hs'.shares (rfl:shares A0 oC=((shares A0 oC).1,(shares A0 oC).2)))
     ·cases h
    ·cases h
   |cond x y z=>
    simp only[go]at h;split at h
    ·rename_i b v A1 hx;obtain⟨q,h1,rfl⟩:=sX h;obtain⟨hb,hp'⟩:=hp;subst hb;refine KG hx (fun e=>?_) (fun e=>?_)
     ·subst e;exact ih h1 hp' hs
     ·subst e;exact ih h1 hp' hs
    ·cases h
   |region id ops dr=>
    simp only[go]at h;cases dr with
    |false=>
     simp only at h;split at h
     ·rename_i oC A1 p1 h1;obtain⟨q,h2,rfl⟩:=sX h;have:=sR (Q:=KQ P Γ N Q K) hnt h1 hp.app.1 (ih h2 hp.app.2 hs);have hr:=GH (id:=id) (l:=ops.toList) (by simpa using this);simpa using hr
     ·cases h
    |true=>
     simp only at h;split at h
     ·rename_i k A1;split at h
      ·rename_i hB;split at h
       ·rename_i σ1 acc A2 p1 h1;split at h
        ·rename_i Ap A3 p2 h2;obtain⟨q,h3,rfl⟩:=sX h;have hq:=hp.app.1.app;have h4:=sR (Q:=KQ P Γ N Q K) hnt h2 hq.2 (ih h3 hp.app.2 hs);have h5:=w4 (Γ:=Γ) (K:=fun σ acc=>AO P Γ ops (ops.toList.drop k) (KQ P Γ N Q K) ⟨σ,st.H++acc⟩) hnt h1 hq.1 h4;have hr:=KH (id:=id) (l:=ops.toList) (Q:=KQ P Γ N Q K) (st:=st) k hm (by simpa using hB) (by simpa using h5);simpa using hr
        ·cases h
       ·cases h
      ·cases h
     ·rename_i π ρ k m L X A1;split at h
      ·rename_i ops' UI;generalize SC:mS ops π ρ=ops' at h;split at h
       ·rename_i hB;split at h
        ·rename_i σ1 acc A2 p1 h1;split at h
         ·rename_i oC A3 p2 hst hmid;split at h
          ·rename_i Ap A4 p3 h2;obtain⟨q,h3,rfl⟩:=sX h;have hq:=hp.app.1.app;have qJ:=hq.2.app;have h4:=sR (Q:=KQ P Γ N Q K) hnt h2 qJ.2 (ih h3 hp.app.2 hs);have h6:=CR (Γ:=Γ) (K:=fun mO=>AO P Γ ops'.toArray (ops'.drop m) (KQ P Γ N Q K) mO) hnt hmid qJ.1 h4;have h5:=w4 (Γ:=Γ) (K:=fun σ acc=>(∀i∈L,∀o,ops'[i]?=some o->sU X ⟨σ,st.H⟩ o.op=true)/\HM P Γ X (fun mO=>AO P Γ ops'.toArray (ops'.drop m) (KQ P Γ N Q K) mO) ((ops'.drop k).take (m-k)) ⟨σ,st.H++acc⟩) hnt h1 hq.1 ⟨Gw hst,h6⟩;have hr:=GM (l:=ops') (Q:=KQ P Γ N Q K) (st:=st) k m L hB h5;rw[<-SC]at hr;exact(hr.perm UI).aw hm
          ·cases h
         ·cases h
        ·cases h
       ·cases h
      ·cases h
     ·cases h
   |_=>simp[go]at h
  |J7=>
   show KQ P Γ N Q K .normal st;simp only[go]at h;split at h
   ·split at h
    ·rename_i d hd;simp only[aQ,bW]at h;obtain⟨rfl,_⟩:=h;have Rh:d=d0:=hs;subst Rh;exact hrf st _ (.inr rfl) hd
    ·cases h
   ·split at h
    ·split at h
     ·rename_i hnd;simp only[aQ,bW]at h;obtain⟨rfl,_⟩:=h;exact Cy hnd hs
     ·cases h
    ·exact ih (cfg:=.run _) h hp hs
   ·exact ih (cfg:=.J7) h hp hs
   ·split at h
    ·split at h
     ·rename_i k o _ hnd;simp only[aQ,bW]at h;obtain⟨rfl,_⟩:=h;exact⟨k,o,hnd,hs⟩
     ·cases h
    ·cases h
  |ex id=>
   show KQ P Γ N Q K (.exit id) st;simp only[go]at h;split at h
   ·cases h
   ·exact ih (cfg:=.ex id) h hp hs
   ·rename_i i K;simp only[KQ,C7];split at h
    ·rename_i e;rw[bG e];exact ih (cfg:=.J7) h hp hs
    ·rename_i e;rw[ar e];exact ih (cfg:=.ex id) h hp hs
   ·exact ih (cfg:=.ex id) h hp hs
def Lt:Code->aH->List Fr->Code×List Fr
 |c,[],K=>(c,K)
 | .seq x y,i::p,K=>(match i with|0=>Lt x p (.sq y::K)|_=>Lt y p K)
 | .block id c,_::p,K=>Lt c p (.bl id::K)
 | .cond _ x y,i::p,K=>(match i with|0=>Lt x p K|_=>Lt y p K)
 | .loop c,_::p,K=>Lt c p (.lp::K)
 |c,_::_,K=>(c,K)
def Mc(P:Program)(rs:List ResultVar×List (List (Option (Nat×Nat))))(st:St):Option D:=match w9 P st rs.1,(st.H[0]?:Option Ob)with
 |some ds,some (Ob.B1 cells v)=>(match qO st.H rs.2 (.agg cells::ds)with
  |some (.agg cells'::es,ms,qs)=>(if ms.Nodup/\qs.Nodup/\(∀m∈qs,m∉ms)then some (.fy [zK es,.agg cells',.val v])else none)
  |_=>none)
 |_,_=>none
def Mb(P:Program)(rs:List ResultVar)(st:St):Option D:=match w9 P st rs with
 |some [.ptr j 0]=>(match st.H[j]? with|some (.box cells)=>(if cells.all D.Cu=true then some (.agg cells)else none)|_=>none)
 |_=>none
inductive Kd where
 |q (nz:List (List (Option (Nat×Nat)))) (d:D)
 |p (nz:List (List (Option (Nat×Nat)))) (v:Value) (cells:aG) (d:D)
 |n (cells:aG)
def Kd.rf(P:Program)(fn:Func)(k:Kd)(st:St):Option D:=match k with
 | .q nz _=>OC P (fn.results.toList,nz) st
 | .p nz _ _ _=>Mc P (fn.results.toList,nz) st
 | .n _=>Mb P fn.results.toList st
def Kd.d0:Kd->D
 | .q _ d=>d
 | .p _ v cells d=>.fy [d,.agg cells,.val v]
 | .n cells=>.agg cells
def Kd.qq(P:Program)(fn:Func):Kd->Exit->St->Prop
 | .q _ d=>Hj P fn d
 | .p _ v cells d=>Hi P fn v cells d
 | .n cells=>Oy P fn cells
theorem Kd.ok{fn:Func}(k:Kd){st:St}{e:Exit}(he:e=.ret\/e=.normal)(h:k.rf P fn st=some k.d0):k.qq P fn e st:=by
 cases k with
 |q nz d=>exact OD he h
 |p nz v cells d=>
  simp only[Kd.rf,Mc,Kd.d0]at h;split at h
  ·rename_i ds C8 v' h1 h2;split at h
   ·rename_i cells' es ms qs h3;split at h
    ·rename_i hc;simp only[aQ,D.fy.injEq,oH,D.agg.injEq,D.val.injEq,and_true]at h;obtain⟨rfl,rfl,rfl⟩:=h;exact⟨he,_,_,_,_,_,_,h1,h2,h3,hc.1,hc.2.1,hc.2.2,rfl⟩
    ·cases h
   ·cases h
  ·cases h
 |n cells=>
  simp only[Kd.rf,Mb,Kd.d0]at h;split at h
  ·rename_i j h1;split at h
   ·rename_i cells' h2;split at h
    ·rename_i hc;simp only[aQ,D.agg.injEq]at h;subst h;exact⟨he,j,h1,h2,hc⟩
    ·cases h
   ·cases h
  ·cases h
theorem A6{fn:Func}{k:Kd}{nt n:Nat}{c:Code}{K:List Fr}{st:St}(A:cj)(s:Stop){p:si}(hnt:Γ.nt=nt)(hm:P.follows .mixedOrders=true)(h:go P (k.rf P fn) nt n (.run c) K st A=some (s,p))(hp:oK p)
 (hs:Hl P Γ N (k.qq P fn) k.d0 s):AW P Γ c (KQ P Γ N (k.qq P fn) K) st:=go_sound (Q:=k.qq P fn) (N:=N) (K:=K) (st:=st) (d0:=k.d0) (cfg:=.run c) (fun _ _ he h=>k.ok he h) hnt hm h hp hs
def FH(P:Program)(Γ:lY)(c:Code)(Q:Exit->St->Prop)(n:Nat)(st:St):Prop:=
 ∀κ Θ a w,cN Γ st κ Θ a w->Code.rounds P c (fun e a' w'=>∃mO κ' Θ',cN Γ mO κ' Θ' a' w'/\Q e mO) n a w
theorem KJ{c:Code}{n:Nat}{st:St}(h:FH P Γ c Q n st):AW P Γ (.loop c) Q st:=fun κ Θ a w hs=>wp_loop_rounds n (h κ Θ a w hs)
theorem aj{c:Code}{K:List Fr}{n:Nat}{st:St}
 (h:∀N',(∀d,d<depth K->N' d=N d)->N' (depth K)=FH P Γ c (KQ P Γ N Q K) n->AW P Γ c (KQ P Γ N' Q (.lp::K)) st):FH P Γ c (KQ P Γ N Q K) (n+1) st:=by
 intro κ Θ a w hs;have:=h (fun d=>if d<depth K then N d else FH P Γ c (KQ P Γ N Q K) n) (fun d hd=>bG hd) (ar (by omega));simp only[KQ]at this;rw[ar (by omega)]at this;rw[<-D1 (N:=N) (N':=fun d=>if d<depth K then N d else FH P Γ c (KQ P Γ N Q K) n) K (fun d hd=>(bG hd).symm)]at this;rw[rounds_succ];refine wp_mono (this κ Θ a w hs) ?_;rintro e a' w' ⟨mO,κ',Θ',hs',hq⟩;cases e with
 |normal=>
  obtain⟨k,o,hnd,UL⟩:=hq;obtain⟨κ2,Θ2,hs2⟩:=hs'.sj k o hnd;exact UL κ2 Θ2 a' w' hs2
 |exit id=>exact⟨_,_,_,hs',hq⟩
 |goto l=>exact⟨_,_,_,hs',hq⟩
 |ret=>exact⟨_,_,_,hs',hq⟩
 |panic c=>exact⟨_,_,_,hs',hq⟩
 |outgrown=>exact⟨_,_,_,hs',hq⟩
end
theorem aL{α:Type}{c:Bool}{x y:Option α}{r:α}(h:(bif c then x else y)=some r):(c=true/\x=some r)\/(c=false/\y=some r):=by
 cases c
 ·exact .inr ⟨rfl,h⟩
 ·exact .inl ⟨rfl,h⟩
theorem bp{α:Type}{c:Bool}{x:Option α}{r:α}(h:(bif c then x else none)=some r):c=true/\x=some r:=by
 cases c
 ·cases h
 ·exact⟨rfl,h⟩
theorem aE{α β:Type}{x:Option α}{f:α->Option β}{r:β}(h:x.bind f=some r):∃y,x=some y/\f y=some r:=by
 cases x with
 |none=>cases h
 |some y=>exact⟨y,rfl,h⟩
theorem aT{α:Type}{x y:α}(h:some x=some y):x=y:=by cases h;rfl
theorem ow{p:Prop}{ps:si}(h:p)(t:oK ps):oK (p::ps):=⟨h,t⟩
def k8{α:Type}(l:List α)(i:Int):Option α:=bif decide (0<=i)then l[i.toNat]? else none
theorem FO{α β:Type}{l:List α}{i:Int}{x:α}(f:α->β)(h:k8 l i=some x):0<=i/\(l.map f)[i.toNat]?=some (f x):=by
 unfold k8 at h;cases hd:decide (0<=i)with
 |false=>rw[hd]at h;cases h
 |true=>rw[hd]at h;simp only[aK]at h;exact⟨by simpa using hd,by rw[b9,h];rfl⟩
theorem NC{l:Bytes}{i:Int}{x:UInt8}(h:k8 l i=some x):0<=i/\l[i.toNat]?=some x:=by
 unfold k8 at h;cases hd:decide (0<=i)with
 |false=>rw[hd]at h;cases h
 |true=>rw[hd]at h;exact⟨by simpa using hd,h⟩
theorem FZ{LZ:aC}{n:Int}{y:Bytes}{m:Nat}(hl:LZ.length=m)(h:k8 LZ n=some y):n=((n.toNat:Nat):Int)/\n.toNat<m:=by
 unfold k8 at h;cases hn:decide (0<=n)with
 |false=>rw[hn]at h;cases h
 |true=>
  rw[hn,aK]at h;have h0:0<=n:=av hn;have:=(aB.1 h).1;exact⟨by omega,by omega⟩
theorem Kb{LZ:aC}{n:Int}{y:Bytes}{g:Nat}(hv:∀o,Bs g o=(LZ.map D.str)[o]?)(h:k8 LZ n=some y):Bs g (0+n.toNat*1)=some (.str y):=by
 unfold k8 at h;cases hn:decide (0<=n)with
 |false=>rw[hn]at h;cases h
 |true=>
  rw[hn,aK]at h;rw[hv,bq,td,b9,h];rfl
theorem Kc{LZ:aC}{n:Int}{y:Bytes}{m:Nat}(hl:LZ.length=m)(h:k8 LZ n=some y):(0<=n/\n<(m:Int))/\(LZ.map D.str)[n.toNat]?=some (.str y):=by
 obtain⟨h1,h2⟩:=FZ hl h;unfold k8 at h;cases hn:decide (0<=n)with
 |false=>rw[hn]at h;cases h
 |true=>
  rw[hn,aK]at h;exact⟨⟨av hn,by omega⟩,by rw[b9,h];rfl⟩
def fuel:Nat:=4194304
theorem tq{α:Type}{l:List α}{i:Int}{x:α}(f:α->aG)(n:Nat)(h:k8 l i=some x)(hn:(f x).length=n):0<=i/\(l.map f)[i.toNat]?=some (f x)/\(f x).length=n:=⟨(FO f h).1,(FO f h).2,hn⟩
theorem kM{α:Type}{l:List α}{i:Nat}{x:α}(f:α->aG)(sz:Nat)(h:l[i]?=some x):sz=sz/\(i:Int)=((i:Nat):Int)/\i<(l.map f).length:=⟨rfl,rfl,by rw[bL];exact(aB.1 h).1⟩
theorem gZ{α:Type}{l:List α}{i:Int}{x:α}(f:α->aG)(sz:Nat)(h:k8 l i=some x):sz=sz/\i=((i.toNat:Nat):Int)/\i.toNat<(l.map f).length:=by
 obtain⟨h0,h1⟩:=FO f h;exact⟨rfl,by omega,(aB.1 h1).1⟩
theorem eO{α:Type}{l:List α}{i:Int}{x:α}(h:k8 l i=some x):l[i.toNat]?=some x:=by
 have:=(FO (fun y=>y) h).2;simpa using this
theorem Cb{x y:Int}(k:IntKind)(h:(decide (0<=x)&&decide (0<y))=true):k=k/\0<=x/\0<y:=by simpa using h
def room(n b:Nat):Bool:=decide (n<=maxLen)&&decide (n*b<=140737488355328)
theorem eA{n b:Nat}(h:room n b=true):n<=maxLen/\n*b<=140737488355328:=by
 simp only[room,aM,bA]at h;exact h
theorem Ib{k n:Nat}(h:k<n)(hn:n<=maxLen):IntKind.i64.wrap ((k:Int)+1)=((k+1:Nat):Int):=by
 unfold maxLen at hn;rw[mB (nM.i64.2 (by omega))];omega
theorem L7{k n:Nat}(h:k<n):decide ((k:Int)<(n:Int))=true:=by simp[h]
theorem Ix{k n:Nat}(h:n<=k):decide ((k:Int)<(n:Int))=false:=by simp;omega
theorem drop_cons{α:Type}{l:List α}{k:Nat}{x:α}{xs:List α}(h:l.drop k=x::xs):l[k]?=some x/\k<l.length/\l.drop (k+1)=xs:=by
 have h1:l[k]?=some x:=by
  have:=congrArg (fun m:List α=>m[0]?) h;simpa[cW]using this
 refine⟨h1,(aB.1 h1).1,?_⟩;rw[<-dP,h];rfl
theorem drop_nil{α:Type}{l:List α}{k:Nat}(h:l.drop k=[]):l.length<=k:=by simpa using h
theorem Iz{α β:Type}{l:List α}{k:Nat}{x:α}(f:α->β)(h:l[k]?=some x):0<=(k:Int)/\(l.map f)[(k:Int).toNat]?=some (f x):=⟨by omega,by simp[h]⟩
theorem cz{α:Type}{l:List α}{k:Nat}{x:α}(f:α->aG)(n:Nat)(h:l[k]?=some x)(hn:(f x).length=n):0<=(k:Int)/\(l.map f)[(k:Int).toNat]?=some (f x)/\(f x).length=n:=⟨(Iz f h).1,(Iz f h).2,hn⟩
theorem Iy{α β:Type}{l:List α}{k:Nat}(f:α->β)(h:k<l.length):decide ((k:Int)<((l.map f).length:Int))=true:=by rw[bL];exact L7 h
theorem Gi{α β:Type}{l:List α}{k:Nat}(f:α->β)(h:l.length<=k):decide ((k:Int)<((l.map f).length:Int))=false:=by rw[bL];exact Ix h
theorem cK{α β:Type}{l:List α}{k:Nat}{x:α}(f:α->β)(h:l[k]?=some x):(l.map f)[k]?=some (f x):=by rw[b9,h];rfl
end Go.Cx
namespace Go.Cx
open Go.RowKit
abbrev me:=List Fr
section
variable{P:Program}{Γ:lY}{Q:Exit->St->Prop}{st:St}{a:Act}{w:World}
def free(p:Nat)(ops:Array Oper)(op:Oper)(dp:aH):Bool:=(List.range ops.size).all fun i=>i==p||(match ops[i]? with
 |none=>true
 |some o=>o.after.any (fun e=>Region.binds .any e&&e.on==p)||dp.contains i||
  (o.guard.isNone&&(match o.op with| .select _ _=>false|_=>true)&& !(o.dst==op.dst)&&(o.op.operands.toList.all fun x=>match x with| .tmp u=> !(op.dst==some u)|_=>true)&&(op.op.operands.toList.all fun x=>match x with| .tmp u=> !(o.dst==some u)|_=>true)))
end
end Go.Cx
namespace Go.Cx
open Go.RowKit
section
variable{P:Program}{Γ:lY}{Q:Exit->St->Prop}{st:St}{κ κ':Nat->Option Value}{Θ Θ':Nat->Nat}{a:Act}{w w':World}{all:Array Oper}{rest:List Oper}
end
end Go.Cx
namespace Go.Cx
open Go.RowKit Go.Proofs Tryz
structure bE where
 rel:Bytes
 args:aC
 deriving DecidableEq
structure nq where
 var:Bytes
 value:Bytes
 deriving DecidableEq
structure aU where
 kind:Int
 pat:bE
 left:Bytes
 right:Bytes
 deriving DecidableEq
structure Action where
 kind:Int
 pat:bE
 deriving DecidableEq
structure aW where
 name:Bytes
 prio:Int
 conds:List aU
 bg:List Action
 deriving DecidableEq
structure l8 where
 facts:List bE
 bind:List nq
 deriving DecidableEq
structure lK where
 rule:Bytes
 facts:List bE
 bind:List nq
 deriving DecidableEq
structure l6 where
 shape:bE
 facts:List bE
 deriving DecidableEq
structure Node where
 parent:Int
 cond:aU
 P3:Int
 tokens:List l8
 deriving DecidableEq
structure gb where
 rules:List aW
 ends:bz
 NB:List l6
 nodes:List Node
 facts:List bE
 Qb:Int
 deriving DecidableEq
structure mF where
 fact:bE
 time:Int
 deriving DecidableEq
structure RE where
 rule:Bytes
 times:bz
 deriving DecidableEq
structure RD where
 VD:lK
 prio:Int
 times:bz
 spec:Int
 order:Int
 deriving DecidableEq
structure cB where
 b:bz
 i:Int
 h:Int
 deriving DecidableEq
abbrev tx(s:Bytes):List D:=[.str s]
abbrev MB(n:Int):List D:=[.int .i64 n]
abbrev bx(b:Bool):List D:=[.bool b]
abbrev yx(n:Int):List D:=[.int .u8 n]
abbrev dT(l:List Bytes):D:=.sl (l.map tx)
abbrev dI(l:List Int):D:=.sl (l.map MB)
abbrev bE.c(x:bE):List D:=[.str x.rel,dT x.args]
abbrev nq.c(x:nq):List D:=[.str x.var,.str x.value]
abbrev aU.c(x:aU):List D:=[.int .i64 x.kind,.str x.pat.rel,dT x.pat.args,.str x.left,.str x.right]
abbrev Action.c(x:Action):List D:=[.int .i64 x.kind,.str x.pat.rel,dT x.pat.args]
abbrev aW.c(x:aW):List D:=[.str x.name,.int .i64 x.prio,.sl (x.conds.map aU.c),.sl (x.bg.map Action.c)]
abbrev l8.c(x:l8):List D:=[.sl (x.facts.map bE.c),.sl (x.bind.map nq.c)]
abbrev lK.c(x:lK):List D:=[.str x.rule,.sl (x.facts.map bE.c),.sl (x.bind.map nq.c)]
abbrev l6.c(x:l6):List D:=[.str x.shape.rel,dT x.shape.args,.sl (x.facts.map bE.c)]
abbrev Node.c(x:Node):List D:=[.int .i64 x.parent,.int .i64 x.cond.kind,.str x.cond.pat.rel,dT x.cond.pat.args,.str x.cond.left,.str x.cond.right,.int .i64 x.P3,.sl (x.tokens.map l8.c)]
abbrev gb.c(x:gb):List D:=[.sl (x.rules.map aW.c),dI x.ends,.sl (x.NB.map l6.c),.sl (x.nodes.map Node.c),.sl (x.facts.map bE.c),.int .i64 x.Qb]
abbrev mF.c(x:mF):List D:=[.str x.fact.rel,dT x.fact.args,.int .i64 x.time]
abbrev cB.c(x:cB):List D:=[.sl (x.b.map yx),.int .i64 x.i,.int .i64 x.h]
def tv(fn:Func):Code:=match fn.body with
 |some c=>c
 |none=>.skip
theorem Q9:prog.follows .mixedOrders=true:=by kernel_rfl
theorem RB{P:Program}{Γ:lY}{Q:Exit->St->Prop}{N N':Nat->St->Prop}{c:Code}{K K0:me}{st:St}(hd:depth K=depth K0)(hN:∀d,d<depth K0->N' d=N d)(t:AW P Γ c (KQ P Γ N Q K) st):AW P Γ c (KQ P Γ N' Q K) st:=by
 rw[D1 (N:=N') (N':=N) K (fun d h=>hN d (by omega))];exact t
theorem Ot{P:Program}{Γ:lY}{Q:Exit->St->Prop}{c:Code}{s s':St}(h:s=s')(t:AW P Γ c Q s'):AW P Γ c Q s:=by rw[h];exact t
abbrev bT:An:=.b true
abbrev bF:An:=.b false
structure Pre(A:List An)(p:si):Prop where
 h:oK p
theorem ah:Pre [] []:=⟨trivial⟩
theorem oK.join{p q:si}(h:oK p)(k:oK q):oK (p++q):=by
 induction p with
 |nil=>exact k
 |cons x p ih=>exact⟨h.1,ih h.2⟩
theorem Pre.ext{A:cj}{p:si}(o:Pre A p)(B:cj){q:si}(hq:oK q):Pre (A++B) (p++q):=⟨o.h.join hq⟩
section
variable{A:cj}{p:si}
theorem Pre.b(o:Pre A p){c v:Bool}(h:c=v):Pre (A++[.b v]) (p++[c=v]):=o.ext _ ⟨h,trivial⟩
theorem Pre.r(o:Pre A p)(n:Nat){c v:Bool}(h:c=v):Pre (A++List.replicate n (.b v)) (p++List.replicate n (c=v)):=o.ext _ (by
 induction n with
 |zero=>trivial
 |succ n ih=>exact⟨h,ih⟩)
theorem Pre.T(o:Pre A p)(n:Nat):Pre (A++List.replicate n bT) (p++List.replicate n (true=true)):=o.r n rfl
theorem Pre.F(o:Pre A p)(n:Nat):Pre (A++List.replicate n bF) (p++List.replicate n (false=false)):=o.r n rfl
theorem Pre.g(o:Pre A p){f:FuncId}{ds:aG}{d:D}(h:Good prog f ds d):Pre (A++[.d d]) (p++[Good prog f ds d]):=o.ext _ ⟨h,trivial⟩
theorem Pre.hp(o:Pre A p)(nz:List (List (Option (Nat×Nat)))){f:FuncId}{cells cells' ds:aG}{d:D}(h:jB prog f cells cells' ds d):Pre (A++[.gp nz cells' d]) (p++[jB prog f cells cells' ds d]):=o.ext _ ⟨h,trivial⟩
theorem Pre.hn(o:Pre A p){f:FuncId}{ds cells:aG}(h:wo prog f ds cells):Pre (A++[.dn cells]) (p++[wo prog f ds cells]):=o.ext _ ⟨h,trivial⟩
theorem Pre.w(o:Pre A p){q:Prop}(h:q):Pre (A++[]) (p++[q]):=o.ext _ ⟨h,trivial⟩
theorem Pre.a(o:Pre A p)(B:cj):Pre (A++B) (p++[]):=o.ext _ (q:=[]) trivial
theorem Pre.l(o:Pre A p){n:Int}{rows:List aG}{r:aG}{sz:Nat}(h:0<=n/\rows[n.toNat]?=some r/\r.length=sz):Pre (A++[.row r]) (p++[0<=n/\rows[n.toNat]?=some r/\r.length=sz]):=o.ext _ ⟨h,trivial⟩
theorem Pre.i(o:Pre A p){sz sz' m k:Nat}{n:Int}(h:sz=sz'/\n=((k:Nat):Int)/\k<m):Pre (A++[.ix k]) (p++[sz=sz'/\n=((k:Nat):Int)/\k<m]):=o.ext _ ⟨h,trivial⟩
theorem Pre.o(o:Pre A p)(sz n:Nat)(k:RK){rows:List aG}{i:Nat}{r:aG}(h:rows[i]?=some r)(hk:k.CW=true:=by kernel_rfl)(hn:Nat.ble n sz=true:=by kernel_rfl):Pre (A++[.row r]) (p++[sz=sz/\k.CW=true/\rows[i]?=some r/\n<=sz]):=o.ext _ ⟨⟨rfl,hk,h,jK hn⟩,trivial⟩
theorem Pre.c(o:Pre A p){s:Bytes}{i:Int}{b:UInt8}(h:k8 s i=some b):Pre (A++[.ch b]) (p++[0<=i/\s[i.toNat]?=some b]):=o.ext _ ⟨NC h,trivial⟩
theorem Pre.lt{α:Type}{l xs:List α}{i:Nat}{x:α}(o:Pre A p)(f:α->aG)(h:l.drop i=x::xs):Pre (A++[bT]) (p++[decide ((i:Int)<((l.map f).length:Int))=true]):=o.b (Iy f (drop_cons h).2.1)
theorem Pre.ge{α:Type}{l:List α}{i:Nat}(o:Pre A p)(f:α->aG)(h:l.drop i=[]):Pre (A++[bF]) (p++[decide ((i:Int)<((l.map f).length:Int))=false]):=o.b (Gi f (drop_nil h))
end
theorem dc{α:Type}{l:List α}{k:Nat}{x:α}{xs:List α}(h:l.drop k=x::xs):l[k]?=some x:=(drop_cons h).1
theorem dn{α:Type}{l:List α}{k:Nat}{x:α}{xs:List α}(h:l.drop k=x::xs):l.drop (k+1)=xs:=(drop_cons h).2.2
theorem iS{α:Type}{l:List α}{k:Nat}{x:α}{xs:List α}(h:l.drop k=x::xs)(hn:l.length<=maxLen):IntKind.i64.wrap ((k:Int)+1)=((k+1:Nat):Int):=Ib (drop_cons h).2.1 hn
theorem NE{n:Int}{m:Nat}(h:(decide (0<=n)&&decide (n.toNat<=m))=true):n=((n.toNat:Nat):Int)/\n.toNat<=m:=by
 simp only[aM,bA]at h;exact⟨by omega,h.2⟩
theorem mA{α β:Type}(f:α->β):(∀a b:List α,(a++b).map f=a.map f++b.map f)/\(∀(x:α) (a:List α),(x::a).map f=f x::a.map f)/\([]:List α).map f=[]/\(∀(l:List α) (i:Nat) (x:α),(l.set i x).map f=(l.map f).set i (f x))/\(∀(n:Nat) (x:α),(List.replicate n x).map f=List.replicate n (f x))/\(∀(l:List α) (n:Nat),(l.take n).map f=(l.map f).take n):=
 ⟨fun _ _=>aa,fun _ _=>rfl,rfl,fun _ _ _=>List.map_set,fun _ _=>List.map_replicate,fun _ _=>ay⟩
section
variable{Γ:lY}{N N1:Nat->St->Prop}{fn:Func}{k:Kd}{nt:Nat}{A:cj}{p:si}{c c':Code}{K K' K0:me}{st mO:St}
theorem Pre.ret(o:Pre A p)(hnt:Γ.nt=nt)(h:go prog (k.rf prog fn) nt 2000 (.run c) K st A=some (.ret k.d0,p):=by kernel_rfl):AW prog Γ c (KQ prog Γ N (k.qq prog fn) K) st:=A6 (n:=2000) A _ hnt Q9 h o.h rfl
theorem Pre.rts(o:Pre A p)(hnt:Γ.nt=nt)(d:D)(hd:d=k.d0)(h:go prog (k.rf prog fn) nt 2000 (.run c) K st A=some (.ret d,p):=by kernel_rfl):AW prog Γ c (KQ prog Γ N (k.qq prog fn) K) st:=A6 (n:=2000) A _ hnt Q9 h o.h hd
theorem Pre.cs(o:Pre A p)(hnt:Γ.nt=nt){n:Nat}(hS:N1 (depth K')=FH prog Γ c' (KQ prog Γ N (k.qq prog fn) K') n)(S:St)(e:S=mO)(t:FH prog Γ c' (KQ prog Γ N (k.qq prog fn) K') n mO)
 (h:go prog (k.rf prog fn) nt 2000 (.run c) K st A=some (.cont (depth K') S,p):=by kernel_rfl):AW prog Γ c (KQ prog Γ N1 (k.qq prog fn) K) st:=A6 (n:=2000) A _ hnt Q9 h o.h ((congrFun hS _).mpr (by rw[e];exact t))
theorem Pre.cf(o:Pre A p)(hnt:Γ.nt=nt){n:Nat}(hS:N1 (depth K')=FH prog Γ c' (KQ prog Γ N (k.qq prog fn) K') n)(t:FH prog Γ c' (KQ prog Γ N (k.qq prog fn) K') n mO)
 (h:go prog (k.rf prog fn) nt 2000 (.run c) K st A=some (.cont (depth K') mO,p):=by kernel_rfl):AW prog Γ c (KQ prog Γ N1 (k.qq prog fn) K) st:=o.cs hnt hS _ rfl t h
theorem Pre.ct(o:Pre A p)(hnt:Γ.nt=nt){n i:Nat}{S:Int->St}(hS:N1 (depth K')=FH prog Γ c' (KQ prog Γ N (k.qq prog fn) K') n)(hi:IntKind.i64.wrap ((i:Int)+1)=((i+1:Nat):Int))(t:FH prog Γ c' (KQ prog Γ N (k.qq prog fn) K') n (S ((i+1:Nat):Int)))
 (h:go prog (k.rf prog fn) nt 2000 (.run c) K st A=some (.cont (depth K') (S (IntKind.i64.wrap ((i:Int)+1))),p):=by kernel_rfl):AW prog Γ c (KQ prog Γ N1 (k.qq prog fn) K) st:=o.cs hnt hS _ (congrArg S hi) t h
theorem Pre.UD(o:Pre A p)(hnt:Γ.nt=nt)(hN:∀d,d<depth K0->N1 d=N d)(S:St)(e:S=mO)(t:AW prog Γ c' (KQ prog Γ N (k.qq prog fn) K') mO)(hd:depth K'=depth K0:=by kernel_rfl)(h:go prog (k.rf prog fn) nt 2000 (.run c) K st A=some (.at_ c' K' S,p):=by kernel_rfl):
 AW prog Γ c (KQ prog Γ N1 (k.qq prog fn) K) st:=A6 (n:=2000) A _ hnt Q9 h o.h (RB (K0:=K0) hd hN (by rw[e];exact t))
theorem Pre.ex(o:Pre A p)(hnt:Γ.nt=nt)(hN:∀d,d<depth K0->N1 d=N d)(t:AW prog Γ c' (KQ prog Γ N (k.qq prog fn) K') mO)(hd:depth K'=depth K0:=by kernel_rfl)(h:go prog (k.rf prog fn) nt 2000 (.run c) K st A=some (.at_ c' K' mO,p):=by kernel_rfl):
 AW prog Γ c (KQ prog Γ N1 (k.qq prog fn) K) st:=o.UD hnt hN _ rfl t hd h
theorem Pre.TW(o:Pre A p)(hnt:Γ.nt=nt){n:Nat}(S:St)(e:S=mO)(t:FH prog Γ c' (KQ prog Γ N (k.qq prog fn) K') n mO)(h:go prog (k.rf prog fn) nt 2000 (.run c) K st A=some (.lp c' K' S,p):=by kernel_rfl):
 AW prog Γ c (KQ prog Γ N (k.qq prog fn) K) st:=A6 (n:=2000) A _ hnt Q9 h o.h (Ot e (KJ t))
theorem Pre.lp(o:Pre A p)(hnt:Γ.nt=nt){n:Nat}(t:FH prog Γ c' (KQ prog Γ N (k.qq prog fn) K') n mO)(h:go prog (k.rf prog fn) nt 2000 (.run c) K st A=some (.lp c' K' mO,p):=by kernel_rfl):
 AW prog Γ c (KQ prog Γ N (k.qq prog fn) K) st:=o.TW hnt _ rfl t h
variable{ops:Array Oper}
end
abbrev lc(f:Func)(p:List Nat):Code:=(Lt (tv f) p []).1
abbrev TV(f:Func)(p:List Nat):List Fr:=(Lt (tv f) p []).2
abbrev Ax(Γ:lY)(N:Nat->St->Prop)(f:Func)(k:Kd)(p:List Nat)(s:St):Prop:=AW prog Γ (lc f p) (KQ prog Γ N (k.qq prog f) (TV f p)) s
abbrev Ar(Γ:lY)(N:Nat->St->Prop)(f:Func)(k:Kd)(p:List Nat)(n:Nat)(s:St):Prop:=FH prog Γ (lc f (p++[0])) (KQ prog Γ N (k.qq prog f) (TV f p)) n s
theorem gd{f:FuncId}{fn:Func}{ds:aG}{d:D}(hf:prog.funcs[f]?=some fn)(nz:List (List (Option (Nat×Nat))))(nt:Nat)(h:(∀d∈ds,n7 d)->∀Γ:lY,Γ.nt=nt->AW prog Γ (tv fn) (KQ prog Γ (fun _ _=>False) ((Kd.q nz d).qq prog fn) []) ⟨pV 0 ds,[]⟩)
 (hb:fn.body=some (tv fn):=by kernel_rfl) (hn:(fn.name== "runtime.NumGoroutine")=false:=by kernel_rfl) (hl:Nat.ble ds.length fn.ntmps=true:=by kernel_rfl) (ht:fn.ntmps=nt:=by kernel_rfl):Good prog f ds d:=
 Good.of hf hb hn (jK hl) fun hr Γ hΓ=>h hr Γ (hΓ.trans ht)
theorem UE{f:FuncId}{fn:Func}{ds cells:aG}(hf:prog.funcs[f]?=some fn)(nt:Nat)(h:(∀d∈ds,n7 d)->∀Γ:lY,Γ.nt=nt->AW prog Γ (tv fn) (KQ prog Γ (fun _ _=>False) ((Kd.n cells).qq prog fn) []) ⟨pV 0 ds,[]⟩)
 (hb:fn.body=some (tv fn):=by kernel_rfl) (hn:(fn.name== "runtime.NumGoroutine")=false:=by kernel_rfl) (hl:Nat.ble ds.length fn.ntmps=true:=by kernel_rfl) (ht:fn.ntmps=nt:=by kernel_rfl):wo prog f ds cells:=
 wo.of hf hb hn (jK hl) fun hr Γ hΓ=>h hr Γ (hΓ.trans ht)
theorem Cs{f:FuncId}{fn:Func}{cells cells' ds:aG}{d:D}(hf:prog.funcs[f]?=some fn)(nz:List (List (Option (Nat×Nat))))(nt:Nat)(oO Cr:aG)(obs:ai)
 (h:(∀x∈(D.agg cells::ds).map D.K6,n7 x)->∀(v0:Value) (Γ:lY),Γ.nt=nt->AW prog Γ (tv fn) (KQ prog Γ (fun _ _=>False) ((Kd.p nz v0 cells' d).qq prog fn) []) ⟨pV 0 (.ptr 0 0::Cr),.B1 oO v0::obs⟩)
 (hI:rB 1 (.agg cells::ds)=(.agg oO::Cr,obs):=by kernel_rfl) (hb:fn.body=some (tv fn):=by kernel_rfl) (hn:(fn.name== "runtime.NumGoroutine")=false:=by kernel_rfl) (hl:Nat.ble (Cr.length+1) fn.ntmps=true:=by kernel_rfl) (ht:fn.ntmps=nt:=by kernel_rfl):jB prog f cells cells' ds d:=
 jB.of hf hb hn hI (jK hl) fun hr v0 Γ hΓ _=>h hr v0 Γ (hΓ.trans ht)
end Go.Cx
namespace Go.Cx
open Go.RowKit Go.Proofs Tryz
abbrev bP:=List aU
abbrev cg:=List Action
theorem lB{α:Type}[DecidableEq α][BEq α][LawfulBEq α](a b:α):(a==b)=decide (a=b):=by rw[bO];simp
def rp{α:Type}(w:α->Nat)(l:List α):Nat:=l.length+(l.map w).sum
def tw(s:Bytes):Nat:=s.length
theorem zy{α:Type}(w:α->Nat):rp w []=0:=rfl
theorem jJ{α:Type}(w:α->Nat)(x:α)(l:List α):rp w (x::l)=1+w x+rp w l:=by simp[rp];omega
theorem FG{α:Type}(w:α->Nat)(a b:List α):rp w (a++b)=rp w a+rp w b:=by
 induction a with
 |nil=>simp[rp]
 |cons x a ih=>rw[eC,jJ,jJ,ih];omega
theorem Lf{α:Type}(w:α->Nat)(l:List α):l.length<=rp w l:=by unfold rp;omega
theorem Co{α:Type}{w:α->Nat}{l:List α}{x:α}(h:x∈l):w x+1<=rp w l:=by
 induction l with
 |nil=>cases h
 |cons y l ih=>
  rw[jJ];rcases aY.1 h with rfl|h
  ·omega
  ·have:=ih h;omega
theorem UB{α:Type}[DecidableEq α]{f:α->α->Option Bool}{a b:List α}{c:α->aG}(L:Option Bool->List α->Nat->Option Bool)(ua:∀k i,L k [] i=k)
 (DN:∀k x xs i,L k (x::xs) i=(k8 b (i:Int)).bind fun y=>(f x y).bind fun r=>bif !r then some false else L k xs (i+1)) (hf:∀x y,f x y=some (decide (x=y))):
 (bif (((a.map c).length:Int) != ((b.map c).length:Int))then some false else L (some true) a 0)=some (decide (a=b)):=by
 by_cases hl:a.length=b.length
 ·have e:(((a.map c).length:Int) != ((b.map c).length:Int))=false:=by simp[hl]
  rw[e];have key:∀(ra rb pa pb:List α),a=pa++ra->b=pb++rb->pa.length=pb.length->L (some true) ra pa.length=some (decide (ra=rb)):=by
   intro ra
   induction ra with
   |nil=>
    intro rb pa pb h1 h2 h3;rw[ua];have:rb=[]:=by
     have:=congrArg List.length h1;have:=congrArg List.length h2;simp at*;apply bn;omega
    subst this;simp
   |cons x xs ih=>
    intro rb pa pb h1 h2 h3;cases rb with
    |nil=>
     exfalso;have:=congrArg List.length h1;have:=congrArg List.length h2;simp at*;omega
    |cons y ys=>
     rw[DN];have e1:k8 b (pa.length:Int)=some y:=by
      unfold k8;have:b[pa.length]?=some y:=by rw[h2,h3];simp
      simp[this]
     rw[e1,aA,hf,aA];have:=ih ys (pa++[x]) (pb++[y]) (by rw[h1];simp) (by rw[h2];simp) (by simp[h3]);by_cases hxy:x=y
     ·subst hxy;simp only[decide_true,bB,aP];simp only[af,aR,bC]at this;rw[this];simp
     ·simp[hxy]
  have:=key a b [] [] rfl rfl rfl;simpa using this
 ·have e:(((a.map c).length:Int) != ((b.map c).length:Int))=true:=by simp;omega
  rw[e];have:a≠b:=fun h=>hl (by rw[h])
  simp[this]
end Go.Cx
namespace Go.Cx
open Go.RowKit Go.Proofs Tryz
set_option maxRecDepth 100000
variable{Γ:lY}{N:Nat->St->Prop}
end Go.Cx
namespace Go.Cx
open Go.RowKit Go.Proofs Tryz
set_option maxRecDepth 100000
variable{Γ:lY}{N:Nat->St->Prop}
end Go.Cx
namespace Go.Cx
open Go.RowKit Go.Proofs Tryz
set_option maxRecDepth 100000
variable{Γ:lY}{N:Nat->St->Prop}
end Go.Cx
namespace Go.Cx
open Go.RowKit Go.Proofs Tryz
set_option maxRecDepth 100000
variable{Γ:lY}{N:Nat->St->Prop}
end Go.Cx
namespace Go.Cx
open Go.RowKit Go.Proofs Tryz
set_option maxRecDepth 100000
variable{Γ:lY}{N:Nat->St->Prop}
end Go.Cx
namespace Go.Cx
open Go.RowKit Go.Proofs Tryz
def bE.wt(x:bE):Nat:=tw x.rel+rp tw x.args
def aU.wt(x:aU):Nat:=tw x.pat.rel+rp tw x.pat.args+tw x.left+tw x.right
def Action.wt(x:Action):Nat:=tw x.pat.rel+rp tw x.pat.args
def aW.wt(x:aW):Nat:=tw x.name+rp aU.wt x.conds+rp Action.wt x.bg
end Go.Cx
namespace Go.Cx
open Go.RowKit Go.Proofs Go.Shelf Tryz
theorem Rd.iW{w:World}{v:Value}{s:Bytes}{bs:aH}(h:Rd w v (.str s) bs):∃y:ByteArray,v=.string y/\y.data.toList=s/\y.size<=maxLen/\bs=[]:=by
 cases h with
 |str y hy=>exact⟨y,rfl,rfl,hy,rfl⟩
theorem gG.strs{w:World}{xs:aC}:∀ {cs:aq} {bs:aH},gG w cs (xs.map D.str) bs->∃ys:List ByteArray,cs=ys.map Value.string/\ys.map (·.data.toList)=xs:=by
 induction xs with
 |nil=>intro cs bs h;cases h;exact⟨[],rfl,rfl⟩
 |cons x xs ih=>
  intro cs bs h;cases h with
  |cons v vs d ds b1 b2 h1 h2 h3=>
   obtain⟨y,e1,e2,_,_⟩:=h2.iW;obtain⟨ys,e3,e4⟩:=ih h3;exact⟨y::ys,by simp[e1,e3],by simp[e2,e4]⟩
theorem xP(xs:aC):(xs.map tx).flatten=xs.map D.str:=by
 induction xs with
 |nil=>rfl
 |cons x xs ih=>simp[tx,ih]
theorem Calls.txt{P:Program}{f:FuncId}{args:Array Value}{w:World}{r:ByteArray}{Θ:Nat->Nat}(hr:r.size<=maxLen)
 (h:Calls P f args w fun e w'=>e=.returned (.string r)/\Below w.heap.size w w'):
 Calls P f args w (fun e w'=>∃v bs' ts us,e=.returned v/\Below w.heap.size w w'/\qZ w' v (.str r.data.toList) bs' ts us/\(∀b∈bs',b<w.heap.size->Θ b=0)/\(∀b∈bs',b∉ts)/\us.Nodup/\
  (∀b∈us,w.heap.size<=b/\Wr w' b)/\∀b∈ts,b∈us):=
 h.mono fun e w' ⟨h1,h2⟩=>⟨_,[],[],[],h1,h2,.v (.cell (.pure (.str r hr))),by simp,by simp,by simp,by simp,by simp⟩
def CM(xs:aC)(sep:Bytes):Option Bytes:=if(Lib.join xs sep).length<=140737488355328/\xs.length<=140737488355328 then some (Lib.join xs sep)else none
theorem Df{P:Program}{ρ:Ren}(L:Lays.n156 P ρ)(X:Builder.Extra P ρ){xs:aC}{sep r:Bytes}(h:CM xs sep=some r):
 Good P (ρ.f 156) [.sl (xs.map tx),.str sep] (.str r):=by
 unfold CM at h;split at h
 ·rename_i hl;cases h;obtain⟨hl,hn⟩:=hl;refine⟨⟨_,L.f156,rfl,rfl⟩,?_⟩;intro w Θ args bs _ ha _ _ _;obtain _|⟨v1,_,_,_,b1,_,h1,ha⟩:=ha;obtain _|⟨v2,_,_,_,b2,_,h2,ha⟩:=ha;cases ha;obtain⟨y,rfl,rfl,_,_⟩:=h2.iW;have Be:∀(a:Option Addr) (c:Nat),xs=[]->Calls P (ρ.f 156) [Value.slice a 0 c,.string y].toArray w (fun e w'=>∃v bs' ts us,e=.returned v/\Below w.heap.size w w'/\qZ w' v (.str (Lib.join xs y.data.toList)) bs' ts us/\(∀b∈bs',b<w.heap.size->Θ b=0)/\(∀b∈bs',b∉ts)/\us.Nodup/\
   (∀b∈us,w.heap.size<=b/\Wr w' b)/\∀b∈ts,b∈us):=by
   intro a c hx;subst hx;exact Calls.txt (r:=⟨#[]⟩) (by decide) ((Any.strings_Join_none L X a c y w).mono fun e w' ⟨k1,k2⟩=>⟨k1,k2▸Below.refl _ _⟩)
  generalize hrs:xs.map tx=rows at h1;cases h1 with
  |oB=>exact Be none 0 (by simpa using hrs)
  |iU a cap _=>exact Be (some a) cap (by simpa using hrs)
  |sl b off cap sz rows cs bs k1 k2 k3 k4 k5 k6=>
   subst hrs;rw[xP]at k6;obtain⟨ys,rfl,rfl⟩:=k6.strs;have:=Any.strings_Join L X b off cap ys y w (fun j x hx=>k5 j _ (by simp[hx])) k1 (by simpa using hn) (by simpa using k2) hl;rw[bL,bL];refine Calls.txt (r:=⟨(Lib.join (ys.map (·.data.toList)) y.data.toList).toArray⟩) ?_ this;show(Lib.join (ys.map (·.data.toList)) y.data.toList).toArray.size<=maxLen;simp only[gF,maxLen];omega
 ·cases h
end Go.Cx
namespace Go.Cx
open Go.RowKit Go.Proofs Go.Shelf Go.Sort Tryz
theorem gG.LY{w:World}{xs:aC}:∀ {cs:aq} {bs:aH},gG w cs (xs.map D.str) bs->∀x∈xs,x.length<=maxLen:=by
 induction xs with
 |nil=>intro cs bs h x hx;cases hx
 |cons x xs ih=>
  intro cs bs h y hy;cases h with
  |cons v vs d ds b1 b2 h1 h2 h3=>
   obtain⟨s,_,e2,e3,_⟩:=h2.iW;rcases aY.1 hy with rfl|hy
   ·rw[<-e2];exact e3
   ·exact ih h3 y hy
theorem gG.CU{w:World}:∀ {xs:aC},(∀x∈xs,x.length<=maxLen)->gG w (xs.map encStr) (xs.map D.str) []
 | [],_=>.nil
 |x::xs,h=>by
  have h1:Rd w (.string ⟨x.toArray⟩) (.str x) []:=by
   have:=Rd.str (w:=w) ⟨x.toArray⟩ (by have:=h x (by simp);simpa[ByteArray.size]using this);simpa using this
  exact .cons _ _ _ _ [] [] rfl h1 (gG.CU fun y hy=>h y (by simp[hy]))
theorem DJ(xs:aC):(xs.map tx).flatten.all D.flat=true:=by
 rw[xP];simp[D.flat]
def iV(xs:aC):aC:=xs.mergeSort fun x y=>decide (x<=y)
theorem qP(xs:aC):(iV xs).Perm xs:=List.mergeSort_perm _ _
theorem Ab{P:Program}{ρ:Ren}(L:Lays.n192 P ρ){e:TypeId}{xs:aC}(hn:xs.length<4611686018427387904):Cz P (ρ.f 192) e 1 (xs.map tx) ((iV xs).map tx):=by
 refine⟨⟨_,L.f192,rfl,rfl⟩,?_⟩;intro w v cs hsz hrl hown hrd;rw[xP]at hrd;have hle:=hrd.LY;obtain⟨ys,rfl,hys⟩:=hrd.strs;have hlen:(iV xs).length=xs.length:=(qP xs).length_eq;have zZ:∀r∈(iV xs).map tx,r.length=1:=by
  intro r hr;obtain⟨x,_,rfl⟩:=cQ.1 hr;rfl
 rcases hown.2 with⟨rfl,h0⟩|⟨g,cap,cur,rfl,hb,CE,hnc,hcm,hcs,DT⟩
 ·have hx:xs=[]:=by simpa using h0
  subst hx;refine(Any.sort_Strings_none L none 0 w).mono ?_;rintro e' w' ⟨rfl,rfl⟩;exact⟨rfl,rfl,rfl,rfl,b8 _,fun _ _ _=>rfl,zZ,[],⟨by simp[hlen],.inl ⟨rfl,by simp[hlen]⟩⟩,by simpa[iV]using gG.nil⟩
 ·rw[bL]at hnc DT⊢;rw[td]at DT hcs;have Vp:ys.length=xs.length:=by rw[<-hys];simp
  have AS:∀j,j<xs.length->cur[j]?=some (encStr xs.toArray[j]!):=by
   intro j hj;have h1:(cur.toList.take xs.length)[j]?=cur[j]?:=by rw[mK hj];simp
   rw[<-h1,DT,b9];have hj':j<ys.length:=by omega
   rw[aN hj'];have:xs[j]?=some ys[j].data.toList:=by rw[<-hys,b9,aN hj'];rfl
   have hx:xs.toArray[j]! =ys[j].data.toList:=by
    rw[getElem!_pos _ _ (by simpa using hj)];rw[aN hj]at this;simpa using this
   rw[hx];simp[encStr]
  have hH:Holds encStr w g 0 xs.toArray:=by
   intro j hj;have hj:j<xs.length:=by simpa using hj
   refine⟨?_,?_⟩
   ·rw[<-AS j hj];simp[World.cell?,CE]
   ·simp[World.frozen?,CE]
  have hblk:g<w.heap.size:=(aX.1 CE).1;refine(Any.sort_Strings L g 0 cap xs w hH hblk hn).mono ?_;rintro e' w' ⟨rfl,n,os,rfl⟩;have hheap:(grow (putRow encStr (Sort.ahead w n) g 0 (iV xs).toArray) os).heap=(w.heap.modify g (onCells (putCells encStr 0 (iV xs).toArray)))++os:=rfl;have AQ:∀b,b<w.heap.size->b≠g->(grow (putRow encStr (Sort.ahead w n) g 0 (iV xs).toArray) os).heap[b]?=w.heap[b]?:=by
   intro b hb hne;rw[hheap,dO (by simpa using hb),nI,ar (fun e=>hne e.symm)]
  have hrow:(grow (putRow encStr (Sort.ahead w n) g 0 (iV xs).toArray) os).heap[g]?=some (.cells (putCells encStr 0 (iV xs).toArray cur) e (0,0)):=by
   rw[hheap,dO (by simpa using hblk),nI,bG rfl,CE];rfl
  refine⟨rfl,rfl,rfl,rfl,by show w.heap.size<=(grow (putRow encStr (Sort.ahead w n) g 0 (iV xs).toArray) os).heap.size;rw[hheap];simp,fun b hb hne=>AQ b hb fun e=>hne (by rw[e];rfl),zZ,(iV xs).map encStr,⟨by simp,.inr ⟨g,cap,_,by simp[hlen],hb,hrow,by simpa[hlen]using hnc,hcm,by simp[putCells,hcs],?_⟩⟩,?_⟩
  ·apply jU;intro j;simp only[bL,td];by_cases hj:j<(iV xs).length
   ·have hj2:j<cur.size:=by omega
    rw[mK hj,b9,aN hj];simp[putCells,hj2,hj]
   ·rw[bR (by simp;omega),bR (by simp;omega)]
  ·rw[xP];exact gG.CU fun x hx=>hle x ((qP xs).mem_iff.1 hx)
end Go.Cx
namespace Go.Cx
open Go.RowKit Go.Proofs Go.Shelf Go.Lib Tryz
theorem Ip(n:Int)(h:nM .i64 n):(itoa n).length<=20:=by
 have h1: -9223372036854775808<=n:=h.1;have h2:n<=9223372036854775807:=h.2;have key:∀u:Nat,u<=9223372036854775808->nDigits u<=19:=by
  intro u hu;by_cases h0:u=0
  ·subst h0;rw[nDigits_small (by omega)];omega
  ·by_cases hk:nDigits u<=19
   ·exact hk
   ·exfalso;have Ny:∀(k v:Nat),v<10^k->1<=k->nDigits v<=k:=by
     intro k
     induction k with
     |zero=>intro v _ h;omega
     |succ k ih=>
      intro v hv _;by_cases h10:v<10
      ·rw[nDigits_small h10];omega
      ·rw[nDigits_big h10];have h3:v/10<10^k:=by rw[Nat.pow_succ]at hv;omega
       have hk1:1<=k:=by
        cases k with
        |zero=>simp at hv;omega
        |succ k=>omega
       have:=ih (v/10) h3 hk1;omega
    have:=Ny 19 u (by omega) (by omega);omega
 unfold itoa;split
 ·rw[aR,decDigits_length];have:=key n.natAbs (by omega);omega
 ·rw[decDigits_length];have:=key n.toNat (by omega);omega
theorem DA(w:World)(k:Nat)(os:Array Obj):Below w.heap.size w (Sort.grow (w.drewN k) os):=
 ⟨rfl,rfl,rfl,by show w.heap.size<=(w.heap++os).size;simp,fun b hb=>by show(w.heap++os)[b]?=_;rw[dO hb]⟩
theorem De{P:Program}{ρ:Ren}(L:LaysM.n171 P ρ){g:Nat}(hg:P.globalNamed "internal/strconv.uint64pow10" =some g)(hx:(g,fun cs:aq=>cs=pow10Tab.map fun z=>Value.int .u64 z)∈lV){n:Int}:
 Good P (ρ.f 171) [.int .i64 n] (.str (itoa n)):=by
 refine⟨⟨_,L.f171,rfl,rfl⟩,?_⟩;intro w Θ args bs hv ha _ _ _;obtain _|⟨v1,_,_,_,b1,_,h1,ha⟩:=ha;cases ha;cases h1 with
 |int _ _ hr=>
  have h0: -9223372036854775808<=n:=hr.1;have h1:n<=9223372036854775807:=hr.2;have hl:=Ip n hr;have ht:TabIs P w "internal/strconv.uint64pow10" .u64 pow10Tab:=by
   obtain⟨cs,h2,h3⟩:=hv.var hx hg;have h4:cs=(pow10Tab.map fun z=>Value.int .u64 z).toArray:=by rw[<-h3]
   rw[h4]at h2;exact h2
  have:=Calls.txt (Θ:=Θ) (r:=⟨(itoa n).toArray⟩) (by show(itoa n).toArray.size<=maxLen;rw[gF];unfold maxLen;omega)
   ((Any.strconv_Itoa L n h0 h1 w ht).mono fun e w' ⟨k1,k,os,k2⟩=>⟨k1,by subst k2;exact DA w k os⟩)
  simpa using this
end Go.Cx
namespace Go.Cx
open Go.RowKit Go.Proofs Go.Shelf Go.Lib Tryz
theorem D9(w:World)(t5:TypeId)(t:ByteArray):Below w.heap.size w (Lib.bytesWorld w t5 t):=Lib.bytesWorld_below _ _ _
def CL(s:Bytes):Option (Int×Bool):=if s.length<=18 then(match Lib.atoi s with|some n=>some (n,false)|none=>some (0,true))else none
theorem Dd{P:Program}{ρ:Ren}(L:LaysC.n172 P ρ){g:Nat}(hg:P.globalNamed "strconv.ErrSyntax" =some g)(hx:(g,fun cs:aq=>∃tp p,cs=[Value.iface tp p])∈lV){s:Bytes}{r:Int×Bool}(h:CL s=some r):
 Good P (ρ.f 172) [.str s] (.fy [.int .i64 r.1,.MA r.2]):=by
 refine⟨⟨_,L.f172,rfl,rfl⟩,?_⟩;intro w Θ args bs hv ha _ _ _;obtain _|⟨v1,_,_,_,b1,_,h1,ha⟩:=ha;cases ha;obtain⟨y,rfl,rfl,_,_⟩:=h1.iW;unfold CL at h;split at h
 ·rename_i hl;have hl':y.size<=18:=by simpa using hl
  split at h
  ·rename_i n hn;cases h;have hb:=Lib.atoi_bound hn hl;refine(Any.strconv_Atoi L.toM.ton172 y n hl' hn w).mono ?_;rintro e w' ⟨rfl,t,rfl⟩;exact⟨_,[],[],[],rfl,D9 _ _ _,.fy [.int .i64 n,.nilIface] [.int .i64 n,.MA false] [] [] [] (.cons _ _ _ _ [] [] [] [] [] [] (.cell (.pure (.int _ _ (nM.i64.2 (by omega))))) (.cons _ _ _ _ [] [] [] [] [] [] (.cell (.pure .Gb)) .nil)),by simp,by simp,by simp,by simp,by simp⟩
  ·rename_i hn;cases h;obtain⟨cs,h2,tp,p,h3⟩:=hv.var hx hg;have h4:cs= #[.iface tp p]:=by rw[<-j6,h3]
   rw[h4]at h2;refine(Any.strconv_Atoi_err_var L y hl' hn tp p w h2).mono ?_;rintro e w' ⟨N,rfl,_,_,Fe⟩;exact⟨_,[],[],[],rfl,Fe,.fy [.int .i64 0,.iface _ _] [.int .i64 0,.MA true] [] [] [] (.cons _ _ _ _ [] [] [] [] [] [] (.cell (.pure (.int _ _ (nM.zero _)))) (.cons _ _ _ _ [] [] [] [] [] [] (.cell (.pure (.Gc _ _))) .nil)),by simp,by simp,by simp,by simp,by simp⟩
 ·cases h
end Go.Cx
namespace Go.Cx
open Go.RowKit Go.Proofs Go.Shelf Go.Lib Tryz
theorem qQ(y:ByteArray):y.data.toList.length=y.size:=by
 simp only[jo];rfl
theorem Jn(s p:Bytes):(Lib.trimPrefix s p).length<=s.length:=by
 unfold Lib.trimPrefix;split
 ·simp
 ·exact b8 _
theorem yf{P:Program}{ρ:Ren}(L:Lays.n103 P ρ){s p:Bytes}:Good P (ρ.f 103) [.str s,.str p] (.fy [.str (Lib.trimPrefix s p),.bool (Lib.hasPrefix s p)]):=by
 refine⟨⟨_,L.f103,rfl,rfl⟩,?_⟩;intro w Θ args bs hv ha _ _ _;obtain _|⟨v1,_,_,_,b1,_,h1,ha⟩:=ha;obtain _|⟨v2,_,_,_,b2,_,h2,ha⟩:=ha;cases ha;obtain⟨y,rfl,rfl,hy,_⟩:=h1.iW;obtain⟨z,rfl,rfl,_,_⟩:=h2.iW;refine(Any.strings_CutPrefix L y z w).mono ?_;rintro e w' ⟨rfl,rfl⟩;have hle:=Jn y.data.toList z.data.toList;rw[qQ]at hle;exact⟨_,[],[],[],rfl,Below.refl _ _,.fy [.string ⟨(Lib.trimPrefix y.data.toList z.data.toList).toArray⟩,.bool _] [.str _,.bool _] [] [] [] (.cons _ _ _ _ [] [] [] [] [] [] (.cell (.pure (.str _ (by show(Lib.trimPrefix y.data.toList z.data.toList).toArray.size<=maxLen;simp only[gF];omega)))) (.cons _ _ _ _ [] [] [] [] [] [] (.cell (.pure (.bool _))) .nil)),by simp,by simp,by simp,by simp,by simp⟩
theorem yg{P:Program}{ρ:Ren}(L:Lays.n100 P ρ){s p:Bytes}:Good P (ρ.f 100) [.str s,.str p] (.bool (Lib.hasSuffix s p)):=by
 refine⟨⟨_,L.f100,rfl,rfl⟩,?_⟩;intro w Θ args bs hv ha _ _ _;obtain _|⟨v1,_,_,_,b1,_,h1,ha⟩:=ha;obtain _|⟨v2,_,_,_,b2,_,h2,ha⟩:=ha;cases ha;obtain⟨y,rfl,rfl,hy,_⟩:=h1.iW;obtain⟨z,rfl,rfl,_,_⟩:=h2.iW;refine(Any.strings_HasSuffix L y z w (by simp only[maxLen]at hy;omega)).mono ?_;rintro e w' ⟨rfl,rfl⟩;exact⟨_,[],[],[],rfl,Below.refl _ _,.v (.cell (.pure (.bool _))),by simp,by simp,by simp,by simp,by simp⟩
theorem GB{w:World}(hv:B0 w fun _=>False){g:Nat}{p:aq->Prop}(hx:(g,p)∈lV)(hp:∀cs,p cs->∃m,cs=[Value.int .i64 m]):∃m,w.cell? ⟨g,0,none⟩=some (.int .i64 m):=by
 obtain⟨cs,t,z,h1,h2⟩:=hv.cells hx;obtain⟨m,h3⟩:=hp _ h2;refine⟨m,?_⟩;have:cs= #[.int .i64 m]:=by rw[<-j6,h3]
 subst this;simp[World.cell?,h1]
def Fw(s sep:Bytes):Option (Bytes×Bytes×Bool):=if s.length<=1073741824 then some (Lib.cut s sep)else none
theorem Hy(s sep:Bytes):(Lib.cut s sep).1.length<=s.length/\(Lib.cut s sep).2.1.length<=s.length:=by
 unfold Lib.cut;split
 ·simp only[bD,fZ];omega
 ·simp
theorem Eo{P:Program}{ρ:Ren}(L:Lays.n145 P ρ){p:aq->Prop}(hx:(ρ.g 1,p)∈lV)(hp:∀cs,p cs->∃m,cs=[Value.int .i64 m]){s sep:Bytes}{r:Bytes×Bytes×Bool}(h:Fw s sep=some r):
 Good P (ρ.f 145) [.str s,.str sep] (.fy [.str r.1,.str r.2.1,.bool r.2.2]):=by
 unfold Fw at h;split at h
 ·rename_i hl;cases h;refine⟨⟨_,L.f145,rfl,rfl⟩,?_⟩;intro w Θ args bs hv ha _ _ _;obtain _|⟨v1,_,_,_,b1,_,h1,ha⟩:=ha;obtain _|⟨v2,_,_,_,b2,_,h2,ha⟩:=ha;cases ha;obtain⟨y,rfl,rfl,hy,_⟩:=h1.iW;obtain⟨z,rfl,rfl,_,_⟩:=h2.iW;obtain⟨m,hm⟩:=GB hv hx hp;rw[qQ]at hl;obtain⟨c1,c2⟩:=Hy y.data.toList z.data.toList;rw[qQ]at c1 c2;refine(Any.strings_Cut L y z m w (by omega) hm).mono ?_;rintro e w' ⟨rfl,n,rfl⟩;exact⟨_,[],[],[],rfl,below_drewN (Below.refl _ _) n,.fy [.string ⟨(Lib.cut y.data.toList z.data.toList).1.toArray⟩,.string ⟨(Lib.cut y.data.toList z.data.toList).2.1.toArray⟩,.bool _] [.str _,.str _,.bool _] [] [] []
   (.cons _ _ _ _ [] [] [] [] [] [] (.cell (.pure (.str _ (by show(Lib.cut y.data.toList z.data.toList).1.toArray.size<=maxLen;simp only[gF];omega))))
   (.cons _ _ _ _ [] [] [] [] [] [] (.cell (.pure (.str _ (by show(Lib.cut y.data.toList z.data.toList).2.1.toArray.size<=maxLen;simp only[gF];omega))))
   (.cons _ _ _ _ [] [] [] [] [] [] (.cell (.pure (.bool _))) .nil))),by simp,by simp,by simp,by simp,by simp⟩
 ·cases h
def zn(s sep:Bytes):Option aC:=if s.length<=1073741824/\1<=sep.length then some (Lib.split s sep)else none
theorem Bn(sep:ByteArray):∀(k:Nat) (s:ByteArray),∀x∈Lib.splitB sep 0 k s,x.size<=s.size
 |0,s,x,h=>by
  rw[Lib.splitB_zero]at h;rw[bu.1 h];exact b8 _
 |k+1,s,x,h=>by
  unfold Lib.splitB at h;split at h
  ·rw[bu.1 h];exact b8 _
  ·rcases aY.1 h with rfl|h
   ·simp only[rq];omega
   ·have:=Bn sep k _ x h;simp only[rq]at this;omega
theorem CN{P:Program}{ρ:Ren}(L:Lays.n146 P ρ)(hi9:(P.info? (ρ.t 9)).map (fun i=>(i.zero,i.size,i.bytes))=some (some (.string ByteArray.empty),1,16))(Ub:∀j,mX (ρ.t 9) j=none){p:aq->Prop}(hx:(ρ.g 1,p)∈lV)(hp:∀cs,p cs->∃m,cs=[Value.int .i64 m]){s sep:Bytes}{r:aC}(h:zn s sep=some r):
 Good P (ρ.f 146) [.str s,.str sep] (.fr (ρ.t 9) 1 (r.map tx)):=by
 unfold zn at h;split at h
 ·rename_i hl;cases h;obtain⟨hl,Qy⟩:=hl;refine⟨⟨_,L.f146,rfl,rfl⟩,?_⟩;intro w Θ args bs hv ha _ _ _;obtain _|⟨v1,_,_,_,b1,_,h1,ha⟩:=ha;obtain _|⟨v2,_,_,_,b2,_,h2,ha⟩:=ha;cases ha;obtain⟨y,rfl,rfl,hy,_⟩:=h1.iW;obtain⟨z,rfl,rfl,_,_⟩:=h2.iW;obtain⟨m,hm⟩:=GB hv hx hp;rw[qQ]at hl Qy;refine(Any.strings_Split L hi9 y z m w (by omega) hm Qy).mono ?_;rintro e w' ⟨rfl,rfl⟩;have hall:=Lib.splitB_all z Qy 0 _ y rfl;have hcl:=Lib.countB_le z Qy y.size y (b8 _);have Rj:(Lib.splitB z 0 (Lib.countB y z) y).map (·.data.toList)=Lib.split y.data.toList z.data.toList:=Lib.splitB_data z 0 _ y;have hsz:=Bn z (Lib.countB y z) y;generalize hR:Lib.splitB z 0 (Lib.countB y z) y=R at*;rw[<-Rj];have hcs:(R.map Value.string)=(R.map (·.data.toList)).map encStr:=by
   rw[List.map_map];rfl
  refine⟨_,[],[w.heap.size],[w.heap.size],rfl,(Below.refl _ _).alloc (b8 _) _,.v (.cell (.fr _ _ _ _ (R.map Value.string) [] (by decide) ?_ ?_ ?_ rfl)),by simp,by simp,by simp,?_,by simp⟩
  ·intro q hq;obtain⟨x,_,rfl⟩:=cQ.1 hq;rfl
  ·refine⟨by simp,.inr ⟨w.heap.size,Lib.countB y z+1,(R.map Value.string).toArray,?_,tg _,heap_alloc_new w _,?_,?_,?_,?_⟩⟩
   ·simp[hall]
   ·simp[hall]
   ·simp only[maxLen];omega
   ·simp[hall]
   ·rw[td,ed (by simp[hall])]
  ·refine ng.of ?_ Ub;rw[xP,hcs];refine gG.CU fun x hx=>?_
   obtain⟨q,hq,rfl⟩:=cQ.1 hx;have:=hsz q hq;rw[qQ];omega
  ·intro b hb;have:b=w.heap.size:=by simpa using hb
   subst this;exact⟨b8 _,_,_,heap_alloc_new w _⟩
 ·cases h
end Go.Cx
namespace Go.Cx
open Go.RowKit Go.Proofs Go.Shelf Tryz
def zG:Ren:=⟨fun|156=>67|165=>102|166=>103|169=>104|240=>123|241=>124|276=>148|277=>149|n=>n,fun|31=>39|9=>9|3=>3|4=>4|0=>0|20=>20|72=>109|76=>91|70=>107|37=>22|75=>90|127=>122|164=>143|5=>5|80=>111|n=>n,fun|n=>n⟩
theorem L3:Lays.n156 prog zG:=by constructor<;>(intros;kernel_rfl)
theorem NH:Builder.Extra prog zG:= {sizeBuilder:=by kernel_rfl,liesBuilder:=by kernel_rfl,t5:=underlying5,a5:=Tryz.isAgg5,z5:=Tryz.sizeOf5,v5:=Tryz.zeroValue5,infoByte:=by kernel_rfl,cellsByte:=by kernel_rfl,sizeByte:=by kernel_rfl,neB5:=by decide}
def qG(aI:aC)(bY:Bytes):Option Bytes:=CM aI bY
theorem vl{aI:aC}{bY:Bytes}{r:Bytes}(h:qG aI bY=some r):Good prog 67 [.sl (aI.map tx),.str bY] (.str r):=Df L3 NH h
def Dk:Ren:=⟨fun|192=>100|190=>121|125=>143|258=>142|128=>166|129=>167|302=>157|303=>158|304=>159|305=>160|306=>161|307=>162|308=>163|309=>164|310=>165|333=>174|329=>175|330=>176|334=>177|335=>178|336=>179|344=>182|n=>n,fun|31=>39|0=>0|9=>9|3=>3|46=>117|51=>146|53=>138|4=>4|183=>157|182=>156|131=>52|5=>5|218=>175|222=>179|228=>181|229=>182|n=>n,fun|n=>n⟩
theorem L6:Lays.n192 prog Dk:=by constructor<;>(intros;kernel_rfl)
theorem vS{e:TypeId}{xs:aC}(hn:xs.length<4611686018427387904):Cz prog 100 e 1 (xs.map tx) ((iV xs).map tx):=Ab L6 hn
def zH:Ren:=⟨fun|171=>66|243=>101|246=>122|283=>144|284=>145|285=>146|286=>147|129=>167|317=>168|318=>169|319=>170|320=>171|337=>180|338=>181|n=>n,fun|3=>3|9=>9|2=>2|4=>4|171=>137|0=>0|53=>138|37=>22|5=>5|173=>141|212=>164|51=>146|20=>20|213=>165|46=>117|232=>184|233=>185|n=>n,fun|17=>4|18=>7|19=>8|n=>n⟩
theorem L4:Lays.n171 prog zH:=by constructor<;>(intros;kernel_rfl)
theorem Iu:LaysM.n171 prog zH:=by constructor<;>first|exact L4| (intros;kernel_rfl)
def qF(aI:Int):Option Bytes:=(fun n:Int=>some (Lib.itoa n)) aI
theorem vi{aI:Int}{r:Bytes}(h:qF aI=some r):Good prog 66 [.int .i64 aI] (.str r):=by cases h;exact De Iu (g:=4) (by kernel_rfl) (aD (i:=0) (by kernel_rfl))
def ul:Ren:=⟨fun|172=>69|244=>106|245=>107|247=>129|279=>130|280=>131|281=>132|282=>133|287=>152|316=>153|171=>66|205=>154|321=>172|322=>173|243=>101|246=>122|283=>144|284=>145|285=>146|286=>147|129=>167|317=>168|318=>169|319=>170|320=>171|337=>180|338=>181|n=>n,fun|9=>9|3=>3|75=>90|76=>91|4=>4|5=>5|167=>125|37=>22|0=>0|85=>126|2=>2|168=>128|53=>138|175=>149|46=>117|210=>153|127=>122|145=>170|143=>168|21=>21|171=>137|173=>141|212=>164|51=>146|20=>20|213=>165|232=>184|233=>185|80=>111|n=>n,fun|15=>2|16=>3|17=>4|18=>7|19=>8|n=>n⟩
theorem L5:Lays.n172 prog ul:=by constructor<;>(intros;kernel_rfl)
theorem Iv:LaysM.n172 prog ul:=by constructor<;>first|exact L5| (intros;kernel_rfl)
theorem It:LaysC.n172 prog ul:=by constructor<;>first|exact Iv| (intros;kernel_rfl)
def qE(aI:Bytes):Option (Int×Bool):=CL aI
theorem vh{aI:Bytes}{r:Int×Bool}(h:qE aI=some r):Good prog 69 [.str aI] (.fy [.int .i64 r.1,.MA r.2]):=Dd It (g:=2) (by kernel_rfl) (aD (i:=1) (by kernel_rfl)) h
def Di:Ren:=⟨fun|145=>22|220=>68|219=>105|217=>125|225=>126|224=>127|267=>128|266=>150|314=>151|n=>n,fun|9=>9|4=>4|59=>50|3=>3|5=>5|46=>117|146=>147|51=>146|n=>n,fun|1=>1|n=>n⟩
theorem Ky:Lays.n145 prog Di:=by constructor<;>(intros;kernel_rfl)
def j5(aI:Bytes)(bY:Bytes):Option (Bytes×Bytes×Bool):=Fw aI bY
theorem iD{aI:Bytes}{bY:Bytes}{r:Bytes×Bytes×Bool}(h:j5 aI bY=some r):Good prog 22 [.str aI,.str bY] (.fy [.str r.1,.str r.2.1,.bool r.2.2]):=Eo Ky (p:=fun cs:aq=>∃m,cs=[Value.int .i64 m]) (aD (i:=3) (by kernel_rfl)) (fun _ h=>h) h
def Dj:Ren:=⟨fun|146=>24|221=>70|268=>108|138=>109|143=>110|195=>134|197=>135|218=>136|219=>105|260=>155|217=>125|225=>126|224=>127|267=>128|266=>150|314=>151|n=>n,fun|9=>9|31=>39|3=>3|4=>4|0=>0|105=>132|21=>21|5=>5|46=>117|119=>171|139=>174|138=>173|146=>147|51=>146|n=>n,fun|1=>1|3=>5|4=>6|n=>n⟩
theorem Kz:Lays.n146 prog Dj:=by constructor<;>(intros;kernel_rfl)
def jS(aI:Bytes)(bY:Bytes):Option aC:=zn aI bY
theorem lS{aI:Bytes}{bY:Bytes}{r:aC}(h:jS aI bY=some r):Good prog 24 [.str aI,.str bY] (.fr 9 1 (r.map tx)):=CN Kz (by kernel_rfl) (fun _=>rfl) (p:=fun cs:aq=>∃m,cs=[Value.int .i64 m]) (aD (i:=3) (by kernel_rfl)) (fun _ h=>h) h
def Dh:Ren:=⟨fun|103=>72|210=>112|206=>138|n=>n,fun|9=>9|4=>4|24=>96|3=>3|n=>n,fun|n=>n⟩
theorem Kx:Lays.n103 prog Dh:=by constructor<;>(intros;kernel_rfl)
def iq(aI:Bytes)(bY:Bytes):Option (Bytes×Bool):=(fun a b:Bytes=>some (Lib.trimPrefix a b,Lib.hasPrefix a b)) aI bY
theorem jj{aI:Bytes}{bY:Bytes}{r:Bytes×Bool}(h:iq aI bY=some r):Good prog 72 [.str aI,.str bY] (.fy [.str r.1,.bool r.2]):=by cases h;exact yf Kx
def Dg:Ren:=⟨fun|100=>137|207=>156|n=>n,fun|9=>9|4=>4|3=>3|n=>n,fun|n=>n⟩
theorem Kw:Lays.n100 prog Dg:=by constructor<;>(intros;kernel_rfl)
def mI(aI:Bytes)(bY:Bytes):Option Bool:=(fun a b:Bytes=>some (Lib.hasSuffix a b)) aI bY
theorem r9{aI:Bytes}{bY:Bytes}{r:Bool}(h:mI aI bY=some r):Good prog 137 [.str aI,.str bY] (.bool r):=by cases h;exact yg Kw
end Go.Cx

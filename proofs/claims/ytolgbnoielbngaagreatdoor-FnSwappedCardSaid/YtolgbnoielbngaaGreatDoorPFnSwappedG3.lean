/- Calls that are handed slices of the caller's own, in values. No condition; plain lemmas. -/
import Derived.Test.YtolgbnoielbngaaGreatDoorPFnSwappedG2
import Derived.Laws.BytesArg
import Derived.LoopN
import Derived.Test.YtolgbnoielbngaaGreatDoorProg
import Derived.KernelRfl
import Derived.Shelf.Strings.OnBuilder
import Derived.Shelf.Sort.Plain
import Derived.Shelf.Slices.In.SortNone2
import Derived.Shelf.Strconv.Itoa3
import Derived.WalkSmall
import Derived.Shelf.Strconv.Atoi
import Derived.Shelf.Strconv.ErrVar
import Derived.Shelf.Small.Strs
import Derived.Lib.AtoiBound
set_option linter.unusedVariables false
set_option linter.unusedSimpArgs false
namespace Go.Cx
open Go.RowKit
def Hq(P:Program)(f:FuncId)(ds:aG)(d:D):Prop:=
 (∃fn,P.funcs[f]?=some fn/\fn.body.isSome=true/\(fn.name== "runtime.NumGoroutine")=false)/\
 ∀(w:World) (Θ:Nat->Nat) (args:b9) (bs ts us:aI),
  D1 w (fun b=>b∈ts)->su w args ds bs ts us->
  (∀b∈bs,Θ b=0)->(∀b,Θ b≠0->b<w.heap.size)->(∀b,Θ b<=1)->(∀b∈ts,Θ b=1/\b∈us)->us.Nodup->(∀b∈us,(b∉ts->Θ b=0)/\Wr w b)->
  Calls P f args.toArray w (fun e w'=>∃v b2 t2 u2,e=.returned v/\w'.os=w.os/\w'.tape=w.tape/\w'.output=w.output/\w.heap.size<=w'.heap.size/\
   (∀b,b<w.heap.size->b∉ts->w'.heap[b]?=w.heap[b]?)/\
   tH w' v d b2 t2 u2/\(∀b∈b2,(b<w.heap.size->Θ b=0\/b∈ts)/\b∉t2)/\u2.Nodup/\
   (∀b∈u2,(w.heap.size<=b\/b∈us)/\Wr w' b)/\∀b∈t2,b∈u2/\(w.heap.size<=b\/b∈ts))
section
variable{P:Program}{Γ:oK}{Q:Exit->St->Prop}{st:St}{κ κ':Nat->Option Value}{Θ Θ':Nat->Nat}{a:Act}{w w':World}{all:Array Oper}{rest:List Oper}
theorem Uf.out{fn:Func}{d:D}{e:Exit}{a':Act}{w':World}{Cw:St}{κ0:Nat->Option Value}{Θ0:Nat->Nat}(hs0:cX Γ Cw κ0 Θ0 a' w')(Qi:KH P fn d e Cw):
 (e=.ret\/e=.normal)/\a'.defers=[]/\Ht Γ w'/\∃v b2 t2 u2,(results fn a'.tmps).run P w'=.ok v w'/\
  tH w' v d b2 t2 u2/\(∀b∈b2,(b<Γ.W0.heap.size->¬Γ.X b->Γ.Θ0 b=0)/\b∉t2)/\u2.Nodup/\
  (∀b∈u2,Hr Γ b/\Wr w' b)/\∀b∈t2,b∈u2/\rC Γ b:=by
 obtain⟨wY,nz,Om,es,ms,qs,hres,Ox,DA,Bh,Nf,rfl⟩:=Qi;obtain⟨ρ0,Ql⟩:=hs0.mi;have vi:=qT Ox;obtain⟨Θ1,ρ1,hs1,hu1,hm1,hz1,Jo⟩:=cX.zq ms hs0 Ql DA (fun m hm=>by
  obtain⟨e,sz,rows,hH⟩:=vi.1 m hm;exact⟨_,e,sz,rows,hH,rfl⟩)
 obtain⟨vs,bs',m1,m2,m3,m4,m5⟩:=xG hs0 hres;have hq:∀m e sz rows,Cw.H[m]?=some (.row .uq e sz rows)->∃v cs ns,κ0 m=some v/\0<sz/\(∀r∈rows,r.length=sz)/\w'.ownsRow 0 e sz v rows.length cs/\qG w' (ol e) 0 cs rows.flatten ns/\ns.Nodup/\(∀b∈ns,ρ1 b=m+1)/\∀g,v.ownBlock=some g->Θ1 g=m+2:=by
  intro m e sz rows hH;have hnm:m∉ms:=fun hm=>by
   obtain⟨e',sz',cw,xD⟩:=vi.1 m hm;rw[hH]at xD;cases xD
  have EC:(kill Cw.H ms)[m]?=some (.row .uq e sz rows):=by rw[cj hnm];exact hH
  obtain⟨v,cs,ns,r1,r2,r3,r4,r5⟩:=hu1.rows m e sz rows EC;obtain⟨p1,p2,v2,_,_,p3,_,_,p4,_⟩:=hs1.ob m _ EC;rw[r1]at p3;cases p3;exact⟨v,cs,ns,r1,p1,p2,r2,r3,r4,r5,p4⟩
 have qx:∀m e sz rows,m∉ms->Cw.H[m]?=some (.row .sh e sz rows)->∃v cs ns,κ0 m=some v/\0<sz/\(∀r∈rows,r.length=sz)/\w'.ownsRow 0 e sz v rows.length cs/\iT w' cs rows.flatten ns/\(∀b∈ns,Θ1 b=0)/\∀g,v.ownBlock=some g->Θ1 g=m+2:=by
  intro m e sz rows hnm hH;obtain⟨p1,p2,v2,cs,ns,p3,p4,p5,p6,p7⟩:=hs1.ob m _ (show(kill Cw.H ms)[m]?=_ by rw[cj hnm];exact hH);exact⟨v2,cs,ns,p3,p1,p2,p4,p5,p7,p6⟩
 obtain⟨c,ts,us,wX,tD⟩:=uI (w:=w') (vs:=vs) (fun b hb=>(hu1.free b hb).1) hq qx hs0.kC Ox Nf Bh (by omega) (fun i d hd=>by
  obtain⟨v,b,k1,k2,k3⟩:=m4 i d hd;exact⟨v,b,k1,k2,fun x hx=>hz1 x (m5 x (k3 x hx))⟩) hm1
 have EG:∃v,(results fn a'.tmps).run P w'=.ok v w'/\tH w' v (BS es) c ts us:=by
  have hrun:(results fn a'.tmps).run P w'=.ok (if h:vs.toArray.size=1 then vs.toArray[0]else .tuple vs.toArray) w':=by
   rw[results_eq,kO];simp[m1]
  cases wX with
  |nil=>exact⟨.tuple #[],by simpa using hrun,.gj [] [] [] [] [] .nil⟩
  |cons v vs d es b1 b2 t1 t2 u1 u2 hv oG=>
   cases oG with
   |nil=>
    simp only[dM];exact⟨v,by simpa using hrun,.v hv⟩
   |cons v2 vs d2 es b3 b4 t3 t4 u3 u4 GL oG=>exact⟨.tuple (v::v2::vs).toArray,by simpa using hrun,.gj _ _ _ _ _ (.cons _ _ _ _ _ _ _ _ _ _ hv (.cons _ _ _ _ _ _ _ _ _ _ GL oG))⟩
 obtain⟨v,LA,FY⟩:=EG;refine⟨wY,hs0.defers,hs0.stays,v,c,ts,us,LA,FY,fun b hb=>⟨fun hlt hx=>?_,fun ht=>?_⟩,tD.nd,fun b hb=>?_,fun b hb=>?_⟩
 ·have:=tD.zero b hb;rw[<-(hs1.old b hlt hx).1];exact this
 ·obtain⟨⟨m,_,hΘ⟩,_⟩:=tD.top b ht;have:=tD.zero b hb;omega
 ·rcases tD.mem b hb with h|⟨m,hm,hρ⟩
  ·obtain⟨⟨m,hm,hΘ⟩,_⟩:=tD.top b h;exact⟨.inl (hs1.mine b (by omega)),C2 FY b h⟩
  ·have:=hu1.free b (by omega);exact⟨this.2.1,this.2.2⟩
 ·obtain⟨⟨m,hm,hΘ⟩,h2⟩:=tD.top b hb;exact⟨h2,hs1.mine b (by omega)⟩
theorem Hq.of{f:FuncId}{fn:Func}{c:Code}{ds Ew:aG}{obs:ax}{d:D}(hf:P.funcs[f]?=some fn)(hb:fn.body=some c)(hn:(fn.name== "runtime.NumGoroutine")=false)
 (hI:tR 0 ds=(Ew,obs)) (hl:Ew.length<=fn.ntmps)
 (h:(∀x∈ds.map D.N0,n9 x)->∀(Γ:oK),Γ.nt=fn.ntmps->AW P Γ c (KH P fn d) ⟨rj 0 Ew,obs⟩):Hq P f ds d:=by
 refine⟨⟨fn,hf,by simp[hb],hn⟩,?_⟩;intro w Θ args bs ts us hvs hargs hz hown h1 hts hnd mw;have Gv:=hargs.shown;obtain⟨L,q1,q2,rfl,rfl,q6,q5⟩:=hargs.inst 0;rw[hI]at q1 q5;have q1:L.map Fs.ob=obs:=q1;refine calls_of_wp hf hb ?_;let κ0:Nat->Option Value:=fun i=>(L[i]?).map Fs.v
 let Θ0:Nat->Nat:=fun b=>match BY L b with|some i=>i+2|none=>Θ b
 let ρ0:Nat->Nat:=fun b=>match mm L b with|some i=>i+1|none=>0
 let Γ:oK:=⟨w,Θ0,fun b=>b∈L.flatMap Fs.ts,fn.ntmps,fun b=>b∈L.flatMap Fs.bl,hvs⟩
 have QW:∀i x,L[i]?=some x->κ0 i=some x.v:=fun i x hx=>by simp[κ0,hx]
 have hnm:Names κ0 0 L:=fun i x hx=>by rw[cP];exact QW i x hx
 obtain⟨SF,hrd,hb0⟩:=q5 κ0 hnm;have hlen:args.length=Ew.length:=hrd.len;have Oy:∀(i:Nat) x b,L[i]?=some x->x.v.ownBlock=some b->b∈L.flatMap Fs.ts:=fun i x b hx hb'=>bI.2 ⟨x,aE hx,by simp[Fs.ts,hb']⟩
 have Gy:∀(i:Nat) x b,L[i]?=some x->x.v.ownBlock=some b->Θ0 b=i+2:=by
  intro i x b hx hb';simp only[Θ0,AF hnd hx hb']
 have Fc:∀b,Θ b=0->Θ0 b=0:=by
  intro b h0;have e2:b∉L.flatMap Fs.ts:=fun e=>by have:=(hts b e).1;omega
  simp only[Θ0,pq e2];exact h0
 have L6:∀(i:Nat) x b,L[i]?=some x->b∈x.ns->Θ0 b=0:=fun i x b hx hb'=>Fc b ((mw b (mF hx hb')).1 (ux hnd hx hb'))
 have sM:∀b,Θ0 b≠Θ b->b∈L.flatMap Fs.ts:=by
  intro b hne;refine cS fun ht=>hne ?_
  simp only[Θ0,pq ht]
 have Gp:∀(j:Nat) o,obs[j]?=some o->∃x,L[j]?=some x/\o=x.ob:=by
  intro j o hj;rw[<-q1,bS]at hj;cases hx:L[j]? with
  |none=>simp[hx]at hj
  |some x=>simp[hx]at hj;exact⟨x,rfl,hj.symm⟩
 have L8:obs.length=L.length:=by rw[<-q1];simp
 have hs:cX Γ ⟨rj 0 Ew,obs⟩ κ0 Θ0 {tmps:=args.toArray++Array.replicate (fn.ntmps-args.toArray.size) undef,defers:=[]} w:=by
  refine⟨rfl,?_,fun i hi=>?_,?_,?_,?_,?_,?_,?_,⟨rfl,rfl,rfl,bM _,fun _ _ _=>rfl⟩,⟨ρ0,?_,?_,?_⟩⟩
  ·simp[Γ];omega
  ·have hi:obs.length<=i:=hi;simp only[κ0];rw[bZ (by omega)];rfl
  ·intro id u hu;simp only[κ0]at hu;cases hx:L[id]? with
   |none=>simp[hx]at hu
   |some x=>simp[hx]at hu;subst hu;exact(q2 x (aE hx)).2.2.2.2
  ·intro t;rw[zm];simp only[qc,rW,uV];have IG:∀v,args[t]?=some v->(args.toArray++Array.replicate (fn.ntmps-args.toArray.size) undef).getD t undef=v:=by
    intro v hv;have hlt:=(aB.1 hv).1;rw[bU,eB (by simpa using hlt)];simp only[dW,hv,nQ]
   cases hd:Ew[t]? with
   |none=>exact⟨[],.of (.any _),by simp⟩
   |some x=>
    obtain⟨v,b',k1,k2,k3⟩:=hrd.at (i:=t) (d:=x) hd;rw[IG v k1];exact⟨b',.v k2,fun b hb'=>Fc b (hz b (hb0 b (k3 b hb')))⟩
  ·intro j o hj;obtain⟨x,hx,rfl⟩:=Gp j o hj;exact Fs.rel (q2 x (aE hx)) (QW j x hx) (fun b hb'=>Gy j x b hx hb') (fun b hb'=>L6 j x b hx hb') fun hs' b hb'=>Fc b (hz b (q6 x (aE hx) hs' b hb'))
  ·intro b hb';by_cases e:Θ0 b=Θ b
   ·exact hown b (by rw[<-e];exact hb')
   ·exact hown b (by have:=(hts b (sM b e)).1;omega)
  ·intro b hlt hx;refine⟨rfl,?_⟩;have e:Θ0 b=Θ b:=cS fun e=>hx (sM b e)
   rw[e];exact h1 b
  ·intro b hb';refine .inr (sM b fun e=>?_);have:=h1 b;omega
  ·intro b hb';cases IE:mm L b with
   |none=>simp[ρ0,IE]at hb'
   |some i=>
    obtain⟨x,hx,tT⟩:=nR IE;exact⟨L6 i x b hx tT,.inr (mF hx tT),(mw b (mF hx tT)).2⟩
  ·intro id e sz rows hj;obtain⟨x,hx,JC⟩:=Gp id _ hj;obtain⟨hsh,rfl,rfl,rfl⟩:=Fs.Cq JC.symm;have p4:=(q2 x (aE hx)).uq hsh;obtain⟨p1,p2,p3,_,_⟩:=q2 x (aE hx);exact⟨x.v,x.cs,x.ns,QW id x hx,p3,p4,zy hnd hx,fun b hb'=>by simp[ρ0,uc hnd hx hb']⟩
  ·intro id o hj;obtain⟨x,hx,JC⟩:=Gp id _ hj;subst JC;exact Fs.plain x
 refine wp_mono (h Gv Γ rfl _ _ _ _ hs) ?_;rintro x a' w' ⟨Cw,κ1,Θ1,hs0,Qi⟩;obtain⟨wY,hdf,hst,v,b2,t2,u2,hrun,hres,GJ,xx,om,ht'⟩:=Uf.out hs0 Qi;have post:a'.defers=[]/\∃v',(results fn a'.tmps).run P w'=.ok v' w'/\∃v b2 t2 u2,Ending.returned v'=.returned v/\w'.os=w.os/\w'.tape=w.tape/\w'.output=w.output/\w.heap.size<=w'.heap.size/\
  (∀b,b<w.heap.size->b∉L.flatMap Fs.ts->w'.heap[b]?=w.heap[b]?)/\
  tH w' v d b2 t2 u2/\(∀b∈b2,(b<w.heap.size->Θ b=0\/b∈L.flatMap Fs.ts)/\b∉t2)/\u2.Nodup/\
  (∀b∈u2,(w.heap.size<=b\/b∈L.flatMap Fs.bl)/\Wr w' b)/\∀b∈t2,b∈u2/\(w.heap.size<=b\/b∈L.flatMap Fs.ts):=by
  refine⟨hdf,v,hrun,v,b2,t2,u2,rfl,hst.os,hst.tape,hst.output,hst.size,fun b hlt hnt=>hst.block b hlt (fun hx=>hnt hx),hres,fun b hb'=>?_,xx,fun b hb'=>?_,fun b hb'=>?_⟩
  ·obtain⟨k1,k3⟩:=GJ b hb';refine⟨fun hlt=>?_,k3⟩;by_cases ht:b∈L.flatMap Fs.ts
   ·exact .inr ht
   ·refine .inl ?_;have:=k1 hlt (fun hx=>ht hx);have e:Θ0 b=Θ b:=cS fun e=>ht (sM b e)
    rw[<-e];exact this
  ·obtain⟨k1,k3⟩:=om b hb';refine⟨?_,k3⟩;rcases k1 with(k1|k1)|k1
   ·exact .inl k1
   ·exact .inr (vu k1)
   ·exact .inr k1
  ·obtain⟨k1,k2⟩:=ht' b hb';exact⟨k1,k2⟩
 rcases wY with rfl|rfl
 ·exact post
 ·exact post
theorem Jw{o:Oper}{f t:Nat}{xs:Array Operand}{ty:Array TypeId}{ds:aG}{d:D}{nz:List (List (Option (Nat×Nat)))}{ms qs:aI}
 (hop:o.op=.call {callee:=.value (.func f),args:=xs,argTypes:=ty}) (hd:o.dst=some t) (hg:o.guard=none) (ht:t<Γ.nt)
 (wY:sO st.H nz (xs.toList.map st.ev)=some (ds,ms,qs)) (DA:ms.Nodup) (Bh:qs.Nodup) (Nf:∀m∈qs,m∉ms) (jO:Hq P f ds d)
 (h:AO P Γ all rest Q ⟨(t,(je st.H.length d).1)::st.σ,kill st.H (ms++qs)++(je st.H.length d).2⟩):AO P Γ all (o::rest) Q st:=by
 intro κ Θ a w hs;have vi:=qT wY;obtain⟨ρ,hu⟩:=hs.mi;obtain⟨Θ1,ρ1,hs1,hu1,hm1,hz1,Jo⟩:=cX.zq ms hs hu DA (fun m hm=>by
  obtain⟨e,sz,rows,hH⟩:=vi.1 m hm;exact⟨_,e,sz,rows,hH,rfl⟩)
 have hq:∀m e sz rows,st.H[m]?=some (.row .uq e sz rows)->∃v cs ns,κ m=some v/\0<sz/\(∀r∈rows,r.length=sz)/\w.ownsRow 0 e sz v rows.length cs/\qG w (ol e) 0 cs rows.flatten ns/\ns.Nodup/\(∀b∈ns,ρ1 b=m+1)/\∀g,v.ownBlock=some g->Θ1 g=m+2:=by
  intro m e sz rows hH;have hnm:m∉ms:=fun hm=>by
   obtain⟨e',sz',cw,xD⟩:=vi.1 m hm;rw[hH]at xD;cases xD
  have EC:(kill st.H ms)[m]?=some (.row .uq e sz rows):=by rw[cj hnm];exact hH
  obtain⟨v,cs,ns,r1,r2,r3,r4,r5⟩:=hu1.rows m e sz rows EC;obtain⟨p1,p2,v2,_,_,p3,_,_,p4,_⟩:=hs1.ob m _ EC;rw[r1]at p3;cases p3;exact⟨v,cs,ns,r1,p1,p2,r2,r3,r4,r5,p4⟩
 have qx:∀m e sz rows,m∉ms->st.H[m]?=some (.row .sh e sz rows)->∃v cs ns,κ m=some v/\0<sz/\(∀r∈rows,r.length=sz)/\w.ownsRow 0 e sz v rows.length cs/\iT w cs rows.flatten ns/\(∀b∈ns,Θ1 b=0)/\∀g,v.ownBlock=some g->Θ1 g=m+2:=by
  intro m e sz rows hnm hH;obtain⟨p1,p2,v2,cs,ns,p3,p4,p5,p6,p7⟩:=hs1.ob m _ (show(kill st.H ms)[m]?=_ by rw[cj hnm];exact hH);exact⟨v2,cs,ns,p3,p1,p2,p4,p5,p7,p6⟩
 obtain⟨bs,ts,us,wX,tD⟩:=uI (w:=w) (vs:=xs.toList.map a.eval) (fun b hb=>(hu1.free b hb).1) hq qx hs.kC wY Nf Bh (by simp) (fun i d hd=>by
  rw[bS]at hd;cases hx:xs.toList[i]? with
  |none=>rw[hx]at hd;cases hd
  |some x=>
   rw[hx]at hd;simp only[bp,aS]at hd;subst hd;obtain⟨b,r,z⟩:=hs.ev x;exact⟨a.eval x,b,by rw[bS,hx];rfl,r,fun y hy=>hz1 y (z y hy)⟩) hm1
 let Θc:Nat->Nat:=fun b=>if Θ1 b=0 then 0 else 1
 have sM:∀b,Θc b=0↔Θ1 b=0:=fun b=>by simp only[Θc];split<;>simp_all
 have zi:∀b∈ts,∃m∈qs,Θ1 b=m+2:=fun b hb=>(tD.top b hb).1
 have Gw:D1 w fun b=>b∈ts:=by
  obtain⟨B,v1,v2⟩:=hs1.S3;refine⟨B,v1,fun b hB=>⟨(v2 b hB).2.1,fun hb'=>?_⟩⟩;have hm:rC Γ b:=by
   obtain⟨m,hm,hΘ⟩:=zi b hb';exact hs1.mine b (by omega)
  rcases hm with q|q
  ·have:=(v2 b hB).1;omega
  ·exact(v2 b hB).2.2 q
 have hwr:∀b∈us,Wr w b:=by
  intro b hb;rcases tD.mem b hb with h|⟨m,hm,hρ⟩
  ·exact AY wX b h
  ·exact(hu1.free b (by omega)).2.2
 have hc:=jO.2 w Θc (xs.toList.map a.eval) bs ts us Gw wX (fun b hb=>(sM b).2 (tD.zero b hb)) (fun b hb=>hs1.own b (fun e=>hb ((sM b).2 e))) (fun b=>by simp only[Θc];split<;>omega)
  (fun b hb=>by
   obtain⟨m,hm,hΘ⟩:=zi b hb;exact⟨by simp only[Θc];rw[ai (by omega)],(tD.top b hb).2⟩) tD.nd (fun b hb=>⟨fun hnt=>by
   rcases tD.mem b hb with h|⟨m,hm,hρ⟩
   ·exact absurd h hnt
   ·exact(sM b).2 (hu1.free b (by omega)).1,hwr b hb⟩)
 refine wpList_plain hg fun K hK=>?_
 unfold Oper.wp;rw[pL hop jO.1,Oper.upon_enter];have e0:xs.map a.eval=(xs.toList.map a.eval).toArray:=by
  rw[<-lM,ec]
 rw[e0];refine hc.mono ?_;rintro x w' ⟨v,b2,t2,u2,rfl,k1,k2,k3,k4,H8,R4,kb,Mx,ku,kt⟩;show K (a.put o.dst v) w';rw[hd];let N:=st.H.length
 have hs2:=hs1.forget qs;have Uw:(kill st.H ms).length=N:=dY _ _;simp only[Uw]at hs2;let Θ2:Nat->Nat:=fun b=>if qs.any (fun m=>Θ1 b==m+2)then N+2 else Θ1 b
 have hs2:cX Γ ⟨st.σ,kill (kill st.H ms) qs⟩ κ Θ2 a w:=hs2;have CO:∀b,Θ1 b=0->Θ2 b=0:=fun b hb=>by
  simp only[Θ2];rw[ai,hb];intro h;obtain⟨m,_,hm⟩:=cL.1 h;simp[hb]at hm
 have we:∀b,b∈ts->Θ2 b=N+2:=by
  intro b hb;simp only[Θ2];rw[av];obtain⟨m,hm,hΘ⟩:=zi b hb;exact cL.2 ⟨m,hm,by simp[hΘ]⟩
 have Mu:rY Γ (kill (kill st.H ms) qs) κ Θ2 w ρ1:=by
  refine⟨fun b hb=>?_,fun j e sz rows hj=>?_,fun j o hj=>?_⟩
  ·obtain⟨q1,q2⟩:=hu1.free b hb;exact⟨CO b q1,q2⟩
  ·rcases jf hj with h|⟨_,h⟩
   ·cases h
   ·exact hu1.rows j e sz rows h
  ·rcases jf hj with h|⟨_,h⟩
   ·subst h;trivial
   ·exact hu1.more j o h
 obtain⟨L,c1,c2,c3,c4,c6,c5⟩:=R4.inst N;subst c3;subst c4;have ED:∀x∈L,x.ok w':=c2;let κ':Nat->Option Value:=fun j=>if j<N then κ j else(L[j-N]?).map Fs.v
 let Θ':Nat->Nat:=fun b=>match BY L b with|some i=>N+i+2|none=>if Θ2 b=N+2 then 0 else Θ2 b
 let ρ':Nat->Nat:=fun b=>match mm L b with|some i=>N+i+1|none=>ρ1 b
 have EK:∀(i:Nat) x b,L[i]?=some x->x.v.ownBlock=some b->Θ' b=N+i+2:=by
  intro i x b hx hb;simp only[Θ',AF Mx hx hb]
 have sL:∀b,b∉L.flatMap Fs.ts->Θ' b=if Θ2 b=N+2 then 0 else Θ2 b:=by
  intro b h2;simp only[Θ',pq h2]
 have hzero:∀b,w.heap.size<=b->Θ2 b=0:=fun b hge=>by
  cases h:Θ2 b with
  |zero=>rfl
  |succ m=>exact absurd (hs2.own b (by omega)) (by omega)
 have JD:∀b∈b2,Θ' b=0:=by
  intro b hb;obtain⟨p1,p3⟩:=kb b hb;rw[sL b p3];by_cases hlt:b<w.heap.size
  ·rcases p1 hlt with h|h
   ·rw[CO b ((sM b).1 h)];simp
   ·rw[av (we b h)]
  ·rw[hzero b (by omega)];simp
 have L7:∀(i:Nat) x b,L[i]?=some x->b∈x.ns->Θ' b=0:=by
  intro i x b hx hb;have hmem:=mF hx hb;rw[sL b (ux Mx hx hb)];rcases(ku b hmem).1 with h|h
  ·rw[hzero b h];simp
  ·rcases tD.mem b h with h|⟨m,hm,hρ⟩
   ·rw[av (we b h)]
   ·rw[CO b (hu1.free b (by omega)).1];simp
 have hn:∀(j:Nat) v,κ j=some v->κ' j=some v:=by
  intro j v hj;have:j<N:=cS fun h=>by rw[hs.kQ j (by omega)]at hj;cases hj
  simp only[κ'];rw[av this];exact hj
 have oR:Names κ' N L:=by
  intro i x hx;simp only[κ'];rw[ai (by omega),cR,hx];rfl
 have L3:∀b∈L.flatMap Fs.ts,rC Γ b:=by
  intro b hb;rcases(kt b hb).2 with h|h
  ·exact .inl (dZ hs.base h)
  ·obtain⟨m,hm,hΘ⟩:=zi b h;exact hs1.mine b (by omega)
 have k:fD w w' Θ2 Θ' (N+2):=by
  refine⟨by omega,k1,k2,k3,k4,fun b hlt hne=>H8 b hlt (fun e=>hne (we b e)),fun b hlt hne=>?_,fun b hb=>?_⟩
  ·rw[sL b (fun e=>?_),ai hne];rcases(kt b e).2 with h|h
   ·omega
   ·exact hne (we b h)
  ·by_cases ht':b∈L.flatMap Fs.ts
   ·obtain⟨x,T,hx⟩:=(ku b (vu ht')).2;exact(aX.1 hx).1
   ·rw[sL b ht']at hb;split at hb
    ·exact absurd rfl hb
    ·exact cK (hs2.own b hb) k4
 have hm:∀b,2<=Θ' b->rC Γ b:=by
  intro b hb;by_cases ht':b∈L.flatMap Fs.ts
  ·exact L3 b ht'
  ·rw[sL b ht']at hb;split at hb
   ·omega
   ·exact hs2.mine b hb
 have mw:=hs2.jh k hn Mu;have yg:(kill st.H (ms++qs)).length=N:=by simp[dY,N]
 have key:∀(j:Nat) y,(kill st.H (ms++qs)++L.map Fs.ob)[j]?=some y->(∃i x,j=N+i/\L[i]?=some x/\y=x.ob)\/(j<N/\(y=.gone\/(kill (kill st.H ms) qs)[j]?=some y)):=by
  intro j y hj;by_cases hlt:j<N
  ·rw[aV (by rw[yg];exact hlt)]at hj;refine .inr ⟨hlt,?_⟩;rcases jf hj with h|⟨h3,h4⟩
   ·exact .inl h
   ·refine .inr ?_;simp only[aH,AV]at h3;rw[cj h3.2,cj h3.1];exact h4
  ·rw[aY (by omega),yg,bS]at hj;cases hx:L[j-N]? with
   |none=>simp[hx]at hj
   |some x=>simp[hx]at hj;exact .inl ⟨j-N,x,by omega,hx,hj.symm⟩
 have hs':cX Γ ⟨st.σ,kill st.H (ms++qs)++L.map Fs.ob⟩ κ' Θ' a w':=by
  have BN:∀(j:Nat) y,(kill (kill st.H ms) qs)[j]?=some y->y≠ .gone->∀b,ρ1 b=j+1->ρ' b=j+1:=by
   intro j y hy Vp b Qp;have hjk:j∉qs:=by
    rcases jf hy with h|h
    ·exact absurd h Vp
    ·exact h.1
   have hnb:mm L b=none:=by
    cases hi:mm L b with
    |none=>rfl
    |some i=>
     exfalso;obtain⟨x,hx,tT⟩:=nR hi;obtain⟨z0,_,Uk,XY,Qn⟩:=hu1.free b (by omega);rcases(ku b (mF hx tT)).1 with h|h
     ·have:=(aX.1 Qn).1;omega
     ·rcases tD.mem b h with h|⟨m,hm',hρ⟩
      ·obtain⟨m,hm',hΘ⟩:=zi b h;omega
      ·exact hjk (by
        have:j=m:=by omega
        rw[this];exact hm')
   simp only[ρ',hnb];exact Qp
  refine hs2.step k hm hn ?_ ?_ ?_ ⟨ρ',?_,?_,?_⟩
  ·intro i hi;simp only[af,yg,az]at hi;simp only[κ'];rw[ai (by omega),bZ (by omega)];rfl
  ·intro i u om;simp only[κ']at om;split at om
   ·exact hs.kC i u om
   ·cases hx:L[i-N]? with
    |none=>simp[hx]at om
    |some x=>simp[hx]at om;subst om;exact(ED x (aE hx)).2.2.2.2
  ·intro j y hj;rcases key j y hj with⟨i,x,rfl,hx,rfl⟩|⟨hjl,hy|hy⟩
   ·exact .inr (.inr (Fs.rel (ED x (aE hx)) (oR i x hx) (fun g' hg'=>EK i x g' hx hg') (fun b hb'=>L7 i x b hx hb') fun hs' b hb'=>JD b (c6 x (aE hx) hs' b hb')))
   ·exact .inl hy
   ·exact .inr (.inl ⟨by omega,hy⟩)
  ·intro b hb;cases D7:mm L b with
   |some i=>
    obtain⟨x,hx,tT⟩:=nR D7;have hmem:=mF hx tT;refine⟨L7 i x b hx tT,?_,(ku b hmem).2⟩;rcases(ku b hmem).1 with h|h
    ·exact .inl (.inl (dZ hs.base h))
    ·rcases tD.mem b h with h|⟨m,hm',hρ⟩
     ·obtain⟨m,hm',hΘ⟩:=zi b h;exact .inl (hs1.mine b (by omega))
     ·exact(hu1.free b (by omega)).2.1
   |none=>
    simp only[ρ',D7]at hb;exact mw.1 b hb
  ·intro j e sz rows hj;rcases key j _ hj with⟨i,x,rfl,hx,hy⟩|⟨hjl,hy|hy⟩
   ·obtain⟨hsh,rfl,rfl,rfl⟩:=Fs.Cq hy.symm;have q4:=(ED x (aE hx)).uq hsh;obtain⟨q1,q2,q3,_,_⟩:=ED x (aE hx);exact⟨x.v,x.cs,x.ns,oR i x hx,q3,q4,zy Mx hx,fun b hb'=>by simp only[ρ',uc Mx hx hb']⟩
   ·cases hy
   ·obtain⟨v',c',bs',r1,r2,r3,r4,r5⟩:=mw.2.1 j e sz rows (by omega) hy;exact⟨v',c',bs',r1,r2,r3,r4,fun b hb'=>BN j _ hy (by simp) b (r5 b hb')⟩
  ·intro j y hj;rcases key j _ hj with⟨i,x,rfl,hx,hy⟩|⟨hjl,hy|hy⟩
   ·subst hy;exact Fs.plain x
   ·subst hy;trivial
   ·by_cases hg:y=.gone
    ·subst hg;trivial
    ·exact(mw.2.2 j y (by omega) hy).re (BN j y hy hg)
 rw[<-c1]at h;obtain⟨b6,r6,s6⟩:=c5 κ' oR;refine hK _ _ (h _ _ _ _ (hs'.set (t:=t) ht r6 fun b hb=>JD b (s6 b hb)))
end
end Go.Cx
namespace Go.Cx
open Go.RowKit
def F1(P:Program)(f:FuncId)(e:TypeId)(sz:Nat)(rows cw:List aG):Prop:=
 (∃fn,P.funcs[f]?=some fn/\fn.body.isSome=true/\(fn.name== "runtime.NumGoroutine")=false)/\
 ∀(w:World) (v:Value) (cs:b9),0<sz->(∀r∈rows,r.length=sz)->w.ownsRow 0 e sz v rows.length cs->iT w cs rows.flatten []->
  Calls P f #[v] w (fun x w'=>x=.returned (.tuple #[])/\w'.os=w.os/\w'.tape=w.tape/\w'.output=w.output/\w.heap.size<=w'.heap.size/\
   (∀b,b<w.heap.size->v.ownBlock≠some b->w'.heap[b]?=w.heap[b]?)/\(∀r∈cw,r.length=sz)/\∃cs',w'.ownsRow 0 e sz v cw.length cs'/\iT w' cs' cw.flatten [])
section
variable{P:Program}{Γ:oK}{Q:Exit->St->Prop}{st:St}{κ:Nat->Option Value}{Θ:Nat->Nat}{a:Act}{w:World}{all:Array Oper}{rest:List Oper}
theorem Jy{o:Oper}{f id e sz:Nat}{x:Operand}{ts:Array TypeId}{k0:RK}{rows cw:List aG}(hop:o.op=.call {callee:=.value (.func f),args:= #[x],argTypes:=ts})(hd:∀t,o.dst=some t->t<Γ.nt)(hg:o.guard=none)
 (hx:st.ev x=.acc id) (hH:st.H[id]?=some (.row k0 e sz rows)) (hk0:k0.hand=true) (VB:Mj e=true) (hfl:rows.flatten.all D.flat=true) (jO:F1 P f e sz rows cw)
 (h:AO P Γ all rest Q (St.put ⟨st.σ,st.H.set id (.row k0 e sz cw)⟩ o.dst (.gj []))):AO P Γ all (o::rest) Q st:=by
 intro κ Θ a w hs;obtain⟨b1,r1,_⟩:=hs.ev x;rw[hx]at r1;obtain⟨hkv,_⟩:=r1.oL;obtain⟨hsz,hrl,v,cs,bs,hk1,hown,hrd,wZ,hz⟩:=hs.ob id _ hH;rw[hkv]at hk1;cases hk1;have vh:=hrd.flat hfl;subst vh;obtain⟨ρ,hu⟩:=hs.mi;refine wpList_plain hg fun K hK=>?_
 unfold Oper.wp;rw[pL hop jO.1,Oper.upon_enter];have e1:(#[x]:Array Operand).map a.eval= #[a.eval x]:=by simp
 rw[e1];refine(jO.2 w _ cs hsz hrl hown hrd).mono ?_;rintro e' w' ⟨rfl,k1,k2,k3,k4,k5,Bj,cs',zh,DC⟩;have kk:fD w w' Θ Θ (id+2):=⟨by omega,k1,k2,k3,k4,fun b hb ht=>k5 b hb fun e=>ht (wZ b e),fun _ _ _=>rfl,fun b hb=>cK (hs.own b hb) k4⟩
 have hs':cX Γ ⟨st.σ,st.H.set id (.row k0 e sz cw)⟩ κ Θ a w':=by
  refine hs.put [] rK (fun _ _ h=>h) (fun i hi=>hs.kQ i (by simpa using hi)) hs.kC kk hs.mine ?_ hu (by simp) ?_ ?_
  ·refine⟨hsz,Bj,_,cs',[],hkv,zh,DC,wZ,?_⟩;cases k0 with
   |cl=>simp[RK.hand]at hk0
   |mv n=>simp[RK.hand]at hk0
   |ho p n=>simp[RK.hand]at hk0
   |sh=>simp
   |uq=>simp
  ·intro e2 GN dV he;cases he;exact⟨_,cs',[],hkv,zh,.of DC (u7 (AG VB)),by simp,by simp⟩
  ·cases k0 with
   |mv n=>simp[RK.hand]at hk0
   |ho p n=>simp[RK.hand]at hk0
   |_=>rfl
 show K (a.put o.dst (.tuple #[])) w';refine hK _ _ (h κ Θ _ w' ?_);cases EF:o.dst with
 |none=>exact hs'
 |some t=>exact hs'.set (hd t EF) (.gj [] [] [] .nil) (by simp)
end
end Go.Cx
namespace Go.Cx
open Go.RowKit
inductive An where
 |b (v:Bool)
 |row (r:aG)
 |ix (i:Nat)
 |ch (x:UInt8)
 |cut (l h:Nat)
 |d (x:D)
 |fl (v:Bool)
 |n (k:Nat)
 |n2 (π ρ:aI) (k m:Nat) (L X:aI)
 |sk (id:Nat)
 |GM (t:Nat)
 |pb (id off e sz:Nat)
 |vw (t:Nat)
 |cn (K o:aI)
 |hl (m:Nat) (K o:aI)
 |mu (id:Nat) (rows:List aG)
 |dc (x:D)
 |gv (ms:aI) (outs:List Rw) (d:D)
 |mg (id i off:Nat) (r:aG)
 |ov (id:Nat) (rows:List aG)
 |kv (m:List (D×D))
 |gp (nz:List (List (Option (Nat×Nat)))) (cells:aG) (d:D)
 |dn (cells:aG)
 |fz
 |nl (x:D)
 |ds (x:D)
 |mz (id:Nat)
 |tk (r:aG)
 |gf (nz:List (List (Option (Nat×Nat)))) (d:D)
 |hd
abbrev uY:=List Prop
def qF:uY->Prop
 | []=>True
 |p::ps=>p/\qF ps
theorem qF.app{p q:uY}(h:qF (p++q)):qF p/\qF q:=by
 induction p with
 |nil=>exact⟨trivial,h⟩
 |cons x p ih=>exact⟨⟨h.1,(ih h.2).1⟩,(ih h.2).2⟩
def xy(P:Program)(st:St)(op:Op)(A:List An):Option (D×List An×uY):=match op with
 | .indexAddr t x i=>(match xJ P t,st.ev x,st.ev i,A with
  |some (_,sz),.sl rows,.int _ n,.row r::A=>some (.ep r 0,A,[0<=n/\rows[n.toNat]?=some r/\r.length=sz])
  |some (_,sz),.acc id,.int _ n,.ix k::A=>(match st.H[id]? with|some (.row _ _ sz' rows)=>some (.op id k sz 0,A,[sz=sz'/\n=(k:Int)/\k<rows.length])|_=>none)
  |_,.val (.pointer (some ⟨g,o,none⟩)),.int _ n,.ix k::A=>(match Re P t with|some (sz,len)=>some (.val (.pointer (some ⟨g,o+k*sz,none⟩)),A,[n=(k:Int)/\k<len])|none=>none)
  |_,_,_,_=>none)
 | .index t x i=>(match BC P t,st.ev x,st.ev i,A with
  |true,.str s,.int _ n,.ch c::A=>some (.int .u8 c.toNat,A,[0<=n/\s[n.toNat]?=some c])
  |_,_,_,_=>none)
 | .load t x=>(match st.ev x with
  | .op id i sz off=>(match sQ P t,st.H[id]?,A with
   |some false,some (.row (.ho p n) _ sz' _),.hd::A=>some (.acc n,A,[sz'=sz/\i*sz+off=p])
   |some ag,some (.row k _ sz' rows),.row r::A=>(match k with
    | .ho _ _=>none
    |_=>(match yH ag (rQ P t) r off with
     |some d=>some (d,A,[sz'=sz/\k.EZ=true/\rows[i]?=some r/\off+(bif ag then rQ P t else 1)<=sz])
     |none=>none))
   |_,_,_=>none)
  | .val (.pointer (some ⟨g,o,none⟩))=>(match sQ P t,A with
   |some false,.d d::A=>some (d,A,[Io g o=some d])
   |_,_=>none)
  |_=>(match pv P st op with|some d=>some (d,A,[])|none=>none))
 | .slice t x lo hi none=>(match st.ev x,A with
  | .str s,.cut l h::A=>(match BC P t with
   |true=>some (.str ((s.take h).drop l),A,[oH s.length (lo.map st.ev) (hi.map st.ev)=some (l,h)])
   |false=>none)
  | .sl rows,.cut l h::A=>(match xJ P t with
   |some (_,sz)=>some (.sl ((rows.take h).drop l),A,[oH rows.length (lo.map st.ev) (hi.map st.ev)=some (l,h)/\(rows.all fun r=>r.length==sz)=true])
   |none=>none)
  |_,_=>none)
 | .binOp op' t x y t'=>(match op',st.ev x,st.ev y with
  | .add,.str a,.str b=>some (.str (a++b),A,[a.length+b.length<=maxLen])
  | .quo,.int k a,.int k' b=>some (.int k (a/b),A,[k=k'/\0<=a/\0<b])
  | .rem,.int k a,.int k' b=>some (.int k (a%b),A,[k=k'/\0<=a/\0<b])
  |_,_,_=>(match pv P st op with|some d=>some (d,A,[])|none=>none))
 | .lookup T x i ok=>(match st.ev x,A with
  | .acc id,.d d::A=>(match st.H[id]? with
   |some (.mp kv)=>some (d,A,[WH P T kv (st.ev i) ok=some d])
   |_=>none)
  |_,_=>none)
 | .pick c a b=>(match st.ev c,A with
  | .bool t,.b v::A=>(match v with|true=>some (st.ev a,A,[t=true])|false=>some (st.ev b,A,[t=false]))
  |_,_=>none)
 |_=>(match pv P st op with|some d=>some (d,A,[])|none=>none)
theorem Il{P:Program}{st:St}{op:Op}{A A':List An}{d:D}{p:uY}(h:xy P st op A=some (d,A',p))(hp:qF p):pv P st op=some d:=by
 have plain:∀ {op},(match pv P st op with|some d=>some (d,A,([]:uY))|none=>none)=some (d,A',p)->pv P st op=some d:=by
  intro op h;split at h
  ·cases h;assumption
  ·cases h
 unfold xy at h;split at h
 ·rename_i t x i;split at h
  ·rename_i e sz rows kk n r A1 h1 h2 h3;cases h;obtain⟨⟨q1,q2,q3⟩,_⟩:=hp;simp only[pv,h1,h2,h3,q1,q2,kM,q3]
  ·rename_i e sz id kk n k A1 h1 h2 h3;split at h
   ·rename_i k' e' sz' rows hH;cases h;obtain⟨⟨rfl,rfl,q3⟩,_⟩:=hp;simp[pv,h1,h2,h3,hH,q3]
   ·cases h
  ·rename_i g o' kk n k A1 h2 h3;split at h
   ·rename_i sz len hT;cases h;obtain⟨⟨rfl,q3⟩,_⟩:=hp;simp[pv,h2,h3,hT,q3]
   ·cases h
  ·cases h
 ·rename_i t x i;split at h
  ·rename_i s kk n c A1 h1 h2 h3;cases h;obtain⟨⟨q1,q2⟩,_⟩:=hp;simp only[pv,h1,h2,h3,q1,q2,kM]
  ·cases h
 ·rename_i t x;split at h
  ·rename_i id i sz off h1;split at h
   ·rename_i p' n e sz' rows A1 h2 h3;cases h;obtain⟨⟨rfl,rfl⟩,_⟩:=hp;simp only[pv,h2,h1,h3,and_self,kM]
   ·rename_i ag k e sz' rows r A1 h2 h3;split at h
    ·cases h
    ·rename_i UR;split at h
     ·rename_i d' hd;cases h;obtain⟨⟨rfl,q2,q3,q4⟩,_⟩:=hp;cases k with
      |ho p n=>exact absurd rfl (UR p n)
      |_=>simp only[pv,h2,h1,h3,q3,q2,q4,rX,and_self,kM,hd]
     ·cases h
   ·cases h
  ·rename_i g o' h1;split at h
   ·rename_i d' A1 h2;cases h;simp only[pv,h2,h1];exact hp.1
   ·cases h
  ·exact plain h
 ·rename_i t x lo hi;split at h
  ·rename_i s l hh A1 h1;split at h
   ·rename_i h2;cases h;obtain⟨q1,_⟩:=hp;simp only[pv,h1,h2,q1,kM]
   ·cases h
  ·rename_i rows l hh A1 h1;split at h
   ·rename_i e sz h2;cases h;obtain⟨⟨q1,q2⟩,_⟩:=hp;simp only[pv,h1,h2,q1,q2,kM]
   ·cases h
  ·cases h
 ·rename_i op' t x y t';split at h
  ·rename_i a b h1 h2;cases h;obtain⟨q1,_⟩:=hp;simp only[pv,h1,h2,JR,q1,kM]
  ·rename_i k a k' b h1 h2;cases h;obtain⟨⟨rfl,q1,q2⟩,_⟩:=hp;simp only[pv,h1,h2,JR,q1,q2,kM,and_self]
  ·rename_i k a k' b h1 h2;cases h;obtain⟨⟨rfl,q1,q2⟩,_⟩:=hp;simp only[pv,h1,h2,JR,q1,q2,kM,and_self]
  ·exact plain h
 ·rename_i T x i ok;split at h
  ·rename_i id d' A1 h1;split at h
   ·rename_i kv hH;cases h;simp only[pv,h1,hH];exact hp.1
   ·cases h
  ·cases h
 ·split at h
  ·rename_i t v A1 h1;split at h
   ·cases h;obtain⟨rfl,_⟩:=hp;simp[pv,h1]
   ·cases h;obtain⟨rfl,_⟩:=hp;simp[pv,h1]
  ·cases h
 ·exact plain h
def bytesOf:List aG->Option Bytes
 | []=>some []
 |r::rs=>match r,bytesOf rs with
  | [.int .u8 n],some bs=>some (UInt8.ofNat n.toNat::bs)
  |_,_=>none
theorem FI:∀ {rows:List aG} {bs:Bytes},bytesOf rows=some bs->∃xs:bw,rows=xs.map (fun n=>[D.int .u8 n])/\bs=xs.map (fun n=>UInt8.ofNat n.toNat):=by
 intro rows
 induction rows with
 |nil=>intro bs h;cases h;exact⟨[],rfl,rfl⟩
 |cons r rs ih=>
  intro bs h;simp only[bytesOf]at h;split at h
  ·rename_i n bs' h1;cases h;obtain⟨xs,rfl,rfl⟩:=ih h1;exact⟨n::xs,rfl,rfl⟩
  ·cases h
theorem CG:∀(xs:bw),(xs.map (fun n=>[D.int .u8 n])).flatten=xs.map (fun n=>D.int .u8 n)
 | []=>rfl
 |n::xs=>by simp only[b8,dO,CG xs];rfl
def Tc(A:List An)(t:Nat):Option (List An):=match A with
 | .GM u::A=>if u=t then some A else none
 |_=>none
def Ug(H:ax)(d:D)(e sz:Nat):Option (List aG×Bool×aI):=match d with
 | .nil=>some ([],true,[])
 | .acc m=>(match H[m]? with
  |some (.row k e' sz' rows)=>(match k with| .cl=>none| .uq=>(if e'=e/\sz'=sz then some (rows,true,[m])else none)| .sh=>(if e'=e/\sz'=sz then some (rows,false,[m])else none)| .mv _=>none| .ho _ _=>none)
  |_=>none)
 |_=>none
def UM(H:ax)(d:D)(e sz:Nat)(A:List An):Option (List aG×Bool×aI×List An×uY):=match d,A with
 | .nil,A=>some ([],true,[],A,[])
 | .acc m,A=>(match H[m]? with
  |some (.row k e' sz' rows)=>(match k with| .cl=>none| .uq=>(if e'=e/\sz'=sz then some (rows,true,[m],A,[])else none)| .sh=>(if sz'=sz then some (rows,false,[m],A,[])else none)| .mv _=>none| .ho _ _=>none)
  |_=>none)
 | .sl rows,.fl f::A=>some (rows,f&&Mj e,[],A,[(∀r∈rows,r.length=sz)/\(f=true->D.fK rows=true)])
 |_,_=>none
def CV(st:St)(d:D):Option (Nat×Nat×List aG×Option Value):=match d with
 | .acc id=>(match st.H[id]? with|some (.pK sz rows u)=>some (id,sz,rows,u)|_=>none)
 |_=>none
theorem CW{st:St}{d:D}{id sz:Nat}{rows:List aG}{u:Option Value}(h:CV st d=some (id,sz,rows,u)):d=.acc id/\st.H[id]?=some (.pK sz rows u):=by
 unfold CV at h;split at h
 ·split at h
  ·rename_i hH;cases h;exact⟨rfl,hH⟩
  ·cases h
 ·cases h
def ES(st:St)(d:D):Option (Nat×Nat×Nat×Nat×List aG×Option Value):=match d with
 | .op id i sz off=>(match st.H[id]? with|some (.pK sz' rows u)=>if sz'=sz then some (id,i,off,sz,rows,u)else none|_=>none)
 |_=>none
theorem HB{st:St}{d:D}{id i off sz:Nat}{rows:List aG}{u:Option Value}(h:ES st d=some (id,i,off,sz,rows,u)):d=.op id i sz off/\st.H[id]?=some (.pK sz rows u):=by
 unfold ES at h;split at h
 ·split at h
  ·split at h
   ·rename_i hH he;subst he;cases h;exact⟨rfl,hH⟩
   ·cases h
  ·cases h
 ·cases h
def HE(H:ax)(A:List An):Option (ax×List An×uY):=match A with
 | .mg id i off r::A=>(match H[id]? with
  |some (.hole sz rows u p n)=>(match H[n]?,r[off]? with
   |some (.pK _ dV _),some _=>some ((H.set n .gone).set id (.pK sz (rows.set i (r.set off (.sl dV))) u),A,[rows[i]?=some r,p=i*sz+off])
   |_,_=>none)
  |_=>none)
 |A=>some (H,A,[])
def nM(n:Nat):aG->aG×ax
 | []=>([],[])
 |d::ds=>match d with
  | .sl rows=>(.acc n::(nM (n+1) ds).1,.tk rows::(nM (n+1) ds).2)
  |d=>(d::(nM n ds).1,(nM n ds).2)
def Cn(r:aG):Bool:=r.all fun d=>match d with| .sl _=>true|d=>d.flat
def yK(P:Program)(nt:Nat)(o:Oper)(st:St)(A:List An):Option (St×List An×uY):=match o.op,o.dst with
 | .box _ x,some t=>(if t<nt then match(st.ev x).cellsOf with|some ds=>some (⟨(t,.ptr st.H.length 0)::st.σ,st.H++[.box ds]⟩,A,[])|none=>none else none)
 | .alloc T,some t=>(if t<nt then match tz P T with|some ds=>some (⟨(t,.ptr st.H.length 0)::st.σ,st.H++[.box ds]⟩,A,[])|none=>none else none)
 | .store T x y,none=>(match st.ev x,(st.ev y).cellsOf with
  | .ptr id off,some ds=>(match st.H[id]? with
   |some ob=>(match ob.I5 with
    |some cells=>(if En P T=true/\ds.length=rQ P T/\off+ds.length<=cells.length/\ob.IR off=true then some (⟨st.σ,st.H.set id (ob.re (cells.take off++ds++cells.drop (off+ds.length)))⟩,A,[])else none)
    |none=>none)
   |none=>none)
  | .op id i sz off,some ds=>(match st.H[id]?,zA st.H ds,A with
   |some (.pK sz' rows u),_,.row r::A=>(if En P T=true/\ds.length=rQ P T/\0<ds.length/\sz'=sz/\off+ds.length<=sz/\ds.all D.flat=true then
    some (⟨st.σ,st.H.set id (.pK sz (rows.set i (r.take off++ds++r.drop (off+ds.length))) u)⟩,A,[rows[i]?=some r])else none)
   |some (.row k e sz' rows),some (es,ms),.row r::A=>(if En P T=true/\ds.length=rQ P T/\sz'=sz/\k.EZ=true/\off+ds.length<=sz/\ms.Nodup/\id∉ms then
    some (⟨st.σ,(kill st.H ms).set id (.row (k.after (Jd st.H e off ds&&Kh e sz)) e sz (rows.set i (r.take off++es++r.drop (off+ds.length))))⟩,A,[rows[i]?=some r])else none)
   |_,_,_=>none)
  |_,_=>none)
 | .makeMap _ none,some t=>(if t<nt then some (⟨(t,.acc st.H.length)::st.σ,st.H++[.mp []]⟩,A,[])else none)
 | .mapUpdate T x i y,none=>(match Mf P T,st.ev x,A with
  |some (kd,_),.acc id,.kv m::A=>(match st.H[id]? with
   |some (.mp kv)=>(if B3 kd (st.ev i)=true/\(st.ev y).scalar=true then some (⟨st.σ,st.H.set id (.mp m)⟩,A,[Da (st.ev i) (st.ev y) kv=some m])else none)
   |_=>none)
  |_,_,_=>none)
 | .makeSlice T x y,some t=>(match xJ P T,st.ev x,st.ev y with
  |some (e,sz),.int _ n,.int _ n'=>(match tz P e with
   |some zs=>(if t<nt/\0<sz then some (⟨(t,.acc st.H.length)::st.σ,st.H++[.row (pg (Mj e)) e sz (List.replicate n.toNat (zs.map D.uJ))]⟩,A,[n'=n/\0<=n/\Mc P e*n.toNat<=281474976710656/\n.toNat<=4611686018427387904])else none)
   |none=>none)
  |_,_,_=>none)
 | .buildSlice T len parts,some t=>(match xJ P T with
  |some (e,sz)=>(match tz P e with
   |some zs=>(match qS (mX len sz) (List.replicate len zs).flatten (parts.toList.map fun p=>(p.1,st.ev p.2))with
    |some ds=>(match zA st.H ds with
     |some (es,ms)=>(if t<nt/\0<sz/\len*sz<=16777216/\ms.Nodup then some (⟨(t,.acc st.H.length)::st.σ,kill st.H ms++[.row (pg (Jd st.H e 0 ds)) e sz (chunk sz len es)]⟩,A,[])else none)
     |none=>none)
    |none=>none)
   |none=>none)
  |none=>none)
 | .call c,some t=>(match c.callee,c.args.toList,c.argTypes.toList with
  | .builtin .append,[s,x],[T,T']=>(match xJ P T with
   |some (e,sz)=>(match tz P e,Ug st.H (st.ev s) e sz,UM st.H (st.ev x) e sz A with
    |some _,some (rows,u1,k1),some (dV,u2,k2,A,ow)=>(if t<nt/\0<sz/\T'=T/\(k1++k2).Nodup then
     some (⟨(t,.acc st.H.length)::st.σ,kill st.H (k1++k2)++[.row (pg ((u1&&u2)&&Kh e sz)) e sz (rows++dV)]⟩,A,(rows.length+dV.length<=maxLen/\(rows.length+dV.length)*Mc P e<=140737488355328)::ow)else none)
    |_,_,_=>none)
   |none=>none)
  | .builtin .len,[x],[T]=>(match CV st (st.ev x)with
   |some (_,_,rows,_)=>(if t<nt/\(xJ P T).isSome=true then some (⟨(t,.int .i64 rows.length)::st.σ,st.H⟩,A,[])else none)
   |none=>(if t<nt then match xy P st o.op A with|some (d,A,ow)=>some (⟨(t,d)::st.σ,st.H⟩,A,ow)|none=>none else none))
  | .value (.func f),xs,_=>(match yA st.H (xs.map st.ev),A with
   |_,.gv ms outs d::A=>(match CU st.H ms with
    |some ins=>(if t<nt/\ms.Nodup/\((xs.map st.ev).all D.bare)=true then
     (match HE (Ec st.H ms outs) A with
     |some (H',A',ow)=>some (⟨(t,d)::st.σ,H'⟩,A',Of P f ((xs.map st.ev).map (D.IZ ms)) ins outs d::ow)
     |none=>none)else none)
    |none=>none)
   |_,.gp nz cells' d::A=>(match xs with
    |x0::xr=>(match st.ev x0 with
     | .ptr id 0=>(match st.H[id]? with
      |some ob=>(match ob.I5 with
       |some Ac=>(match sO st.H nz (.agg Ac::xr.map st.ev)with
        |some (.agg cells::ds,ms,qs)=>(if t<nt/\ms.Nodup/\qs.Nodup/\(∀m∈qs,m∉ms)then
         some (⟨(t,(je (st.H.length+(jP st.H.length cells').2.length) d).1)::st.σ,(kill st.H (ms++qs)).set id (ob.re (jP st.H.length cells').1)++((jP st.H.length cells').2++(je (st.H.length+(jP st.H.length cells').2.length) d).2)⟩,A,[iR P f cells cells' ds d])else none)
        |_=>none)
       |none=>none)
      |none=>none)
     |_=>none)
    | []=>none)
   |some (ds,ms),.dn cells::A=>(if t<nt/\ms=[]then some (⟨(t,.ptr st.H.length 0)::st.σ,st.H++[.box cells]⟩,A,[z8 P f ds cells])else none)
   |some (ds,_),.dc d::A=>(if t<nt/\d.Ci=true then some (⟨(t,(je st.H.length d).1)::st.σ,st.H++(je st.H.length d).2.map Ob.close⟩,A,[Good P f ds d])else none)
   |_,.ov id cw::A=>(match st.H[id]? with
    |some (.row .uq e sz rows)=>(if t<nt/\((xs.map st.ev).all D.bare)=true/\Mj e=true then some (⟨(t,.acc st.H.length)::st.σ,kill st.H [id]++[.row .uq e sz cw]⟩,A,[rows.flatten.all D.flat=true,Oe P f ((xs.map st.ev).map (D.IZ [id])) e sz rows cw])else none)
    |_=>none)
   |_,.mu id cw::A=>(match xs,st.H[id]? with
    | [x],some (.row k e sz rows)=>(match st.ev x with
     | .acc id'=>(if t<nt/\id'=id/\k.hand=true/\Mj e=true then some (⟨(t,.gj [])::st.σ,st.H.set id (.row k e sz cw)⟩,A,[rows.flatten.all D.flat=true,F1 P f e sz rows cw])else none)
     |_=>none)
    |_,_=>none)
   |some (ds,ms),.d d::A=>(if t<nt/\(ms=[]\/d.Ci=true)then some (⟨(t,(je st.H.length d).1)::st.σ,st.H++(je st.H.length d).2⟩,A,[Good P f ds d])else none)
   |_,.nl d::A=>(if t<nt/\(xs.map st.ev).all BP=true then some (⟨(t,(je st.H.length d).1)::st.σ,st.H++(je st.H.length d).2⟩,A,[Good P f (xs.map st.ev) d])else none)
   |_,.gf nz d::A=>(match sO st.H nz (xs.map st.ev)with
    |some (ds,ms,qs)=>(if t<nt/\ms.Nodup/\qs.Nodup/\(∀m∈qs,m∉ms)then some (⟨(t,(je st.H.length d).1)::st.σ,kill st.H (ms++qs)++(je st.H.length d).2⟩,A,[Hq P f ds d])else none)
    |none=>none)
   |_,_=>none)
  |_,_,_=>(if t<nt then match xy P st o.op A with|some (d,A,ow)=>some (⟨(t,d)::st.σ,st.H⟩,A,ow)|none=>none else none))
 | .convert s d x,some t=>(match st.ev x with
  | .acc id=>(match st.H[id]?,xJ P s with
   |some (.row _ _ _ rows),some (e,sz)=>(match bytesOf rows with
    |some bs=>(if t<nt/\sz=1/\HX P e=some .u8/\BC P d=true then some (⟨(t,.str bs)::st.σ,st.H⟩,A,[])else none)
    |none=>none)
   |_,_=>none)
  |_=>(if t<nt then match xy P st o.op A with|some (d,A,ow)=>some (⟨(t,d)::st.σ,st.H⟩,A,ow)|none=>none else none))
 | .assign x,some t=>(match Tc A t with
  |some A=>(match st.ev x,xJ P o.type with
   | .nil,some (e,sz)=>(if t<nt/\0<sz then some (⟨(t,.acc st.H.length)::st.σ,st.H++[.row .uq e sz []]⟩,A,[])else none)
   |_,_=>none)
  |none=>(if t<nt then some (⟨(t,st.ev x)::st.σ,st.H⟩,A,[])else none))
 | .slice T x none (some hi) none,some t=>(match st.ev x with
  | .acc id=>(match st.H[id]?,xJ P T,st.ev hi,A with
   |some (.row .uq e sz rows),some (_,sz'),.int _ n,.cut 0 h::A=>(if t<nt/\sz'=sz then some (⟨(t,.acc st.H.length)::st.σ,kill st.H [id]++[.row .uq e sz (rows.take h)]⟩,A,[n=((h:Nat):Int)/\h<=rows.length])else none)
   |_,_,_,_=>none)
  |_=>(if t<nt then match xy P st o.op A with|some (d,A,ow)=>some (⟨(t,d)::st.σ,st.H⟩,A,ow)|none=>none else none))
 | .slice T (.tmp s) (some lo) none none,some t=>(match A,lk st.σ s with
  | .fz::A,.acc id=>(match st.H[id]? with
   |some (.row k e sz rows)=>(if t<nt/\k.EZ=true then match xy P ⟨(s,.sl rows)::st.σ,st.H.set id .gone⟩ o.op A with|some (d,A,ow)=>some (⟨(t,d)::(s,.sl rows)::st.σ,st.H.set id .gone⟩,A,ow)|none=>none else none)
   |_=>none)
  |_,_=>(if t<nt then match xy P st o.op A with|some (d,A,ow)=>some (⟨(t,d)::st.σ,st.H⟩,A,ow)|none=>none else none))
 | .indexAddr T x i,some t=>(match CV st (st.ev x)with
  |some (id,sz,rows,_)=>(match xJ P T,st.ev i,A with
   |some (_,sz'),.int _ n,.ix m::A=>(if t<nt/\sz'=sz then some (⟨(t,.op id m sz 0)::st.σ,st.H⟩,A,[n=(m:Int)/\m<rows.length])else none)
   |_,_,_=>none)
  |none=>(if t<nt then match xy P st o.op A with|some (d,A,ow)=>some (⟨(t,d)::st.σ,st.H⟩,A,ow)|none=>none else none))
 | .load T x,some t=>(match ES st (st.ev x)with
  |some (id,i,off,sz,rows,u)=>(match sQ P T,A with
   |some false,.row r::A=>(match r[off]? with
    |some (.sl dV)=>(match xJ P T with
     |some (_,GN)=>(if t<nt then some (⟨(t,.acc st.H.length)::st.σ,st.H.set id (.hole sz (rows.set i (r.set off .any)) u (i*sz+off) st.H.length)++[.pK GN dV none]⟩,A,[rows[i]?=some r,∀q∈dV,q.length=GN])else none)
     |none=>none)
    |some d=>(if t<nt/\d.flat=true then some (⟨(t,d)::st.σ,st.H⟩,A,[rows[i]?=some r])else none)
    |none=>none)
   |_,_=>none)
  |none=>(match A,st.ev x with
   | .tk r::A,.op id i sz 0=>(match st.H[id]? with
    |some (.row (.mv n) e sz' rows)=>(if t<nt/\sz'=sz/\sQ P T=some true/\rQ P T=sz then
     some (⟨(t,.agg (nM st.H.length r).1)::st.σ,st.H.set id (.row (.mv (n+1)) e sz rows)++(nM st.H.length r).2⟩,A,[i=n/\rows[n]?=some r/\Cn r=true])else none)
    |_=>none)
   |A,_=>(if t<nt then match xy P st o.op A with|some (d,A,ow)=>some (⟨(t,d)::st.σ,st.H⟩,A,ow)|none=>none else none)))
 |op,some t=>(if t<nt then match xy P st op A with|some (d,A,ow)=>some (⟨(t,d)::st.σ,st.H⟩,A,ow)|none=>none else none)
 |_,none=>none
section
variable{P:Program}{Γ:oK}{Q:Exit->St->Prop}{st:St}{all:Array Oper}{rest:List Oper}
theorem cX.Lu{κ:Nat->Option Value}{Θ:Nat->Nat}{a:Act}{w:World}(hs:cX Γ st κ Θ a w)(e sz:Nat)(hsz:0<sz):cX Γ ⟨st.σ,st.H++[.row .uq e sz []]⟩ (qY κ st.H.length (some (.slice none 0 0))) Θ a w:=by
 obtain⟨ρ,hu⟩:=hs.mi;refine hs.put [] uG (qD (hs.kQ _ (bM _)) _) ?_ ?_ (fD.refl hs.own (by omega)) hs.mine ?_ hu (by simp) ?_
 ·intro i hi;simp only[af,aO,bH]at hi;unfold qY;rw[ai (by omega)];exact hs.kQ i (by omega)
 ·intro i x hx;unfold qY at hx;split at hx
  ·cases hx;rfl
  ·exact hs.kC i x hx
 ·exact⟨hsz,by simp,_,[],[],iB _ _ _,World.ownsRow_nil w 0 e sz,.nil,by simp[Value.ownBlock],by simp⟩
 ·intro e' sz' cw he;simp only[Ob.row.injEq,rX]at he;obtain⟨rfl,rfl,rfl⟩:=he;exact⟨_,[],[],iB _ _ _,World.ownsRow_nil w 0 e sz,.nil _,by simp,by simp⟩
theorem Q8{o:Oper}{x:Operand}{t e sz:Nat}(hop:o.op=.assign x)(hd:o.dst=some t)(hg:o.guard=none)(ht:t<Γ.nt)(hx:st.ev x=.nil)(hsz:0<sz)
 (h:AO P Γ all rest Q ⟨(t,.acc st.H.length)::st.σ,st.H++[.row .uq e sz []]⟩):AO P Γ all (o::rest) Q st:=by
 intro κ Θ a w hs;obtain⟨bs,r,_⟩:=hs.ev x;rw[hx]at r;have hv:=r.zx;have hp:pv P st o.op=some .nil:=by rw[hop];simp[pv,hx]
 obtain⟨v,b2,hrun,hrd,hz⟩:=wq hs hp;have GL:=hrd.zx;subst GL;refine wpList_plain hg fun K hK=>?_
 unfold Oper.wp;rw[hrun,Oper.upon_value,hd];refine hK _ _ (h _ _ _ _ ((hs.Lu e sz hsz).set (t:=t) (d:=.acc st.H.length) (bs:=[]) ht ?_ (by simp)));exact(rD.acc st.H.length _ (iB _ _ _)).Dj
theorem dQ.Rb{κ:Nat->Option Value}{w:World}{n:Nat}(hk:κ n=some (.slice none 0 0)):∀ {vs:b9} {ds:aG} {bs:aI},dQ w κ vs ds bs->∀ {off:Nat},ds[off]?=some .nil->∃bs',dQ w κ vs (ds.set off (.acc n)) bs'/\∀b∈bs',b∈bs:=by
 intro vs ds bs h
 induction h with
 |nil=>intro off h;simp at h
 |cons v vs d ds b1 b2 h1 h2 h3 ih=>
  intro off h;cases off with
  |zero=>
   simp only[tW,aS]at h;subst h;have hv:v=.slice none 0 0:=by
    cases h2 with
    |pure h2=>cases h2;rfl
   subst hv;exact⟨[]++b2,.cons _ _ _ _ _ _ h1 (.acc n _ hk) h3,fun b hb=>by simp at hb;simp[hb]⟩
  |succ off=>
   obtain⟨bs',q1,q2⟩:=ih (off:=off) (by simpa using h);exact⟨b1++bs',.cons _ _ _ _ _ _ h1 h2 q1,fun b hb=>by
    rcases aH.1 hb with hb|hb
    ·exact aH.2 (.inl hb)
    ·exact aH.2 (.inr (q2 b hb))⟩
def St.prom(st:St)(id off e sz:Nat):Option St:=match st.H[id]? with
 |some (.box cells)=>(match cells[off]? with
  |some .nil=>(if 0<sz then some ⟨st.σ,(st.H++[Ob.row .uq e sz []]).set id (Ob.box (cells.set off (.acc st.H.length)))⟩else none)
  |_=>none)
 |_=>none
theorem cX.prom{κ:Nat->Option Value}{Θ:Nat->Nat}{a:Act}{w:World}{mh:St}{id off e sz:Nat}(hs:cX Γ st κ Θ a w)(h:st.prom id off e sz=some mh):∃κ',cX Γ mh κ' Θ a w:=by
 unfold St.prom at h;split at h
 ·rename_i cells hH;split at h
  ·rename_i hc;split at h
   ·rename_i hsz;cases h;have hlt:id<st.H.length:=(aB.1 hH).1;have hs1:=hs.Lu e sz hsz;refine⟨_,hs1.defers,hs1.size,fun i hi=>hs1.kQ i (by simpa using hi),hs1.kC,hs1.slot,?_,hs1.own,hs1.old,hs1.mine,hs1.stays,?_⟩
    ·intro j y hj;simp only[eR]at hj;split at hj
     ·rename_i e1;subst e1;split at hj
      ·cases hj;obtain⟨g,cs,T,q1,q2,q3,bs,q4,q5⟩:=hs1.ob id (.box cells) (by simpa[aV hlt]using hH);obtain⟨bs',p1,p2⟩:=dQ.Rb (n:=st.H.length) (iB _ _ _) q4 hc;exact⟨g,cs,T,q1,q2,q3,bs',p1,fun b hb=>q5 b (p2 b hb)⟩
      ·cases hj
     ·exact hs1.ob j y hj
    ·obtain⟨ρ,hu⟩:=hs1.mi;refine⟨ρ,hu.free,fun i e' sz' rows hi=>hu.rows i e' sz' rows ?_,fun i o hi=>?_⟩
     ·simp only[eR]at hi;split at hi
      ·split at hi<;>cases hi
      ·exact hi
     ·simp only[eR]at hi;split at hi
      ·split at hi
       ·cases hi;trivial
       ·cases hi
      ·exact hu.more i o hi
   ·cases h
  ·cases h
 ·cases h
theorem cX.Tx{κ:Nat->Option Value}{Θ:Nat->Nat}{a:Act}{w:World}{id e sz:Nat}{rows:List aG}(hs:cX Γ st κ Θ a w)(hH:st.H[id]?=some (.row .uq e sz rows)):cX Γ ⟨st.σ,st.H.set id (.row .sh e sz rows)⟩ κ Θ a w:=by
 have hlt:id<st.H.length:=(aB.1 hH).1;refine⟨hs.defers,hs.size,fun i hi=>hs.kQ i (by simpa using hi),hs.kC,hs.slot,?_,hs.own,hs.old,hs.mine,hs.stays,?_⟩
 ·intro j y hj;simp only[eR,hlt,kM]at hj;split at hj
  ·rename_i e1;subst e1;cases hj;exact(show oU w κ Θ id (.row .uq e sz rows)from hs.ob id _ hH)
  ·exact hs.ob j y hj
 ·obtain⟨ρ,hu⟩:=hs.mi;refine⟨ρ,hu.free,fun i e' sz' cw hi=>hu.rows i e' sz' cw ?_,fun i o hi=>?_⟩
  ·simp only[eR,hlt,kM]at hi;split at hi
   ·cases hi
   ·exact hi
  ·simp only[eR,hlt,kM]at hi;split at hi
   ·cases hi;trivial
   ·exact hu.more i o hi
theorem cX.YZ{κ:Nat->Option Value}{Θ:Nat->Nat}{a:Act}{w:World}{id e sz:Nat}{rows:List aG}(hs:cX Γ st κ Θ a w)(hH:st.H[id]?=some (.row .uq e sz rows)):cX Γ ⟨st.σ,st.H.set id (.row (.mv 0) e sz rows)⟩ κ Θ a w:=by
 have hlt:id<st.H.length:=(aB.1 hH).1;refine⟨hs.defers,hs.size,fun i hi=>hs.kQ i (by simpa using hi),hs.kC,hs.slot,?_,hs.own,hs.old,hs.mine,hs.stays,?_⟩
 ·intro j y hj;simp only[eR,hlt,kM]at hj;split at hj
  ·rename_i e1;subst e1;cases hj;exact(show oU w κ Θ id (.row .uq e sz rows)from hs.ob id _ hH)
  ·exact hs.ob j y hj
 ·obtain⟨ρ,hu⟩:=hs.mi;refine⟨ρ,hu.free,fun i e' sz' cw hi=>hu.rows i e' sz' cw ?_,fun i o hi=>?_⟩
  ·simp only[eR,hlt,kM]at hi;split at hi
   ·cases hi
   ·exact hi
  ·simp only[eR,hlt,kM]at hi;split at hi
   ·rename_i e1;subst e1;cases hi;obtain⟨v,cs,bs,q1,q2,q3,q4,q5⟩:=hu.rows id e sz rows hH;exact⟨v,cs,bs,q1,q2,by simpa using q3.rd,q4,q5⟩
   ·exact hu.more i o hi
def shares:List An->St->St×List An
 | .sk id::A,st=>(match st.H[id]? with
  |some (.row .uq e sz rows)=>shares A ⟨st.σ,st.H.set id (.row .sh e sz rows)⟩
  |_=>(st,.sk id::A))
 | .mz id::A,st=>(match st.H[id]? with
  |some (.row .uq e sz rows)=>shares A ⟨st.σ,st.H.set id (.row (.mv 0) e sz rows)⟩
  |_=>(st,.mz id::A))
 |A,st=>(st,A)
theorem cX.shares{κ:Nat->Option Value}{Θ:Nat->Nat}{a:Act}{w:World}:∀ {A A1:List An} {st qC:St},cX Γ st κ Θ a w->shares A st=(qC,A1)->cX Γ qC κ Θ a w:=by
 intro A
 induction A with
 |nil=>intro A1 st qC hs h;simp only[Cx.shares,bq]at h;obtain⟨rfl,_⟩:=h;exact hs
 |cons x A ih=>
  intro A1 st qC hs h;cases x
  case sk id=>
   simp only[Cx.shares]at h;split at h
   ·rename_i e sz rows hH;exact ih (hs.Tx hH) h
   ·simp only[bq]at h;obtain⟨rfl,_⟩:=h;exact hs
  case mz id=>
   simp only[Cx.shares]at h;split at h
   ·rename_i e sz rows hH;exact ih (hs.YZ hH) h
   ·simp only[bq]at h;obtain⟨rfl,_⟩:=h;exact hs
  all_goals(simp only[Cx.shares,bq]at h;obtain⟨rfl,_⟩:=h;exact hs)
theorem NA{o:Oper}{s d:TypeId}{x:Operand}{t id e e' sz':Nat}{k:RK}{rows:List aG}{bs:Bytes}(hop:o.op=.convert s d x)(hd:o.dst=some t)(hg:o.guard=none)(ht:t<Γ.nt)(hx:st.ev x=.acc id)
 (hH:st.H[id]?=some (.row k e' sz' rows)) (hT:xJ P s=some (e,1)) (he:HX P e=some .u8) (hs':BC P d=true) (hb:bytesOf rows=some bs) (h:AO P Γ all rest Q ⟨(t,.str bs)::st.σ,st.H⟩):AO P Γ all (o::rest) Q st:=by
 intro κ Θ a w hs;obtain⟨b0,r,_⟩:=hs.ev x;rw[hx]at r;obtain⟨hk,_⟩:=r.oL;obtain⟨hsz,hrl,v,cs,b1,hk2,hown,hrs,_,_⟩:=hs.ob id _ hH;rw[hk]at hk2;cases hk2;obtain⟨xs,rfl,rfl⟩:=FI hb;obtain⟨hu,_,_⟩:=kD hT;have X1:P.underlying e=some (.int .u8):=by
  unfold HX at he;split at he
  ·rename_i k' hk';cases he;exact hk'
  ·cases he
 have X0:=pu hs';have hfl:(xs.map (fun n=>[D.int .u8 n])).flatten=xs.map (fun n=>D.int .u8 n):=CG xs;rw[hfl]at hrs;have hcs:∀(xs:bw) (cs:b9) (b:aI),iT w cs (xs.map (fun n=>D.int .u8 n)) b->cs=xs.map (Value.int .u8):=by
  intro xs
  induction xs with
  |nil=>intro cs b h;cases h;rfl
  |cons n xs ih=>
   intro cs b h;cases h with
   |cons v vs _ _ b1 b2 _ h2 h3=>
    cases h2;rw[ih _ _ h3];rfl
 have hce:=hcs xs cs b1 hrs;have hlen:xs.length<=maxLen:=by
  rcases hown.2 with⟨_,hn⟩|⟨g,cap,cur,_,_,_,hnc,hcm,_⟩
  ·simp at hn;rw[hn];simp
  ·simp at hnc;omega
 have hrun:(convert s d (a.eval x)).run P w=.ok (.string (strOfNums xs)) w:=by
  rcases hown.2 with⟨hv,hn⟩|⟨g,cap,cur,hv,_,hg,hnc,hcm,_,_⟩
  ·have hx0:xs=[]:=by simpa using hn
   subst hx0;rw[hv,run_convert_bytes_nil w s e hu X1 0 0 d X0];rfl
  ·rw[hv];have hcell:=hown.cells (g:=g) (by rw[hv];simp[Value.ownBlock]);refine run_convert_bytes_arg w s e hu X1 g 0 _ cap xs (by simp) (fun i hi=>?_) d X0;have hi':i<xs.length:=by simpa using hi
   have:=hcell i (.int .u8 (xs.getD i 0)) (by rw[hce];simp[List.getD,aR hi']);simpa[Addr.add_lit]using this
 refine wpList_plain hg fun K hK=>?_
 unfold Oper.wp;have FZ:(execOp a.eval o).run P w=.ok (.value (.string (strOfNums xs))) w:=by
  simp only[execOp,hop];simp[hrun]
 rw[FZ,Oper.upon_value,hd];refine hK _ _ (h _ _ _ _ (hs.set (t:=t) (bs:=[]) ht ?_ (by simp)));have Sr:(strOfNums xs).data.toList=xs.map (fun n=>UInt8.ofNat n.toNat):=by simp[strOfNums]
 have YP:(strOfNums xs).size<=maxLen:=by
  have:(strOfNums xs).size=xs.length:=by
   have:=congrArg List.length Sr;simpa using this
  omega
 have:=Rd.str (w:=w) (strOfNums xs) YP;rw[Sr]at this;exact .of this
theorem Q4{o:Oper}{t:Nat}{s x:Operand}{T e sz:Nat}{zs:aG}{rows dV:List aG}{u1 u2:Bool}{k1 k2:aI}{A A':List An}{ow:uY}
 (hop:o.op=.call {callee:=.builtin .append,args:= #[s,x],argTypes:= #[T,T]}) (hd:o.dst=some t) (hg:o.guard=none) (ht:t<Γ.nt) (hT:xJ P T=some (e,sz)) (hz:tz P e=some zs) (hsz:0<sz)
 (hS:Ug st.H (st.ev s) e sz=some (rows,u1,k1)) (hX:UM st.H (st.ev x) e sz A=some (dV,u2,k2,A',ow)) (how:qF ow) (hnd:(k1++k2).Nodup)
 (h63:rows.length+dV.length<=maxLen) (hby:(rows.length+dV.length)*Mc P e<=140737488355328)
 (h:AO P Γ all rest Q ⟨(t,.acc st.H.length)::st.σ,kill st.H (k1++k2)++[.row (pg ((u1&&u2)&&Kh e sz)) e sz (rows++dV)]⟩):AO P Γ all (o::rest) Q st:=by
 refine Ir hop hd hg ht hT hz hsz h63 hby ?_ h;intro κ Θ a w ρ hs hu;have one:∃i1 b1 c1,KC w Θ ρ e sz (a.eval s) rows u1 i1 b1 c1/\((k1=[]/\i1=st.H.length)\/k1=[i1]):=by
  obtain⟨bs,r,_⟩:=hs.ev s;unfold Ug at hS;split at hS
  ·rename_i yu;cases hS;rw[yu]at r;have:=r.zx;rw[this];exact⟨st.H.length,[],[],KL,.inl ⟨rfl,rfl⟩⟩
  ·rename_i m yu;rw[yu]at r;obtain⟨hk,_⟩:=r.oL;split at hS
   ·rename_i k e' sz' cw hH;split at hS
    ·cases hS
    ·split at hS
     ·rename_i hc;obtain⟨rfl,rfl⟩:=hc;cases hS;obtain⟨b1,c1,hA⟩:=zB hs hu hk hH rfl;exact⟨m,b1,c1,hA,.inr rfl⟩
     ·cases hS
    ·split at hS
     ·rename_i hc;obtain⟨rfl,rfl⟩:=hc;cases hS;obtain⟨b1,c1,hA⟩:=zB hs hu hk hH rfl;exact⟨m,b1,c1,hA,.inr rfl⟩
     ·cases hS
    ·cases hS
    ·cases hS
   ·cases hS
  ·cases hS
 have two:∃i2 b2 c2,Dw w Θ ρ e sz (a.eval x) dV u2 i2 b2 c2/\(u2=true->b2=[]\/i2∈k2):=by
  obtain⟨bs,r,hz⟩:=hs.ev x;unfold UM at hX;split at hX
  ·rename_i A1 yu;cases hX;rw[yu]at r;have:=r.zx;rw[this];exact⟨0,[],[],KM,fun _=>.inl rfl⟩
  ·rename_i A1 m yu;rw[yu]at r;obtain⟨hk,_⟩:=r.oL;split at hX
   ·rename_i k e' sz' cw hH;split at hX
    ·cases hX
    ·split at hX
     ·rename_i hc;obtain⟨rfl,rfl⟩:=hc;cases hX;obtain⟨b1,c1,hA⟩:=FA hs hu hk hH rfl;exact⟨m,b1,c1,hA,fun _=>.inr (by simp)⟩
     ·cases hX
    ·split at hX
     ·rename_i hc;subst hc;cases hX;obtain⟨b1,c1,hA⟩:=FA hs hu hk hH rfl;exact⟨m,b1,c1,hA.sh,fun _=>.inr (by simp)⟩
     ·cases hX
    ·cases hX
    ·cases hX
   ·cases hX
  ·rename_i cw f A1 yu;cases hX;rw[yu]at r;obtain⟨⟨q1,q2⟩,_⟩:=how;obtain⟨b2,c2,hA,hb⟩:=NK (ρ:=ρ) r.Ek hz q1 0 (f&&Mj e) (fun hh=>q2 (by simp only[aN]at hh;exact hh.1)) e (fun hh=>AG (by simp only[aN]at hh;exact hh.2));exact⟨0,b2,c2,hA,fun e=>.inl (hb e)⟩
  ·cases hX
 obtain⟨i1,b1,c1,hA,hk1⟩:=one;obtain⟨i2,b2,c2,hB,hk2⟩:=two;refine⟨u1,u2,i1,i2,b1,b2,c1,c2,hA,hB,?_,fun om=>?_⟩
 ·rcases hk1 with⟨_,h⟩|h
  ·exact .inr h
  ·exact .inl (by simp[h])
 ·rw[aN]at om;obtain⟨om,Kt⟩:=om;simp only[aN]at om;refine⟨om.1,om.2,?_,Kt⟩;rcases hk2 om.2 with h|hmem
  ·exact .inl h
  ·refine .inr ⟨by simp[hmem],fun e=>?_⟩;rcases hk1 with⟨h1,h2⟩|h1
   ·
    have hlt:i2<st.H.length:=by
     unfold UM at hX;split at hX
     ·cases hX;cases hmem
     ·rename_i A1 m yu;split at hX
      ·rename_i k e' sz' cw hH;have:=(aB.1 hH).1;split at hX
       ·cases hX
       ·split at hX
        ·cases hX;simp at hmem;omega
        ·cases hX
       ·split at hX
        ·cases hX;simp at hmem;omega
        ·cases hX
       ·cases hX
       ·cases hX
      ·cases hX
     ·cases hX;cases hmem
     ·cases hX
    omega
   ·subst e;have:=(aq.1 hnd).2.2 i1 (by simp[h1]) i1 hmem;exact this rfl
theorem Mb{κ:Nat->Option Value}{w:World}:∀ {ds:aG} {n:Nat} {vs:b9} {bs:aI},iT w vs ds bs->(∀d∈ds,d.flat=true\/∃rows,d=.sl rows)->bs.Nodup->
 ∃(us:b9) (L:List aI),us.length=(nM n ds).2.length/\L.length=us.length/\L.flatten=bs/\
  (∀(j:Nat) o,(nM n ds).2[j]?=some o->∃rows u b,o=.tk rows/\us[j]?=some u/\u.oneCell'=true/\L[j]?=some b/\Rd w u (.sl rows) b)/\
  (∀κ':Nat->Option Value,(∀(j:Nat) u,us[j]?=some u->κ' (n+j)=some u)->dQ w κ' vs (nM n ds).1 []):=by
 intro ds
 induction ds with
 |nil=>intro n vs bs h _ _;cases h;exact⟨[],[],rfl,rfl,rfl,by simp[nM],fun _ _=>.nil⟩
 |cons d ds ih=>
  intro n vs bs h hd hnd;cases h with
  |cons v vs _ _ b1 b2 h1 h2 h3=>
   obtain⟨n1,n2,n3⟩:=aq.1 hnd;rcases hd d (by simp)with hf|⟨rows,rfl⟩
   ·have hb:=h2.flat hf;subst hb;obtain⟨us,L,q1,q2,q3,q4,q5⟩:=ih (n:=n) h3 (fun x hx=>hd x (by simp[hx])) n2;have e:nM n (d::ds)=(d::(nM n ds).1,(nM n ds).2):=by cases d<;>first|rfl| (simp[D.flat]at hf)
    rw[e];exact⟨us,L,q1,q2,q3,q4,fun κ' hk=>by simpa using dQ.cons v vs d _ [] [] h1 (.pure h2) (q5 κ' hk)⟩
   ·obtain⟨us,L,q1,q2,q3,q4,q5⟩:=ih (n:=n+1) h3 (fun x hx=>hd x (by simp[hx])) n2;refine⟨v::us,b1::L,by simp[nM,q1],by simp[q2],by simp[q3],fun j o hj=>?_,fun κ' hk=>?_⟩
    ·cases j with
     |zero=>simp[nM]at hj;subst hj;exact⟨rows,v,b1,rfl,rfl,h1,rfl,h2⟩
     |succ j=>
      obtain⟨cw,u,b,r1,r2,r3,r4,r5⟩:=q4 j o (by simpa[nM]using hj);exact⟨cw,u,b,r1,by simpa using r2,r3,by simpa using r4,r5⟩
    ·have:=dQ.cons v vs (.acc n) _ [] [] h1 (.acc n v (by have:=hk 0 v rfl;simpa using this)) (q5 κ' (fun j u hj=>by have:=hk (j+1) u (by simpa using hj);rw[<-this];congr 1;omega));simpa[nM]using this
theorem HW{r:aG}(h:Cn r=true):∀d∈r,d.flat=true\/∃rows,d=.sl rows:=by
 intro d hd;have:=aQ.1 h d hd;cases d<;>first|exact .inr ⟨_,rfl⟩|exact .inl this
theorem ND{o:Oper}{T id i sz e t:Nat}{x:Operand}{rows:List aG}{r:aG}(hop:o.op=.load T x)(hd:o.dst=some t)(hg:o.guard=none)(ht:t<Γ.nt)
 (hx:st.ev x=.op id i sz 0) (hH:st.H[id]?=some (.row (.mv i) e sz rows)) (hrow:rows[i]?=some r) (hT:sQ P T=some true) (hsz:rQ P T=sz) (hok:Cn r=true)
 (h:AO P Γ all rest Q ⟨(t,.agg (nM st.H.length r).1)::st.σ,st.H.set id (.row (.mv (i+1)) e sz rows)++(nM st.H.length r).2⟩):AO P Γ all (o::rest) Q st:=by
 intro κ Θ a w hs;obtain⟨b1,r1,_⟩:=hs.ev x;rw[hx]at r1;obtain⟨g,o0,len,cap,hk,hv⟩:=r1.wm;obtain⟨ρ,hu⟩:=hs.mi;obtain⟨Qj,hrl,ZF,cs0,SF,Sv,Ow,Vb,hΘ,qX⟩:=hs.ob id _ hH;obtain⟨vk,cs,bs,IM,hown,hrs,hnd,hρ⟩:=hu.more id _ hH;rw[hk]at IM Sv;cases IM;cases Sv;have Jm:=rI hown;subst Jm;rw[cP]at hv;have IL:r.length=sz:=hrl r (aE hrow);have hlt:i<rows.length:=(aB.1 hrow).1;have Kr:rows.drop i=r::rows.drop (i+1):=by
  rw[sV hlt]
  congr 1
  rw[aR hlt]at hrow;exact mE hrow
 rw[Kr,dO]at hrs;obtain⟨v1,v2,c1,c2,Bk,vh,k1,k2⟩:=hrs.split;have l1:v1.length=sz:=by rw[k1.length,IL]
 have hcells:∀j c,cs[j]?=some c->w.cell? ⟨g,0+j,none⟩=some c:=by
  intro j c hj;have:=hown.cells (g:=g) (by simp[Value.ownBlock]) j c hj;simpa[Addr.add_lit]using this
 have L0:=jR (P:=P) (w:=w) hT (o:=i*sz+0) hcells;simp only[cP,rA]at L0 hv;have hle:(i+1)*sz<=rows.length*sz:=cr _ hlt;rw[gT,jG]at hle;have Kp:=hown.1;have hval:(cs.drop (i*sz)).take sz=v1:=by rw[Bk];exact fL l1
 have hrun:(execOp a.eval o).run P w=.ok (.value (.agg v1.toArray)) w:=by
  simp only[execOp,hop,hv];have:=L0.1 trivial (by rw[hsz,Kp];omega);rw[hsz,hval]at this;simp[this]
 refine wpList_plain hg fun K hK=>?_
 unfold Oper.wp;rw[hrun,Oper.upon_value,hd];rw[vh]at hnd hρ;obtain⟨n1,n2,n3⟩:=aq.1 hnd;obtain⟨us,L,q1,q2,q3,q4,q5⟩:=Mb (κ:=κ) (n:=st.H.length) k1 (HW hok) n1;let N:=st.H.length
 let κ':Nat->Option Value:=fun j=>if j<N then κ j else us[j-N]?
 let ρ':Nat->Nat:=fun b=>match ix (fun x:aI=>x.contains b) L with|some j=>N+j+1|none=>ρ b
 have hn:∀(j:Nat) v,κ j=some v->κ' j=some v:=by
  intro j v hj;have:j<N:=by
   rcases cg j N with h|h
   ·exact h
   ·rw[hs.kQ j h]at hj;cases hj
  simp only[κ'];rw[av this];exact hj
 have hk':∀(j:Nat) u,us[j]?=some u->κ' (N+j)=some u:=fun j u hj=>by
  simp only[κ'];rw[ai (by omega),cR];exact hj
 have SL:L.flatten.Nodup:=by rw[q3];exact n1
 have Sy:∀(j:Nat) x b,L[j]?=some x->b∈x->ρ' b=N+j+1:=by
  intro j x b hj hb;have:ix (fun x:aI=>x.contains b) L=some j:=wg hj (by simpa using hb) (fun m y hm hy=>by
   have hy':b∈y:=by simpa using hy
   exact cS fun hne=>by
    have key:∀(L:List aI),L.flatten.Nodup->∀(p q:Nat) x y,L[p]?=some x->L[q]?=some y->b∈x->b∈y->p=q:=by
     intro L
     induction L with
     |nil=>intro _ p q x y hp;simp at hp
     |cons z L ih=>
      intro hnd p q x y hp hq tT hby;simp only[dO]at hnd;obtain⟨m1,m2,m3⟩:=aq.1 hnd;cases p with
      |zero=>
       cases q with
       |zero=>rfl
       |succ q=>
        simp at hp hq;subst hp;exact absurd rfl (m3 b tT b (eE.2 ⟨y,aE hq,hby⟩))
      |succ p=>
       cases q with
       |zero=>
        simp at hp hq;subst hq;exact absurd rfl (m3 b hby b (eE.2 ⟨x,aE hp,tT⟩))
       |succ q=>simp at hp hq;rw[ih m2 p q x y hp hq tT hby]
    exact hne (key L SL m j y x hm hj hy' hb))
  simp only[ρ',this]
 have EM:∀b,b∉c1->ρ' b=ρ b:=by
  intro b hb;simp only[ρ'];cases hi:ix (fun x:aI=>x.contains b) L with
  |none=>rfl
  |some j=>
   obtain⟨x,hx',hp⟩:=rG hi;exact absurd (by rw[<-q3];exact eE.2 ⟨x,aE hx',by simpa using hp⟩) hb
 have Y6:id<N:=(aB.1 hH).1;have key:∀(j:Nat) y,(st.H.set id (.row (.mv (i+1)) e sz rows)++(nM st.H.length r).2)[j]?=some y->(j=id/\y=.row (.mv (i+1)) e sz rows)\/(j≠id/\j<N/\st.H[j]?=some y)\/∃m,j=N+m/\(nM st.H.length r).2[m]?=some y:=by
  intro j y hj;by_cases hlt:j<N
  ·rw[aV (by simpa using hlt)]at hj;rcases rK j y hj with h|⟨h1,h2⟩
   ·exact .inl h
   ·exact .inr (.inl ⟨h1,hlt,h2⟩)
  ·rw[aY (by simpa using hlt)]at hj;exact .inr (.inr ⟨j-N,by omega,by simpa using hj⟩)
 have kk:fD w w Θ Θ (id+2):=fD.refl hs.own (by omega);have mw:=hs.jh kk hn hu;have hone:∀(j:Nat) u,κ' j=some u->u.oneCell'=true:=by
  intro j u hj;simp only[κ']at hj;split at hj
  ·exact hs.kC j u hj
  ·have hjl:j-N<(nM st.H.length r).2.length:=by rw[<-q1];exact(aB.1 hj).1
   obtain⟨_,u',_,_,r2,r3,_⟩:=q4 (j-N) _ (aR hjl);rw[hj]at r2;cases r2;exact r3
 have hz1:∀b∈c1,Θ b=0:=fun b hb=>(hu.free b (by rw[hρ b (by simp[hb])];omega)).1
 have hs':cX Γ ⟨st.σ,st.H.set id (.row (.mv (i+1)) e sz rows)++(nM st.H.length r).2⟩ κ' Θ a w:=by
  refine hs.step kk hs.mine hn (fun j hj=>?_) hone (fun j y hj=>?_) ⟨ρ',fun b hb=>?_,fun j e2 GN dV hj=>?_,fun j y hj=>?_⟩
  ·simp only[af,kS]at hj;simp only[κ'];rw[ai (by omega)];exact bZ (by rw[q1];exact Nat.le_sub_of_add_le' hj)
  ·rcases key j y hj with⟨rfl,rfl⟩|⟨h1,h2,h3⟩|⟨m,rfl,hm⟩
   ·exact .inr (.inr ⟨Qj,hrl,_,cs0,SF,hn _ _ hk,Ow,Vb,hΘ,qX⟩)
   ·exact .inr (.inl ⟨by omega,h3⟩)
   ·obtain⟨cw,u,b,rfl,r2,r3,r4,r5⟩:=q4 m y hm;exact .inr (.inr ⟨u,b,hk' m u r2,r5,fun x hx'=>hz1 x (by rw[<-q3];exact eE.2 ⟨b,aE r4,hx'⟩)⟩)
  ·by_cases hb':b∈c1
   ·exact mw.1 b (by rw[hρ b (by simp[hb'])];omega)
   ·rw[EM b hb']at hb;exact mw.1 b hb
  ·rcases key j _ hj with⟨_,h⟩|⟨h1,h2,h3⟩|⟨m,rfl,hm⟩
   ·cases h
   ·obtain⟨v',cs',bs',p1,p2,p3,p4,p5⟩:=mw.2.1 j e2 GN dV (by omega) h3;refine⟨v',cs',bs',p1,p2,p3,p4,fun b hb=>?_⟩;rw[EM b (fun hb'=>by have:=hρ b (by simp[hb']);have:=p5 b hb;omega)];exact p5 b hb
   ·obtain⟨_,_,_,h,_⟩:=q4 m _ hm;cases h
  ·rcases key j _ hj with⟨rfl,rfl⟩|⟨h1,h2,h3⟩|⟨m,rfl,hm⟩
   ·refine⟨_,cs,c2,hn _ _ hk,hown,?_,n2,fun b hb=>?_⟩
    ·have e1:cs.drop ((i+1)*sz)=v2:=by
      rw[gT,jG,<-eC,Bk];exact dw l1
     rw[e1];exact k2
    ·rw[EM b (fun hb'=>n3 b hb' b hb rfl)];exact hρ b (by simp[hb])
   ·refine(mw.2.2 j y (by omega) h3).re fun b hb=>?_
    rw[EM b (fun hb'=>by have:=hρ b (by simp[hb']);omega)];exact hb
   ·obtain⟨cw,u,b,rfl,r2,r3,r4,r5⟩:=q4 m y hm;have hsub:∀x∈b,ρ' x=N+m+1:=fun x hx'=>Sy m b x r4 hx'
    have V1:b.Nodup:=by
     have R2:∀(L:List aI),L.flatten.Nodup->∀x∈L,x.Nodup:=by
      intro L
      induction L with
      |nil=>intro _ x hx';cases hx'
      |cons z L ih=>
       intro hnd x hx';simp only[dO]at hnd;obtain⟨m1,m2,_⟩:=aq.1 hnd;rcases au.1 hx' with rfl|hx'
       ·exact m1
       ·exact ih m2 x hx'
     exact R2 L SL b (aE r4)
    exact⟨u,b,hk' m u r2,r5,V1,hsub⟩
 refine hK _ _ (h κ' Θ _ w (hs'.set (t:=t) ht (.v (.agg v1 _ [] (q5 κ' hk'))) (by simp)))
theorem uX{o:Oper}{t:Nat}{d:D}{A A':List An}{p:uY}(hd:o.dst=some t)(hg:o.guard=none)(ht:t<Γ.nt)(hv:xy P st o.op A=some (d,A',p))(hp:qF p)(h:AO P Γ all rest Q ⟨(t,d)::st.σ,st.H⟩):
 AO P Γ all (o::rest) Q st:=Oa hd hg ht (Il hv hp) h
theorem Is{o:Oper}{s id e sz:Nat}{k:RK}{rows:List aG}(hx:lk st.σ s=.acc id)(hH:st.H[id]?=some (.row k e sz rows))(hk:k.EZ=true)
 (h:AO P Γ all (o::rest) Q ⟨(s,.sl rows)::st.σ,st.H.set id .gone⟩):AO P Γ all (o::rest) Q st:=by
 intro κ Θ a w hs;obtain⟨ρ,hu⟩:=hs.mi;obtain⟨Θ',ρ',hs',_,⟨v,bs,hkm,hrd,hz,_⟩,_⟩:=hs.RB hu hH hk;obtain⟨bx,rx,_⟩:=hs.slot s;rw[hx]at rx;obtain⟨Sf,_⟩:=rx.oL;have hv:a.tmps.getD s undef=v:=by rw[hkm]at Sf;cases Sf;rfl
 refine h κ Θ' a w ⟨hs'.defers,hs'.size,hs'.kQ,hs'.kC,fun u=>?_,hs'.ob,hs'.own,hs'.old,hs'.mine,hs'.stays,hs'.mi⟩;show∃bs,lf w κ (a.tmps.getD u undef) (if u=s then .sl rows else lk st.σ u) bs/\_;by_cases mw:u=s
 ·subst mw;rw[av rfl,hv];exact⟨bs,.of hrd,hz⟩
 ·rw[ai mw];exact hs'.slot u
theorem kY(c:Call){callee:Callee}{xs:List Operand}{ts:List TypeId}(h1:c.callee=callee)(h2:c.args.toList=xs)(h3:c.argTypes.toList=ts):c= {callee:=callee,args:=xs.toArray,argTypes:=ts.toArray}:=by
 cases c;simp only at h1 h2 h3;subst h1;subst h2;subst h3;simp
theorem EW{H H':ax}{A A':List An}{p:uY}{σ:List (Nat×D)}(h:HE H A=some (H',A',p))(hp:qF p)(hn:AO P Γ all rest Q ⟨σ,H'⟩):AO P Γ all rest Q ⟨σ,H⟩:=by
 unfold HE at h;split at h
 ·split at h
  ·rename_i sz rows u p' n hH;split at h
   ·rename_i GN dV u2 d hN hc;cases h;have he:=hp.2.1;subst he;exact K7 (st:=⟨σ,H⟩) hH hN hp.1 hc hn
   ·cases h
  ·cases h
 ·cases h;exact hn
theorem Dv{o:Oper}{A A':List An}{mh:St}{p:uY}{nt:Nat}(hnt:Γ.nt=nt)(hg:o.guard=none)(h:yK P nt o st A=some (mh,A',p))(hp:qF p)(hn:AO P Γ all rest Q mh):AO P Γ all (o::rest) Q st:=by
 subst hnt;unfold yK at h;split at h
 ·rename_i T x t hop hd;split at h
  ·split at h
   ·cases h;exact Q5 hop hd hg (by assumption) (by assumption) hn
   ·cases h
  ·cases h
 ·rename_i T t hop hd;split at h
  ·split at h
   ·cases h;exact Ju hop hd hg (by assumption) (by assumption) hn
   ·cases h
  ·cases h
 ·rename_i T x y hop hd;split at h
  ·rename_i id off ds h1 h2;split at h
   ·rename_i ob h3;split at h
    ·rename_i cells h4;split at h
     ·rename_i hc;cases h;exact K9 hop hd hg h1 h3 h4 h2 hc.1 hc.2.1 hc.2.2.1 hc.2.2.2 hn
     ·cases h
    ·cases h
   ·cases h
  ·rename_i id i sz off ds h1 h2;split at h
   ·rename_i sz' rows u _ r A1 h3;split at h
    ·rename_i hc;obtain⟨c1,c2,c3,rfl,c5,c6⟩:=hc;cases h;exact It hop hd hg h1 h3 hp.1 h2 c6 c1 c2 c3 c5 hn
    ·cases h
   ·rename_i k e sz' rows es ms r A1 h3 h4;split at h
    ·rename_i hc;obtain⟨c1,c2,rfl,c4,c5,c6,c7⟩:=hc;cases h;exact Ez hop hd hg h1 h3 c4 hp.1 h2 h4 c6 c7 c1 c2 c5 hn
    ·cases h
   ·cases h
  ·cases h
 ·rename_i T t hop hd;split at h
  ·cases h;exact GP hop hd hg (by assumption) hn
  ·cases h
 ·rename_i T x i y hop hd;split at h
  ·rename_i kd dz id m A1 h1 h2;split at h
   ·rename_i kv h3;split at h
    ·rename_i hc;cases h;exact Du hop hd hg h1 h2 h3 hc.1 hc.2 hp.1 hn
    ·cases h
   ·cases h
  ·cases h
 ·rename_i T x y t hop hd;split at h
  ·rename_i e sz k n k' n' h1 h2 h3;split at h
   ·rename_i zs h4;split at h
    ·rename_i hc;cases h;obtain⟨⟨rfl,q2,q3,q4⟩,_⟩:=hp;exact Dt hop hd hg hc.1 h1 h4 hc.2 h2 h3 q2 q3 q4 hn
    ·cases h
   ·cases h
  ·cases h
 ·rename_i T len parts t hop hd;split at h
  ·rename_i e sz h1;split at h
   ·rename_i zs h2;split at h
    ·rename_i ds h3;split at h
     ·rename_i es ms h4;split at h
      ·rename_i hc;cases h;exact Cz hop hd hg hc.1 h1 h2 hc.2.1 hc.2.2.1 h3 h4 hc.2.2.2 hn
      ·cases h
     ·cases h
    ·cases h
   ·cases h
  ·cases h
 ·rename_i c t hop hd;split at h
  ·rename_i s x T T' h1 h2 h3;split at h
   ·rename_i e sz h4;split at h
    ·rename_i zs rows u1 k1 dV u2 k2 A1 ow h5 h6 h7;split at h
     ·rename_i hc;obtain⟨c1,c2,rfl,c4⟩:=hc;cases h;obtain⟨⟨q1,q2⟩,q3⟩:=hp;exact Q4 (hop.trans (congrArg Op.call (kY c h1 h2 h3))) hd hg c1 h4 h5 c2 h6 h7 q3 c4 q1 q2 hn
     ·cases h
    ·cases h
   ·cases h
  ·rename_i x T h1 h2 h3;split at h
   ·rename_i id sz rows u h4;obtain⟨h5,h6⟩:=CW h4;split at h
    ·rename_i hc;cases h;exact NC (hop.trans (congrArg Op.call (kY c h1 h2 h3))) hd hg hc.1 hc.2 h5 h6 hn
    ·cases h
   ·split at h
    ·split at h
     ·rename_i d A1 ow h4;cases h;exact uX hd hg (by assumption) h4 hp hn
     ·cases h
    ·cases h
  ·rename_i f xs ts h1;split at h
   ·rename_i ms outs d A1 h4;split at h
    ·rename_i ins h5;split at h
     ·rename_i hc;obtain⟨c1,c2,c3⟩:=hc;split at h
      ·rename_i H' A2 ow h6;cases h;exact K5 (hop.trans (congrArg Op.call (kY c h1 rfl rfl))) hd hg c1 c2 h5 (by simpa using c3) (by simpa using hp.1) (EW h6 hp.2 hn)
      ·cases h
     ·cases h
    ·cases h
   ·rename_i nz cells' d A1 h4;split at h
    ·rename_i x0 xr h5;split at h
     ·rename_i id h6;split at h
      ·rename_i ob h7;split at h
       ·rename_i Ac h8;split at h
        ·rename_i cells ds ms qs h9;split at h
         ·rename_i hc;obtain⟨c1,c2,c3,c4⟩:=hc;cases h;exact K4 (hop.trans (congrArg Op.call (kY c h1 rfl rfl))) hd hg c1 (by simpa using h5) h6 h7 h8 h9 c2 c3 c4 hp.1 hn
         ·cases h
        ·cases h
       ·cases h
      ·cases h
     ·cases h
    ·cases h
   ·rename_i ds ms cells A1 h4;split at h
    ·rename_i hc;obtain⟨c1,rfl⟩:=hc;cases h;exact Jz (hop.trans (congrArg Op.call (kY c h1 rfl rfl))) hd hg c1 (by simpa using h4) hp.1 hn
    ·cases h
   ·rename_i ds ms d A1 h4;split at h
    ·rename_i hc;cases h;exact Jv (hop.trans (congrArg Op.call (kY c h1 rfl rfl))) hd hg hc.1 (by simpa using h4) hc.2 hp.1 hn
    ·cases h
   ·rename_i id cw A1 h4;split at h
    ·rename_i e sz rows h5;split at h
     ·rename_i hc;obtain⟨c1,c3⟩:=hc;cases h;exact K3 (hop.trans (congrArg Op.call (kY c h1 rfl rfl))) hd hg c1 h5 c3.2 hp.1 (by simpa using c3.1) (by simpa using hp.2.1) hn
     ·cases h
    ·cases h
   ·rename_i id cw A1 h4;split at h
    ·rename_i x k e sz rows h5 h6;split at h
     ·rename_i id' h7;split at h
      ·rename_i hc;obtain⟨c1,rfl,c3⟩:=hc;cases h;have e1:c.args= #[x]:=by rw[<-lM];simpa using h5
       refine Jy (ts:=c.argTypes) (hop.trans (congrArg Op.call ?_)) (fun t' ht'=>?_) hg h7 h6 c3.1 c3.2 hp.1 hp.2.1 ?_
       ·rw[<-e1];exact kY c h1 rfl rfl
       ·rw[hd]at ht';cases ht';exact c1
       ·rw[hd];exact hn
      ·cases h
     ·cases h
    ·cases h
   ·rename_i ds ms d A1 h4;split at h
    ·rename_i hc;cases h;exact N9 (hop.trans (congrArg Op.call (kY c h1 rfl rfl))) hd hg hc.1 (by simpa using h4) hc.2 hp.1 hn
    ·cases h
   ·rename_i d A1;split at h
    ·rename_i hc;cases h;exact Jx (hop.trans (congrArg Op.call (kY c h1 rfl rfl))) hd hg hc.1 (by simpa using hc.2) (by simpa using hp.1) hn
    ·cases h
   ·rename_i nz d A1;split at h
    ·rename_i ds ms qs h9;split at h
     ·rename_i hc;obtain⟨c1,c2,c3,c4⟩:=hc;cases h;exact Jw (hop.trans (congrArg Op.call (kY c h1 rfl rfl))) hd hg c1 h9 c2 c3 c4 hp.1 hn
     ·cases h
    ·cases h
   ·cases h
  ·split at h
   ·split at h
    ·rename_i d A1 ow h4;cases h;exact uX hd hg (by assumption) h4 hp hn
    ·cases h
   ·cases h
 ·rename_i s d x t hop hd;split at h
  ·rename_i id h1;split at h
   ·rename_i k e' sz' rows e sz h2 h3;split at h
    ·rename_i bs h4;split at h
     ·rename_i hc;obtain⟨c1,rfl,c3,c4⟩:=hc;cases h;exact NA hop hd hg c1 h1 h2 h3 c3 c4 h4 hn
     ·cases h
    ·cases h
   ·cases h
  ·split at h
   ·split at h
    ·rename_i d A1 ow h4;cases h;exact uX hd hg (by assumption) h4 hp hn
    ·cases h
   ·cases h
 ·rename_i x t hop hd;split at h
  ·rename_i A1;split at h
   ·rename_i e sz h1 h2;split at h
    ·rename_i hc;cases h;exact Q8 hop hd hg hc.1 h1 hc.2 hn
    ·cases h
   ·cases h
  ·split at h
   ·cases h;exact Oa hd hg (by assumption) (by rw[hop];rfl) hn
   ·cases h
 ·rename_i T x hi t hop hd;split at h
  ·rename_i id h1;split at h
   ·rename_i e sz rows e' sz' kk n hh A1 h2 h3 h4;split at h
    ·rename_i hc;obtain⟨c1,rfl⟩:=hc;cases h;exact NB hop hd hg c1 h3 h1 h2 (by rw[h4,hp.1.1]) hp.1.2 hn
    ·cases h
   ·cases h
  ·split at h
   ·split at h
    ·rename_i d A1 ow h4;cases h;exact uX hd hg (by assumption) h4 hp hn
    ·cases h
   ·cases h
 ·rename_i T s lo t hop hd;split at h
  ·rename_i A0 id h1;split at h
   ·rename_i k e sz rows h2;split at h
    ·rename_i hc;split at h
     ·rename_i d A1 ow h4;cases h;exact Is h1 h2 hc.2 (uX hd hg hc.1 h4 hp hn)
     ·cases h
    ·cases h
   ·cases h
  ·split at h
   ·split at h
    ·rename_i d A1 ow h4;cases h;exact uX hd hg (by assumption) h4 hp hn
    ·cases h
   ·cases h
 ·rename_i T x i t hop hd;split at h
  ·rename_i id sz rows u h1;obtain⟨h2,h3⟩:=CW h1;split at h
   ·rename_i e sz' k n m A1 h4 h5;split at h
    ·rename_i hc;obtain⟨c1,rfl⟩:=hc;cases h;exact Q6 hop hd hg c1 h4 h2 h5 h3 hp.1.1 hp.1.2 hn
    ·cases h
   ·cases h
  ·split at h
   ·split at h
    ·rename_i d A1 ow h4;cases h;exact uX hd hg (by assumption) h4 hp hn
    ·cases h
   ·cases h
 ·rename_i T x t hop hd;split at h
  ·rename_i id i off sz rows u h1;obtain⟨h2,h3⟩:=HB h1;split at h
   ·rename_i r A1 h4;split at h
    ·rename_i dV h5;split at h
     ·rename_i e GN h6;split at h
      ·rename_i hc;cases h;exact K8 hop hd hg hc h4 h2 h3 hp.1 h5 hp.2.1 hn
      ·cases h
     ·cases h
    ·rename_i d _ h5;split at h
     ·rename_i hc;cases h;exact K6 hop hd hg hc.1 h4 h2 h3 hp.1 h5 hc.2 hn
     ·cases h
    ·cases h
   ·cases h
  ·split at h
   ·rename_i r A1 id i sz h1;split at h
    ·rename_i n e sz' rows h2;split at h
     ·rename_i hc;obtain⟨c1,rfl,c3,c4⟩:=hc;cases h;obtain⟨⟨rfl,q2,q3⟩,_⟩:=hp;exact ND hop hd hg c1 h1 h2 q2 c3 c4 q3 hn
     ·cases h
    ·cases h
   ·split at h
    ·split at h
     ·rename_i d A1 ow h4;cases h;exact uX hd hg (by assumption) h4 hp hn
     ·cases h
    ·cases h
 ·split at h
  ·split at h
   ·rename_i d A1 ow h4;cases h;exact uX (by assumption) hg (by assumption) h4 hp hn
   ·cases h
  ·cases h
 ·cases h
theorem MX{o:Oper}{A A':List An}{mh:St}{p:uY}{nt:Nat}(hnt:Γ.nt=nt)(h:yK P nt o st A=some (mh,A',p)):∀ {t:Nat},o.dst=some t->t<Γ.nt:=by
 intro t ht;subst hnt;unfold yK at h;split at h
 all_goals first
  | (rename_i hd;rw[ht]at hd;cases hd;done)
  |skip
 all_goals(try(rename_i hd;rw[ht]at hd;cases hd))
 all_goals(repeat' split at h)
 all_goals(try cases h)
 all_goals first
  |assumption
  | (
   have hc:_/\_:=by assumption
   exact hc.1)
  | (simp_all;done)
end
end Go.Cx
namespace Go.Cx
open Go.RowKit
abbrev ck:=List An
section
variable{P:Program}{Γ:oK}{Q:Exit->St->Prop}{st:St}{κ:Nat->Option Value}{Θ:Nat->Nat}{a:Act}{w:World}{all:Array Oper}{X:aI}
def qe(X:aI)(H H':ax):Prop:=∀(i:Nat) o,i∉X->H[i]?=some o->H'[i]?=some o
theorem qe.refl{X:aI}(H:ax):qe X H H:=fun _ _ _ h=>h
theorem qe.trans{X:aI}{A B C:ax}(h:qe X A B)(k:qe X B C):qe X A C:=fun i o n e=>k i o n (h i o n e)
theorem qe.app{X:aI}{H H':ax}(h:qe X H H')(n:ax):qe X H (H'++n):=by
 intro i o hni hi;have:=h i o hni hi;rw[aV (aB.1 this).1,this]
theorem qe.cs{X:aI}{H H':ax}(h:qe X H H'){i:Nat}{cs:aG}(hi:i∉X)(hc:(H[i]?).bind Ob.I5=some cs):(H'[i]?).bind Ob.I5=some cs:=by
 obtain⟨ob,hb,GJ⟩:=jU.1 hc;rw[h i ob hi hb];exact GJ
def tE(X:aI)(st:St):Op->Bool
 | .fieldAddr _ _ _=>true
 | .field _ _ _=>true
 | .extract _ _=>true
 | .move _=>true
 | .binOp _ _ _ _ _=>true
 | .unOp _ _ _=>true
 | .nilCheck _=>true
 | .convert _ _ _=>true
 | .index _ _ _=>true
 | .build _ _=>true
 | .indexAddr _ x _=>(match st.ev x with| .sl _=>true| .acc id=> !X.contains id|_=>false)
 | .load _ x=>(match st.ev x with| .ep _ _=>true| .ptr id _=> !X.contains id| .op id _ _ _=> !X.contains id|_=>false)
 |_=>false
theorem MZ{X:aI}{σ σ':List (Nat×D)}{H H':ax}{op:Op}{d:D}(hx:qe X H H')(hs:tE X ⟨σ,H⟩ op=true)(he:∀x∈op.operands.toList,St.ev ⟨σ,H⟩ x=St.ev ⟨σ',H'⟩ x)(h:pv P ⟨σ,H⟩ op=some d):pv P ⟨σ',H'⟩ op=some d:=by
 cases op<;>simp only[tE,rT]at hs<;>simp only[pv]at h⊢
 case move x=>rw[he x (by simp[Op.operands])]at*;exact h
 case nilCheck x=>rw[he x (by simp[Op.operands])]at h;exact h
 case binOp op t x y t'=>rw[he x (by simp[Op.operands]),he y (by simp[Op.operands])]at h;exact h
 case unOp op t x=>cases op<;>simp only[pv]at h⊢ <;>(try cases h)<;>(rw[he x (by simp[Op.operands])]at h;exact h)
 case convert s d x=>rw[he x (by simp[Op.operands])]at h;exact h
 case field t x f=>rw[he x (by simp[Op.operands])]at h;exact h
 case fieldAddr t x f=>rw[he x (by simp[Op.operands])]at h;exact h
 case indexAddr t x i=>
  rw[he x (by simp[Op.operands])]at hs;rw[he x (by simp[Op.operands]),he i (by simp[Op.operands])]at h;split at hs
  ·rename_i rows h0;rw[h0]at h⊢;generalize xJ P t=a at h⊢;generalize St.ev ⟨σ',H'⟩ i=b at h⊢;cases a<;>cases b<;>exact h
  ·rename_i id h0;rw[h0]at h⊢;generalize xJ P t=a at h⊢;generalize St.ev ⟨σ',H'⟩ i=b at h⊢;cases a<;>cases b<;>first|exact h|skip
   dsimp only at h⊢;cases hH:H[id]? with
   |none=>rw[hH]at h;cases h
   |some o=>rw[hx id o (by simpa using hs) hH];rw[hH]at h;exact h
  ·cases hs
 case load t x=>
  rw[he x (by simp[Op.operands])]at hs h;split at hs
  ·rename_i row off h0;rw[h0]at h⊢;generalize sQ P t=a at h⊢;cases a<;>exact h
  ·rename_i id off h0;rw[h0]at h⊢;generalize sQ P t=a at h⊢;cases a
   ·exact h
   ·dsimp only at h⊢;split at h
    ·rename_i cells hH;simp only[hx.cs (by simpa using hs) hH];exact h
    ·cases h
  ·rename_i id i sz off h0;rw[h0]at h⊢;generalize sQ P t=a at h⊢;cases a
   ·exact h
   ·dsimp only at h⊢;cases hH:H[id]? with
    |none=>rw[hH]at h;cases h
    |some o=>rw[hx id o (by simpa using hs) hH];rw[hH]at h;exact h
  ·cases hs
 case extract x i=>rw[he x (by simp[Op.operands])]at h;exact h
 case index t x i=>rw[he x (by simp[Op.operands]),he i (by simp[Op.operands])]at h;exact h
 case build t parts=>
  have:(parts.toList.map fun p=>(p.1,St.ev ⟨σ,H⟩ p.2))=parts.toList.map fun p=>(p.1,St.ev ⟨σ',H'⟩ p.2):=by
   apply iF;intro p hp;rw[he p.2 (by simp only[Op.operands];simp;exact⟨p.1,by simpa using hp⟩)]
  rw[this]at h;exact h
def GU(xs acc:aI):aI:=xs.foldl (fun acc x=>bif acc.contains x then acc else x::acc) acc
theorem HD:∀ {xs acc:aI} {x:Nat},x∈GU xs acc->x∈xs\/x∈acc:=by
 intro xs
 induction xs with
 |nil=>intro acc x h;exact .inr h
 |cons y ys ih=>
  intro acc x h;rcases ih (acc:=bif acc.contains y then acc else y::acc) h with h|h
  ·exact .inl (by simp[h])
  ·cases hc:acc.contains y with
   |true=>rw[hc]at h;exact .inr h
   |false=>
    rw[hc]at h;rcases au.1 h with rfl|h
    ·exact .inl (by simp)
    ·exact .inr h
def Oj(acc:List aI)(es:List Edge):aI:=es.foldl (fun d e=>bif Region.binds .any e then GU (e.on::acc.getD e.on []) d else d) []
theorem JN{acc:List aI}{es:List Edge}{i:Nat}(h:i∈Oj acc es):∃e∈es,Region.binds .any e=true/\(i=e.on\/i∈acc.getD e.on []):=by
 have key:∀(es:List Edge) (d:aI),i∈es.foldl (fun d e=>bif Region.binds .any e then GU (e.on::acc.getD e.on []) d else d) d->i∈d\/∃e∈es,Region.binds .any e=true/\(i=e.on\/i∈acc.getD e.on []):=by
  intro es
  induction es with
  |nil=>intro d h;exact .inl h
  |cons e es ih=>
   intro d h;rcases ih _ h with h|⟨e',h1,h2⟩
   ·cases hb:Region.binds .any e with
    |false=>simp only[hb,aP]at h;exact .inl h
    |true=>
     simp only[hb,aK]at h;rcases HD h with h|h
     ·exact .inr ⟨e,by simp,hb,by simpa using h⟩
     ·exact .inl h
   ·exact .inr ⟨e',by simp[h1],h2⟩
 rcases key es [] h with h|h
 ·cases h
 ·exact h
def zb(acc:List aI)(o:Oper):List aI:=acc++[Oj acc o.after.toList]
def Gc(ops:List Oper):List aI:=ops.foldl zb []
theorem NW{ops:Array Oper}{listed:Array Bool}(closed:∀(j:Nat) oj,ops[j]?=some oj->listed.getD j false=true->∀e∈oj.after,Region.binds .any e=true->listed.getD e.on false=true):
 ∀(l pre:List Oper) (acc:List aI),ops.toList=pre++l->acc.length=pre.length->
  (∀(j:Nat) o,ops[j]?=some o->(∀e∈o.after,Region.binds .any e=true->listed.getD e.on false=true)->∀i∈acc.getD j [],listed.getD i false=true)->
  ∀(j:Nat) o,ops[j]?=some o->(∀e∈o.after,Region.binds .any e=true->listed.getD e.on false=true)->∀i∈(l.foldl zb acc).getD j [],listed.getD i false=true:=by
 intro l
 induction l with
 |nil=>intro pre acc _ _ h;exact h
 |cons o l ih=>
  intro pre acc hl ha h;refine ih (pre++[o]) (zb acc o) (by simp[hl]) (by simp[zb,ha]) ?_;intro j oj hj hall i hi;unfold zb at hi;rw[gr]at hi;rcases ot j acc.length with hlt|heq|hgt
  ·rw[aV hlt,<-gr]at hi;exact h j oj hj hall i hi
  ·subst heq;rw[aY (bM _),nP]at hi;simp only[tW,nQ]at hi;have ho:oj=o:=by
    rw[<-fw,hl,aY (by omega),ha,nP]at hj;simpa using hj.symm
   subst ho;obtain⟨e,he,hb,hi⟩:=JN hi;have he':e∈oj.after:=by simpa using he
   have hel:=hall e he' hb;rcases hi with rfl|hi
   ·exact hel
   ·cases VU:ops[e.on]? with
    |none=>
     have h1:e.on<acc.length:=by
      rcases cg e.on acc.length with h|h
      ·exact h
      ·rw[gr,bZ h]at hi;cases hi
     have h2:ops.size<=e.on:=by simpa using VU
     have h3:ops.size=pre.length+(l.length+1):=by rw[<-nj,hl];simp
     omega
    |some oe=>exact h e.on oe VU (closed e.on oe VU hel) i hi
  ·rw[bZ (by simp;omega)]at hi;cases hi
theorem qM{ops:Array Oper}{listed:Array Bool}(closed:∀(j:Nat) oj,ops[j]?=some oj->listed.getD j false=true->∀e∈oj.after,Region.binds .any e=true->listed.getD e.on false=true){j:Nat}(hj:j∈Region.ready .any ops listed){i:Nat}(hi:((Gc ops.toList).getD j []).contains i=true):listed.getD i false=true:=by
 obtain⟨_,o,ho,hall⟩:=mem_ready.1 hj;exact NW closed ops.toList [] [] (by simp) rfl (by simp) j o ho hall i (vK.1 hi)
def Kc(dp:List aI)(ops:Array Oper)(n m:Nat)(L:aI):Bool:=
 (decide (n<=m)&&decide (m<ops.size))&&
 (Region.seqB .any ops (ops.size-m) m (Array.replicate m true++Array.replicate (ops.size-m) false)&&
 (((List.range (ops.size-m)).all fun j=>(List.range m).all fun i=>(dp.getD (m+j) []).contains i)&&
 (((List.range (m-n)).all fun j=>(List.range (n+j)).all fun i=>(dp.getD (n+j) []).contains i||L.contains i)&&
 (((List.range m).all fun i=>match ops[i]? with|none=>false|some o=>o.after.all fun e=> !Region.binds .any e||decide (e.on<i))&&
 ((
  (List.range n).all fun i=>match ops[i]? with
  |none=>false
  |some o=>((o.looksAt ops).all fun t=>(List.range n).all fun j=>match ops[j]? with|some oj=> !(oj.dst==some t)||(decide (j<i)&&Region.waitsFor .any ops i j)|none=>true)&&
   (List.range n).all fun j=>j==i||(match ops[j]? with|some oj=> !(oj.dst==o.dst)||o.dst.isNone|none=>true))&&
 ((
  (List.range (m-n)).all fun j=>match ops[n+j]? with
  |none=>false
  |some o=>L.all fun i=>match ops[i]? with
   |none=>false
   |some oi=>(!(oi.dst==o.dst)&& !((oi.looksAt ops).any fun t=>o.dst==some t))&&((dp.getD (n+j) []).contains i|| !((o.looksAt ops).any fun t=>oi.dst==some t)))&&
 L.all fun i=>decide (i<n)&&(match ops[i]? with|some oi=>oi.guard.isNone&&oi.dst.isSome|none=>false)))))))
def CC(ops:Array Oper)(n m:Nat)(L:aI):Bool:=Kc (Gc ops.toList) ops n m L
def Step(P:Program)(Γ:oK)(o:Oper)(st qC:St):Prop:=
 ∀κ Θ a w,cX Γ st κ Θ a w->o.wp P a w (fun a' w'=>∃κ' Θ',cX Γ qC κ' Θ' a' w') (fun e _ _=>e=.normal)
def Iq(P:Program)(Γ:oK)(X:aI)(K:St->Prop):List Oper->St->Prop
 | [],st=>K st
 |o::os,st=>∃qC,((∃t d,o.dst=some t/\t<Γ.nt/\qC.σ=(t,d)::st.σ)\/(o.dst=none/\qC.σ=st.σ))/\qe X st.H qC.H/\o.guard=none/\(∀cs b,o.op≠ .select cs b)/\Step P Γ o st qC/\Iq P Γ X K os qC
theorem GG{o:Oper}{a b:Act}{w:World}{K K2:Act->World->Prop}{Q1 Q2:Exit->Act->World->Prop}(hsel:∀cs b,o.op≠ .select cs b)(he:∀x∈o.op.operands,a.eval x=b.eval x)
 (hK:∀v w',K (b.put o.dst v) w'->K2 (a.put o.dst v) w') (hdf:∀d w',¬K ({b with defers:=d::b.defers}.put o.dst undef) w') (hQ:∀e c w',Q1 e c w'->e=.normal) (h:o.wp P b w K Q1):o.wp P a w K2 Q2:=by
 unfold Oper.wp at*;rw[execOp_congr o hsel he];generalize(execOp b.eval o).run P w=r at*;cases r with
 |ok n w'=>
  cases n with
  |value v=>exact hK _ _ h
  |skip=>exact hK _ _ h
  |defer d=>exact absurd h (hdf _ _)
  |enter f args=>
   refine Calls.mono h ?_;intro e w'' he;cases e with
   |returned v=>exact hK _ _ he
   |panicked c=>exact absurd (hQ _ _ _ he) (by simp)
   |outgrown=>
    obtain⟨a0,w0,hq⟩:=he;exact absurd (hQ _ _ _ hq) (by simp)
  |row r args=>exact Rows.mono h fun v w'' he=>hK _ _ he
  |_=>exact h.elim
 |halt x w'=>
  cases x with
  |panic u=>exact absurd (hQ _ _ _ h) (by simp)
  |_=>exact h.elim
theorem RA{l:List (Nat×D)}{σ:List (Nat×D)}(h:∀p∈l,p.2=.any){t:Nat}(ht:t∈l.map Prod.fst):lk (l++σ) t=.any:=by
 induction l with
 |nil=>cases ht
 |cons p l ih=>
  obtain⟨u,d⟩:=p;have hd:d=.any:=h (u,d) (by simp);subst hd;simp only[lN,lk];by_cases e:t=u
  ·rw[av e]
  ·rw[ai e];refine ih (fun p hp=>h p (by simp[hp])) ?_;simp only[b8,au]at ht;rcases ht with h|h
   ·exact absurd h e
   ·exact h
theorem yq(a:Act){t u:Nat}(v:Value)(h:u≠t):(a.put (some t) v).tmps.getD u undef=a.tmps.getD u undef:=by
 show(a.tmps.setIfInBounds t v).getD u undef=_;simp[bU,ld h]
theorem A6(a:Act){t:Nat}(v:Value)(h:t<a.tmps.size):(a.put (some t) v).tmps.getD t undef=v:=by
 show(a.tmps.setIfInBounds t v).getD t undef=_;simp[bU,h]
theorem count_set{m i:Nat}{listed:Array Bool}(hi:i<m)(hsz:i<listed.size)(hl:listed.getD i false=false):((List.range m).filter fun j=> !(listed.setIfInBounds i true).getD j false).length+1=((List.range m).filter fun j=> !listed.getD j false).length:=by
 have J6:((List.range m).filter fun j=> !(listed.setIfInBounds i true).getD j false)=((List.range m).filter fun j=> !listed.getD j false).erase i:=by
  have hnd:((List.range m).filter fun j=> !listed.getD j false).Nodup:=qE _ tX;rw[hnd.erase_eq_filter,rU];apply sn;intro j _;by_cases e:j=i
  ·subst e;simp[hsz]
  ·rw[getD_set_ne false (ld e)];simp[e]
 have hmem:i∈(List.range m).filter fun j=> !listed.getD j false:=eA.2 ⟨bB.2 hi,by simp only[hl];rfl⟩
 have hpos:0<((List.range m).filter fun j=> !listed.getD j false).length:=oo hmem;rw[J6,jA hmem];omega
def KF(P:Program)(Γ:oK)(X:aI)(l:List Oper)(σF:List (Nat×D))(H0:ax)(i:Nat):Prop:=
 ∃o t d,l.toArray[i]?=some o/\o.guard=none/\o.dst=some t/\t<Γ.nt/\lk σF t=d/\∀σ' H',qe X H0 H'->(∀u∈o.looksAt l.toArray,lk σ' u=lk σF u)->pv P ⟨σ',H'⟩ o.op=some d
theorem FL{l:List Oper}{n m:Nat}{L:aI}{σF:List (Nat×D)}{H0:ax}(hB:CC l.toArray n m L=true)(Ou:∀i∈L,KF P Γ X l σF H0 i):
 ∀(f c:Nat) (S:St) (listed:Array Bool) (σ':List (Nat×D)) (κ:Nat->Option Value) (Θ:Nat->Nat) (a:Act) (w:World),HeadInv .any l.toArray l.toArray.size listed->
  (∀i,i<n->i∉L->listed.getD i false=true)->n+c<=m->(∀i,n<=i->i<n+c->listed.getD i false=true)->(∀i,n+c<=i->i<l.toArray.size->listed.getD i false=false)->
  ((List.range m).filter fun i=> !listed.getD i false).length=f->
  (∀t,(∀(i:Nat) o,l.toArray[i]?=some o->n<=i->i<n+c->o.dst≠some t)->lk S.σ t=lk σF t)->qe X H0 S.H->
  Iq P Γ X (fun mh=>AO P Γ l.toArray (l.drop m) Q mh) ((l.drop (n+c)).take (m-(n+c))) S->
  (∀t,(∀i∈L,∀o,l.toArray[i]?=some o->listed.getD i false=false->o.dst≠some t)->lk σ' t=lk S.σ t)->
  cX Γ ⟨σ',S.H⟩ κ Θ a w->
  wpAny P .any l.toArray (fun e a' w'=>∃mh κ' Θ',cX Γ mh κ' Θ' a' w'/\Q e mh) (f+(l.toArray.size-m)) listed a w:=by
 simp only[CC,Kc,aN,bJ]at hB;obtain⟨⟨hnm,DA⟩,Ng,LC,hmid,Ks,Kv,L5,hL⟩:=hB;have Un:∀i,i<m->∃o,l.toArray[i]?=some o/\∀e∈o.after,Region.binds .any e=true->e.on<i:=by
  intro i hi;have:=aQ.1 Ks i (bB.2 hi);split at this
  ·cases this
  ·rename_i o ho;refine⟨o,ho,fun e he hb=>?_⟩;have:=oM.1 this e he;simpa[hb]using this
 have wi:∀i∈L,i<n:=by
  intro i hi;have:=aQ.1 hL i hi;simp only[aN,bJ]at this;exact this.1
 have FV:∀(i:Nat) o,i<n->l.toArray[i]?=some o->∀u∈o.looksAt l.toArray,∀(j:Nat) oj,j<n->l.toArray[j]?=some oj->oj.dst=some u->j<i/\Region.waitsFor .any l.toArray i j=true:=by
  intro i o hi ho u hu j oj hj qN hd;have:=aQ.1 Kv i (bB.2 hi);simp only[ho,aN]at this;have:=aQ.1 (aQ.1 this.1 u hu) j (bB.2 hj);simpa[qN,hd]using this
 have zu:∀(j:Nat) o,n<=j->j<m->l.toArray[j]?=some o->∀i∈L,∀oi,l.toArray[i]?=some oi->oi.dst≠o.dst/\(∀u∈oi.looksAt l.toArray,o.dst≠some u)/\(((Gc l.toArray.toList).getD j []).contains i=true\/∀u∈o.looksAt l.toArray,oi.dst≠some u):=by
  intro j o zg hj2 ho i hi oi Si;have:=aQ.1 L5 (j-n) (bB.2 (by omega));rw[show n+(j-n)=j from by omega]at this;simp only[ho]at this;have:=aQ.1 this i hi;simp only[Si,aN,jT,iP]at this;obtain⟨⟨h1,h2⟩,h3⟩:=this;refine⟨by simpa using h1,fun u hu he=>?_,h3.imp id fun h u hu he=>?_⟩
  ·have:=List.any_eq_false.1 h2 u hu;simp[he]at this
  ·have:=List.any_eq_false.1 h u hu;simp[he]at this
 intro f
 induction f with
 |zero=>
  intro c S listed σ' κ Θ a w inv hN hc hM hT jj hS hX hA hag hs;have hall:∀i,i<m->listed.getD i false=true:=by
   intro i hi;have h0:=cF jj;cases hl:listed.getD i false with
   |true=>rfl
   |false=>
    have:i∈(List.range m).filter fun i=> !listed.getD i false:=eA.2 ⟨bB.2 hi,by simp only[hl];rfl⟩
    rw[h0]at this;cases this
  have hcm:n+c=m:=by
   rcases cg (n+c) m with h|h
   ·have h1:=hall (n+c) h;rw[hT (n+c) (bM _) (by omega)]at h1;cases h1
   ·omega
  have Ky:listed=Array.replicate m true++Array.replicate (l.toArray.size-m) false:=by
   apply Array.ext
   ·rw[inv.size];simp at DA⊢;omega
   ·intro i h1 h2;by_cases hi:i<m
    ·have:=hall i hi;rw[sU (by simpa using hi)];simp[h1]at this;simp[this]
    ·have hi':i<l.toArray.size:=by rw[<-inv.size];exact h1
     have:=hT i (by omega) hi';rw[rS (by simpa using hi)];simp[h1]at this;simp[this]
  rw[cP];rw[hcm,nP,List.take_zero]at hA;have hA:AO P Γ l.toArray (l.drop m) Q S:=hA;have hs2:=cX.same (st:=⟨σ',S.H⟩) (σ':=S.σ) (fun t=>hag t (fun i hi o ho hl=>by rw[hall i (by have:=wi i hi;omega)]at hl;cases hl)) hs;have hwp:=hA κ Θ a w hs2;have hdl:(l.drop m).length=l.toArray.size-m:=by simp
  have:=wpAny_of_seq (md:=.any) (l.drop m) m listed a w (fun j=>by simp[dB]) (by rw[hdl,Ky];exact Ng) hwp
  rwa[hdl]at this
 |succ f ih=>
  intro c S listed σ' κ Θ a w inv hN hc hM hT jj hS hX hA hag hs;have hun:∃i,i<m/\listed.getD i false=false:=by
   have hne:((List.range m).filter fun i=> !listed.getD i false)≠[]:=by
    intro h0;rw[h0]at jj;simp at jj
   obtain⟨i,hi⟩:=nc _ hne;obtain⟨h1,h2⟩:=eA.1 hi;exact⟨i,bB.1 h1,by simpa using h2⟩
  have hsz:=inv.size;rw[show f+1+(l.toArray.size-m)=(f+(l.toArray.size-m))+1 from by omega];refine⟨fun h0=>?_,fun i hi=>?_⟩
  ·exfalso;obtain⟨i,⟨hin,JA⟩,hmin⟩:=exists_least (p:=fun i=>i<m/\listed.getD i false=false) hun;obtain⟨o,ho,Y0⟩:=Un i hin;have:i∈Region.ready .any l.toArray listed:=by
    refine mem_ready.2 ⟨getD_in (by rw[hsz];omega) JA,o,ho,fun e he hb=>?_⟩;have:=Y0 e he hb;cases hl:listed.getD e.on false with
    |true=>rfl
    |false=>have:=hmin e.on ⟨by omega,hl⟩;omega
   rw[h0]at this;cases this
  ·obtain⟨i0,hi0,hl0⟩:=hun;obtain⟨JA,o,ho,hall⟩:=mem_ready.1 hi;have tQ:=getD_both JA;have uw:i<l.toArray.size:=(aX.1 ho).1;have him:i<m:=by
    rcases cg i m with h|h
    ·exact h
    ·have h1:=aQ.1 LC (i-m) (bB.2 (by omega));have h2:=aQ.1 h1 i0 (bB.2 hi0);rw[show m+(i-m)=i from by omega]at h2;rw[qM inv.closed hi h2]at hl0;cases hl0
   have J6:=count_set him (by rw[hsz];exact uw) tQ;have kP:∀(j:Nat),(listed.setIfInBounds i true).getD j false=true↔(j=i\/listed.getD j false=true):=by
    intro j;by_cases e:i=j
    ·subst e;have:i<listed.size:=by rw[hsz];exact uw
     simp[this]
    ·rw[getD_set_ne false e];constructor
     ·exact .inr
     ·rintro(rfl|h)
      ·exact absurd rfl e
      ·exact h
   have Ww:∀(j:Nat),(listed.setIfInBounds i true).getD j false=false->j≠i/\listed.getD j false=false:=by
    intro j h;refine⟨fun e=>?_,?_⟩
    ·have:=(kP j).2 (.inl e);rw[this]at h;cases h
    ·cases h2:listed.getD j false with
     |false=>rfl
     |true=>have:=(kP j).2 (.inr h2);rw[this]at h;cases h
   rcases cg i n with hin|hin
   ·
    have Ot:i∈L:=by
     by_cases h:i∈L
     ·exact h
     ·rw[hN i hin h]at tQ;cases tQ
    obtain⟨o',t,d,ho',hg,hd,htn,V7,hpv⟩:=Ou i Ot;rw[ho]at ho';cases ho';have FX:∀u∈o.looksAt l.toArray,lk σ' u=lk σF u:=by
     intro u hu;rw[hag u,hS u]
     ·intro j oj qN zg hj2 he;exact(zu j oj zg (by omega) qN i Ot o ho).2.1 u hu he
     ·intro j hj oj qN hlj he;obtain⟨h1,h2⟩:=FV i o hin ho u hu j oj (wi j hj) qN he;obtain⟨o2,Ws,e,yh,hb,hon⟩:=Region.waitsFor_spec h2;rw[ho]at Ws;cases Ws;have:=hall e yh hb;rw[hon,hlj]at this;cases this
    have hp:=hpv σ' S.H hX FX;obtain⟨v,bs,hrun,hrd,hz⟩:=wq (st:=⟨σ',S.H⟩) hs hp;refine sS ho (by simp[Region.wanted,hg]) ?_;unfold Oper.wp;rw[hrun,Oper.upon_value,hd];refine ih c S (listed.setIfInBounds i true) ((t,d)::σ') κ Θ _ w (inv.set hi uw) ?_ hc ?_ ?_ (by omega) hS hX hA ?_ (hs.set (st:=⟨σ',S.H⟩) htn hrd hz)
    ·intro j hj VL;exact(kP j).2 (.inr (hN j hj VL))
    ·intro j zg hj2;exact(kP j).2 (.inr (hM j zg hj2))
    ·intro j zg hj2;rw[getD_set_ne false (by omega)];exact hT j zg hj2
    ·intro u hu;simp only[lk];by_cases e:u=t
     ·rw[av e,e,hS t,V7];intro j oj qN zg hj2 he;exact(zu j oj zg (by omega) qN i Ot o ho).1 (by rw[hd,he])
     ·rw[ai e];refine hag u fun j hj oj qN hlj he=>?_
      by_cases hji:j=i
      ·subst hji;rw[ho]at qN;cases qN;rw[hd]at he;cases he;exact e rfl
      ·exact hu j hj oj qN (by rw[getD_set_ne false (ld hji)];exact hlj) he
   ·
    have hic:i=n+c:=by
     rcases ot i (n+c)with h|h|h
     ·rw[hM i hin h]at tQ;cases tQ
     ·exact h
     ·have h1:=aQ.1 hmid (i-n) (bB.2 (by omega));rw[show n+(i-n)=i from by omega]at h1;have h2:=aQ.1 h1 (n+c) (bB.2 h);simp only[iP]at h2;rcases h2 with h2|h2
      ·have:=qM inv.closed hi h2;rw[hT (n+c) (bM _) (by omega)]at this;cases this
      ·have:=wi (n+c) (by simpa using h2);omega
    subst hic;have Kr:(l.drop (n+c)).take (m-(n+c))=o::(l.drop (n+(c+1))).take (m-(n+(c+1))):=by
     have h1:l[n+c]?=some o:=by simpa using ho
     have h2:(n+c)<l.length:=(aB.1 h1).1;have h3:l[n+c]=o:=(aB.1 h1).2;rw[sV h2,h3,show m-(n+c)=(m-(n+(c+1)))+1 from by omega,fc];rfl
    rw[Kr]at hA;obtain⟨S1,EF,Xp,VG,hsel,hstep,Xk⟩:=hA;have VO:∀u,o.dst≠some u->lk S1.σ u=lk S.σ u:=by
     intro u hu;rcases EF with⟨tm,dm,Nd,Vi,Qq⟩|⟨_,Qq⟩
     ·rw[Qq];simp only[lk];rw[ai (fun e=>hu (by rw[Nd,e]))]
     ·rw[Qq]
    have Sk:∀(b:Act) (v:Value),(b.put o.dst v).tmps.size=b.tmps.size:=by
     intro b v;rcases EF with⟨tm,dm,Nd,_,_⟩|⟨Nd,_⟩
     ·rw[Nd];show(b.tmps.setIfInBounds tm v).size=_;simp
     ·rw[Nd];rfl
    have Sj:∀(b:Act) (v:Value),(b.put o.dst v).defers=b.defers:=by
     intro b v;cases o.dst<;>rfl
    have fill:∀k,k<=n->∃(ak:Act) (σk:List (Nat×D)),cX Γ ⟨σk,S.H⟩ κ Θ ak w/\(∀u,(∀j∈L,∀oj,l.toArray[j]?=some oj->listed.getD j false=false->k<=j->oj.dst≠some u)->lk σk u=lk S.σ u)/\
     (∀u,(∀j∈L,∀oj,l.toArray[j]?=some oj->listed.getD j false=false->oj.dst≠some u)->ak.tmps.getD u undef=a.tmps.getD u undef):=by
     intro k
     induction k with
     |zero=>intro _;exact⟨a,σ',hs,fun u hu=>hag u (fun j hj oj qN hl=>hu j hj oj qN hl (sr _)),fun _ _=>rfl⟩
     |succ k YV=>
      intro hk;obtain⟨ak,σk,hsk,QJ,UO⟩:=YV (by omega);by_cases Sc:k∈L/\listed.getD k false=false
      ·obtain⟨UQ,Y8⟩:=Sc;obtain⟨ok,t,d,hok,hg,hd,htn,V7,hpv⟩:=Ou k UQ;have FX:∀u∈ok.looksAt l.toArray,lk σk u=lk σF u:=by
        intro u hu;rw[QJ u,hS u]
        ·intro j oj qN zg hj2 he;exact(zu j oj zg (by omega) qN k UQ ok hok).2.1 u hu he
        ·intro j hj oj qN hlj hkj he;obtain⟨h1,h2⟩:=FV k ok (by omega) hok u hu j oj (wi j hj) qN he;omega
       have hp:=hpv σk S.H hX FX;obtain⟨v,bs,hrun,hrd,hz⟩:=wq (st:=⟨σk,S.H⟩) hsk hp;refine⟨ak.put (some t) v,(t,d)::σk,hsk.set (st:=⟨σk,S.H⟩) htn hrd hz,?_,?_⟩
       ·intro u hu;simp only[lk];by_cases e:u=t
        ·rw[av e,e,hS t,V7];intro j oj qN zg hj2 he;exact(zu j oj zg (by omega) qN k UQ ok hok).1 (by rw[hd,he])
        ·rw[ai e];refine QJ u fun j hj oj qN hlj hkj he=>?_
         by_cases hjk:j=k
         ·subst hjk;rw[hok]at qN;cases qN;rw[hd]at he;cases he;exact e rfl
         ·exact hu j hj oj qN hlj (by omega) he
       ·intro u hu;rw[yq _ _ (fun e=>hu k UQ ok hok Y8 (by rw[hd,e])),UO u hu]
      ·refine⟨ak,σk,hsk,fun u hu=>QJ u fun j hj oj qN hlj hkj=>?_,UO⟩;by_cases hjk:j=k
       ·subst hjk;exact absurd ⟨hj,hlj⟩ Sc
       ·exact hu j hj oj qN hlj (by omega)
    obtain⟨an,σn,Wy,Uy,Wl⟩:=fill n (bM _);have YO:=cX.same (st:=⟨σn,S.H⟩) (σ':=S.σ) (fun u=>Uy u (fun j hj oj qN _ Z9=>by have:=wi j hj;omega)) Wy;have hwp:=hstep κ Θ an w YO;refine sS ho (by simp[Region.wanted,VG]) (GG (Q2:=_) hsel ?_ ?_ ?_ (fun e _ _ h=>h) hwp)
    ·intro x hx;cases x with
     |tmp u=>
      refine(Wl u fun j hj oj qN hlj he=>?_).symm;have hu:u∈o.looksAt l.toArray:=by
       unfold Oper.looksAt;exact aH.2 (.inl (bQ.2 ⟨.tmp u,by simpa using hx,rfl⟩))
      rcases(zu (n+c) o (by omega) him ho j hj oj qN).2.2 with h|h
      ·rw[qM inv.closed hi h]at hlj;cases hlj
      ·exact h u hu he
     |const v=>rfl
     |global g=>rfl
     |func f=>rfl
    ·rintro v w' ⟨κ',Θ',hs'⟩;let late:List (Nat×D):=(L.filterMap fun j=>bif listed.getD j false then none else(l.toArray[j]?).bind (·.dst)).map fun u=>(u,D.any)
     have FW:∀u,u∈late.map Prod.fst↔∃j∈L,∃oj,l.toArray[j]?=some oj/\listed.getD j false=false/\oj.dst=some u:=by
      intro u;simp only[late,List.map_map,cG,bQ,Function.comp];constructor
      ·rintro⟨x,⟨j,hj,hx⟩,rfl⟩;cases hl:listed.getD j false with
       |true=>rw[hl]at hx;cases hx
       |false=>
        rw[hl,aP]at hx;cases qN:l.toArray[j]? with
        |none=>rw[qN]at hx;cases hx
        |some oj=>rw[qN]at hx;exact⟨j,hj,oj,qN,hl,hx⟩
      ·rintro⟨j,hj,oj,qN,hl,hx⟩;exact⟨u,⟨j,hj,by rw[hl,aP,qN];exact hx⟩,rfl⟩
     have hs2:cX Γ ⟨late++S1.σ,S1.H⟩ κ' Θ' (a.put o.dst v) w':=by
      refine⟨by rw[Sj];exact hs.defers,by rw[Sk];exact hs.size,hs'.kQ,hs'.kC,?_,hs'.ob,hs'.own,hs'.old,hs'.mine,hs'.stays,hs'.mi⟩;intro u;show∃bs,lf w' κ' _ (lk (late++S1.σ) u) bs/\_;by_cases hu:u∈late.map Prod.fst
      ·rw[RA (fun p hp=>by simp only[late,cG]at hp;obtain⟨_,_,rfl⟩:=hp;rfl) hu];exact⟨[],.of (.any _),by simp⟩
      ·rw[wk _ _ _ (fun p hp e=>hu (cG.2 ⟨p,hp,e⟩))];have e1:(a.put o.dst v).tmps.getD u undef=(an.put o.dst v).tmps.getD u undef:=by
        have e0:=(Wl u fun j hj oj qN hlj he=>hu ((FW u).2 ⟨j,hj,oj,qN,hlj,he⟩)).symm;rcases EF with⟨tm,dm,Nd,Vi,_⟩|⟨Nd,_⟩
        ·rw[Nd];by_cases e:u=tm
         ·subst e;rw[A6 _ _ (by rw[hs.size];exact Vi),A6 _ _ (by rw[Wy.size];exact Vi)]
         ·rw[yq _ _ e,yq _ _ e];exact e0
        ·rw[Nd];exact e0
       rw[e1];exact hs'.slot u
     refine ih (c+1) S1 (listed.setIfInBounds (n+c) true) (late++S1.σ) κ' Θ' _ w' (inv.set hi uw) ?_ (by omega) ?_ ?_ (by omega) ?_ (hX.trans Xp) Xk ?_ hs2
     ·intro j hj VL;exact(kP j).2 (.inr (hN j hj VL))
     ·intro j zg hj2;by_cases e:j=n+c
      ·exact(kP j).2 (.inl e)
      ·exact(kP j).2 (.inr (hM j zg (by omega)))
     ·intro j zg hj2;rw[getD_set_ne false (by omega)];exact hT j (by omega) hj2
     ·intro u hu;rw[VO u (hu (n+c) o ho (by omega) (by omega))];exact hS u fun j oj qN zg hj2=>hu j oj qN zg (by omega)
     ·intro u hu;rw[wk];intro p hp e;obtain⟨j,hj,oj,qN,hl,he⟩:=(FW u).1 (cG.2 ⟨p,hp,e⟩);refine hu j hj oj qN ?_ he;rw[getD_set_ne false (by have:=wi j hj;omega)];exact hl
    ·rintro d w' ⟨κ',Θ',hs'⟩;have:=hs'.defers;cases VT:o.dst<;>rw[VT]at this<;>cases this
theorem BV{p:Nat->Bool}{n:Nat}:∀(k:Nat),(∀i,n<=i->i<n+k->p i=true)->((List.range (n+k)).filter p).length=((List.range n).filter p).length+k
 |0,_=>rfl
 |k+1,h=>by
  rw[<-gl,List.range_succ,List.filter_append,af,BV k (fun i h1 h2=>h i h1 (by omega))];have:p (n+k)=true:=h (n+k) (by omega) (by omega);simp[this];omega
def o6(P:Program)(Γ:oK)(ops:Array Oper)(Q:Exit->St->Prop)(st:St):Prop:=
 ∀κ Θ a w,cX Γ st κ Θ a w->wpAny P .any ops (fun e a' w'=>∃mh κ' Θ',cX Γ mh κ' Θ' a' w'/\Q e mh) ops.size (Array.replicate ops.size false) a w
theorem o6.aw{id:Nat}{ops:Array Oper}(hm:P.follows .mixedOrders=true)(h:o6 P Γ ops Q st):AW P Γ (.region id ops true) Q st:=
 fun κ Θ a w hs=>wp_region_any hm (h κ Θ a w.drew hs.drew)
theorem DL{l:List Oper}(n m:Nat)(L:aI)(Wa:CC l.toArray n m L=true)
 (h:BE P Γ l.toArray st.H (fun σ acc=>(∀i∈L,∀o,l[i]?=some o->tE X ⟨σ,st.H⟩ o.op=true)/\Iq P Γ X (fun mh=>AO P Γ l.toArray (l.drop m) Q mh) ((l.drop n).take (m-n)) ⟨σ,st.H++acc⟩) (l.take n) st.σ [] []):o6 P Γ l.toArray Q st:=by
 have hB:=Wa;simp only[CC,Kc,aN,bJ]at hB;obtain⟨⟨hnm,DA⟩,Ng,LC,hmid,Ks,Kv,L5,hL⟩:=hB;have hn:n<l.toArray.size:=by omega
 have BL:((List.range n).all fun i=>match l.toArray[i]? with
  |none=>false
  |some o=>(o.after.all fun e=> !Region.binds .any e||decide (e.on<i))&&
   ((o.looksAt l.toArray).all fun t=>(List.range n).all fun j=>match l.toArray[j]? with|some oj=> !(oj.dst==some t)||(decide (j<i)&&Region.waitsFor .any l.toArray i j)|none=>true)&&
   (List.range n).all fun j=>j==i||(match l.toArray[j]? with|some oj=> !(oj.dst==o.dst)||o.dst.isNone|none=>true))=true:=by
  rw[aQ];intro i hi;have h1:=aQ.1 Ks i (bB.2 (by have:=bB.1 hi;omega));have h2:=aQ.1 Kv i hi;cases ho:l.toArray[i]? with
  |none=>rw[ho]at h1;cases h1
  |some o=>
   simp only[ho,aN]at h1 h2⊢;exact⟨⟨h1,h2.1⟩,h2.2⟩
 have wi:∀i∈L,i<n:=by
  intro i hi;have:=aQ.1 hL i hi;simp only[aN,bJ]at this;exact this.1
 obtain⟨ps,BZ,hlen,CK,⟨hstill,hK⟩,Ur,SJ,Us⟩:=BE.unfold _ _ _ _ h;simp only[iQ,bH,rA,cP]at CK hK Ur SJ hstill;have hn':n<l.length:=by simpa using hn
 have hpl:ps.length=n:=by rw[hlen];simp;omega
 have hop:∀(i:Nat),i<n->∃o p,l.toArray[i]?=some o/\ps[i]?=some p/\o.dst=p.t/\nC P Γ l.toArray st.H (((ps.take i).filterMap Cp.sl).reverse++st.σ) o p/\p.r=st.H.length+((ps.take i).flatMap Cp.obs).length:=by
  intro i hi;have h1:l[i]?=some l[i]:=aR (by omega);have h2:ps[i]?=some ps[i]:=aR (by omega);have h3:=CK i l[i] ps[i] (by rw[bg,av hi];exact h1) h2;exact⟨l[i],ps[i],by simp[dW,h1],h2,h3.1.slots,h3.1,h3.2.1⟩
 have Gt:∀(i:Nat) p,ps[i]?=some p->p.r=st.H.length+((ps.take i).flatMap Cp.obs).length:=by
  intro i p hp;have hi:i<n:=by have:=(aB.1 hp).1;omega
  obtain⟨_,p',_,hp',_,_,hr⟩:=hop i hi;rw[hp]at hp';cases hp';exact hr
 have EI:∀(i:Nat) p id ob,ps[i]?=some p->p.up=some (id,ob)->st.H.length<=id/\(∃zs ds,ob=.box ds/\zs.length=ds.length/\((ps.take i).flatMap Cp.obs)[id-st.H.length]?=some (.box zs))/\∀(i2:Nat) q tV,i2<i->ps[i2]?=some q->q.up≠some (id,tV):=by
  intro i p id ob hp he;have hi:i<n:=by have:=(aB.1 hp).1;omega
  have h1:l[i]?=some l[i]:=aR (by omega);have h3:=(CK i l[i] p (by rw[bg,av hi];exact h1) hp).2.2 id ob he;exact⟨h3.2.1,h3.2.2.1,h3.2.2.2⟩
 have LF:∀(i j:Nat) p q id ob tV,ps[i]?=some p->ps[j]?=some q->p.up=some (id,ob)->q.up=some (id,tV)->i=j:=by
  intro i j p q id ob tV hp hq he yh;rcases ot i j with h|h|h
  ·exact absurd he ((EI j q id tV hq yh).2.2 i p ob h hp)
  ·exact h
  ·exact absurd yh ((EI i p id ob hp he).2.2 j q tV h hq)
 have LG:∀(i:Nat) p id ob,ps[i]?=some p->p.up=some (id,ob)->p.obs=[]:=by
  intro i p id ob hp he;have hi:i<n:=by have:=(aB.1 hp).1;omega
  obtain⟨_,p',_,hp',_,hc,_⟩:=hop i hi;rw[hp]at hp';cases hp';rcases hc.Mi with h|h
  ·rw[h]at he;cases he
  ·exact h
 have hfit:∀(i:Nat) p,ps[i]?=some p->p.r+p.obs.length<=st.H.length+(ps.flatMap Cp.obs).length:=by
  intro i p hp;rw[Gt i p hp,lF hp];simp only[af];omega
 have EE:∀(i j:Nat) p q,ps[i]?=some p->ps[j]?=some q->i<j->p.r+p.obs.length<=q.r:=by
  intro i j p q hp hq hij;rw[Gt i p hp,Gt j q hq];have:=De hp hij;omega
 have hdist:∀(i j:Nat) p q t,ps[i]?=some p->ps[j]?=some q->p.t=some t->q.t=some t->i=j:=by
  intro i j p q t hp hq V9 yh;have hi:i<n:=by have:=(aB.1 hp).1;omega
  have hj:j<n:=by have:=(aB.1 hq).1;omega
  obtain⟨oi,p',ho,hp',V8,_⟩:=hop i hi;obtain⟨oj,q',qN,DB,hdj,_⟩:=hop j hj;rw[hp]at hp';cases hp';rw[hq]at DB;cases DB;have:=aQ.1 BL i (bB.2 hi);simp only[ho,aN]at this;have:=aQ.1 this.2 j (bB.2 hj);simp only[qN,V8,hdj,V9,yh,jx,bX,ny,Option.isNone_some,ny,cD]at this;exact this.symm
 have wW:∀(i:Nat) p t,ps[i]?=some p->p.t=some t->∀q∈ps.filterMap Cp.sl,q.1=t->q=(t,p.d):=by
  intro i p t hp hpt q hq he;obtain⟨q',DB,Bh⟩:=bQ.1 hq;obtain⟨j,hj,rfl⟩:=cq.1 DB;have qx:ps[j]?=some ps[j]:=aR hj;unfold Cp.sl at Bh;cases Qh:ps[j].t with
  |none=>rw[Qh]at Bh;cases Bh
  |some u=>
   rw[Qh]at Bh;simp only[bp,aS]at Bh;subst Bh;simp only at he;subst he;have:=hdist j i _ p u qx hp Qh hpt;subst this;rw[hp]at qx;cases qx;rfl
 have hlk:∀(i:Nat) (o:Oper),i<n->l.toArray[i]?=some o->∀t∈o.looksAt l.toArray,lk (((ps.take i).filterMap Cp.sl).reverse++st.σ) t=lk ((ps.filterMap Cp.sl).reverse++st.σ) t:=by
  intro i o hin ho t ht;have zf:=aQ.1 BL i (bB.2 hin);simp only[ho,aN]at zf;have zf:=aQ.1 zf.1.2 t ht;by_cases hex:∃(j:Nat) (q:Cp),ps[j]?=some q/\q.t=some t
  ·obtain⟨j,q,hq,Bi⟩:=hex;have hj:j<n:=by have:=(aB.1 hq).1;omega
   obtain⟨oj,q',qN,DB,hdj,_⟩:=hop j hj;rw[hq]at DB;cases DB;have:=aQ.1 zf j (bB.2 hj);simp only[qN,hdj,Bi,jx,bX,mQ,aN,bJ]at this;obtain⟨hji,_⟩:=this;rw[yl (ps.filterMap Cp.sl).reverse st.σ (t,q.d) (by rw[cV];exact bQ.2 ⟨q,aE hq,by simp[Cp.sl,Bi]⟩) (fun q2 qx yh=>wW j q t hq Bi q2 (by simpa using qx) yh)];refine yl ((ps.take i).filterMap Cp.sl).reverse st.σ (t,q.d) ?_ (fun q2 qx yh=>wW j q t hq Bi q2 ?_ yh)
   ·rw[cV];exact bQ.2 ⟨q,aE (i:=j) (by rw[bg,av hji];exact hq),by simp[Cp.sl,Bi]⟩
   ·obtain⟨q3,Gu,qO⟩:=bQ.1 (cV.1 qx);exact bQ.2 ⟨q3,bC Gu,qO⟩
  ·have hno:∀q3∈ps,q3.t≠some t:=by
    intro q3 Gu he;obtain⟨j,hj,Sm⟩:=cq.1 Gu;exact hex ⟨j,q3,by rw[<-Sm];exact aR hj,he⟩
   have Sr:∀(qs:List Cp),(∀q3∈qs,q3.t≠some t)->∀p∈(qs.filterMap Cp.sl).reverse,p.1≠t:=by
    intro qs Bh p hp he;obtain⟨q3,Gu,qO⟩:=bQ.1 (cV.1 hp);unfold Cp.sl at qO;cases hpt:q3.t with
    |none=>rw[hpt]at qO;cases qO
    |some u=>rw[hpt]at qO;simp only[bp,aS]at qO;subst qO;simp only at he;exact Bh q3 Gu (by rw[hpt,he])
   rw[wk _ _ _ (Sr _ hno),wk _ _ _ (Sr _ (fun q3 Gu=>hno q3 (bC Gu)))]
 have P9:∀i∈L,∃(o:Oper) (p:Cp),l.toArray[i]?=some o/\ps[i]?=some p/\p.obs=[]/\p.up=none/\KF P Γ X l ((ps.filterMap Cp.sl).reverse++st.σ) st.H i:=by
  intro i hi;have hin:=wi i hi;have h1:=aQ.1 hL i hi;obtain⟨o,p,ho,hp,hd,hc,_⟩:=hop i hin;simp only[ho,aN]at h1;have hg:o.guard=none:=by simpa using h1.2.1
  have hst:=hstill i hi o (by simpa using ho);rcases hc with⟨t,hpt,IK,hdt,htn,hc⟩|⟨_,_,hdt,_⟩
  ·have hc:z7 P st.H (((ps.take i).filterMap Cp.sl).reverse++st.σ) o p:=by
    rcases hc with⟨_,hc⟩|⟨_,_,_,_,hg',_⟩|⟨_,_,_,hg',_⟩
    ·exact hc
    ·rw[hg]at hg';cases hg'
    ·rw[hg]at hg';cases hg'
   have hpv:pv P ⟨((ps.take i).filterMap Cp.sl).reverse++st.σ,st.H⟩ o.op=some p.d/\p.obs=[]:=by
    rcases hc with(hc|⟨f,xs,ts,ds,ms,d,Gq,_⟩)| (⟨T,zs,Gq,_⟩|⟨T,x,ds,Gq,_⟩)|⟨T,e,sz,len,parts,zs,ds,es,Gq,_⟩|⟨T,e,sz,len,parts,zs,ds,Gq,_⟩
    ·exact hc
    all_goals(rw[Gq]at hst;simp[tE]at hst)
   refine⟨o,p,ho,hp,hpv.2,IK,o,t,p.d,ho,hg,hdt,htn,?_,?_⟩
   ·exact yl (ps.filterMap Cp.sl).reverse st.σ (t,p.d) (by rw[cV];exact bQ.2 ⟨p,aE hp,by simp[Cp.sl,hpt]⟩) (fun q2 qx yh=>wW i p t hp hpt q2 (by simpa using qx) yh)
   ·intro σ' H' hX FX;have e1:pv P ⟨(ps.filterMap Cp.sl).reverse++st.σ,st.H⟩ o.op=some p.d:=Ed (fun _ _ h=>h) (CD (st:=⟨_,st.H⟩) (mh:=⟨_,st.H⟩) (ops:=l.toArray) (o:=o) (fun t ht=>hlk i o hin ho t ht)) hpv.1;refine MZ hX hst ?_ e1;intro x hx;rw[FM σ' H' st.H x];exact(CD (st:=⟨σ',st.H⟩) (mh:=⟨_,st.H⟩) (ops:=l.toArray) (o:=o) (fun t ht=>FX t ht) x hx).symm
  ·have:o.dst.isSome=true:=h1.2.2;rw[hdt]at this;cases this
 intro κ Θ a w hs;have switch:∀(f:Nat) (listed:Array Bool) (σ':List (Nat×D)) (H':ax) (κ:Nat->Option Value) (Θ:Nat->Nat) (a:Act) (w:World),HeadInv .any l.toArray n listed->
  ((List.range n).filter fun i=> !listed.getD i false).length=f->
  (∀(i:Nat) p t,ps[i]?=some p->p.t=some t->listed.getD i false=true->lk σ' t=p.d)->
  (∀t,(∀(i:Nat) p,ps[i]?=some p->listed.getD i false=true->p.t≠some t)->lk σ' t=lk st.σ t)->
  H'.length=st.H.length+(ps.flatMap Cp.obs).length->Ext st.H H'->
  (∀(i:Nat) p,ps[i]?=some p->listed.getD i false=true->∀(j:Nat) o,p.obs[j]?=some o->(∀(i2:Nat) q ob,ps[i2]?=some q->listed.getD i2 false=true->q.up≠some (p.r+j,ob))->H'[p.r+j]?=some o)->
  (∀(i:Nat) q id ob,ps[i]?=some q->listed.getD i false=true->q.up=some (id,ob)->H'[id]?=some ob/\∃v,κ id=some v)->
  (∀(i:Nat) p,ps[i]?=some p->listed.getD i false=false->∀j,j<p.obs.length->κ (p.r+j)=none)->
  cX Γ ⟨σ',H'⟩ κ Θ a w->(∀i,i<n->i∉L->listed.getD i false=true)->
  wpAny P .any l.toArray (fun e a' w'=>∃mh κ' Θ',cX Γ mh κ' Θ' a' w'/\Q e mh) (f+(l.toArray.size-n)) listed a w:=by
  intro f listed σ' H' κ Θ a w inv jj hA hB On Jj IC Ms IB hs hN;have Oo:∀(i:Nat) p,ps[i]?=some p->(p.up≠none\/p.obs≠[])->listed.getD i false=true:=by
   intro i p hp hne;have hi:i<n:=by have:=(aB.1 hp).1;omega
   refine hN i hi fun Ot=>?_
   obtain⟨_,p',_,hp',h1,h2,_⟩:=P9 i Ot;rw[hp]at hp';cases hp';rcases hne with h|h
   ·exact h h2
   ·exact h h1
  have EG:∀t,(∀i∈L,∀o,l.toArray[i]?=some o->listed.getD i false=false->o.dst≠some t)->lk σ' t=lk ((ps.filterMap Cp.sl).reverse++st.σ) t:=by
   intro t hno;by_cases hex:∃(i:Nat) (p:Cp),ps[i]?=some p/\p.t=some t
   ·obtain⟨i,p,hp,hpt⟩:=hex;have hi:i<n:=by have:=(aB.1 hp).1;omega
    have YB:listed.getD i false=true:=by
     cases hl:listed.getD i false with
     |true=>rfl
     |false=>
      obtain⟨o,p',ho,hp',hd,_⟩:=hop i hi;rw[hp]at hp';cases hp';by_cases Ot:i∈L
      ·exact absurd (by rw[hd,hpt]) (hno i Ot o ho hl)
      ·rw[hN i hi Ot]at hl;cases hl
    rw[hA i p t hp hpt YB];exact(yl (ps.filterMap Cp.sl).reverse st.σ (t,p.d) (by rw[cV];exact bQ.2 ⟨p,aE hp,by simp[Cp.sl,hpt]⟩) (fun q hq he=>wW i p t hp hpt q (by simpa using hq) he)).symm
   ·rw[hB t (fun i p hp _ he=>hex ⟨i,p,hp,he⟩),wk];intro q hq he;obtain⟨p,hp,hps⟩:=bQ.1 (cV.1 hq);obtain⟨i,hi,hpi⟩:=cq.1 hp;refine hex ⟨i,p,by rw[<-hpi];exact aR hi,?_⟩;unfold Cp.sl at hps;cases hpt:p.t with
    |none=>rw[hpt]at hps;cases hps
    |some u=>rw[hpt]at hps;simp only[bp,aS]at hps;subst hps;simp only at he;rw[he]
  have Kj:H'=st.H++BZ:=by
   apply kX;intro k;by_cases h1:k<st.H.length
   ·rw[aV h1];exact Jj k _ (aR h1)|>.trans (aR h1).symm
   ·rw[aY (by omega)];by_cases hex:∃(i:Nat) (q:Cp) (ob:Ob),ps[i]?=some q/\q.up=some (k,ob)
    ·obtain⟨i,q,ob,hq,he⟩:=hex;rw[(Ms i q k ob hq (Oo i q hq (.inl (by rw[he];simp))) he).1,Us i q k ob hq he]
    ·have hno:∀(i:Nat) q ob,ps[i]?=some q->q.up≠some (k,ob):=fun i q ob hq he=>hex ⟨i,q,ob,hq,he⟩
     rw[SJ (k-st.H.length) (fun i q ob hq=>by rw[show st.H.length+(k-st.H.length)=k from by omega];exact hno i q ob hq)];by_cases h2:k-st.H.length<(ps.flatMap Cp.obs).length
     ·obtain⟨i,p,j,hp,hj,hk⟩:=rF h2;have e3:p.r+j=k:=by rw[Gt i p hp];omega
      have h3:=IC i p hp (Oo i p hp (.inr (by intro e;rw[e]at hj;simp at hj))) j _ (aR hj) (fun i2 q ob hq _=>by rw[e3];exact hno i2 q ob hq);rw[e3]at h3;rw[h3,lF hp,hk,aY (by omega),cR,aV hj,aR hj]
     ·rw[bZ (by omega),bZ (by omega)]
  subst Kj;have hsz:=inv.size;have hcm:((List.range m).filter fun i=> !listed.getD i false).length=f+(m-n):=by
   have:=BV (p:=fun i=> !listed.getD i false) (n:=n) (m-n) (fun i h1 h2=>by
    have:=getD_both (inv.tail i h1 (by omega));simp only[this];rfl)
   rw[show n+(m-n)=m from by omega]at this;rw[this,jj]
  have:=FL (Q:=Q) (H0:=st.H) Wa (fun i hi=>by obtain⟨_,_,_,_,_,_,h⟩:=P9 i hi;exact h) (f+(m-n)) 0 ⟨(ps.filterMap Cp.sl).reverse++st.σ,st.H++BZ⟩ listed σ' κ Θ a w
   ⟨hsz,inv.closed,fun t h1 h2=>absurd h2 (by omega)⟩ hN (by omega) (fun i h1 h2=>absurd h2 (by omega)) (fun i h1 h2=>getD_both (inv.tail i (by omega) h2)) hcm (fun _ _=>rfl)
   ((qe.refl _).app _) (by simpa using hK) EG hs
  rw[show f+(m-n)+(l.toArray.size-m)=f+(l.toArray.size-n)from by omega]at this;exact this
 have main:∀(f:Nat) (listed:Array Bool) (σ':List (Nat×D)) (H':ax) (κ:Nat->Option Value) (Θ:Nat->Nat) (a:Act) (w:World),HeadInv .any l.toArray n listed->
  ((List.range n).filter fun i=> !listed.getD i false).length=f->
  (∀(i:Nat) p t,ps[i]?=some p->p.t=some t->listed.getD i false=true->lk σ' t=p.d)->
  (∀t,(∀(i:Nat) p,ps[i]?=some p->listed.getD i false=true->p.t≠some t)->lk σ' t=lk st.σ t)->
  H'.length=st.H.length+(ps.flatMap Cp.obs).length->Ext st.H H'->
  (∀(i:Nat) p,ps[i]?=some p->listed.getD i false=true->∀(j:Nat) o,p.obs[j]?=some o->(∀(i2:Nat) q ob,ps[i2]?=some q->listed.getD i2 false=true->q.up≠some (p.r+j,ob))->H'[p.r+j]?=some o)->
  (∀(i:Nat) q id ob,ps[i]?=some q->listed.getD i false=true->q.up=some (id,ob)->H'[id]?=some ob/\∃v,κ id=some v)->
  (∀(i:Nat) p,ps[i]?=some p->listed.getD i false=false->∀j,j<p.obs.length->κ (p.r+j)=none)->
  cX Γ ⟨σ',H'⟩ κ Θ a w->
  wpAny P .any l.toArray (fun e a' w'=>∃mh κ' Θ',cX Γ mh κ' Θ' a' w'/\Q e mh) (f+(l.toArray.size-n)) listed a w:=by
  intro f
  induction f with
  |zero=>
   intro listed σ' H' κ Θ a w inv jj hA hB On Jj IC Ms IB hs;have hall:∀i,i<n->listed.getD i false=true:=by
    intro i hi;have h0:=cF jj;cases hl:listed.getD i false with
    |true=>rfl
    |false=>
     have:i∈(List.range n).filter fun i=> !listed.getD i false:=eA.2 ⟨bB.2 hi,by simp[hl]⟩
     rw[h0]at this;cases this
   exact switch 0 listed σ' H' κ Θ a w inv jj hA hB On Jj IC Ms IB hs (fun i hi _=>hall i hi)
  |succ f ih=>
   intro listed σ' H' κ Θ a w inv jj hA hB On Jj IC Ms IB hs;by_cases hsw:∀i,i<n->i∉L->listed.getD i false=true
   ·exact switch (f+1) listed σ' H' κ Θ a w inv jj hA hB On Jj IC Ms IB hs hsw
   have Vl:∃i,i<n/\i∉L/\listed.getD i false=false:=by
    obtain⟨i,hi⟩:=Classical.not_forall.1 hsw;refine⟨i,?_⟩;by_cases h1:i<n
    ·by_cases h2:i∈L
     ·exact absurd (fun _ h=>absurd h2 h) hi
     ·refine⟨h1,h2,?_⟩;cases hl:listed.getD i false with
      |false=>rfl
      |true=>exact absurd (fun _ _=>hl) hi
    ·exact absurd (fun h=>absurd h h1) hi
   have hun:∃i,i<n/\listed.getD i false=false:=by
    have hne:((List.range n).filter fun i=> !listed.getD i false)≠[]:=by
     intro h0;rw[h0]at jj;simp at jj
    obtain⟨i,hi⟩:=nc _ hne;obtain⟨h1,h2⟩:=eA.1 hi;exact⟨i,bB.1 h1,by simpa using h2⟩
   have hsz:=inv.size;rw[show f+1+(l.toArray.size-n)=(f+(l.toArray.size-n))+1 from by omega];refine⟨fun h0=>?_,fun i hi=>?_⟩
   ·exfalso;obtain⟨i,⟨hin,JA⟩,hmin⟩:=exists_least (p:=fun i=>i<n/\listed.getD i false=false) hun;obtain⟨o,p,ho,_,_,_⟩:=hop i hin;have:i∈Region.ready .any l.toArray listed:=by
     refine mem_ready.2 ⟨getD_in (by rw[hsz];omega) JA,o,ho,fun e he hb=>?_⟩;have:=aQ.1 BL i (bB.2 hin);simp only[ho,aN]at this;have:=oM.1 this.1.1 e he;simp only[hb,bX,mQ,bJ]at this;cases hl:listed.getD e.on false with
     |true=>rfl
     |false=>
      have:=hmin e.on ⟨by omega,hl⟩;omega
    rw[h0]at this;cases this
   ·obtain⟨i0,hi0,hl0⟩:=hun;have hin:i<n:=by
     rcases cg i n with h|h
     ·exact h
     ·obtain⟨i1,hi1,VH,hl1⟩:=Vl;obtain⟨_,oi,Si,_⟩:=mem_ready.1 hi;have uw:i<l.toArray.size:=(aX.1 Si).1;exfalso;rcases cg i m with hm1|hm1
      ·have h1:=aQ.1 hmid (i-n) (bB.2 (by omega));have h2:=aQ.1 h1 i1 (bB.2 (by omega));rw[show n+(i-n)=i from by omega]at h2;simp only[iP]at h2;rcases h2 with h2|h2
       ·rw[qM inv.closed hi h2]at hl1;cases hl1
       ·exact VH (by simpa using h2)
      ·have h1:=aQ.1 LC (i-m) (bB.2 (by omega));have h2:=aQ.1 h1 i1 (bB.2 (by omega));rw[show m+(i-m)=i from by omega]at h2;rw[qM inv.closed hi h2]at hl1;cases hl1
    obtain⟨o,p,ho,hp,hd,hc,_⟩:=hop i hin;obtain⟨JA,o',ho',hall⟩:=mem_ready.1 hi;rw[ho]at ho';cases ho';have tQ:=getD_both JA;have QO:nC P Γ l.toArray st.H σ' o p:=by
     refine nC.congr (σ:=((ps.take i).filterMap Cp.sl).reverse++st.σ) (σ':=σ') ?_ hc;intro t ht;have zf:=aQ.1 BL i (bB.2 hin);simp only[ho,aN]at zf;have zf:=aQ.1 zf.1.2 t ht;by_cases hex:∃(j:Nat) (q:Cp),ps[j]?=some q/\q.t=some t
     ·obtain⟨j,q,hq,Bi⟩:=hex;have hj:j<n:=by have:=(aB.1 hq).1;omega
      obtain⟨oj,q',qN,DB,hdj,_⟩:=hop j hj;rw[hq]at DB;cases DB;have:=aQ.1 zf j (bB.2 hj);simp only[qN,hdj,Bi,jx,bX,mQ,aN,bJ]at this;obtain⟨hji,LH⟩:=this;obtain⟨Ya,L9,e,he,hb,hon⟩:=Region.waitsFor_spec LH;rw[ho]at L9;cases L9;have hjl:=hall e he hb;rw[hon]at hjl;rw[hA j q t hq Bi hjl];refine yl ((ps.take i).filterMap Cp.sl).reverse st.σ (t,q.d) ?_ (fun q2 qx yh=>wW j q t hq Bi q2 ?_ yh)
      ·rw[cV];exact bQ.2 ⟨q,aE (i:=j) (by rw[bg,av hji];exact hq),by simp[Cp.sl,Bi]⟩
      ·obtain⟨q3,Gu,qO⟩:=bQ.1 (cV.1 qx);exact bQ.2 ⟨q3,bC Gu,qO⟩
     ·rw[hB t (fun j q hq _ he=>hex ⟨j,q,hq,he⟩),wk];intro q hq he;obtain⟨q3,Gu,qO⟩:=bQ.1 (cV.1 hq);obtain⟨j,hj,Sm⟩:=cq.1 (bC Gu);refine hex ⟨j,q3,by rw[<-Sm];exact aR hj,?_⟩;unfold Cp.sl at qO;cases hpt:q3.t with
      |none=>rw[hpt]at qO;cases qO
      |some u=>rw[hpt]at qO;simp only[bp,aS]at qO;subst qO;simp only at he;rw[he]
    have Y2:=hfit i p hp;have Kx:∀id ob,p.up=some (id,ob)->∃v,κ id=some v:=by
     intro id ob he;rcases QO with⟨_,_,h,_⟩|⟨_,_,_,_,T,x,y,id',ds,Gq,hx',_,_,_,_,IK⟩
     ·rw[h]at he;cases he
     ·rw[IK]at he;cases he;obtain⟨b1,r1,_⟩:=hs.ev x;rw[FM σ' H' st.H x,hx']at r1;obtain⟨g,hk,_⟩:=r1.rJ;exact⟨_,hk⟩
    have LD:∀id ob,p.up=some (id,ob)->∃zs ds,H'[id]?=some (.box zs)/\ob=.box ds/\zs.length=ds.length:=by
     intro id ob he;obtain⟨u1,⟨zs,ds,u2,u3,u4⟩,_⟩:=EI i p id ob hp he;refine⟨zs,ds,?_,u2,u3⟩;obtain⟨i1,p1,j1,hp1,zg,hk1⟩:=rF (aB.1 u4).1;have Gr:ps[i1]?=some p1:=by
      have:=(aB.1 hp1).1;rw[bg]at hp1;split at hp1
      ·exact hp1
      ·cases hp1
     have hi1:i1<i:=by have:=(aB.1 hp1).1;simp at this;omega
     have et:(ps.take i).take i1=ps.take i1:=by rw[nA,dN (by omega)]
     rw[et]at hk1;have e1:p1.r+j1=id:=by rw[Gt i1 p1 Gr];omega
     have rO:p1.obs[j1]?=some (.box zs):=by
      rw[lF hp1,et,hk1,aY (by omega),cR,aV zg]at u4;exact u4
     have hl1:listed.getD i1 false=true:=by
      cases hl:listed.getD i1 false with
      |true=>rfl
      |false=>
       have h0:=IB i1 p1 Gr hl j1 zg;rw[e1]at h0;obtain⟨v,hv⟩:=Kx id ob he;rw[h0]at hv;cases hv
     have:=IC i1 p1 Gr hl1 j1 _ rO (fun i2 q tV hq hl yh=>by
      rw[e1]at yh;have:=LF i i2 p q id ob tV hp hq he yh;subst this;rw[tQ]at hl;cases hl)
     rw[e1]at this;exact this
    refine QO.wp hs Jj ho (by omega) (fun j hj=>IB i p hp tQ j hj) LD fun κ' Θ' a' w' hs' hsame=>?_
    have kP:∀(j:Nat),(listed.setIfInBounds i true).getD j false=true↔(j=i\/listed.getD j false=true):=by
     intro j;by_cases e:i=j
     ·subst e;have:i<listed.size:=by rw[hsz];omega
      simp[this]
     ·rw[getD_set_ne false e];constructor
      ·exact .inr
      ·rintro(rfl|h)
       ·exact absurd rfl e
       ·exact h
    have hput:(p.tS H').length=H'.length:=by
     unfold Cp.tS;split
     ·simp
     ·exact nY (by omega)
    have QZ:∀(k:Nat),k<st.H.length->(p.tS H')[k]?=H'[k]?:=by
     intro k hk;unfold Cp.tS;split
     ·rename_i id ob he;have:=(EI i p id ob hp he).1;rw[bO (by omega)]
     ·rw[nX (by omega),av (by rw[Gt i p hp];omega)]
    refine ih (listed.setIfInBounds i true) (p.slot σ') (p.tS H') κ' Θ' a' w' (inv.set hi hin) ?_ ?_ ?_ (by rw[hput];exact On) ?_ ?_ ?_ ?_ hs'
    ·have J6:((List.range n).filter fun j=> !(listed.setIfInBounds i true).getD j false)=((List.range n).filter fun j=> !listed.getD j false).erase i:=by
      have hnd:((List.range n).filter fun j=> !listed.getD j false).Nodup:=qE _ tX;rw[hnd.erase_eq_filter,rU];apply sn;intro j _;by_cases e:j=i
      ·subst e;have:=(kP j).2 (.inl rfl);rw[this];simp
      ·rw[getD_set_ne false (ld e)];simp[e]
     rw[J6,jA (eA.2 ⟨bB.2 hin,by simp[tQ]⟩),jj];rfl
    ·intro j q t hq Bi hl;unfold Cp.slot;rcases(kP j).1 hl with rfl|uP
     ·rw[hp]at hq;cases hq;rw[Bi];simp[lk]
     ·cases hpt:p.t with
      |none=>exact hA j q t hq Bi uP
      |some u=>
       simp only[lk];rw[ai,hA j q t hq Bi uP];intro e;have:=hdist j i q p t hq hp Bi (by rw[hpt,e]);subst this;rw[tQ]at uP;cases uP
    ·intro t ht;unfold Cp.slot;have oG:=hB t (fun j q hq hl=>ht j q hq ((kP j).2 (.inr hl)));cases hpt:p.t with
     |none=>exact oG
     |some u=>
      simp only[lk];rw[ai (fun e=>ht i p hp ((kP i).2 (.inl rfl)) (by rw[hpt,e]))];exact oG
    ·intro j y hj;rw[QZ j (aB.1 hj).1];exact Jj j y hj
    ·intro j q hq hl k y hy hno;have Sc:=(aB.1 hy).1;unfold Cp.tS;split
     ·rename_i id ob he;have hne:q.r+k≠id:=fun e=>hno i p ob hp ((kP i).2 (.inl rfl)) (by rw[e];exact he)
      rw[bO (ld hne)];rcases(kP j).1 hl with rfl|uP
      ·rw[hp]at hq;cases hq;rw[LG j p id ob hp he]at hy;simp at hy
      ·exact IC j q hq uP k y hy (fun i2 q2 tV qx Jk=>hno i2 q2 tV qx ((kP i2).2 (.inr Jk)))
     ·rw[nX (by omega)];rcases(kP j).1 hl with rfl|uP
      ·rw[hp]at hq;cases hq;rw[ai (by omega),av (by omega),cR];exact hy
      ·have hne:j≠i:=fun e=>by subst e;rw[tQ]at uP;cases uP
       have h3:=IC j q hq uP k y hy (fun i2 q2 tV qx Jk=>hno i2 q2 tV qx ((kP i2).2 (.inr Jk)));rcases oN hne with h|h
       ·have:=EE j i q p hq hp h;rw[av (by omega)];exact h3
       ·have:=EE i j p q hp hq h;rw[ai (by omega),ai (by omega)];exact h3
    ·intro j q id ob hq hl he;rcases(kP j).1 hl with rfl|uP
     ·rw[hp]at hq;cases hq;obtain⟨zs,ds,z1,_⟩:=LD id ob he;have hlt:=(aB.1 z1).1;refine⟨by simp only[Cp.tS,he];rw[cT hlt],?_⟩;obtain⟨v,hv⟩:=Kx id ob he;refine⟨v,?_⟩;rw[hsame id (by rw[LG j p id ob hp he];simp;omega)];exact hv
     ·obtain⟨h1,v,hv⟩:=Ms j q id ob hq uP he;have hout:id<p.r\/p.r+p.obs.length<=id:=by
       rcases cg id p.r with h|h
       ·exact .inl h
       ·rcases cg id (p.r+p.obs.length)with h2|h2
        ·have:=IB i p hp tQ (id-p.r) (by omega);rw[show p.r+(id-p.r)=id from by omega,hv]at this;cases this
        ·exact .inr h2
      refine⟨?_,v,by rw[hsame id hout];exact hv⟩;unfold Cp.tS;split
      ·rename_i TD tV yh;have hne:TD≠id:=fun e=>by
        subst e;have:=LF i j p q TD tV ob hp hq yh he;subst this;rw[tQ]at uP;cases uP
       rw[bO hne];exact h1
      ·rw[nX (by omega)];rcases hout with h|h
       ·rw[av h];exact h1
       ·rw[ai (by omega),ai (by omega)];exact h1
    ·intro j q hq hl k hk;have hne:j≠i:=fun e=>by
      subst e;have:=(kP j).2 (.inl rfl);rw[this]at hl;cases hl
     have uP:listed.getD j false=false:=by
      cases h:listed.getD j false with
      |false=>rfl
      |true=>have:=(kP j).2 (.inr h);rw[this]at hl;cases hl
     have h3:=IB j q hq uP k hk;rw[hsame,h3];rcases oN hne with h|h
     ·have:=EE j i q p hq hp h;omega
     ·have:=EE i j p q hp hq h;omega
 have Qz:HeadInv .any l.toArray n (Array.replicate l.toArray.size false):=
  ⟨by simp,fun j oj _ hl=>(by rw[getD_replicate_false]at hl;cases hl),fun t _ ht=>getD_in (by simpa using ht) (getD_replicate_false _ _)⟩
 have jj:((List.range n).filter fun i=> !(Array.replicate l.toArray.size false).getD i false).length=n:=by
  rw[List.filter_eq_self.2]
  ·simp
  ·intro i _;rw[getD_replicate_false];rfl
 have:=main n (Array.replicate l.toArray.size false) st.σ (st.H++List.replicate (ps.flatMap Cp.obs).length .gone) κ Θ a w Qz jj (fun i p t _ _ hl=>by rw[getD_replicate_false]at hl;cases hl) (fun t _=>rfl)
  (by simp) (fun i o h=>by rw[aV (aB.1 h).1];exact h) (fun i p _ hl=>by rw[getD_replicate_false]at hl;cases hl)
  (fun i q id ob _ hl=>by rw[getD_replicate_false]at hl;cases hl)
  (fun i p hp _ j _=>hs.kQ _ (by rw[Gt i p hp];omega)) (hs.room _)
 rw[show n+(l.toArray.size-n)=l.toArray.size from by omega]at this;exact this
def BR(X:aI)(st:St)(op:Op)(A:ck):Bool:=match op with
 | .buildSlice _ _ _=>true
 | .build _ _=>true
 | .extract _ _=>true
 | .field _ _ _=>true
 | .move _=>true
 | .alloc _=>true
 | .binOp _ _ _ _ _=>true
 | .indexAddr _ x _=>(CV st (st.ev x)).isNone
 | .load _ x=>(ES st (st.ev x)).isNone&&(match st.ev x,A with| .op id _ _ _,.tk _::_=>X.contains id|_,_=>true)
 | .store _ x _=>(match st.ev x with| .ptr id _=>X.contains id|_=>false)
 | .call c=>(match c.callee,A with
  | .builtin .append,_=>true
  | .value (.func _),.d _::_=>true
  | .value (.func _),.gf _ _::_=>true
  | .value (.func _),.gp _ _ _::_=>(match c.args.toList with|x::_=>(match st.ev x with| .ptr id _=>X.contains id|_=>false)| []=>false)
  |_,_=>false)
 |_=>false
def FT(X:aI)(H H':ax):Bool:=(List.range H.length).all fun i=>X.contains i||(match H[i]? with|some .gone=>true|_=>(match H'[i]? with|some .gone=>false|_=>true))
def Ca(P:Program)(nt:Nat)(X:aI):List Oper->St->ck->Option (St×ck×uY)
 | [],st,A=>some (st,A,[])
 |o::rest,st,A=>match o.guard,BR X st o.op A with
  |none,true=>(match yK P nt o st A with
   |some (qC,A1,p)=>(match FT X st.H qC.H,Ca P nt X rest qC A1 with|true,some (Bv,A2,q)=>some (Bv,A2,p++q)|_,_=>none)
   |none=>none)
  |_,_=>none
theorem Fg{H:ax}{ms:aI}{i:Nat}(h:i∈ms)(hl:i<H.length):(kill H ms)[i]?=some .gone:=by
 induction ms generalizing H with
 |nil=>cases h
 |cons m ms ih=>
  show(kill (H.set m .gone) ms)[i]?=_;by_cases hi:i∈ms
  ·exact ih hi (by simpa using hl)
  ·rw[cj hi];rcases au.1 h with rfl|h
   ·rw[cT hl]
   ·exact absurd h hi
theorem IA{X:aI}{H H':ax}(h:FT X H H'=true){i:Nat}{o:Ob}(hi:i∉X)(ho:H[i]?=some o)(hg:H'[i]?=some .gone):o=.gone:=by
 have h1:=aQ.1 h i (bB.2 (aB.1 ho).1);rw[ho,hg,List.contains_eq_mem,cA hi,mQ]at h1;cases o<;>first|rfl|cases h1
theorem CQ{X:aI}{H:ax}{ms:aI}{n:ax}(h:FT X H (kill H ms++n)=true):qe X H (kill H ms++n):=by
 intro i o hi ho;have hl:=(aB.1 ho).1;have e:(kill H ms++n)[i]?=(kill H ms)[i]?:=aV (by rw[dY];exact hl);by_cases hm:i∈ms
 ·have e2:=e.trans (Fg hm hl);rw[e2,IA h hi ho e2]
 ·rw[e,cj hm,ho]
theorem JJ{X:aI}{H:ax}{ms:aI}{n:ax}{id:Nat}{b:Ob}(hid:id∈X)(h:FT X H ((kill H ms).set id b++n)=true):qe X H ((kill H ms).set id b++n):=by
 intro i o hi ho;have hne:id≠i:=fun e=>hi (e▸hid)
 have hl:=(aB.1 ho).1;have e:((kill H ms).set id b++n)[i]?=(kill H ms)[i]?:=by
  rw[aV (by rw[kS,dY];exact hl),bO hne]
 by_cases hm:i∈ms
 ·have e2:=e.trans (Fg hm hl);rw[e2,IA h hi ho e2]
 ·rw[e,cj hm,ho]
theorem MW{X:aI}{nt:Nat}{o:Oper}{A A1:ck}{qC:St}{p:uY}(hk:BR X st o.op A=true)(Rt:FT X st.H qC.H=true)(h:yK P nt o st A=some (qC,A1,p)):((∃t d,o.dst=some t/\t<nt/\qC.σ=(t,d)::st.σ)\/(o.dst=none/\qC.σ=st.σ))/\qe X st.H qC.H:=by
 have plain:∀ {t:Nat},o.dst=some t->(if t<nt then match xy P st o.op A with|some (d,A,ow)=>some ((⟨(t,d)::st.σ,st.H⟩:St),A,ow)|none=>none else none)=some (qC,A1,p)->((∃t d,o.dst=some t/\t<nt/\qC.σ=(t,d)::st.σ)\/(o.dst=none/\qC.σ=st.σ))/\qe X st.H qC.H:=by
  intro t hd h;split at h
  ·rename_i ht;split at h
   ·cases h;exact⟨.inl ⟨t,_,hd,ht,rfl⟩,qe.refl _⟩
   ·cases h
  ·cases h
 unfold yK at h;split at h
 case h_2=>
  rename_i T t hop hd;split at h
  ·rename_i hc;split at h
   ·cases h;exact⟨.inl ⟨t,_,hd,hc,rfl⟩,qe.app (qe.refl _) _⟩
   ·cases h
  ·cases h
 case h_3=>
  rename_i T x y hop hd;rw[hop]at hk;simp only[BR]at hk;split at h
  ·rename_i id off ds h1 h2;rw[h1]at hk;split at h
   ·split at h
    ·split at h
     ·cases h;refine⟨.inr ⟨hd,rfl⟩,fun i cs hi hcs=>?_⟩;have hne:id≠i:=fun e=>hi (by subst e;simpa using hk)
      show(st.H.set id _)[i]?=_;rw[bO hne,hcs]
     ·cases h
    ·cases h
   ·cases h
  ·rename_i id i sz off ds h1 h2;rw[h1]at hk;cases hk
  ·cases h
 case h_7=>
  rename_i T len parts t hop hd;split at h
  ·split at h
   ·split at h
    ·split at h
     ·rename_i es ms hab;split at h
      ·rename_i hc;cases h;exact⟨.inl ⟨t,_,hd,hc.1,rfl⟩,CQ Rt⟩
      ·cases h
     ·cases h
    ·cases h
   ·cases h
  ·cases h
 case h_8=>
  rename_i c t hop hd;rw[hop]at hk;simp only[BR]at hk;split at h
  ·split at h
   ·split at h
    ·rename_i rows u1 k1 dV u2 k2 A' ow _ hS hX;split at h
     ·rename_i hc;cases h;exact⟨.inl ⟨t,_,hd,hc.1,rfl⟩,CQ Rt⟩
     ·cases h
    ·cases h
   ·cases h
  ·rename_i QR _ _;rw[QR]at hk;cases hk
  ·rename_i f QR;rw[QR]at hk;split at hk
   ·rename_i hb;cases hb
   ·rename_i f' d A' hb;split at h
    ·rename_i hA;cases hA
    ·rename_i hA;cases hA
    ·rename_i hA;cases hA
    ·rename_i hA;cases hA
    ·rename_i hA;cases hA
    ·rename_i hA;cases hA
    ·rename_i ds ms d' Z1 hv hA;split at h
     ·rename_i hc;cases h;exact⟨.inl ⟨t,_,hd,hc.1,rfl⟩,(qe.refl _).app _⟩
     ·cases h
    ·rename_i hA;cases hA
    ·rename_i hA;cases hA
    ·cases h
   ·rename_i f' nz d A' hb;generalize yA st.H (List.map st.ev c.args.toList)=q at h;rcases q with _|⟨qa,qb⟩
    all_goals
     dsimp only at h;split at h
     ·rename_i ds ms qs h9;split at h
      ·rename_i hc;cases h;exact⟨.inl ⟨t,_,hd,hc.1,rfl⟩,CQ Rt⟩
      ·cases h
     ·cases h
   ·rename_i f' nz cells' d A' hb;generalize yA st.H (List.map st.ev c.args.toList)=q at h;rcases q with _|⟨qa,qb⟩
    all_goals
     dsimp only at h;split at h
     ·rename_i x0 xr h5;rw[h5]at hk;split at h
      ·rename_i id h6;simp only[h6]at hk;split at h
       ·rename_i ob h7;split at h
        ·rename_i Ac h8;split at h
         ·rename_i cells ds ms qs h9;split at h
          ·rename_i hc;cases h;exact⟨.inl ⟨t,_,hd,hc.1,rfl⟩,JJ (by simpa using hk) Rt⟩
          ·cases h
         ·cases h
        ·cases h
       ·cases h
      ·cases h
     ·cases h
   ·cases hk
  ·exact plain hd h
 case h_13=>
  rename_i T x i t hop hd;rw[hop]at hk;simp only[BR]at hk;split at h
  ·rename_i hl;rw[hl]at hk;cases hk
  ·exact plain hd h
 case h_14=>
  rename_i T x t hop hd;rw[hop]at hk;simp only[BR]at hk;split at h
  ·rename_i hl;rw[hl]at hk;cases hk
  ·rw[aN]at hk
   replace hk:=hk.2
   split at h
   ·rename_i r A' id i sz h1;split at h
    ·rename_i n e sz' rows h2;split at h
     ·rename_i hc;cases h;refine⟨.inl ⟨t,_,hd,hc.1,rfl⟩,qe.app (fun j cs hj hcs=>?_) _⟩;have hne:id≠j:=fun e=>hj (by subst e;rw[h1]at hk;simpa using hk)
      rw[bO hne];exact hcs
     ·cases h
    ·cases h
   ·exact plain hd h
 all_goals first
  | (rename_i hop _;rw[hop]at hk;simp[BR]at hk;done)
  | (rename_i hop;rw[hop]at hk;simp[BR]at hk;done)
  |skip
 all_goals first
  |exact plain (by assumption) h
  |cases h
theorem Step.of{nt:Nat}(hnt:Γ.nt=nt){o:Oper}{A A1:ck}{qC:St}{p:uY}(hg:o.guard=none)(hsel:∀cs b,o.op≠ .select cs b)(h:yK P nt o st A=some (qC,A1,p))(hp:qF p):Step P Γ o st qC:=by
 intro κ Θ a w hs;have h1:=Dv (P:=P) (Γ:=Γ) (all:= #[]) (rest:=[]) (Q:=fun e s=>e=.normal/\s=qC) hnt hg h hp (Q7 ⟨rfl,rfl⟩) κ Θ a w hs;have hw:Region.wanted o (yielded #[] a.tmps)=true:=by simp[Region.wanted,hg]
 simp only[wpList,hw,kM]at h1;rcases h1 with h1|⟨_,a0,w0,mh,κ',Θ',_,hq,_⟩
 ·refine GG hsel (fun _ _=>rfl) ?_ ?_ ?_ h1
  ·rintro v w' ⟨mh,κ',Θ',hs',_,rfl⟩;exact⟨κ',Θ',hs'⟩
  ·rintro d w' ⟨mh,κ',Θ',hs',_,rfl⟩;have:=hs'.defers;cases VT:o.dst<;>rw[VT]at this<;>cases this
  ·rintro e c w' ⟨mh,κ',Θ',hs',rfl,_⟩;rfl
 ·cases hq
theorem zv{X:aI}{nt:Nat}(hnt:Γ.nt=nt){K:St->Prop}{Bv:St}{A2:ck}:∀ {ops:List Oper} {st:St} {A:ck} {p:uY},Ca P nt X ops st A=some (Bv,A2,p)->qF p->K Bv->Iq P Γ X K ops st:=by
 intro ops
 induction ops with
 |nil=>intro st A p h hp hK;simp only[Ca,aS,bq]at h;obtain⟨rfl,_,_⟩:=h;exact hK
 |cons o os ih=>
  intro st A p h hp hK;simp only[Ca]at h;split at h
  ·rename_i hg hok;split at h
   ·rename_i qC A1 p1 h1;split at h
    ·rename_i OQ Ua q Rt h2;cases h;obtain⟨hp1,hq⟩:=hp.app;obtain⟨hd,hX⟩:=MW hok Rt h1;have hsel:∀cs b,o.op≠ .select cs b:=by
      intro cs b e;rw[e]at hok;cases hok
     exact⟨qC,hd.imp (fun⟨t,d,hd,ht,hσ⟩=>⟨t,d,hd,by rw[hnt];exact ht,hσ⟩) id,hX,hg,hsel,Step.of hnt hg hsel h1 hp1,ih h2 hq hK⟩
    ·cases h
   ·cases h
  ·cases h
def MY(X:aI)(st:St)(ops:List Oper)(L:aI):Bool:=L.all fun i=>match ops[i]? with|some o=>tE X st o.op|none=>false
theorem Dg{X:aI}{st:St}{ops:List Oper}{L:aI}(h:MY X st ops L=true):∀i∈L,∀o,ops[i]?=some o->tE X st o.op=true:=by
 intro i hi o ho;have:=aQ.1 h i hi;rw[ho]at this;exact this
def uH(ρ:aI)(o:Oper):Oper:= {o with after:=o.after.map fun e=> {e with on:=ρ.getD e.on 0},guard:=o.guard.map fun g=>(ρ.getD g.1 0,g.2)}
def nW(ops:Array Oper)(π ρ:aI):List Oper:=π.filterMap fun i=>(ops[i]?).map (uH ρ)
def BT(ops:Array Oper)(π ρ:aI):Bool:=
 decide (π.length=ops.size)&&(decide (ρ.length=ops.size)&&
 (((List.range ops.size).all fun i=>(match ρ[i]? with|some k=>π[k]?==some i|none=>false))&&
 (((List.range ops.size).all fun k=>(match π[k]? with|some i=>ρ[i]?==some k|none=>false))&&
 (ops.toList.all fun o=>(o.after.all fun e=>decide (e.on<ops.size))&&(match o.guard with|some g=>decide (g.1<ops.size)|none=>true)))))
theorem CE(ρ:aI)(o:Oper)(f:Operand->Value):execOp f (uH ρ o)=execOp f o:=by
 cases o;rfl
theorem Mo(ρ:aI){o:Oper}{K:Act->World->Prop}{Q:Exit->Act->World->Prop}(h:(uH ρ o).wp P a w K Q):o.wp P a w K Q:=by
 unfold Oper.wp at*;rw[CE]at h;exact h
theorem GW(ρ:aI){o:Oper}(h:(uH ρ o).asks P a w):o.asks P a w:=by
 unfold Oper.asks at*;rw[CE]at h;exact h
section
variable{ops:Array Oper}{π ρ:aI}
theorem Cj(hB:BT ops π ρ=true){k i:Nat}{o:Oper}(hk:π[k]?=some i)(ho:ops[i]?=some o):(nW ops π ρ).toArray[k]?=some (uH ρ o):=by
 simp only[BT,aN,bJ]at hB;obtain⟨h1,h2,h3,h4,h5⟩:=hB;have hall:∀x∈π,∃o,ops[x]?=some o:=by
  intro x hx;obtain⟨j,hj,rfl⟩:=cq.1 hx;have:=aQ.1 h4 j (bB.2 (by omega));rw[aR hj]at this;simp only[cD]at this;have:=(aB.1 this).1;exact⟨_,bf (by omega)⟩
 have key:∀(l:aI) (k:Nat),(∀x∈l,∃o,ops[x]?=some o)->l[k]?=some i->(l.filterMap fun i=>(ops[i]?).map (uH ρ))[k]?=some (uH ρ o):=by
  intro l
  induction l with
  |nil=>intro k _ h;simp at h
  |cons x l ih=>
   intro k hl h;obtain⟨ox,JC⟩:=hl x (by simp);rw[qn];simp only[JC,bp];cases k with
   |zero=>simp at h;subst h;rw[ho]at JC;cases JC;rfl
   |succ k=>simpa using ih k (fun y hy=>hl y (by simp[hy])) (by simpa using h)
 have:=key π k hall hk;simpa[nW]using this
theorem G1(hB:BT ops π ρ=true):(nW ops π ρ).toArray.size=ops.size:=by
 have Rr:=hB;simp only[BT,aN,bJ]at hB;obtain⟨h1,h2,h3,h4,h5⟩:=hB;have hall:∀x∈π,∃o,ops[x]?=some o:=by
  intro x hx;obtain⟨j,hj,rfl⟩:=cq.1 hx;have:=aQ.1 h4 j (bB.2 (by omega));rw[aR hj]at this;simp only[cD]at this;have:=(aB.1 this).1;exact⟨_,bf (by omega)⟩
 have key:∀(l:aI),(∀x∈l,∃o,ops[x]?=some o)->(l.filterMap fun i=>(ops[i]?).map (uH ρ)).length=l.length:=by
  intro l
  induction l with
  |nil=>intro _;rfl
  |cons x l ih=>
   intro hl;obtain⟨ox,JC⟩:=hl x (by simp);rw[qn];simp only[JC,bp,aO,ih (fun y hy=>hl y (by simp[hy]))]
 rw[oq,nW,key π hall,h1]
theorem M4{Q':Exit->Act->World->Prop}(hB:BT ops π ρ=true):∀(fuel:Nat) (listed listed':Array Bool) (a:Act) (w:World),listed.size=ops.size->listed'.size=ops.size->(∀(k i:Nat),π[k]?=some i->listed'.getD k false=listed.getD i false)->
 wpAny P .any (nW ops π ρ).toArray Q' fuel listed' a w->wpAny P .any ops Q' fuel listed a w:=by
 have Rr:=hB;simp only[BT,aN,bJ]at Rr;obtain⟨h1,h2,h3,h4,h5⟩:=Rr;have to:∀i,i<ops.size->∃k,ρ[i]?=some k/\π[k]?=some i/\k<ops.size:=by
  intro i hi;have:=aQ.1 h3 i (bB.2 hi);split at this
  ·rename_i k hk;simp only[cD]at this;exact⟨k,hk,this,by have:=(aB.1 this).1;omega⟩
  ·cases this
 have back:∀k,k<ops.size->∃i,π[k]?=some i/\ρ[i]?=some k/\i<ops.size:=by
  intro k hk;have:=aQ.1 h4 k (bB.2 hk);split at this
  ·rename_i i hi;simp only[cD]at this;exact⟨i,hi,this,by have:=(aB.1 this).1;omega⟩
  ·cases this
 have X6:∀(i:Nat) o,ops[i]?=some o->(∀e∈o.after,e.on<ops.size)/\∀g,o.guard=some g->g.1<ops.size:=by
  intro i o ho;have hm:o∈ops.toList:=by rw[<-fw]at ho;exact aE ho
  have:=aQ.1 h5 o hm;simp only[aN]at this;refine⟨fun e he=>by simpa using oM.1 this.1 e he,fun g hg=>?_⟩;have:=this.2;rw[hg]at this;simpa using this
 have rd:∀(listed listed':Array Bool),listed.size=ops.size->listed'.size=ops.size->(∀(k i:Nat),π[k]?=some i->listed'.getD k false=listed.getD i false)->∀(k i:Nat),π[k]?=some i->(i∈Region.ready .any ops listed↔k∈Region.ready .any (nW ops π ρ).toArray listed'):=by
  intro listed listed' hs1 hs2 Jl k i hki;have hk:k<ops.size:=by have:=(aB.1 hki).1;omega
  obtain⟨i',hi',hr,hilt⟩:=back k hk;rw[hki]at hi';cases hi';have ho:ops[i]?=some ops[i]:=bf hilt;have ho':=Cj hB hki ho;have hon:∀e∈ops[i].after,listed'.getD (ρ.getD e.on 0) false=listed.getD e.on false:=by
   intro e he;obtain⟨k2,hk2,VM,_⟩:=to e.on ((X6 i _ ho).1 e he);rw[gr,hk2,nQ];exact Jl k2 e.on VM
  rw[mem_ready,mem_ready];constructor
  ·rintro⟨q1,o,q2,q3⟩;rw[ho]at q2;cases q2;refine⟨getD_in (by omega) (by rw[Jl k i hki];exact getD_both q1),_,ho',?_⟩;intro e he hb;simp only[uH,Array.mem_map]at he;obtain⟨e0,Wj,rfl⟩:=he;simp only;rw[hon e0 Wj];exact q3 e0 Wj hb
  ·rintro⟨q1,o,q2,q3⟩;rw[ho']at q2;cases q2;refine⟨getD_in (by omega) (by rw[<-Jl k i hki];exact getD_both q1),_,ho,?_⟩;intro e he hb;rw[<-hon e he];exact q3 {e with on:=ρ.getD e.on 0} (by simp only[uH,Array.mem_map];exact⟨e,he,rfl⟩) hb
 have lt:∀ {listed:Array Bool} {ops:Array Oper} {i:Nat},i∈Region.ready .any ops listed->i<ops.size:=by
  intro listed ops i hi;obtain⟨_,o,ho,_⟩:=mem_ready.1 hi;exact(aX.1 ho).1
 have PC:∀(listed listed':Array Bool),listed.size=ops.size->listed'.size=ops.size->(∀(k i:Nat),π[k]?=some i->listed'.getD k false=listed.getD i false)->(Region.ready .any ops listed=[]↔Region.ready .any (nW ops π ρ).toArray listed'=[]):=by
  intro listed listed' hs1 hs2 Jl;constructor
  ·intro h;rw[eD];intro k hk;obtain⟨i,hi,_⟩:=back k (by have:=lt hk;rw[G1 hB]at this;exact this);have:=(rd listed listed' hs1 hs2 Jl k i hi).2 hk;rw[h]at this;cases this
  ·intro h;rw[eD];intro i hi;obtain⟨k,_,hk,_⟩:=to i (lt hi);have:=(rd listed listed' hs1 hs2 Jl k i hk).1 hi;rw[h]at this;cases this
 intro fuel
 induction fuel with
 |zero=>
  intro listed listed' a w hs1 hs2 Jl h;exact⟨(PC listed listed' hs1 hs2 Jl).2 h.1,h.2⟩
 |succ fuel ih=>
  intro listed listed' a w hs1 hs2 Jl h;refine⟨fun h0=>h.1 ((PC listed listed' hs1 hs2 Jl).1 h0),fun i hi=>?_⟩;have hilt:=lt hi;obtain⟨k,YK,hk,YA⟩:=to i hilt;have hkr:=(rd listed listed' hs1 hs2 Jl k i hk).1 hi;have ho:ops[i]?=some ops[i]:=bf hilt;have ho':=Cj hB hk ho;have h2:=wpOp_mono (K':=wpAny P .any ops Q' fuel (listed.setIfInBounds i true)) (fun a' w' h'=>ih (listed.setIfInBounds i true) (listed'.setIfInBounds k true) a' w' (by simpa using hs1) (by simpa using hs2) (by
   intro k2 i2 Kw;by_cases e:k=k2
   ·subst e;rw[hk]at Kw;cases Kw;have g1:k<listed'.size:=by omega
    have g2:i<listed.size:=by omega
    simp[g1,g2]
   ·have e2:i≠i2:=by
     intro e3;subst e3;obtain⟨i',hi',hr',_⟩:=back k2 (by have:=(aB.1 Kw).1;omega);rw[Kw]at hi';cases hi';rw[YK]at hr';cases hr';exact e rfl
    rw[getD_set_ne false e,getD_set_ne false e2];exact Jl k2 i2 Kw) h') (h.2 k hkr)
  have hw:Region.wanted (uH ρ ops[i]) (yielded (nW ops π ρ).toArray a.tmps)=Region.wanted ops[i] (yielded ops a.tmps):=by
   cases hg:ops[i].guard with
   |none=>simp[Region.wanted,uH,hg]
   |some g=>
    obtain⟨j,want⟩:=g;have hj:=(X6 i _ ho).2 _ hg;obtain⟨k3,VZ,VM,_⟩:=to j hj;have qN:ops[j]?=some ops[j]:=bf hj;have VV:=Cj hB VM qN;have:yielded (nW ops π ρ).toArray a.tmps (ρ.getD j 0)=yielded ops a.tmps j:=by
     rw[gr,VZ,nQ];unfold yielded;rw[VV,qN];rfl
    simp only[Region.wanted,uH,hg,bp];rw[this]
  unfold wpOp at h2⊢;simp only[ho',ho]at h2⊢;rw[hw]at h2;split
  ·rename_i LI;rw[av LI]at h2;exact h2.imp (Mo ρ) fun⟨q1,q2⟩=>⟨GW ρ q1,q2⟩
  ·rename_i LI;rw[ai LI]at h2;exact h2
theorem o6.perm(hB:BT ops π ρ=true)(h:o6 P Γ (nW ops π ρ).toArray Q st):o6 P Γ ops Q st:=by
 intro κ Θ a w hs;have:=h κ Θ a w hs;rw[G1 hB]at this;refine M4 hB ops.size (Array.replicate ops.size false) (Array.replicate ops.size false) a w (by simp) (by simp) (fun k i _=>?_) this;rw[getD_replicate_false,getD_replicate_false]
end
end
end Go.Cx
namespace Go.Cx
open Go.RowKit
def qi(P:Program)(nt:Nat)(all:Array Oper):List Oper->St->ck->Option (St×ck×uY)
 | [],st,A=>(match shares A st with| (qC,A1)=>some (qC,A1,[]))
 |o::rest,st,A=>match o.guard with
  |none=>(match yK P nt o st A with
   |some (qC,A1,p)=>(match qi P nt all rest qC A1 with|some (Bv,A2,q)=>some (Bv,A2,p++q)|none=>none)
   |none=>none)
  |some (j,want)=>(match(all[j]?).bind (·.dst),A with
   |some s,.b v::A=>(match lk st.σ s with
    | .bool b=>(match v==want with
     |true=>(match yK P nt {o with guard:=none} st A with
      |some (qC,A1,p)=>(match qi P nt all rest qC A1 with|some (Bv,A2,q)=>some (Bv,A2,(b=v)::(p++q))|none=>none)
      |none=>none)
     |false=>(match o.dst with
      |some t=>(if t<nt then match qi P nt all rest ⟨(t,.gj [])::st.σ,st.H⟩ A with|some (Bv,A2,q)=>some (Bv,A2,(b=v)::q)|none=>none else none)
      |none=>(match qi P nt all rest st A with|some (Bv,A2,q)=>some (Bv,A2,(b=v)::q)|none=>none)))
    | .gj []=>(match o.dst with
     |some t=>(if t<nt then qi P nt all rest ⟨(t,.gj [])::st.σ,st.H⟩ A else none)
     |none=>qi P nt all rest st A)
    |_=>none)
   |_,_=>none)
def I0(P:Program)(H:ax)(r:Nat)(σ:List (Nat×D))(o:Oper)(A:ck):Option (D×ax×ck×uY):=match o.op with
 | .call c=>(match c.callee with
  | .value (.func f)=>(match yA H (c.args.toList.map (St.ev ⟨σ,H⟩)),A with
   |some (ds,ms),.d d::A=>(if ms=[]\/d.Ci=true then some ((je r d).1,(je r d).2,A,[Good P f ds d])else none)
   |some (ds,ms),.ds d::A=>(if d.RG=true/\d.Ci=true then some (d.N0,[],A,[Good P f ds d])else none)
   |_,.nl d::A=>(if(c.args.toList.map (St.ev ⟨σ,H⟩)).all BP=true then some ((je r d).1,(je r d).2,A,[Good P f (c.args.toList.map (St.ev ⟨σ,H⟩)) d])else none)
   |_,_=>none)
  |_=>(match xy P ⟨σ,H⟩ o.op A with|some (d,A,ow)=>some (d,[],A,ow)|none=>none))
 | .alloc T=>(match tz P T with|some zs=>some (.ptr r 0,[.box zs],A,[])|none=>none)
 | .box _ x=>(match(St.ev ⟨σ,H⟩ x).cellsOf with|some ds=>some (.ptr r 0,[.box ds],A,[])|none=>none)
 | .buildSlice T len parts=>(match xJ P T with
  |some (e,sz)=>(match tz P e with
   |some zs=>(match qS (mX len sz) (List.replicate len zs).flatten (parts.toList.map fun q=>(q.1,St.ev ⟨σ,H⟩ q.2))with
    |some ds=>(match A with
     | .vw _::A=>(if 0<sz/\len*sz<=16777216/\ds.all D.Ey=true/\ds.all D.flat=true then some (.sl (chunk sz len ds),[],A,[])else none)
     |A=>(match zA H ds with
      |some (es,ms)=>(if 0<sz/\len*sz<=16777216/\ms=[]then some (.acc r,[.row (pg (Jd H e 0 ds)) e sz (chunk sz len es)],A,[])else none)
      |none=>none))
    |none=>none)
   |none=>none)
  |none=>none)
 |_=>(match xy P ⟨σ,H⟩ o.op A with|some (d,A,ow)=>some (d,[],A,ow)|none=>none)
def qA(P:Program)(nt:Nat)(all:Array Oper)(H:ax):List Oper->List (Nat×D)->ax->aI->ck->Option (List (Nat×D)×ax×ck×uY)
 | [],σ,acc,_,A=>some (σ,acc,A,[])
 |o::rest,σ,acc,U,A=>match o.dst with
  |none=>(match o.op,o.guard with
   | .store T x y,none=>(match St.ev ⟨σ,H⟩ x,(St.ev ⟨σ,H⟩ y).cellsOf with
    | .ptr id off,some ds=>(match acc[id-H.length]? with
     |some (.box zs)=>(if off=0/\H.length<=id/\id∉U/\En P T=true/\ds.length=rQ P T/\zs.length=ds.length then qA P nt all H rest σ (acc.set (id-H.length) (.box ds)) (id::U) A else none)
     |_=>none)
    |_,_=>none)
   |_,_=>none)
  |some t=>(if t<nt then match o.guard with
   |none=>(match I0 P H (H.length+acc.length) σ o A with
    |some (d,obs,A1,p)=>(match qA P nt all H rest ((t,d)::σ) (acc++obs) U A1 with|some (σ2,F7,A2,q)=>some (σ2,F7,A2,p++q)|none=>none)
    |none=>none)
   |some (j,want)=>(match(all[j]?).bind (·.dst),A with
    |some s,.b v::A=>(match lk σ s with
     | .bool b=>(match v==want with
      |true=>(match I0 P H (H.length+acc.length) σ o A with
       |some (d,obs,A1,p)=>(match qA P nt all H rest ((t,d)::σ) (acc++obs) U A1 with|some (σ2,F7,A2,q)=>some (σ2,F7,A2,(b=v)::(p++q))|none=>none)
       |none=>none)
      |false=>(match qA P nt all H rest ((t,.gj [])::σ) acc U A with|some (σ2,F7,A2,q)=>some (σ2,F7,A2,(b=v)::q)|none=>none))
     | .gj []=>qA P nt all H rest ((t,.gj [])::σ) acc U A
     |_=>none)
    |_,_=>none)
   else none)
inductive Fr where
 |sq (c:Code)
 |bl (id:Nat)
 |lp
def depth:List Fr->Nat
 | []=>0
 | .lp::K=>depth K+1
 |_::K=>depth K
inductive Uc where
 |run (c:Code)
 |Jq
 |ex (id:Nat)
inductive Stop where
 |ret (d:D)
 |lp (c:Code) (K:List Fr) (st:St)
 |cont (k:Nat) (st:St)
 |at_ (c:Code) (K:List Fr) (st:St)
def RL(P:Program)(rs:List ResultVar×List (List (Option (Nat×Nat))))(st:St):Option D:=match yI P st rs.1 with
 |some ds=>(match sO st.H rs.2 ds with|some (es,ms,qs)=>(if ms.Nodup/\qs.Nodup/\(∀m∈qs,m∉ms)then some (BS es)else none)|none=>none)
 |none=>none
def VN(A:ck)(m:Nat):Option (aI×aI):=match A with
 | .hl m' k o::_=>if m'=m then some (k,o)else none
 |_=>none
def Dm(p:uY)(x:Option (Stop×uY)):Option (Stop×uY):=match x with
 |some (s,q)=>some (s,p++q)
 |none=>none
def go(P:Program)(rf:St->Option D)(nt:Nat):Nat->Uc->List Fr->St->ck->Option (Stop×uY)
 |0,_,_,_,_=>none
 |n+1,.run c,K,st,A=>(match c with
  | .skip=>go P rf nt n .Jq K st A
  | .ret=>(match rf st with|some d=>some (.ret d,[])|none=>none)
  | .exit id=>go P rf nt n (.ex id) K st A
  | .seq x y=>go P rf nt n (.run x) (.sq y::K) st A
  | .block id x=>go P rf nt n (.run x) (.bl id::K) st A
  | .loop x=>(match A with
   | .cn k o::_=>(if o.Nodup then some (.lp x K (st.vC k o),[])else none)
   | .pb id off e sz::A=>(match st.prom id off e sz with|some qC=>(match shares A qC with| (Bv,A2)=>go P rf nt n (.run (.loop x)) K Bv A2)|none=>none)
   |_=>none)
  | .cond x y z=>(match st.ev x,A with
   | .bool b,.b v::A=>Dm [b=v] (go P rf nt n (.run (match v with|true=>y|false=>z)) K st A)
   |_,_=>none)
  | .region _ ops dr=>(match dr with
   |false=>(match qi P nt ops ops.toList st A with|some (qC,A1,p)=>Dm p (go P rf nt n .Jq K qC A1)|none=>none)
   |true=>(match A with
    | .n k::A=>(match Kb ops k with
     |true=>(match qA P nt ops st.H (ops.toList.take k) st.σ [] [] A with
      |some (σ1,acc,A1,p)=>(match qi P nt ops (ops.toList.drop k) ⟨σ1,st.H++acc⟩ A1 with|some (Bv,A2,q)=>Dm (p++q) (go P rf nt n .Jq K Bv A2)|none=>none)
      |none=>none)
     |false=>none)
    | .n2 π ρ k m L X::A=>(match BT ops π ρ,nW ops π ρ with
     |true,ops'=>(match CC ops'.toArray k m L with
      |true=>(match qA P nt ops'.toArray st.H (ops'.take k) st.σ [] [] A with
       |some (σ1,acc,A1,p)=>(match MY X ⟨σ1,st.H⟩ ops' L,Ca P nt X ((ops'.drop k).take (m-k)) ⟨σ1,st.H++acc⟩ A1 with
        |true,some (qC,A2,p2)=>(match qi P nt ops'.toArray (ops'.drop m) qC A2 with|some (Bv,A3,q)=>Dm (p++(p2++q)) (go P rf nt n .Jq K Bv A3)|none=>none)
        |_,_=>none)
       |none=>none)
      |false=>none)
     |false,_=>none)
    |_=>none))
  |_=>none)
 |n+1,.Jq,K,st,A=>(match K with
  | []=>(match rf st with|some d=>some (.ret d,[])|none=>none)
  | .sq y::K=>(match VN A K.length with|some (k,o)=>(if o.Nodup then some (.at_ y K (st.vC k o),[])else none)|none=>go P rf nt n (.run y) K st A)
  | .bl _::K=>go P rf nt n .Jq K st A
  | .lp::K=>(match A with| .cn k o::_=>(if o.Nodup then some (.cont (depth K) (st.vC k o),[])else none)|_=>none))
 |n+1,.ex id,K,st,A=>(match K with
  | []=>none
  | .sq _::K=>go P rf nt n (.ex id) K st A
  | .bl i::K=>(if id=i then go P rf nt n .Jq K st A else go P rf nt n (.ex id) K st A)
  | .lp::K=>go P rf nt n (.ex id) K st A)
section
variable{P:Program}{Γ:oK}{Q:Exit->St->Prop}{N:Nat->St->Prop}
def KQ(P:Program)(Γ:oK)(N:Nat->St->Prop)(Q:Exit->St->Prop):List Fr->Exit->St->Prop
 | []=>Q
 | .sq y::K=>Md (AW P Γ y (KQ P Γ N Q K)) (KQ P Γ N Q K)
 | .bl id::K=>E3 id (KQ P Γ N Q K)
 | .lp::K=>Md (fun st=>∃k o,o.Nodup/\N (depth K) (st.vC k o)) (KQ P Γ N Q K)
theorem QB:∀(K:List Fr) {st:St},Q .ret st->KQ P Γ N Q K .ret st:=by
 intro K
 induction K with
 |nil=>intro st h;exact h
 |cons f K ih=>intro st h;cases f<;>exact ih h
theorem F3{N':Nat->St->Prop}:∀(K:List Fr),(∀d,d<depth K->N d=N' d)->KQ P Γ N Q K=KQ P Γ N' Q K:=by
 intro K
 induction K with
 |nil=>intro _;rfl
 |cons f K ih=>
  intro h;cases f with
  |sq y=>simp only[KQ];rw[ih h]
  |bl id=>simp only[KQ];rw[ih h]
  |lp=>simp only[KQ];rw[ih (fun d hd=>h d (by simp only[depth];omega)),h (depth K) (by simp only[depth];omega)]
theorem rH{nt:Nat}(hnt:Γ.nt=nt){all:Array Oper}{Bv:St}{A2:ck}:∀ {ops:List Oper} {st:St} {A:ck} {p:uY},qi P nt all ops st A=some (Bv,A2,p)->qF p->Q .normal Bv->AO P Γ all ops Q st:=by
 intro ops
 induction ops with
 |nil=>
  intro st A p h _ hq;simp only[qi]at h;cases hsh:shares A st with
  |mk qC A1=>
   rw[hsh]at h;simp only[aS,bq]at h;obtain⟨rfl,_,_⟩:=h;exact fun κ Θ a w hs=>wpList_nil ⟨_,_,_,hs.shares hsh,hq⟩
 |cons o rest ih=>
  intro st A p h hp hq;simp only[qi]at h;split at h
  ·rename_i hg;split at h
   ·rename_i qC A1 p1 h1;split at h
    ·rename_i OQ Ua q h2;cases h;exact Dv hnt hg h1 hp.app.1 (ih h2 hp.app.2 hq)
    ·cases h
   ·cases h
  ·rename_i j want hg;split at h
   ·rename_i s v A1 hj;split at h
    ·rename_i b hb;split at h
     ·rename_i hv;simp only[cD]at hv;subst hv;split at h
      ·rename_i qC Ua p1 h1;split at h
       ·rename_i OQ A3 q h2;cases h;refine Bz (b:=b) hg hj hb ?_ (fun _=>Dv hnt rfl h1 hp.2.app.1 (ih h2 hp.2.app.2 hq)) (fun hne=>absurd hp.1 hne);intro t ht;exact MX hnt h1 ht
       ·cases h
      ·cases h
     ·rename_i hv;split at h
      ·rename_i t hd;split at h
       ·rename_i ht;split at h
        ·rename_i OQ A3 q h2;cases h;refine Bz (b:=b) hg hj hb (fun t' ht'=>?_) (fun e=>?_) (fun _=>?_)
         ·rw[hd]at ht';cases ht';rw[hnt];exact ht
         ·exfalso;have:=hp.1;simp only[cZ,ne_eq]at hv;exact hv (this.symm.trans e)
         ·rw[hd];exact ih h2 hp.2 hq
        ·cases h
       ·cases h
      ·rename_i hd;split at h
       ·rename_i OQ A3 q h2;cases h;refine Bz (b:=b) hg hj hb (fun t' ht'=>?_) (fun e=>?_) (fun _=>?_)
        ·rw[hd]at ht';cases ht'
        ·exfalso;have:=hp.1;simp only[cZ,ne_eq]at hv;exact hv (this.symm.trans e)
        ·rw[hd];exact ih h2 hp.2 hq
       ·cases h
    ·rename_i hb;split at h
     ·rename_i t hd;split at h
      ·rename_i ht;refine DH hg hj hb (fun t' ht'=>?_) ?_
       ·rw[hd]at ht';cases ht';rw[hnt];exact ht
       ·rw[hd];exact ih h hp hq
      ·cases h
     ·rename_i hd;refine DH hg hj hb (fun t' ht'=>?_) ?_
      ·rw[hd]at ht';cases ht'
      ·rw[hd];exact ih h hp hq
    ·cases h
   ·cases h
theorem BG{H:ax}{r:Nat}{σ:List (Nat×D)}{o:Oper}{A A1:ck}{d:D}{obs:ax}{p:uY}(t:Option Nat)(u:Option (Nat×Ob))(h:I0 P H r σ o A=some (d,obs,A1,p))(hp:qF p):z7 P H σ o ⟨t,d,r,obs,u⟩:=by
 have plain:∀ {x},(match xy P ⟨σ,H⟩ x A with|some (d,A,ow)=>some (d,([]:ax),A,ow)|none=>none)=some (d,obs,A1,p)->pv P ⟨σ,H⟩ x=some d/\obs=[]:=by
  intro x h;split at h
  ·rename_i d' A' ow h1;cases h;exact⟨Il h1 hp,rfl⟩
  ·cases h
 unfold I0 at h;split at h
 ·rename_i c hop;split at h
  ·rename_i f hc;split at h
   ·rename_i ds ms d' A' h1;split at h
    ·rename_i hsh;cases h;exact .inl (.inr ⟨f,_,_,ds,ms,d',hop.trans (congrArg Op.call (kY c hc rfl rfl)),.inl (by simpa using h1),hsh,hp.1,.inl rfl⟩)
    ·cases h
   ·rename_i ds ms d' A' h1;split at h
    ·rename_i qW;cases h;exact .inl (.inr ⟨f,_,_,ds,ms,d',hop.trans (congrArg Op.call (kY c hc rfl rfl)),.inl (by simpa using h1),.inr qW.2,hp.1,.inr ⟨qW.1,rfl,rfl⟩⟩)
    ·cases h
   ·rename_i d' A';split at h
    ·rename_i hk;cases h;exact .inl (.inr ⟨f,_,_,_,[],d',hop.trans (congrArg Op.call (kY c hc rfl rfl)),.inr ⟨by simpa using hk,by simp,rfl⟩,.inl rfl,hp.1,.inl rfl⟩)
    ·cases h
   ·cases h
  ·exact .inl (.inl (plain h))
 ·rename_i T hop;split at h
  ·rename_i zs hz;cases h;exact .inr (.inl (.inl ⟨T,zs,hop,hz,rfl,rfl⟩))
  ·cases h
 ·rename_i T x hop;split at h
  ·rename_i ds hc;cases h;exact .inr (.inl (.inr ⟨T,x,ds,hop,hc,rfl,rfl⟩))
  ·cases h
 ·rename_i T len parts hop;split at h
  ·rename_i e sz h1;split at h
   ·rename_i zs h2;split at h
    ·rename_i ds h3;split at h
     ·split at h
      ·rename_i hc;obtain⟨c1,c2,c3,c4⟩:=hc;cases h;exact .inr (.inr (.inr ⟨T,e,sz,len,parts,zs,ds,hop,h1,h2,c1,c2,h3,c3,c4,rfl,rfl⟩))
      ·cases h
     ·split at h
      ·rename_i es ms h4;split at h
       ·rename_i hc;obtain⟨c1,c2,rfl⟩:=hc;cases h;exact .inr (.inr (.inl ⟨T,e,sz,len,parts,zs,ds,es,hop,h1,h2,c1,c2,h3,h4,rfl,rfl⟩))
       ·cases h
      ·cases h
    ·cases h
   ·cases h
  ·cases h
 ·exact .inl (.inl (plain h))
theorem tI{nt:Nat}(hnt:Γ.nt=nt){all:Array Oper}{H:ax}{K:List (Nat×D)->ax->Prop}{σ2:List (Nat×D)}{F7:ax}{A2:ck}:∀ {ops:List Oper} {σ:List (Nat×D)} {acc:ax} {U:aI} {A:ck} {p:uY},
 qA P nt all H ops σ acc U A=some (σ2,F7,A2,p)->qF p->K σ2 F7->BE P Γ all H K ops σ acc U:=by
 subst hnt;intro ops
 induction ops with
 |nil=>
  intro σ acc U A p h _ hK;simp only[qA,aS,bq]at h;obtain⟨rfl,rfl,_,_⟩:=h;exact hK
 |cons o rest ih=>
  intro σ acc U A p h hp hK;simp only[qA]at h;split at h
  ·rename_i hd;split at h
   ·rename_i T x y hop hg;split at h
    ·rename_i id off ds h1 h2;split at h
     ·rename_i zs h3;split at h
      ·rename_i hc;obtain⟨rfl,c2,c3,c4,c5,c6⟩:=hc;exact⟨⟨none,.any,H.length+acc.length,[],some (id,.box ds)⟩,rfl,.inr ⟨rfl,rfl,hd,hg,T,x,y,id,ds,hop,h1,c2,h2,c4,c5,rfl⟩,⟨c3,c2,zs,ds,h3,rfl,c6⟩,ih h hp hK⟩
      ·cases h
     ·cases h
    ·cases h
   ·cases h
  ·rename_i t hd;split at h
   ·rename_i ht;split at h
    ·rename_i hg;split at h
     ·rename_i d obs A1 p1 h1;split at h
      ·rename_i σ3 SB A3 q h2;cases h;exact⟨⟨some t,d,H.length+acc.length,obs,none⟩,rfl,.inl ⟨t,rfl,rfl,hd,ht,.inl ⟨hg,BG _ _ h1 hp.app.1⟩⟩,trivial,ih h2 hp.app.2 hK⟩
      ·cases h
     ·cases h
    ·rename_i j want hg;split at h
     ·rename_i s v A1 hj;split at h
      ·rename_i b hb;split at h
       ·rename_i hv;simp only[cD]at hv;subst hv;split at h
        ·rename_i d obs Ua p1 h1;split at h
         ·rename_i σ3 SB A3 q h2;cases h;exact⟨⟨some t,d,H.length+acc.length,obs,none⟩,rfl,.inl ⟨t,rfl,rfl,hd,ht,.inr (.inl ⟨j,s,v,b,hg,hj,hb,.inl ⟨hp.1,BG _ _ h1 hp.2.app.1⟩⟩)⟩,trivial,ih h2 hp.2.app.2 hK⟩
         ·cases h
        ·cases h
       ·rename_i hv;simp only[cZ,ne_eq]at hv;split at h
        ·rename_i σ3 SB A3 q h2;cases h;refine⟨⟨some t,.gj [],H.length+acc.length,[],none⟩,rfl,.inl ⟨t,rfl,rfl,hd,ht,.inr (.inl ⟨j,s,want,b,hg,hj,hb,.inr ⟨fun e=>hv (hp.1.symm.trans e),rfl,rfl⟩⟩)⟩,trivial,?_⟩;simp only[Cp.fill,dM];exact ih h2 hp.2 hK
        ·cases h
      ·rename_i hb;refine⟨⟨some t,.gj [],H.length+acc.length,[],none⟩,rfl,.inl ⟨t,rfl,rfl,hd,ht,.inr (.inr ⟨j,s,want,hg,hj,hb,rfl,rfl⟩)⟩,trivial,?_⟩;simp only[Cp.fill,dM];exact ih h hp hK
      ·cases h
     ·cases h
   ·cases h
def GQ(P:Program)(Γ:oK)(N:Nat->St->Prop)(Q:Exit->St->Prop)(d0:D):Stop->Prop
 | .ret d=>d=d0
 | .lp c K st=>AW P Γ (.loop c) (KQ P Γ N Q K) st
 | .cont k st=>N k st
 | .at_ c K st=>AW P Γ c (KQ P Γ N Q K) st
theorem F0{c:Code}{st:St}{k o:aI}(hnd:o.Nodup)(h:AW P Γ c Q (st.vC k o)):AW P Γ c Q st:=by
 intro κ Θ a w hs;obtain⟨κ',Θ',hs'⟩:=hs.vC k o hnd;exact h κ' Θ' a w hs'
theorem RM{fn:Func}{st:St}{d:D}{e:Exit}(he:e=.ret\/e=.normal){nz:List (List (Option (Nat×Nat)))}(h:RL P (fn.results.toList,nz) st=some d):KH P fn d e st:=by
 unfold RL at h;split at h
 ·rename_i ds h1;split at h
  ·rename_i es ms qs h2;split at h
   ·rename_i hc;cases h;exact⟨he,nz,ds,es,ms,qs,h1,h2,hc.1,hc.2.1,hc.2.2,rfl⟩
   ·cases h
  ·cases h
 ·cases h
def S7(P:Program)(Γ:oK)(N:Nat->St->Prop)(Q:Exit->St->Prop)(K:List Fr)(st:St):Uc->Prop
 | .run c=>AW P Γ c (KQ P Γ N Q K) st
 | .Jq=>KQ P Γ N Q K .normal st
 | .ex id=>KQ P Γ N Q K (.exit id) st
theorem sR{p q:uY}{x:Option (Stop×uY)}{s:Stop}(h:Dm p x=some (s,q)):∃q',x=some (s,q')/\q=p++q':=by
 unfold Dm at h;split at h
 ·cases h;exact⟨_,rfl,rfl⟩
 ·cases h
theorem go_sound{rf:St->Option D}{d0:D}(hrf:∀st e,(e=.ret\/e=.normal)->rf st=some d0->Q e st){nt:Nat}(hnt:Γ.nt=nt)(hm:P.follows .mixedOrders=true):∀ {n:Nat} {cfg:Uc} {K:List Fr} {st:St} {A:ck} {s:Stop} {p:uY},go P rf nt n cfg K st A=some (s,p)->qF p->GQ P Γ N Q d0 s->S7 P Γ N Q K st cfg:=by
 intro n
 induction n with
 |zero=>intro cfg K st A s p h;simp[go]at h
 |succ n ih=>
  intro cfg K st A s p h hp hs;cases cfg with
  |run c=>
   show AW P Γ c (KQ P Γ N Q K) st;cases c with
   |skip=>simp only[go]at h;exact NH (ih h hp hs)
   |ret=>
    simp only[go]at h;split at h
    ·rename_i d hd;simp only[aS,bq]at h;obtain⟨rfl,_⟩:=h;have V6:d=d0:=hs;subst V6;exact Q9 (QB K (hrf st _ (.inl rfl) hd))
    ·cases h
   |exit id=>simp only[go]at h;exact NG (ih h hp hs)
   |seq x y=>simp only[go]at h;exact KB (ih h hp hs)
   |block id x=>simp only[go]at h;exact KA (ih h hp hs)
   |loop x=>
    simp only[go]at h;split at h
    ·split at h
     ·rename_i hnd;simp only[aS,bq]at h;obtain⟨rfl,_⟩:=h;exact F0 hnd hs
     ·cases h
    ·split at h
     ·rename_i A0 x0 qC hst;intro κ Θ a w Ve;obtain⟨κ',hs'⟩:=Ve.prom hst;exact(ih h hp hs:AW P Γ (.loop x) (KQ P Γ N Q K) (shares A0 qC).1) κ' Θ a w (hs'.shares (rfl:shares A0 qC=((shares A0 qC).1,(shares A0 qC).2)))
     ·cases h
    ·cases h
   |cond x y z=>
    simp only[go]at h;split at h
    ·rename_i b v A1 hx;obtain⟨q,h1,rfl⟩:=sR h;obtain⟨hb,hp'⟩:=hp;subst hb;refine NE hx (fun e=>?_) (fun e=>?_)
     ·subst e;exact ih h1 hp' hs
     ·subst e;exact ih h1 hp' hs
    ·cases h
   |region id ops dr=>
    simp only[go]at h;cases dr with
    |false=>
     simp only at h;split at h
     ·rename_i qC A1 p1 h1;obtain⟨q,h2,rfl⟩:=sR h;have:=rH (Q:=KQ P Γ N Q K) hnt h1 hp.app.1 (ih h2 hp.app.2 hs);have hr:=Iu (id:=id) (l:=ops.toList) (by simpa using this);simpa using hr
     ·cases h
    |true=>
     simp only at h;split at h
     ·rename_i k A1;split at h
      ·rename_i hB;split at h
       ·rename_i σ1 acc A2 p1 h1;split at h
        ·rename_i Bv A3 p2 h2;obtain⟨q,h3,rfl⟩:=sR h;have hq:=hp.app.1.app;have h4:=rH (Q:=KQ P Γ N Q K) hnt h2 hq.2 (ih h3 hp.app.2 hs);have h5:=tI (Γ:=Γ) (K:=fun σ acc=>AO P Γ ops (ops.toList.drop k) (KQ P Γ N Q K) ⟨σ,st.H++acc⟩) hnt h1 hq.1 h4;have hr:=NF (id:=id) (l:=ops.toList) (Q:=KQ P Γ N Q K) (st:=st) k hm (by simpa using hB) (by simpa using h5);simpa using hr
        ·cases h
       ·cases h
      ·cases h
     ·rename_i π ρ k m L X A1;split at h
      ·rename_i ops' Up;generalize Qd:nW ops π ρ=ops' at h;split at h
       ·rename_i hB;split at h
        ·rename_i σ1 acc A2 p1 h1;split at h
         ·rename_i qC A3 p2 hst hmid;split at h
          ·rename_i Bv A4 p3 h2;obtain⟨q,h3,rfl⟩:=sR h;have hq:=hp.app.1.app;have qx:=hq.2.app;have h4:=rH (Q:=KQ P Γ N Q K) hnt h2 qx.2 (ih h3 hp.app.2 hs);have h6:=zv (Γ:=Γ) (K:=fun mh=>AO P Γ ops'.toArray (ops'.drop m) (KQ P Γ N Q K) mh) hnt hmid qx.1 h4;have h5:=tI (Γ:=Γ) (K:=fun σ acc=>(∀i∈L,∀o,ops'[i]?=some o->tE X ⟨σ,st.H⟩ o.op=true)/\Iq P Γ X (fun mh=>AO P Γ ops'.toArray (ops'.drop m) (KQ P Γ N Q K) mh) ((ops'.drop k).take (m-k)) ⟨σ,st.H++acc⟩) hnt h1 hq.1 ⟨Dg hst,h6⟩;have hr:=DL (l:=ops') (Q:=KQ P Γ N Q K) (st:=st) k m L hB h5;rw[<-Qd]at hr;exact(hr.perm Up).aw hm
          ·cases h
         ·cases h
        ·cases h
       ·cases h
      ·cases h
     ·cases h
   |_=>simp[go]at h
  |Jq=>
   show KQ P Γ N Q K .normal st;simp only[go]at h;split at h
   ·split at h
    ·rename_i d hd;simp only[aS,bq]at h;obtain⟨rfl,_⟩:=h;have V6:d=d0:=hs;subst V6;exact hrf st _ (.inr rfl) hd
    ·cases h
   ·split at h
    ·split at h
     ·rename_i hnd;simp only[aS,bq]at h;obtain⟨rfl,_⟩:=h;exact F0 hnd hs
     ·cases h
    ·exact ih (cfg:=.run _) h hp hs
   ·exact ih (cfg:=.Jq) h hp hs
   ·split at h
    ·split at h
     ·rename_i k o _ hnd;simp only[aS,bq]at h;obtain⟨rfl,_⟩:=h;exact⟨k,o,hnd,hs⟩
     ·cases h
    ·cases h
  |ex id=>
   show KQ P Γ N Q K (.exit id) st;simp only[go]at h;split at h
   ·cases h
   ·exact ih (cfg:=.ex id) h hp hs
   ·rename_i i K;simp only[KQ,E3];split at h
    ·rename_i e;rw[av e];exact ih (cfg:=.Jq) h hp hs
    ·rename_i e;rw[ai e];exact ih (cfg:=.ex id) h hp hs
   ·exact ih (cfg:=.ex id) h hp hs
def Ol:Code->aI->List Fr->Code×List Fr
 |c,[],K=>(c,K)
 | .seq x y,i::p,K=>(match i with|0=>Ol x p (.sq y::K)|_=>Ol y p K)
 | .block id c,_::p,K=>Ol c p (.bl id::K)
 | .cond _ x y,i::p,K=>(match i with|0=>Ol x p K|_=>Ol y p K)
 | .loop c,_::p,K=>Ol c p (.lp::K)
 |c,_::_,K=>(c,K)
def Pd(P:Program)(rs:List ResultVar×List (List (Option (Nat×Nat))))(st:St):Option D:=match yI P st rs.1,(st.H[0]?:Option Ob)with
 |some ds,some (Ob.AU cells v)=>(match sO st.H rs.2 (.agg cells::ds)with
  |some (.agg cells'::es,ms,qs)=>(if ms.Nodup/\qs.Nodup/\(∀m∈qs,m∉ms)then some (.gj [BS es,.agg cells',.val v])else none)
  |_=>none)
 |_,_=>none
def Pc(P:Program)(rs:List ResultVar)(st:St):Option D:=match yI P st rs with
 |some [.ptr j 0]=>(match st.H[j]? with|some (.box cells)=>(if cells.all D.Ey=true then some (.agg cells)else none)|_=>none)
 |_=>none
inductive Kd where
 |q (nz:List (List (Option (Nat×Nat)))) (d:D)
 |p (nz:List (List (Option (Nat×Nat)))) (v:Value) (cells:aG) (d:D)
 |n (cells:aG)
def Kd.rf(P:Program)(fn:Func)(k:Kd)(st:St):Option D:=match k with
 | .q nz _=>RL P (fn.results.toList,nz) st
 | .p nz _ _ _=>Pd P (fn.results.toList,nz) st
 | .n _=>Pc P fn.results.toList st
def Kd.d0:Kd->D
 | .q _ d=>d
 | .p _ v cells d=>.gj [d,.agg cells,.val v]
 | .n cells=>.agg cells
def Kd.qq(P:Program)(fn:Func):Kd->Exit->St->Prop
 | .q _ d=>KH P fn d
 | .p _ v cells d=>KG P fn v cells d
 | .n cells=>S9 P fn cells
theorem Kd.ok{fn:Func}(k:Kd){st:St}{e:Exit}(he:e=.ret\/e=.normal)(h:k.rf P fn st=some k.d0):k.qq P fn e st:=by
 cases k with
 |q nz d=>exact RM he h
 |p nz v cells d=>
  simp only[Kd.rf,Pd,Kd.d0]at h;split at h
  ·rename_i ds E4 v' h1 h2;split at h
   ·rename_i cells' es ms qs h3;split at h
    ·rename_i hc;simp only[aS,D.gj.injEq,List.cons.injEq,D.agg.injEq,D.val.injEq,and_true]at h;obtain⟨rfl,rfl,rfl⟩:=h;exact⟨he,_,_,_,_,_,_,h1,h2,h3,hc.1,hc.2.1,hc.2.2,rfl⟩
    ·cases h
   ·cases h
  ·cases h
 |n cells=>
  simp only[Kd.rf,Pc,Kd.d0]at h;split at h
  ·rename_i j h1;split at h
   ·rename_i cells' h2;split at h
    ·rename_i hc;simp only[aS,D.agg.injEq]at h;subst h;exact⟨he,j,h1,h2,hc⟩
    ·cases h
   ·cases h
  ·cases h
theorem C0{fn:Func}{k:Kd}{nt n:Nat}{c:Code}{K:List Fr}{st:St}(A:ck)(s:Stop){p:uY}(hnt:Γ.nt=nt)(hm:P.follows .mixedOrders=true)(h:go P (k.rf P fn) nt n (.run c) K st A=some (s,p))(hp:qF p)
 (hs:GQ P Γ N (k.qq P fn) k.d0 s):AW P Γ c (KQ P Γ N (k.qq P fn) K) st:=go_sound (Q:=k.qq P fn) (N:=N) (K:=K) (st:=st) (d0:=k.d0) (cfg:=.run c) (fun _ _ he h=>k.ok he h) hnt hm h hp hs
def DI(P:Program)(Γ:oK)(c:Code)(Q:Exit->St->Prop)(n:Nat)(st:St):Prop:=
 ∀κ Θ a w,cX Γ st κ Θ a w->Code.rounds P c (fun e a' w'=>∃mh κ' Θ',cX Γ mh κ' Θ' a' w'/\Q e mh) n a w
theorem Hp{c:Code}{n:Nat}{st:St}(h:DI P Γ c Q n st):AW P Γ (.loop c) Q st:=fun κ Θ a w hs=>wp_loop_rounds n (h κ Θ a w hs)
theorem aa{c:Code}{K:List Fr}{n:Nat}{st:St}
 (h:∀N',(∀d,d<depth K->N' d=N d)->N' (depth K)=DI P Γ c (KQ P Γ N Q K) n->AW P Γ c (KQ P Γ N' Q (.lp::K)) st):DI P Γ c (KQ P Γ N Q K) (n+1) st:=by
 intro κ Θ a w hs;have:=h (fun d=>if d<depth K then N d else DI P Γ c (KQ P Γ N Q K) n) (fun d hd=>av hd) (ai (by omega));simp only[KQ]at this;rw[ai (by omega)]at this;rw[<-F3 (N:=N) (N':=fun d=>if d<depth K then N d else DI P Γ c (KQ P Γ N Q K) n) K (fun d hd=>(av hd).symm)]at this;rw[rounds_succ];refine wp_mono (this κ Θ a w hs) ?_;rintro e a' w' ⟨mh,κ',Θ',hs',hq⟩;cases e with
 |normal=>
  obtain⟨k,o,hnd,Xn⟩:=hq;obtain⟨κ2,Θ2,hs2⟩:=hs'.vC k o hnd;exact Xn κ2 Θ2 a' w' hs2
 |exit id=>exact⟨_,_,_,hs',hq⟩
 |goto l=>exact⟨_,_,_,hs',hq⟩
 |ret=>exact⟨_,_,_,hs',hq⟩
 |panic c=>exact⟨_,_,_,hs',hq⟩
 |outgrown=>exact⟨_,_,_,hs',hq⟩
end
theorem aL{α:Type}{c:Bool}{x y:Option α}{r:α}(h:(bif c then x else y)=some r):(c=true/\x=some r)\/(c=false/\y=some r):=by
 cases c
 ·exact .inr ⟨rfl,h⟩
 ·exact .inl ⟨rfl,h⟩
theorem bY{α:Type}{c:Bool}{x:Option α}{r:α}(h:(bif c then x else none)=some r):c=true/\x=some r:=by
 cases c
 ·cases h
 ·exact⟨rfl,h⟩
theorem aC{α β:Type}{x:Option α}{f:α->Option β}{r:β}(h:x.bind f=some r):∃y,x=some y/\f y=some r:=by
 cases x with
 |none=>cases h
 |some y=>exact⟨y,rfl,h⟩
theorem aM{α:Type}{x y:α}(h:some x=some y):x=y:=by cases h;rfl
theorem ow{p:Prop}{ps:uY}(h:p)(t:qF ps):qF (p::ps):=⟨h,t⟩
def lG{α:Type}(l:List α)(i:Int):Option α:=bif decide (0<=i)then l[i.toNat]? else none
theorem Hv{α β:Type}{l:List α}{i:Int}{x:α}(f:α->β)(h:lG l i=some x):0<=i/\(l.map f)[i.toNat]?=some (f x):=by
 unfold lG at h;cases hd:decide (0<=i)with
 |false=>rw[hd]at h;cases h
 |true=>rw[hd]at h;simp only[aK]at h;exact⟨by simpa using hd,by rw[bS,h];rfl⟩
theorem QD{l:Bytes}{i:Int}{x:UInt8}(h:lG l i=some x):0<=i/\l[i.toNat]?=some x:=by
 unfold lG at h;cases hd:decide (0<=i)with
 |false=>rw[hd]at h;cases h
 |true=>rw[hd]at h;exact⟨by simpa using hd,h⟩
def fuel:Nat:=4194304
theorem jI{α:Type}{l:List α}{i:Int}{x:α}(f:α->aG)(n:Nat)(h:lG l i=some x)(hn:(f x).length=n):0<=i/\(l.map f)[i.toNat]?=some (f x)/\(f x).length=n:=⟨(Hv f h).1,(Hv f h).2,hn⟩
theorem fC{α:Type}{l:List α}{i:Nat}{x:α}(f:α->aG)(sz:Nat)(h:l[i]?=some x):sz=sz/\(i:Int)=((i:Nat):Int)/\i<(l.map f).length:=⟨rfl,rfl,by rw[az];exact(aB.1 h).1⟩
theorem iY{α:Type}{l:List α}{i:Int}{x:α}(f:α->aG)(sz:Nat)(h:lG l i=some x):sz=sz/\i=((i.toNat:Nat):Int)/\i.toNat<(l.map f).length:=by
 obtain⟨h0,h1⟩:=Hv f h;exact⟨rfl,by omega,(aB.1 h1).1⟩
theorem fB{α:Type}{l:List α}{i:Int}{x:α}(h:lG l i=some x):l[i.toNat]?=some x:=by
 have:=(Hv (fun y=>y) h).2;simpa using this
theorem Ee{x y:Int}(k:IntKind)(h:(decide (0<=x)&&decide (0<y))=true):k=k/\0<=x/\0<y:=by simpa using h
def room(n b:Nat):Bool:=decide (n<=maxLen)&&decide (n*b<=140737488355328)
theorem cE{n b:Nat}(h:room n b=true):n<=maxLen/\n*b<=140737488355328:=by
 simp only[room,aN,bJ]at h;exact h
theorem LK{k n:Nat}(h:k<n)(hn:n<=maxLen):IntKind.i64.wrap ((k:Int)+1)=((k+1:Nat):Int):=by
 unfold maxLen at hn;rw[iC (nk.i64.2 (by omega))];omega
theorem Nz{k n:Nat}(h:k<n):decide ((k:Int)<(n:Int))=true:=by simp[h]
theorem Li{k n:Nat}(h:n<=k):decide ((k:Int)<(n:Int))=false:=by simp;omega
theorem drop_cons{α:Type}{l:List α}{k:Nat}{x:α}{xs:List α}(h:l.drop k=x::xs):l[k]?=some x/\k<l.length/\l.drop (k+1)=xs:=by
 have h1:l[k]?=some x:=by
  have:=congrArg (fun m:List α=>m[0]?) h;simpa[dB]using this
 refine⟨h1,(aB.1 h1).1,?_⟩;rw[<-eC,h];rfl
theorem drop_nil{α:Type}{l:List α}{k:Nat}(h:l.drop k=[]):l.length<=k:=by simpa using h
theorem Ll{α β:Type}{l:List α}{k:Nat}{x:α}(f:α->β)(h:l[k]?=some x):0<=(k:Int)/\(l.map f)[(k:Int).toNat]?=some (f x):=⟨by omega,by simp[h]⟩
theorem cI{α:Type}{l:List α}{k:Nat}{x:α}(f:α->aG)(n:Nat)(h:l[k]?=some x)(hn:(f x).length=n):0<=(k:Int)/\(l.map f)[(k:Int).toNat]?=some (f x)/\(f x).length=n:=⟨(Ll f h).1,(Ll f h).2,hn⟩
theorem Lj{α β:Type}{l:List α}{k:Nat}(f:α->β)(h:k<l.length):decide ((k:Int)<((l.map f).length:Int))=true:=by rw[az];exact Nz h
theorem JL{α β:Type}{l:List α}{k:Nat}(f:α->β)(h:l.length<=k):decide ((k:Int)<((l.map f).length:Int))=false:=by rw[az];exact Li h
theorem cB{α β:Type}{l:List α}{k:Nat}{x:α}(f:α->β)(h:l[k]?=some x):(l.map f)[k]?=some (f x):=by rw[bS,h];rfl
end Go.Cx
namespace Go.Cx
open Go.RowKit
abbrev mD:=List Fr
section
variable{P:Program}{Γ:oK}{Q:Exit->St->Prop}{st:St}{a:Act}{w:World}
def D3(x:Nat)(o:Oper):Oper:= {o with after:=o.after.push ⟨x,.data⟩}
def D2(x:Nat):Nat->List Oper->List Oper
 |_,[]=>[]
 |0,o::l=>D3 x o::l
 |y+1,o::l=>o::D2 x y l
def xL(x y:Nat)(ops:Array Oper):Array Oper:=(D2 x y ops.toList).toArray
theorem F8(x:Nat):∀(l:List Oper) (y i:Nat),(D2 x y l)[i]?=if i=y then(l[i]?).map (D3 x)else l[i]?
 | [],y,i=>by simp[D2]
 |o::l,0,0=>by simp[D2]
 |o::l,0,i+1=>by simp[D2]
 |o::l,y+1,0=>by simp[D2]
 |o::l,y+1,i+1=>by simp[D2,F8 x l y i]
theorem vr(x y:Nat)(ops:Array Oper)(i:Nat):(xL x y ops)[i]?=if i=y then(ops[i]?).map (D3 x)else ops[i]?:=by
 unfold xL;rw[dW,F8,fw]
theorem F9(x:Nat):∀(l:List Oper) (y:Nat),(D2 x y l).length=l.length
 | [],y=>by cases y<;>rfl
 |_::_,0=>rfl
 |_::l,y+1=>by simp[D2,F9 x l y]
theorem Ix(x y:Nat)(ops:Array Oper):(xL x y ops).size=ops.size:=by unfold xL;simp[F9]
theorem DU(x:Nat)(o:Oper)(f:Operand->Value):execOp f (D3 x o)=execOp f o:=by
 cases o;rfl
theorem OX(x:Nat){o:Oper}{K:Act->World->Prop}{Q':Exit->Act->World->Prop}(h:(D3 x o).wp P a w K Q'):o.wp P a w K Q':=by
 unfold Oper.wp at*;rw[DU]at h;exact h
theorem Iz(x:Nat){o:Oper}(h:(D3 x o).asks P a w):o.asks P a w:=by
 unfold Oper.asks at*;rw[DU]at h;exact h
theorem Ev(x y:Nat)(ops:Array Oper)(t:Array Value):yielded (xL x y ops) t=yielded ops t:=by
 funext j
 unfold yielded;rw[vr];by_cases e:j=y
 ·rw[av e];cases ops[j]?<;>rfl
 ·rw[ai e]
theorem uM{x y i:Nat}{ops:Array Oper}{K:Act->World->Prop}{Q':Exit->Act->World->Prop}(h:wpOp P (xL x y ops) Q' i K a w):wpOp P ops Q' i K a w:=by
 unfold wpOp at*;rw[vr,Ev]at h;by_cases e:i=y
 ·rw[av e]at h;cases ho:ops[i]? with
  |none=>simpa[ho]using h
  |some o=>
   simp only[ho,bp]at h⊢;have hw:Region.wanted (D3 x o) (yielded ops a.tmps)=Region.wanted o (yielded ops a.tmps):=rfl;rw[hw]at h;split
   ·rename_i hq;rw[av hq]at h;exact h.imp (OX x) fun⟨q1,q2⟩=>⟨Iz x q1,q2⟩
   ·rename_i hq;rw[ai hq]at h;exact h
 ·rw[ai e]at h;exact h
theorem JW{x y i:Nat}{ops:Array Oper}{listed:Array Bool}(h:i∈Region.ready .any (xL x y ops) listed):i∈Region.ready .any ops listed:=by
 obtain⟨h1,o,h2,h3⟩:=mem_ready.1 h;rw[vr]at h2;by_cases e:i=y
 ·rw[av e]at h2;cases ho:ops[i]? with
  |none=>rw[ho]at h2;cases h2
  |some o'=>
   rw[ho]at h2;cases h2;exact mem_ready.2 ⟨h1,o',ho,fun e he hb=>h3 e (by simp only[D3,Array.mem_push];exact .inl he) hb⟩
 ·rw[ai e]at h2;exact mem_ready.2 ⟨h1,o,h2,h3⟩
theorem oc{x y i:Nat}{ops:Array Oper}{listed:Array Bool}(h:i∈Region.ready .any ops listed)(hy:i≠y\/listed.getD x false=true):i∈Region.ready .any (xL x y ops) listed:=by
 obtain⟨h1,o,h2,h3⟩:=mem_ready.1 h;by_cases e:i=y
 ·refine mem_ready.2 ⟨h1,D3 x o,by rw[vr,av e,h2];rfl,fun e' he hb=>?_⟩;simp only[D3,Array.mem_push]at he;rcases he with he|rfl
  ·exact h3 e' he hb
  ·rcases hy with hy|hy
   ·exact absurd e hy
   ·exact hy
 ·exact mem_ready.2 ⟨h1,o,by rw[vr,ai e];exact h2,h3⟩
theorem Ck{x y:Nat}{ops:Array Oper}{listed:Array Bool}(h:Region.ready .any ops listed=[]):Region.ready .any (xL x y ops) listed=[]:=by
 rw[eD]at*;exact fun i hi=>h i (JW hi)
theorem HC{listed:Array Bool}{i x:Nat}(h:listed.getD x false=true):(listed.setIfInBounds i true).getD x false=true:=by
 by_cases e:i=x
 ·subst e;have:i<listed.size:=by
   rcases cg i listed.size with h1|h1
   ·exact h1
   ·simp[h1]at h
  simp[this]
 ·rw[getD_set_ne false e];exact h
theorem wpAny_done{x y:Nat}{ops:Array Oper}{Q':Exit->Act->World->Prop}:∀(fuel:Nat) (listed:Array Bool) (a:Act) (w:World),listed.getD x false=true->wpAny P .any (xL x y ops) Q' fuel listed a w->wpAny P .any ops Q' fuel listed a w
 |0,listed,a,w,hx,h=>by
  refine⟨?_,h.2⟩;rw[eD];intro i hi;have:=oc (y:=y) hi (.inr hx);rw[h.1]at this;cases this
 |fuel+1,listed,a,w,hx,h=>by
  refine⟨fun h0=>h.1 (Ck h0),fun i hi=>?_⟩;exact uM (wpOp_mono (fun a' w' h'=>wpAny_done fuel _ a' w' (HC hx) h') (h.2 i (oc hi (.inr hx))))
def Cc:Op->Bool
 | .move _=>true
 | .assign _=>true
 | .pick _ _ _=>true
 | .alloc _=>true
 | .box _ _=>true
 | .build _ _=>true
 | .buildSlice _ _ _=>true
 | .load _ _=>true
 | .store _ _ _=>true
 | .binOp _ _ _ _ _=>true
 | .unOp _ _ _=>true
 | .slice _ _ _ _ _=>true
 | .fieldAddr _ _ _=>true
 | .indexAddr _ _ _=>true
 | .call c=>(match c.callee with| .builtin .append=>true| .builtin .len=>true|_=>false)
 |_=>false
theorem Jc{o:Oper}{K1 K2:Act->World->Prop}{Q':Exit->Act->World->Prop}{r:Result Next}(hr:(∃v w',r=.ok (.value v) w')\/(∃w',r=.ok .skip w')\/∃x w',r=.halt x w')(h1:o.upon P a K1 Q' r)(h2:o.upon P a K2 Q' r):o.upon P a (fun a w=>K1 a w/\K2 a w) Q' r:=by
 rcases hr with⟨v,w',rfl⟩|⟨w',rfl⟩|⟨x,w',rfl⟩
 ·exact⟨h1,h2⟩
 ·exact⟨h1,h2⟩
 ·cases x<;>exact h1
theorem Tg(s:Sem Value)(w:World):(∃v w',(do pure (.value (<-s)):Sem Next).run P w=.ok (.value v) w')\/∃x w',(do pure (.value (<-s)):Sem Next).run P w=.halt x w':=by
 simp only[Sem.run_bind];cases s.run P w with
 |ok v w'=>exact .inl ⟨v,w',by simp⟩
 |halt x w'=>exact .inr ⟨x,w',by simp⟩
theorem Tf(s:Sem Unit)(w:World):(∃w',(do s;pure .skip:Sem Next).run P w=.ok .skip w')\/∃x w',(do s;pure .skip:Sem Next).run P w=.halt x w':=by
 simp only[Sem.run_bind];cases s.run P w with
 |ok v w'=>exact .inl ⟨w',by simp⟩
 |halt x w'=>exact .inr ⟨x,w',by simp⟩
theorem FN{o:Oper}(h:Cc o.op=true)(f:Operand->Value)(w:World):(∃v w',(execOp f o).run P w=.ok (.value v) w')\/(∃w',(execOp f o).run P w=.ok .skip w')\/∃x w',(execOp f o).run P w=.halt x w':=by
 have hv:∀s:Sem Value,(∃v w',(do pure (.value (<-s)):Sem Next).run P w=.ok (.value v) w')\/(∃w',(do pure (.value (<-s)):Sem Next).run P w=.ok .skip w')\/∃x w',(do pure (.value (<-s)):Sem Next).run P w=.halt x w':=fun s=>(Tg s w).imp id .inr
 have hu:∀s:Sem Unit,(∃v w',(do s;pure .skip:Sem Next).run P w=.ok (.value v) w')\/(∃w',(do s;pure .skip:Sem Next).run P w=.ok .skip w')\/∃x w',(do s;pure .skip:Sem Next).run P w=.halt x w':=fun s=>.inr (Tf s w)
 have hp:∀c x y:Value,(∃v w',(do pure (.value (if<-asBool c then x else y)):Sem Next).run P w=.ok (.value v) w')\/(∃w',(do pure (.value (if<-asBool c then x else y)):Sem Next).run P w=.ok .skip w')\/∃z w',(do pure (.value (if<-asBool c then x else y)):Sem Next).run P w=.halt z w':=by
  intro c x y;simp only[Sem.run_bind];cases(asBool c).run P w with
  |ok v w'=>exact .inl ⟨if v then x else y,w',by simp⟩
  |halt z w'=>exact .inr (.inr ⟨z,w',by simp⟩)
 unfold execOp;cases hop:o.op
 case call c=>
  rw[hop]at h;simp only[Cc]at h;have hr:∀b,c.callee=.builtin b->(do let d<-resolve f c o.type;invoke d.target d.args:Sem Next).run P w=(builtin b c.argTypes o.type (c.args.map fun| .const _=>true|_=>false) (c.args.map f)).run P w:=by
   intro b hb;simp only[resolve,hb,Sem.run_bind,Sem.run_pure,Result.andThen_ok];rfl
  split at h
  ·rename_i hb;simp only;rw[hr _ hb];exact hv _
  ·rename_i hb;simp only;rw[hr _ hb];exact hv _
  ·cases h
 all_goals rw[hop]at h
 all_goals try(cases h)
 all_goals first|exact .inl ⟨_,_,rfl⟩|exact hp _ _ _|exact hv _|exact hu _
theorem Jg{i:Nat}{ops:Array Oper}{K1 K2:Act->World->Prop}{Q':Exit->Act->World->Prop}(hn:∀o,ops[i]?=some o->Cc o.op=true)(h1:wpOp P ops Q' i K1 a w)(h2:wpOp P ops Q' i K2 a w):wpOp P ops Q' i (fun a w=>K1 a w/\K2 a w) a w:=by
 unfold wpOp at*;cases ho:ops[i]? with
 |none=>simp only[ho]at h1 h2⊢;exact⟨h1,h2⟩
 |some o=>
  simp only[ho]at h1 h2⊢;split
  ·rename_i hq;rw[av hq]at h1 h2;rcases h1 with h1|h1
   ·rcases h2 with h2|h2
    ·exact .inl (Jc (FN (hn o ho) _ _) h1 h2)
    ·exact .inr h2
   ·exact .inr h1
  ·rename_i hq;rw[ai hq]at h1 h2;exact⟨h1,h2⟩
def Ta(x y:Nat)(ops:Array Oper):Bool:= !(x==y)&&(List.range ops.size).all fun i=>i==x||i==y||(match ops[i]? with|some o=>Cc o.op||o.after.any (fun e=>Region.binds .any e&&(e.on==x||e.on==y))|none=>true)
theorem GF{x y:Nat}{ops:Array Oper}{Q':Exit->Act->World->Prop}(hB:Ta x y ops=true):∀(fuel:Nat) (listed:Array Bool) (a:Act) (w:World),listed.size=ops.size->listed.getD x false=false->listed.getD y false=false->
 wpAny P .any (xL x y ops) Q' fuel listed a w->wpAny P .any (xL y x ops) Q' fuel listed a w->wpAny P .any ops Q' fuel listed a w
 |0,listed,a,w,hs,hx,hy,h1,h2=>by
  refine⟨?_,h1.2⟩;rw[eD];intro i hi;simp only[Ta,aN,jT,cZ,ne_eq]at hB;by_cases e:i=y
  ·have:=oc (x:=y) (y:=x) hi (.inl (by rw[e];exact fun h=>hB.1 h.symm));rw[h2.1]at this;cases this
  ·have:=oc (x:=x) (y:=y) hi (.inl e);rw[h1.1]at this;cases this
 |fuel+1,listed,a,w,hs,hx,hy,h1,h2=>by
  have Rr:=hB;simp only[Ta,aN,jT,cZ,ne_eq]at Rr;obtain⟨hxy,hall⟩:=Rr;refine⟨fun h0=>h1.1 (Ck h0),fun i hi=>?_⟩;have hlt:i<ops.size:=by
   obtain⟨_,o,ho,_⟩:=mem_ready.1 hi;exact(aX.1 ho).1
  have kP:(listed.setIfInBounds i true).getD i false=true:=by
   have:i<listed.size:=by omega
   simp[this]
  by_cases ex:i=x
  ·have h:=h1.2 i (oc hi (.inl (by rw[ex];exact hxy)));rw[ex]at kP h⊢;exact uM (wpOp_mono (fun a' w' h'=>wpAny_done fuel _ a' w' kP h') h)
  by_cases ey:i=y
  ·have h:=h2.2 i (oc hi (.inl (by rw[ey];exact fun q=>hxy q.symm)));rw[ey]at kP h⊢;exact uM (wpOp_mono (fun a' w' h'=>wpAny_done fuel _ a' w' kP h') h)
  have hn:∀o,ops[i]?=some o->Cc o.op=true:=by
   intro o ho;have:=aQ.1 hall i (bB.2 hlt);simp only[ho,iP,cD,ex,ey,false_or]at this;rcases this with h|h
   ·exact h
   ·exfalso;obtain⟨_,o',ho',hw⟩:=mem_ready.1 hi;rw[ho]at ho';cases ho';obtain⟨e,he,hb⟩:=Array.any_eq_true'.1 h;simp only[aN,iP,cD]at hb;have hl:=hw e he hb.1;rcases hb.2 with q|q
    ·rw[q,hx]at hl;cases hl
    ·rw[q,hy]at hl;cases hl
  have k1:=uM (h1.2 i (oc hi (.inl ey)));have k2:=uM (h2.2 i (oc hi (.inl ex)));refine wpOp_mono (fun a' w' h'=>GF hB fuel _ a' w' (by simpa using hs) ?_ ?_ h'.1 h'.2) (Jg hn k1 k2)
  ·rw[getD_set_ne false (fun h=>ex h)];exact hx
  ·rw[getD_set_ne false (fun h=>ey h)];exact hy
theorem o6.or{x y:Nat}{ops:Array Oper}(hB:Ta x y ops=true)(h1:o6 P Γ (xL x y ops) Q st)(h2:o6 P Γ (xL y x ops) Q st):o6 P Γ ops Q st:=by
 intro κ Θ a w hs;have k1:=h1 κ Θ a w hs;have k2:=h2 κ Θ a w hs;rw[Ix]at k1 k2;exact GF hB ops.size (Array.replicate ops.size false) a w (by simp) (getD_replicate_false _ _) (getD_replicate_false _ _) k1 k2
def free(p:Nat)(ops:Array Oper)(op:Oper)(dp:aI):Bool:=(List.range ops.size).all fun i=>i==p||(match ops[i]? with
 |none=>true
 |some o=>o.after.any (fun e=>Region.binds .any e&&e.on==p)||dp.contains i||
  (o.guard.isNone&&(match o.op with| .select _ _=>false|_=>true)&& !(o.dst==op.dst)&&(o.op.operands.toList.all fun x=>match x with| .tmp u=> !(op.dst==some u)|_=>true)&&(op.op.operands.toList.all fun x=>match x with| .tmp u=> !(o.dst==some u)|_=>true)))
theorem Gi{N:Nat->St->Prop}{fn:Func}{kd:Kd}{nt n id:Nat}{ops:Array Oper}{K:mD}{A:ck}(s:Stop){p:uY}(hnt:Γ.nt=nt)(hm:P.follows .mixedOrders=true)
 (h:go P (kd.rf P fn) nt (n+1) (.run (.region id ops true)) K st A=some (s,p)) (hA:∃π ρ k m L X A1,A=.n2 π ρ k m L X::A1) (hp:qF p) (hs:GQ P Γ N (kd.qq P fn) kd.d0 s):o6 P Γ ops (KQ P Γ N (kd.qq P fn) K) st:=by
 obtain⟨π,ρ,k,m,L,X,A1,rfl⟩:=hA
 ·simp only[go]at h;split at h
  ·rename_i ops' Up;generalize Qd:nW ops π ρ=ops' at h;split at h
   ·rename_i hB;split at h
    ·rename_i σ1 acc A2 p1 h1;split at h
     ·rename_i qC A3 p2 hst hmid;split at h
      ·rename_i Bv A4 p3 h2;obtain⟨q,h3,rfl⟩:=sR h;have hq:=hp.app.1.app;have qx:=hq.2.app;have h4:=rH (Q:=KQ P Γ N (kd.qq P fn) K) hnt h2 qx.2 (go_sound (Q:=kd.qq P fn) (N:=N) (K:=K) (d0:=kd.d0) (cfg:=.Jq) (fun _ _ he h=>kd.ok he h) hnt hm h3 hp.app.2 hs);have h6:=zv (Γ:=Γ) (K:=fun mh=>AO P Γ ops'.toArray (ops'.drop m) (KQ P Γ N (kd.qq P fn) K) mh) hnt hmid qx.1 h4;have h5:=tI (Γ:=Γ) (K:=fun σ acc=>(∀i∈L,∀o,ops'[i]?=some o->tE X ⟨σ,st.H⟩ o.op=true)/\Iq P Γ X (fun mh=>AO P Γ ops'.toArray (ops'.drop m) (KQ P Γ N (kd.qq P fn) K) mh) ((ops'.drop k).take (m-k)) ⟨σ,st.H++acc⟩) hnt h1 hq.1 ⟨Dg hst,h6⟩;have hr:=DL (l:=ops') (Q:=KQ P Γ N (kd.qq P fn) K) (st:=st) k m L hB h5;rw[<-Qd]at hr;exact hr.perm Up
      ·cases h
     ·cases h
    ·cases h
   ·cases h
  ·cases h
def M2:Code->Array Oper
 | .region _ ops _=>ops
 | .seq (.region _ ops _) _=>ops
 |_=> #[]
def Ka:Code->Bool
 | .region _ _ dr=>dr
 | .seq (.region _ _ dr) _=>dr
 |_=>false
def SH(c:Code)(K:mD):mD:=match c with
 | .seq (.region _ _ _) y=>.sq y::K
 |_=>K
theorem Oc{N:Nat->St->Prop}{Q:Exit->St->Prop}{c:Code}{K:mD}(hm:P.follows .mixedOrders=true)(i j:Nat)(hd:Ka c=true)(hB:Ta i j (M2 c)=true)(h1:o6 P Γ (xL i j (M2 c)) (KQ P Γ N Q (SH c K)) st)(h2:o6 P Γ (xL j i (M2 c)) (KQ P Γ N Q (SH c K)) st):AW P Γ c (KQ P Γ N Q K) st:=by
 have h:=o6.or hB h1 h2;unfold Ka at hd;split at hd
 ·subst hd;exact h.aw hm
 ·subst hd;exact KB (h.aw hm)
 ·cases hd
end
end Go.Cx
namespace Go.Cx
open Go.RowKit
section
variable{P:Program}{Γ:oK}{Q:Exit->St->Prop}{st:St}{κ κ':Nat->Option Value}{Θ Θ':Nat->Nat}{a:Act}{w w':World}{all:Array Oper}{rest:List Oper}
end
end Go.Cx
namespace Go.Cx
open Go.RowKit Go.Proofs Tryz
structure aJ where
 rel:Bytes
 args:aD
 deriving DecidableEq
structure aj where
 var:Bytes
 value:Bytes
 deriving DecidableEq
structure aT where
 kind:Int
 pat:aJ
 left:Bytes
 right:Bytes
 deriving DecidableEq
structure Action where
 kind:Int
 pat:aJ
 deriving DecidableEq
structure aZ where
 name:Bytes
 prio:Int
 conds:List aT
 cJ:List Action
 deriving DecidableEq
structure bA where
 facts:List aJ
 bind:List aj
 deriving DecidableEq
structure bE where
 rule:Bytes
 facts:List aJ
 bind:List aj
 deriving DecidableEq
structure jH where
 shape:aJ
 facts:List aJ
 deriving DecidableEq
structure Node where
 parent:Int
 cond:aT
 SC:Int
 tokens:List bA
 deriving DecidableEq
structure dh where
 rules:List aZ
 ends:bw
 KK:List jH
 nodes:List Node
 facts:List aJ
 Pu:Int
 deriving DecidableEq
structure jr where
 fact:aJ
 time:Int
 deriving DecidableEq
structure Ue where
 rule:Bytes
 times:bw
 deriving DecidableEq
structure Ud where
 YY:bE
 prio:Int
 times:bw
 spec:Int
 order:Int
 deriving DecidableEq
structure bt where
 b:bw
 i:Int
 h:Int
 deriving DecidableEq
abbrev tx(s:Bytes):List D:=[.str s]
abbrev Ns(n:Int):List D:=[.int .i64 n]
abbrev bx(b:Bool):List D:=[.bool b]
abbrev yx(n:Int):List D:=[.int .u8 n]
abbrev dT(l:List Bytes):D:=.sl (l.map tx)
abbrev dI(l:List Int):D:=.sl (l.map Ns)
abbrev aJ.c(x:aJ):List D:=[.str x.rel,dT x.args]
abbrev aj.c(x:aj):List D:=[.str x.var,.str x.value]
abbrev aT.c(x:aT):List D:=[.int .i64 x.kind,.str x.pat.rel,dT x.pat.args,.str x.left,.str x.right]
abbrev Action.c(x:Action):List D:=[.int .i64 x.kind,.str x.pat.rel,dT x.pat.args]
abbrev aZ.c(x:aZ):List D:=[.str x.name,.int .i64 x.prio,.sl (x.conds.map aT.c),.sl (x.cJ.map Action.c)]
abbrev bA.c(x:bA):List D:=[.sl (x.facts.map aJ.c),.sl (x.bind.map aj.c)]
abbrev bE.c(x:bE):List D:=[.str x.rule,.sl (x.facts.map aJ.c),.sl (x.bind.map aj.c)]
abbrev jH.c(x:jH):List D:=[.str x.shape.rel,dT x.shape.args,.sl (x.facts.map aJ.c)]
abbrev Node.c(x:Node):List D:=[.int .i64 x.parent,.int .i64 x.cond.kind,.str x.cond.pat.rel,dT x.cond.pat.args,.str x.cond.left,.str x.cond.right,.int .i64 x.SC,.sl (x.tokens.map bA.c)]
abbrev dh.c(x:dh):List D:=[.sl (x.rules.map aZ.c),dI x.ends,.sl (x.KK.map jH.c),.sl (x.nodes.map Node.c),.sl (x.facts.map aJ.c),.int .i64 x.Pu]
abbrev jr.c(x:jr):List D:=[.str x.fact.rel,dT x.fact.args,.int .i64 x.time]
abbrev bt.c(x:bt):List D:=[.sl (x.b.map yx),.int .i64 x.i,.int .i64 x.h]
def vz(fn:Func):Code:=match fn.body with
 |some c=>c
 |none=>.skip
theorem My:prog.follows .mixedOrders=true:=by kernel_rfl
theorem Ub{P:Program}{Γ:oK}{Q:Exit->St->Prop}{N N':Nat->St->Prop}{c:Code}{K K0:mD}{st:St}(hd:depth K=depth K0)(hN:∀d,d<depth K0->N' d=N d)(t:AW P Γ c (KQ P Γ N Q K) st):AW P Γ c (KQ P Γ N' Q K) st:=by
 rw[F3 (N:=N') (N':=N) K (fun d h=>hN d (by omega))];exact t
theorem Od{P:Program}{Γ:oK}{Q:Exit->St->Prop}{c:Code}{s s':St}(h:s=s')(t:AW P Γ c Q s'):AW P Γ c Q s:=by rw[h];exact t
abbrev bT:An:=.b true
abbrev bF:An:=.b false
structure Pre(A:List An)(p:uY):Prop where
 h:qF p
theorem aW:Pre [] []:=⟨trivial⟩
theorem qF.join{p q:uY}(h:qF p)(k:qF q):qF (p++q):=by
 induction p with
 |nil=>exact k
 |cons x p ih=>exact⟨h.1,ih h.2⟩
theorem Pre.ext{A:ck}{p:uY}(o:Pre A p)(B:ck){q:uY}(hq:qF q):Pre (A++B) (p++q):=⟨o.h.join hq⟩
section
variable{A:ck}{p:uY}
theorem Pre.b(o:Pre A p){c v:Bool}(h:c=v):Pre (A++[.b v]) (p++[c=v]):=o.ext _ ⟨h,trivial⟩
theorem Pre.r(o:Pre A p)(n:Nat){c v:Bool}(h:c=v):Pre (A++List.replicate n (.b v)) (p++List.replicate n (c=v)):=o.ext _ (by
 induction n with
 |zero=>trivial
 |succ n ih=>exact⟨h,ih⟩)
theorem Pre.T(o:Pre A p)(n:Nat):Pre (A++List.replicate n bT) (p++List.replicate n (true=true)):=o.r n rfl
theorem Pre.F(o:Pre A p)(n:Nat):Pre (A++List.replicate n bF) (p++List.replicate n (false=false)):=o.r n rfl
theorem Pre.g(o:Pre A p){f:FuncId}{ds:aG}{d:D}(h:Good prog f ds d):Pre (A++[.d d]) (p++[Good prog f ds d]):=o.ext _ ⟨h,trivial⟩
theorem Pre.hp(o:Pre A p)(nz:List (List (Option (Nat×Nat)))){f:FuncId}{cells cells' ds:aG}{d:D}(h:iR prog f cells cells' ds d):Pre (A++[.gp nz cells' d]) (p++[iR prog f cells cells' ds d]):=o.ext _ ⟨h,trivial⟩
theorem Pre.hn(o:Pre A p){f:FuncId}{ds cells:aG}(h:z8 prog f ds cells):Pre (A++[.dn cells]) (p++[z8 prog f ds cells]):=o.ext _ ⟨h,trivial⟩
theorem Pre.w(o:Pre A p){q:Prop}(h:q):Pre (A++[]) (p++[q]):=o.ext _ ⟨h,trivial⟩
theorem Pre.a(o:Pre A p)(B:ck):Pre (A++B) (p++[]):=o.ext _ (q:=[]) trivial
theorem Pre.l(o:Pre A p){n:Int}{rows:List aG}{r:aG}{sz:Nat}(h:0<=n/\rows[n.toNat]?=some r/\r.length=sz):Pre (A++[.row r]) (p++[0<=n/\rows[n.toNat]?=some r/\r.length=sz]):=o.ext _ ⟨h,trivial⟩
theorem Pre.i(o:Pre A p){sz sz' m k:Nat}{n:Int}(h:sz=sz'/\n=((k:Nat):Int)/\k<m):Pre (A++[.ix k]) (p++[sz=sz'/\n=((k:Nat):Int)/\k<m]):=o.ext _ ⟨h,trivial⟩
theorem Pre.o(o:Pre A p)(sz n:Nat)(k:RK){rows:List aG}{i:Nat}{r:aG}(h:rows[i]?=some r)(hk:k.EZ=true:=by kernel_rfl)(hn:Nat.ble n sz=true:=by kernel_rfl):Pre (A++[.row r]) (p++[sz=sz/\k.EZ=true/\rows[i]?=some r/\n<=sz]):=o.ext _ ⟨⟨rfl,hk,h,kL hn⟩,trivial⟩
theorem Pre.c(o:Pre A p){s:Bytes}{i:Int}{b:UInt8}(h:lG s i=some b):Pre (A++[.ch b]) (p++[0<=i/\s[i.toNat]?=some b]):=o.ext _ ⟨QD h,trivial⟩
theorem Pre.lt{α:Type}{l xs:List α}{i:Nat}{x:α}(o:Pre A p)(f:α->aG)(h:l.drop i=x::xs):Pre (A++[bT]) (p++[decide ((i:Int)<((l.map f).length:Int))=true]):=o.b (Lj f (drop_cons h).2.1)
theorem Pre.ge{α:Type}{l:List α}{i:Nat}(o:Pre A p)(f:α->aG)(h:l.drop i=[]):Pre (A++[bF]) (p++[decide ((i:Int)<((l.map f).length:Int))=false]):=o.b (JL f (drop_nil h))
end
theorem dc{α:Type}{l:List α}{k:Nat}{x:α}{xs:List α}(h:l.drop k=x::xs):l[k]?=some x:=(drop_cons h).1
theorem dn{α:Type}{l:List α}{k:Nat}{x:α}{xs:List α}(h:l.drop k=x::xs):l.drop (k+1)=xs:=(drop_cons h).2.2
theorem iS{α:Type}{l:List α}{k:Nat}{x:α}{xs:List α}(h:l.drop k=x::xs)(hn:l.length<=maxLen):IntKind.i64.wrap ((k:Int)+1)=((k+1:Nat):Int):=LK (drop_cons h).2.1 hn
theorem Ga{n:Int}{m:Nat}(h:(decide (0<=n)&&decide (n.toNat<=m))=true):n=((n.toNat:Nat):Int)/\n.toNat<=m:=by
 simp only[aN,bJ]at h;exact⟨by omega,h.2⟩
theorem mA{α β:Type}(f:α->β):(∀a b:List α,(a++b).map f=a.map f++b.map f)/\(∀(x:α) (a:List α),(x::a).map f=f x::a.map f)/\([]:List α).map f=[]/\(∀(l:List α) (i:Nat) (x:α),(l.set i x).map f=(l.map f).set i (f x))/\(∀(n:Nat) (x:α),(List.replicate n x).map f=List.replicate n (f x))/\(∀(l:List α) (n:Nat),(l.take n).map f=(l.map f).take n):=
 ⟨fun _ _=>ar,fun _ _=>rfl,rfl,fun _ _ _=>List.map_set,fun _ _=>List.map_replicate,fun _ _=>bG⟩
section
variable{Γ:oK}{N N1:Nat->St->Prop}{fn:Func}{k:Kd}{nt:Nat}{A:ck}{p:uY}{c c':Code}{K K' K0:mD}{st mh:St}
theorem Pre.ret(o:Pre A p)(hnt:Γ.nt=nt)(h:go prog (k.rf prog fn) nt 2000 (.run c) K st A=some (.ret k.d0,p):=by kernel_rfl):AW prog Γ c (KQ prog Γ N (k.qq prog fn) K) st:=C0 (n:=2000) A _ hnt My h o.h rfl
theorem Pre.rts(o:Pre A p)(hnt:Γ.nt=nt)(d:D)(hd:d=k.d0)(h:go prog (k.rf prog fn) nt 2000 (.run c) K st A=some (.ret d,p):=by kernel_rfl):AW prog Γ c (KQ prog Γ N (k.qq prog fn) K) st:=C0 (n:=2000) A _ hnt My h o.h hd
theorem Pre.cs(o:Pre A p)(hnt:Γ.nt=nt){n:Nat}(hS:N1 (depth K')=DI prog Γ c' (KQ prog Γ N (k.qq prog fn) K') n)(S:St)(e:S=mh)(t:DI prog Γ c' (KQ prog Γ N (k.qq prog fn) K') n mh)
 (h:go prog (k.rf prog fn) nt 2000 (.run c) K st A=some (.cont (depth K') S,p):=by kernel_rfl):AW prog Γ c (KQ prog Γ N1 (k.qq prog fn) K) st:=C0 (n:=2000) A _ hnt My h o.h ((congrFun hS _).mpr (by rw[e];exact t))
theorem Pre.cf(o:Pre A p)(hnt:Γ.nt=nt){n:Nat}(hS:N1 (depth K')=DI prog Γ c' (KQ prog Γ N (k.qq prog fn) K') n)(t:DI prog Γ c' (KQ prog Γ N (k.qq prog fn) K') n mh)
 (h:go prog (k.rf prog fn) nt 2000 (.run c) K st A=some (.cont (depth K') mh,p):=by kernel_rfl):AW prog Γ c (KQ prog Γ N1 (k.qq prog fn) K) st:=o.cs hnt hS _ rfl t h
theorem Pre.ct(o:Pre A p)(hnt:Γ.nt=nt){n i:Nat}{S:Int->St}(hS:N1 (depth K')=DI prog Γ c' (KQ prog Γ N (k.qq prog fn) K') n)(hi:IntKind.i64.wrap ((i:Int)+1)=((i+1:Nat):Int))(t:DI prog Γ c' (KQ prog Γ N (k.qq prog fn) K') n (S ((i+1:Nat):Int)))
 (h:go prog (k.rf prog fn) nt 2000 (.run c) K st A=some (.cont (depth K') (S (IntKind.i64.wrap ((i:Int)+1))),p):=by kernel_rfl):AW prog Γ c (KQ prog Γ N1 (k.qq prog fn) K) st:=o.cs hnt hS _ (congrArg S hi) t h
theorem Pre.Xg(o:Pre A p)(hnt:Γ.nt=nt)(hN:∀d,d<depth K0->N1 d=N d)(S:St)(e:S=mh)(t:AW prog Γ c' (KQ prog Γ N (k.qq prog fn) K') mh)(hd:depth K'=depth K0:=by kernel_rfl)(h:go prog (k.rf prog fn) nt 2000 (.run c) K st A=some (.at_ c' K' S,p):=by kernel_rfl):
 AW prog Γ c (KQ prog Γ N1 (k.qq prog fn) K) st:=C0 (n:=2000) A _ hnt My h o.h (Ub (K0:=K0) hd hN (by rw[e];exact t))
theorem Pre.ex(o:Pre A p)(hnt:Γ.nt=nt)(hN:∀d,d<depth K0->N1 d=N d)(t:AW prog Γ c' (KQ prog Γ N (k.qq prog fn) K') mh)(hd:depth K'=depth K0:=by kernel_rfl)(h:go prog (k.rf prog fn) nt 2000 (.run c) K st A=some (.at_ c' K' mh,p):=by kernel_rfl):
 AW prog Γ c (KQ prog Γ N1 (k.qq prog fn) K) st:=o.Xg hnt hN _ rfl t hd h
theorem Pre.WC(o:Pre A p)(hnt:Γ.nt=nt){n:Nat}(S:St)(e:S=mh)(t:DI prog Γ c' (KQ prog Γ N (k.qq prog fn) K') n mh)(h:go prog (k.rf prog fn) nt 2000 (.run c) K st A=some (.lp c' K' S,p):=by kernel_rfl):
 AW prog Γ c (KQ prog Γ N (k.qq prog fn) K) st:=C0 (n:=2000) A _ hnt My h o.h (Od e (Hp t))
theorem Pre.lp(o:Pre A p)(hnt:Γ.nt=nt){n:Nat}(t:DI prog Γ c' (KQ prog Γ N (k.qq prog fn) K') n mh)(h:go prog (k.rf prog fn) nt 2000 (.run c) K st A=some (.lp c' K' mh,p):=by kernel_rfl):
 AW prog Γ c (KQ prog Γ N (k.qq prog fn) K) st:=o.WC hnt _ rfl t h
def H7:ck->Bool
 | .n2 _ _ _ _ _ _::_=>true
 |_=>false
theorem Ls{A:ck}(h:H7 A=true):∃π ρ k m L X A1,A=.n2 π ρ k m L X::A1:=by
 unfold H7 at h;split at h
 ·exact⟨_,_,_,_,_,_,_,rfl⟩
 ·cases h
variable{ops:Array Oper}
theorem Pre.Ef(o:Pre A p)(hnt:Γ.nt=nt)(h:go prog (k.rf prog fn) nt 2000 (.run (.region 0 ops true)) K st A=some (.ret k.d0,p):=by kernel_rfl)(hA:H7 A=true:=by kernel_rfl):o6 prog Γ ops (KQ prog Γ N (k.qq prog fn) K) st:=Gi (n:=1999) _ hnt My h (Ls hA) o.h rfl
theorem Pre.XZ(o:Pre A p)(hnt:Γ.nt=nt){n:Nat}(hS:N1 (depth K')=DI prog Γ c' (KQ prog Γ N (k.qq prog fn) K') n)(S:St)(e:S=mh)(t:DI prog Γ c' (KQ prog Γ N (k.qq prog fn) K') n mh)
 (h:go prog (k.rf prog fn) nt 2000 (.run (.region 0 ops true)) K st A=some (.cont (depth K') S,p):=by kernel_rfl) (hA:H7 A=true:=by kernel_rfl):o6 prog Γ ops (KQ prog Γ N1 (k.qq prog fn) K) st:=Gi (n:=1999) _ hnt My h (Ls hA) o.h ((congrFun hS _).mpr (by rw[e];exact t))
theorem Pre.Ul(o:Pre A p)(hnt:Γ.nt=nt){n i:Nat}{S:Int->St}(hS:N1 (depth K')=DI prog Γ c' (KQ prog Γ N (k.qq prog fn) K') n)(hi:IntKind.i64.wrap ((i:Int)+1)=((i+1:Nat):Int))(t:DI prog Γ c' (KQ prog Γ N (k.qq prog fn) K') n (S ((i+1:Nat):Int)))
 (h:go prog (k.rf prog fn) nt 2000 (.run (.region 0 ops true)) K st A=some (.cont (depth K') (S (IntKind.i64.wrap ((i:Int)+1))),p):=by kernel_rfl) (hA:H7 A=true:=by kernel_rfl):o6 prog Γ ops (KQ prog Γ N1 (k.qq prog fn) K) st:=o.XZ hnt hS _ (congrArg S hi) t h hA
theorem Pre.WD(o:Pre A p)(hnt:Γ.nt=nt){n:Nat}(S:St)(e:S=mh)(t:DI prog Γ c' (KQ prog Γ N (k.qq prog fn) K') n mh)(h:go prog (k.rf prog fn) nt 2000 (.run (.region 0 ops true)) K st A=some (.lp c' K' S,p):=by kernel_rfl)(hA:H7 A=true:=by kernel_rfl):
 o6 prog Γ ops (KQ prog Γ N (k.qq prog fn) K) st:=Gi (n:=1999) _ hnt My h (Ls hA) o.h (Od e (Hp t))
theorem Pre.WA(o:Pre A p)(hnt:Γ.nt=nt){n:Nat}(t:DI prog Γ c' (KQ prog Γ N (k.qq prog fn) K') n mh)(h:go prog (k.rf prog fn) nt 2000 (.run (.region 0 ops true)) K st A=some (.lp c' K' mh,p):=by kernel_rfl)(hA:H7 A=true:=by kernel_rfl):
 o6 prog Γ ops (KQ prog Γ N (k.qq prog fn) K) st:=o.WD hnt _ rfl t h hA
end
abbrev lc(f:Func)(p:List Nat):Code:=(Ol (vz f) p []).1
abbrev Ry(f:Func)(p:List Nat):List Fr:=(Ol (vz f) p []).2
abbrev Ax(Γ:oK)(N:Nat->St->Prop)(f:Func)(k:Kd)(p:List Nat)(s:St):Prop:=AW prog Γ (lc f p) (KQ prog Γ N (k.qq prog f) (Ry f p)) s
abbrev Ar(Γ:oK)(N:Nat->St->Prop)(f:Func)(k:Kd)(p:List Nat)(n:Nat)(s:St):Prop:=DI prog Γ (lc f (p++[0])) (KQ prog Γ N (k.qq prog f) (Ry f p)) n s
theorem gd{f:FuncId}{fn:Func}{ds:aG}{d:D}(hf:prog.funcs[f]?=some fn)(nz:List (List (Option (Nat×Nat))))(nt:Nat)(h:(∀d∈ds,n9 d)->∀Γ:oK,Γ.nt=nt->AW prog Γ (vz fn) (KQ prog Γ (fun _ _=>False) ((Kd.q nz d).qq prog fn) []) ⟨rj 0 ds,[]⟩)
 (hb:fn.body=some (vz fn):=by kernel_rfl) (hn:(fn.name== "runtime.NumGoroutine")=false:=by kernel_rfl) (hl:Nat.ble ds.length fn.ntmps=true:=by kernel_rfl) (ht:fn.ntmps=nt:=by kernel_rfl):Good prog f ds d:=
 Good.of hf hb hn (kL hl) fun hr Γ hΓ=>h hr Γ (hΓ.trans ht)
theorem Xh{f:FuncId}{fn:Func}{ds cells:aG}(hf:prog.funcs[f]?=some fn)(nt:Nat)(h:(∀d∈ds,n9 d)->∀Γ:oK,Γ.nt=nt->AW prog Γ (vz fn) (KQ prog Γ (fun _ _=>False) ((Kd.n cells).qq prog fn) []) ⟨rj 0 ds,[]⟩)
 (hb:fn.body=some (vz fn):=by kernel_rfl) (hn:(fn.name== "runtime.NumGoroutine")=false:=by kernel_rfl) (hl:Nat.ble ds.length fn.ntmps=true:=by kernel_rfl) (ht:fn.ntmps=nt:=by kernel_rfl):z8 prog f ds cells:=
 z8.of hf hb hn (kL hl) fun hr Γ hΓ=>h hr Γ (hΓ.trans ht)
theorem CH{f:FuncId}{fn:Func}{cells cells' ds:aG}{d:D}(hf:prog.funcs[f]?=some fn)(nz:List (List (Option (Nat×Nat))))(nt:Nat)(qg Ew:aG)(obs:ax)
 (h:(∀x∈(D.agg cells::ds).map D.N0,n9 x)->∀(v0:Value) (Γ:oK),Γ.nt=nt->AW prog Γ (vz fn) (KQ prog Γ (fun _ _=>False) ((Kd.p nz v0 cells' d).qq prog fn) []) ⟨rj 0 (.ptr 0 0::Ew),.AU qg v0::obs⟩)
 (hI:tR 1 (.agg cells::ds)=(.agg qg::Ew,obs):=by kernel_rfl) (hb:fn.body=some (vz fn):=by kernel_rfl) (hn:(fn.name== "runtime.NumGoroutine")=false:=by kernel_rfl) (hl:Nat.ble (Ew.length+1) fn.ntmps=true:=by kernel_rfl) (ht:fn.ntmps=nt:=by kernel_rfl):iR prog f cells cells' ds d:=
 iR.of hf hb hn hI (kL hl) fun hr v0 Γ hΓ _=>h hr v0 Γ (hΓ.trans ht)
end Go.Cx
namespace Go.Cx
open Go.RowKit Go.Proofs Tryz
abbrev aU:=List aJ
abbrev ah:=List aj
abbrev bN:=List aT
abbrev bz:=List bA
abbrev fA:=List bE
abbrev iD:=List Action
theorem mo{α:Type}[DecidableEq α][BEq α][LawfulBEq α](a b:α):(a==b)=decide (a=b):=by rw[bP];simp
def v8{α:Type}(w:α->Nat)(l:List α):Nat:=l.length+(l.map w).sum
def tw(s:Bytes):Nat:=s.length
theorem mP{α:Type}(w:α->Nat)(x:α)(l:List α):v8 w (x::l)=1+w x+v8 w l:=by simp[v8];omega
theorem Hh{α:Type}(w:α->Nat)(a b:List α):v8 w (a++b)=v8 w a+v8 w b:=by
 induction a with
 |nil=>simp[v8]
 |cons x a ih=>rw[lN,mP,mP,ih];omega
theorem Es{α:Type}(w:α->Nat)(l:List α):l.length<=v8 w l:=by unfold v8;omega
theorem AH{α:Type}{w:α->Nat}{l:List α}{x:α}(h:x∈l):w x+1<=v8 w l:=by
 induction l with
 |nil=>cases h
 |cons y l ih=>
  rw[mP];rcases au.1 h with rfl|h
  ·omega
  ·have:=ih h;omega
theorem Uo{α:Type}[DecidableEq α]{f:α->α->Option Bool}{a b:List α}{c:α->aG}(L:Option Bool->List α->Nat->Option Bool)(oF:∀k i,L k [] i=k)
 (oa:∀k x xs i,L k (x::xs) i=(lG b (i:Int)).bind fun y=>(f x y).bind fun r=>bif !r then some false else L k xs (i+1)) (hf:∀x y,f x y=some (decide (x=y))):
 (bif (((a.map c).length:Int) != ((b.map c).length:Int))then some false else L (some true) a 0)=some (decide (a=b)):=by
 by_cases hl:a.length=b.length
 ·have e:(((a.map c).length:Int) != ((b.map c).length:Int))=false:=by simp[hl]
  rw[e];have key:∀(ra rb pa pb:List α),a=pa++ra->b=pb++rb->pa.length=pb.length->L (some true) ra pa.length=some (decide (ra=rb)):=by
   intro ra
   induction ra with
   |nil=>
    intro rb pa pb h1 h2 h3;rw[oF];have:rb=[]:=by
     have:=congrArg List.length h1;have:=congrArg List.length h2;simp at*;apply cF;omega
    subst this;simp
   |cons x xs ih=>
    intro rb pa pb h1 h2 h3;cases rb with
    |nil=>
     exfalso;have:=congrArg List.length h1;have:=congrArg List.length h2;simp at*;omega
    |cons y ys=>
     rw[oa];have e1:lG b (pa.length:Int)=some y:=by
      unfold lG;have:b[pa.length]?=some y:=by rw[h2,h3];simp
      simp[this]
     rw[e1,aA,hf,aA];have:=ih ys (pa++[x]) (pb++[y]) (by rw[h1];simp) (by rw[h2];simp) (by simp[h3]);by_cases hxy:x=y
     ·subst hxy;simp only[decide_true,bX,aP];simp only[af,aO,bH]at this;rw[this];simp
     ·simp[hxy]
  have:=key a b [] [] rfl rfl rfl;simpa using this
 ·have e:(((a.map c).length:Int) != ((b.map c).length:Int))=true:=by simp;omega
  rw[e];have:a≠b:=fun h=>hl (by rw[h])
  simp[this]
end Go.Cx
namespace Go.Cx
end Go.Cx
namespace Go.Cx
end Go.Cx
namespace Go.Cx
end Go.Cx
namespace Go.Cx
end Go.Cx
namespace Go.Cx
open Go.RowKit Go.Proofs Tryz
def aJ.wt(x:aJ):Nat:=tw x.rel+v8 tw x.args
def aT.wt(x:aT):Nat:=tw x.pat.rel+v8 tw x.pat.args+tw x.left+tw x.right
def Action.wt(x:Action):Nat:=tw x.pat.rel+v8 tw x.pat.args
def aZ.wt(x:aZ):Nat:=tw x.name+v8 aT.wt x.conds+v8 Action.wt x.cJ
end Go.Cx
namespace Go.Cx
open Go.RowKit Go.Proofs Go.Shelf Tryz
theorem Rd.nZ{w:World}{v:Value}{s:Bytes}{bs:aI}(h:Rd w v (.str s) bs):∃y:ByteArray,v=.string y/\y.data.toList=s/\y.size<=maxLen/\bs=[]:=by
 cases h with
 |str y hy=>exact⟨y,rfl,rfl,hy,rfl⟩
theorem iT.strs{w:World}{xs:aD}:∀ {cs:b9} {bs:aI},iT w cs (xs.map D.str) bs->∃ys:List ByteArray,cs=ys.map Value.string/\ys.map (·.data.toList)=xs:=by
 induction xs with
 |nil=>intro cs bs h;cases h;exact⟨[],rfl,rfl⟩
 |cons x xs ih=>
  intro cs bs h;cases h with
  |cons v vs d ds b1 b2 h1 h2 h3=>
   obtain⟨y,e1,e2,_,_⟩:=h2.nZ;obtain⟨ys,e3,e4⟩:=ih h3;exact⟨y::ys,by simp[e1,e3],by simp[e2,e4]⟩
theorem EB(xs:aD):(xs.map tx).flatten=xs.map D.str:=by
 induction xs with
 |nil=>rfl
 |cons x xs ih=>simp[tx,ih]
theorem Calls.txt{P:Program}{f:FuncId}{args:Array Value}{w:World}{r:ByteArray}{Θ:Nat->Nat}(hr:r.size<=maxLen)
 (h:Calls P f args w fun e w'=>e=.returned (.string r)/\Below w.heap.size w w'):
 Calls P f args w (fun e w'=>∃v bs' ts us,e=.returned v/\Below w.heap.size w w'/\tH w' v (.str r.data.toList) bs' ts us/\(∀b∈bs',b<w.heap.size->Θ b=0)/\(∀b∈bs',b∉ts)/\us.Nodup/\
  (∀b∈us,w.heap.size<=b/\Wr w' b)/\∀b∈ts,b∈us):=
 h.mono fun e w' ⟨h1,h2⟩=>⟨_,[],[],[],h1,h2,.v (.cell (.pure (.str r hr))),by simp,by simp,by simp,by simp,by simp⟩
end Go.Cx
namespace Go.Cx
open Go.RowKit Go.Proofs Go.Shelf Go.Sort Tryz
theorem iT.OR{w:World}{xs:aD}:∀ {cs:b9} {bs:aI},iT w cs (xs.map D.str) bs->∀x∈xs,x.length<=maxLen:=by
 induction xs with
 |nil=>intro cs bs h x hx;cases hx
 |cons x xs ih=>
  intro cs bs h y hy;cases h with
  |cons v vs d ds b1 b2 h1 h2 h3=>
   obtain⟨s,_,e2,e3,_⟩:=h2.nZ;rcases au.1 hy with rfl|hy
   ·rw[<-e2];exact e3
   ·exact ih h3 y hy
theorem iT.IV{w:World}:∀ {xs:aD},(∀x∈xs,x.length<=maxLen)->iT w (xs.map encStr) (xs.map D.str) []
 | [],_=>.nil
 |x::xs,h=>by
  have h1:Rd w (.string ⟨x.toArray⟩) (.str x) []:=by
   have:=Rd.str (w:=w) ⟨x.toArray⟩ (by have:=h x (by simp);simpa[ByteArray.size]using this);simpa using this
  exact .cons _ _ _ _ [] [] rfl h1 (iT.IV fun y hy=>h y (by simp[hy]))
theorem FQ(xs:aD):(xs.map tx).flatten.all D.flat=true:=by
 rw[EB];simp[D.flat]
def jX(xs:aD):aD:=xs.mergeSort fun x y=>decide (x<=y)
theorem sP(xs:aD):(jX xs).Perm xs:=List.mergeSort_perm _ _
theorem CT{P:Program}{ρ:Ren}(L:Lays.n192 P ρ){e:TypeId}{xs:aD}(hn:xs.length<4611686018427387904):F1 P (ρ.f 192) e 1 (xs.map tx) ((jX xs).map tx):=by
 refine⟨⟨_,L.f192,rfl,rfl⟩,?_⟩;intro w v cs hsz hrl hown hrd;rw[EB]at hrd;have hle:=hrd.OR;obtain⟨ys,rfl,hys⟩:=hrd.strs;have hlen:(jX xs).length=xs.length:=(sP xs).length_eq;have Bj:∀r∈(jX xs).map tx,r.length=1:=by
  intro r hr;obtain⟨x,_,rfl⟩:=cG.1 hr;rfl
 rcases hown.2 with⟨rfl,h0⟩|⟨g,cap,cur,rfl,hb,EH,hnc,hcm,hcs,Fa⟩
 ·have hx:xs=[]:=by simpa using h0
  subst hx;refine(Any.sort_Strings_none L none 0 w).mono ?_;rintro e' w' ⟨rfl,rfl⟩;exact⟨rfl,rfl,rfl,rfl,bM _,fun _ _ _=>rfl,Bj,[],⟨by simp[hlen],.inl ⟨rfl,by simp[hlen]⟩⟩,by simpa[jX]using iT.nil⟩
 ·rw[az]at hnc Fa⊢;rw[Nat.mul_one]at Fa hcs;have ZA:ys.length=xs.length:=by rw[<-hys];simp
  have CL:∀j,j<xs.length->cur[j]?=some (encStr xs.toArray[j]!):=by
   intro j hj;have h1:(cur.toList.take xs.length)[j]?=cur[j]?:=by rw[o5 hj];simp
   rw[<-h1,Fa,bS];have hj':j<ys.length:=by omega
   rw[aR hj'];have:xs[j]?=some ys[j].data.toList:=by rw[<-hys,bS,aR hj'];rfl
   have hx:xs.toArray[j]! =ys[j].data.toList:=by
    rw[getElem!_pos _ _ (by simpa using hj)];rw[aR hj]at this;simpa using this
   rw[hx];simp[encStr]
  have hH:Holds encStr w g 0 xs.toArray:=by
   intro j hj;have hj:j<xs.length:=by simpa using hj
   refine⟨?_,?_⟩
   ·rw[<-CL j hj];simp[World.cell?,EH]
   ·simp[World.frozen?,EH]
  have hblk:g<w.heap.size:=(aX.1 EH).1;refine(Any.sort_Strings L g 0 cap xs w hH hblk hn).mono ?_;rintro e' w' ⟨rfl,n,os,rfl⟩;have hheap:(grow (putRow encStr (Sort.ahead w n) g 0 (jX xs).toArray) os).heap=(w.heap.modify g (onCells (putCells encStr 0 (jX xs).toArray)))++os:=rfl;have CJ:∀b,b<w.heap.size->b≠g->(grow (putRow encStr (Sort.ahead w n) g 0 (jX xs).toArray) os).heap[b]?=w.heap[b]?:=by
   intro b hb hne;rw[hheap,eB (by simpa using hb),pM,ai (fun e=>hne e.symm)]
  have hrow:(grow (putRow encStr (Sort.ahead w n) g 0 (jX xs).toArray) os).heap[g]?=some (.cells (putCells encStr 0 (jX xs).toArray cur) e (0,0)):=by
   rw[hheap,eB (by simpa using hblk),pM,av rfl,EH];rfl
  refine⟨rfl,rfl,rfl,rfl,by show w.heap.size<=(grow (putRow encStr (Sort.ahead w n) g 0 (jX xs).toArray) os).heap.size;rw[hheap];simp,fun b hb hne=>CJ b hb fun e=>hne (by rw[e];rfl),Bj,(jX xs).map encStr,⟨by simp,.inr ⟨g,cap,_,by simp[hlen],hb,hrow,by simpa[hlen]using hnc,hcm,by simp[putCells,hcs],?_⟩⟩,?_⟩
  ·apply kX;intro j;simp only[az,Nat.mul_one];by_cases hj:j<(jX xs).length
   ·have hj2:j<cur.size:=by omega
    rw[o5 hj,bS,aR hj];simp[putCells,hj2,hj]
   ·rw[bZ (by simp;omega),bZ (by simp;omega)]
  ·rw[EB];exact iT.IV fun x hx=>hle x ((sP xs).mem_iff.1 hx)
end Go.Cx
namespace Go.Cx
open Go.RowKit Go.Proofs Go.Shelf Go.Lib Tryz
theorem LW(n:Int)(h:nk .i64 n):(itoa n).length<=20:=by
 have h1: -9223372036854775808<=n:=h.1;have h2:n<=9223372036854775807:=h.2;have key:∀u:Nat,u<=9223372036854775808->nDigits u<=19:=by
  intro u hu;by_cases h0:u=0
  ·subst h0;rw[nDigits_small (by omega)];omega
  ·by_cases hk:nDigits u<=19
   ·exact hk
   ·exfalso;have R2:∀(k v:Nat),v<10^k->1<=k->nDigits v<=k:=by
     intro k
     induction k with
     |zero=>intro v _ h;omega
     |succ k ih=>
      intro v hv _;by_cases h10:v<10
      ·rw[nDigits_small h10];omega
      ·rw[nDigits_big h10];have h3:v/10<10^k:=by rw[rB]at hv;omega
       have hk1:1<=k:=by
        cases k with
        |zero=>simp at hv;omega
        |succ k=>omega
       have:=ih (v/10) h3 hk1;omega
    have:=R2 19 u (by omega) (by omega);omega
 unfold itoa;split
 ·rw[aO,decDigits_length];have:=key n.natAbs (by omega);omega
 ·rw[decDigits_length];have:=key n.toNat (by omega);omega
theorem FE(w:World)(k:Nat)(os:Array Obj):Below w.heap.size w (Sort.grow (w.drewN k) os):=
 ⟨rfl,rfl,rfl,by show w.heap.size<=(w.heap++os).size;simp,fun b hb=>by show(w.heap++os)[b]?=_;rw[eB hb]⟩
theorem Fi{P:Program}{ρ:Ren}(L:LaysM.n171 P ρ){g:Nat}(hg:P.globalNamed "internal/strconv.uint64pow10" =some g)(hx:(g,fun cs:b9=>cs=pow10Tab.map fun z=>Value.int .u64 z)∈qV){n:Int}:
 Good P (ρ.f 171) [.int .i64 n] (.str (itoa n)):=by
 refine⟨⟨_,L.f171,rfl,rfl⟩,?_⟩;intro w Θ args bs hv ha _ _ _;obtain _|⟨v1,_,_,_,b1,_,h1,ha⟩:=ha;cases ha;cases h1 with
 |int _ _ hr=>
  have h0: -9223372036854775808<=n:=hr.1;have h1:n<=9223372036854775807:=hr.2;have hl:=LW n hr;have ht:TabIs P w "internal/strconv.uint64pow10" .u64 pow10Tab:=by
   obtain⟨cs,h2,h3⟩:=hv.var hx hg;have h4:cs=(pow10Tab.map fun z=>Value.int .u64 z).toArray:=by rw[<-h3]
   rw[h4]at h2;exact h2
  have:=Calls.txt (Θ:=Θ) (r:=⟨(itoa n).toArray⟩) (by show(itoa n).toArray.size<=maxLen;rw[oq];unfold maxLen;omega)
   ((Any.strconv_Itoa L n h0 h1 w ht).mono fun e w' ⟨k1,k,os,k2⟩=>⟨k1,by subst k2;exact FE w k os⟩)
  simpa using this
end Go.Cx
namespace Go.Cx
open Go.RowKit Go.Proofs Go.Shelf Go.Lib Tryz
theorem FD(w:World)(t5:TypeId)(t:ByteArray):Below w.heap.size w (Lib.bytesWorld w t5 t):=Lib.bytesWorld_below _ _ _
def EQ(s:Bytes):Option (Int×Bool):=if s.length<=18 then(match Lib.atoi s with|some n=>some (n,false)|none=>some (0,true))else none
theorem Fh{P:Program}{ρ:Ren}(L:LaysC.n172 P ρ){g:Nat}(hg:P.globalNamed "strconv.ErrSyntax" =some g)(hx:(g,fun cs:b9=>∃tp p,cs=[Value.iface tp p])∈qV){s:Bytes}{r:Int×Bool}(h:EQ s=some r):
 Good P (ρ.f 172) [.str s] (.gj [.int .i64 r.1,.P7 r.2]):=by
 refine⟨⟨_,L.f172,rfl,rfl⟩,?_⟩;intro w Θ args bs hv ha _ _ _;obtain _|⟨v1,_,_,_,b1,_,h1,ha⟩:=ha;cases ha;obtain⟨y,rfl,rfl,_,_⟩:=h1.nZ;unfold EQ at h;split at h
 ·rename_i hl;have hl':y.size<=18:=by simpa using hl
  split at h
  ·rename_i n hn;cases h;have hb:=Lib.atoi_bound hn hl;refine(Any.strconv_Atoi L.toM.ton172 y n hl' hn w).mono ?_;rintro e w' ⟨rfl,t,rfl⟩;exact⟨_,[],[],[],rfl,FD _ _ _,.gj [.int .i64 n,.nilIface] [.int .i64 n,.P7 false] [] [] [] (.cons _ _ _ _ [] [] [] [] [] [] (.cell (.pure (.int _ _ (nk.i64.2 (by omega))))) (.cons _ _ _ _ [] [] [] [] [] [] (.cell (.pure .JF)) .nil)),by simp,by simp,by simp,by simp,by simp⟩
  ·rename_i hn;cases h;obtain⟨cs,h2,tp,p,h3⟩:=hv.var hx hg;have h4:cs= #[.iface tp p]:=by rw[<-lM,h3]
   rw[h4]at h2;refine(Any.strconv_Atoi_err_var L y hl' hn tp p w h2).mono ?_;rintro e w' ⟨N,rfl,_,_,IE⟩;exact⟨_,[],[],[],rfl,IE,.gj [.int .i64 0,.iface _ _] [.int .i64 0,.P7 true] [] [] [] (.cons _ _ _ _ [] [] [] [] [] [] (.cell (.pure (.int _ _ (nk.zero _)))) (.cons _ _ _ _ [] [] [] [] [] [] (.cell (.pure (.JG _ _))) .nil)),by simp,by simp,by simp,by simp,by simp⟩
 ·cases h
theorem I2:∀(a b:Bytes), -1<=Lib.compareBytes a b/\Lib.compareBytes a b<=1
 | [],[]=>by simp[Lib.compareBytes]
 | [],_::_=>by simp[Lib.compareBytes]
 |_::_,[]=>by simp[Lib.compareBytes]
 |a::xs,b::ys=>by
  simp only[Lib.compareBytes];split
  ·omega
  ·split
   ·omega
   ·exact I2 xs ys
theorem CS{P:Program}{ρ:Ren}(L:Lays.n106 P ρ){a b:Bytes}:Good P (ρ.f 106) [.str a,.str b] (.int .i64 (Lib.compareBytes a b)):=by
 refine⟨⟨_,L.f106,rfl,rfl⟩,?_⟩;intro w Θ args bs hv ha _ _ _;obtain _|⟨v1,_,_,_,b1,_,h1,ha⟩:=ha;obtain _|⟨v2,_,_,_,b2,_,h2,ha⟩:=ha;cases ha;obtain⟨y,rfl,rfl,_,_⟩:=h1.nZ;obtain⟨z,rfl,rfl,_,_⟩:=h2.nZ;have hc:=I2 y.data.toList z.data.toList;refine(Any.strings_Compare L y z w).mono ?_;rintro e w' ⟨rfl,rfl⟩;exact⟨_,[],[],[],rfl,Below.refl _ _,.v (.cell (.pure (.int _ _ (nk.i64.2 (by omega))))),by simp,by simp,by simp,by simp,by simp⟩
end Go.Cx
namespace Go.Cx
open Go.RowKit Go.Proofs Go.Shelf Tryz
def Fk:Ren:=⟨fun|192=>76|190=>106|125=>132|258=>131|128=>155|129=>156|302=>146|303=>147|304=>148|305=>149|306=>150|307=>151|308=>152|309=>153|310=>154|333=>162|329=>163|330=>164|334=>165|335=>166|336=>167|344=>175|n=>n,fun|31=>37|0=>0|9=>9|3=>3|46=>131|51=>173|53=>175|4=>4|183=>166|182=>165|131=>133|5=>5|218=>179|222=>183|228=>193|229=>194|n=>n,fun|n=>n⟩
theorem Ny:Lays.n192 prog Fk:= {
 mixed:=by kernel_rfl,
 f125:=func132.trans (congrArg some (by kernel_rfl)),
 f128:=func155.trans (congrArg some (by kernel_rfl)),
 f129:=func156.trans (congrArg some (by kernel_rfl)),
 f190:=func106.trans (congrArg some (by kernel_rfl)),
 f192:=func76.trans (congrArg some (by kernel_rfl)),
 f258:=func131.trans (congrArg some (by kernel_rfl)),
 f302:=func146.trans (congrArg some (by kernel_rfl)),
 f303:=func147.trans (congrArg some (by kernel_rfl)),
 f304:=func148.trans (congrArg some (by kernel_rfl)),
 f305:=func149.trans (congrArg some (by kernel_rfl)),
 f306:=func150.trans (congrArg some (by kernel_rfl)),
 f307:=func151.trans (congrArg some (by kernel_rfl)),
 f308:=func152.trans (congrArg some (by kernel_rfl)),
 f309:=func153.trans (congrArg some (by kernel_rfl)),
 f310:=func154.trans (congrArg some (by kernel_rfl)),
 f329:=func163.trans (congrArg some (by kernel_rfl)),
 f330:=func164.trans (congrArg some (by kernel_rfl)),
 f333:=func162.trans (congrArg some (by kernel_rfl)),
 f334:=func165.trans (congrArg some (by kernel_rfl)),
 f335:=func166.trans (congrArg some (by kernel_rfl)),
 f336:=func167.trans (congrArg some (by kernel_rfl)),
 f344:=func175.trans (congrArg some (by kernel_rfl)),
 t0:=underlying0,
 a0:=Tryz.isAgg0,
 z0:=Tryz.sizeOf0,
 v0:=Tryz.zeroValue0,
 t3:=underlying3,
 a3:=Tryz.isAgg3,
 z3:=Tryz.sizeOf3,
 v3:=Tryz.zeroValue3,
 t4:=underlying4,
 a4:=Tryz.isAgg4,
 z4:=Tryz.sizeOf4,
 v4:=Tryz.zeroValue4,
 t5:=underlying5,
 a5:=Tryz.isAgg5,
 z5:=Tryz.sizeOf5,
 v5:=Tryz.zeroValue5,
 t9:=underlying9,
 a9:=Tryz.isAgg9,
 z9:=Tryz.sizeOf9,
 v9:=Tryz.zeroValue9,
 t31:=underlying37,
 a31:=Tryz.isAgg37,
 z31:=Tryz.sizeOf37,
 v31:=Tryz.zeroValue37,
 t46:=underlying131,
 a46:=Tryz.isAgg131,
 z46:=Tryz.sizeOf131,
 v46:=Tryz.zeroValue131,
 t51:=underlying173,
 a51:=Tryz.isAgg173,
 z51:=Tryz.sizeOf173,
 v51:=Tryz.zeroValue173,
 t53:=underlying175,
 a53:=Tryz.isAgg175,
 z53:=Tryz.sizeOf175,
 v53:=Tryz.zeroValue175,
 t131:=underlying133,
 a131:=Tryz.isAgg133,
 z131:=Tryz.sizeOf133,
 v131:=Tryz.zeroValue133,
 t182:=underlying165,
 a182:=Tryz.isAgg165,
 z182:=Tryz.sizeOf165,
 v182:=Tryz.zeroValue165,
 t183:=underlying166,
 a183:=Tryz.isAgg166,
 z183:=Tryz.sizeOf166,
 v183:=Tryz.zeroValue166,
 t218:=underlying179,
 a218:=Tryz.isAgg179,
 z218:=Tryz.sizeOf179,
 v218:=Tryz.zeroValue179,
 t222:=underlying183,
 a222:=Tryz.isAgg183,
 z222:=Tryz.sizeOf183,
 v222:=Tryz.zeroValue183,
 t228:=underlying193,
 a228:=Tryz.isAgg193,
 z228:=Tryz.sizeOf193,
 v228:=Tryz.zeroValue193,
 t229:=underlying194,
 a229:=Tryz.isAgg194,
 z229:=Tryz.sizeOf194,
 v229:=Tryz.zeroValue194}
theorem xX{e:TypeId}{xs:aD}(hn:xs.length<4611686018427387904):F1 prog 76 e 1 (xs.map tx) ((jX xs).map tx):=CT Ny hn
def BQ:Ren:=⟨fun|171=>159|243=>169|246=>176|283=>180|284=>181|285=>182|286=>183|129=>156|317=>186|318=>187|319=>188|320=>189|337=>190|338=>191|n=>n,fun|3=>3|9=>9|2=>2|4=>4|171=>203|0=>0|53=>175|37=>22|5=>5|173=>205|212=>214|51=>173|20=>20|213=>215|46=>131|232=>217|233=>218|n=>n,fun|17=>3|18=>4|19=>5|n=>n⟩
theorem Nw:Lays.n171 prog BQ:= {
 mixed:=by kernel_rfl,
 f129:=func156.trans (congrArg some (by kernel_rfl)),
 f171:=func159.trans (congrArg some (by kernel_rfl)),
 f243:=func169.trans (congrArg some (by kernel_rfl)),
 f246:=func176.trans (congrArg some (by kernel_rfl)),
 f283:=func180.trans (congrArg some (by kernel_rfl)),
 f284:=func181.trans (congrArg some (by kernel_rfl)),
 f285:=func182.trans (congrArg some (by kernel_rfl)),
 f286:=func183.trans (congrArg some (by kernel_rfl)),
 f317:=func186.trans (congrArg some (by kernel_rfl)),
 f318:=func187.trans (congrArg some (by kernel_rfl)),
 f319:=func188.trans (congrArg some (by kernel_rfl)),
 f320:=func189.trans (congrArg some (by kernel_rfl)),
 f337:=func190.trans (congrArg some (by kernel_rfl)),
 f338:=func191.trans (congrArg some (by kernel_rfl)),
 t0:=underlying0,
 a0:=Tryz.isAgg0,
 z0:=Tryz.sizeOf0,
 v0:=Tryz.zeroValue0,
 t2:=underlying2,
 a2:=Tryz.isAgg2,
 z2:=Tryz.sizeOf2,
 v2:=Tryz.zeroValue2,
 t3:=underlying3,
 a3:=Tryz.isAgg3,
 z3:=Tryz.sizeOf3,
 v3:=Tryz.zeroValue3,
 t4:=underlying4,
 a4:=Tryz.isAgg4,
 z4:=Tryz.sizeOf4,
 v4:=Tryz.zeroValue4,
 t5:=underlying5,
 a5:=Tryz.isAgg5,
 z5:=Tryz.sizeOf5,
 v5:=Tryz.zeroValue5,
 t9:=underlying9,
 a9:=Tryz.isAgg9,
 z9:=Tryz.sizeOf9,
 v9:=Tryz.zeroValue9,
 t20:=underlying20,
 a20:=Tryz.isAgg20,
 z20:=Tryz.sizeOf20,
 v20:=Tryz.zeroValue20,
 t37:=underlying22,
 a37:=Tryz.isAgg22,
 z37:=Tryz.sizeOf22,
 v37:=Tryz.zeroValue22,
 t46:=underlying131,
 a46:=Tryz.isAgg131,
 z46:=Tryz.sizeOf131,
 v46:=Tryz.zeroValue131,
 t51:=underlying173,
 a51:=Tryz.isAgg173,
 z51:=Tryz.sizeOf173,
 v51:=Tryz.zeroValue173,
 t53:=underlying175,
 a53:=Tryz.isAgg175,
 z53:=Tryz.sizeOf175,
 v53:=Tryz.zeroValue175,
 t171:=underlying203,
 a171:=Tryz.isAgg203,
 z171:=Tryz.sizeOf203,
 v171:=Tryz.zeroValue203,
 t173:=underlying205,
 a173:=Tryz.isAgg205,
 z173:=Tryz.sizeOf205,
 v173:=Tryz.zeroValue205,
 t212:=underlying214,
 a212:=Tryz.isAgg214,
 z212:=Tryz.sizeOf214,
 v212:=Tryz.zeroValue214,
 t213:=underlying215,
 a213:=Tryz.isAgg215,
 z213:=Tryz.sizeOf215,
 t232:=underlying217,
 a232:=Tryz.isAgg217,
 z232:=Tryz.sizeOf217,
 v232:=Tryz.zeroValue217,
 t233:=underlying218,
 a233:=Tryz.isAgg218,
 z233:=Tryz.sizeOf218,
 v233:=Tryz.zeroValue218,
 g17:=by kernel_rfl,
 g18:=by kernel_rfl,
 g19:=by kernel_rfl}
theorem Le:LaysM.n171 prog BQ:= {Nw with
 i0:=by kernel_rfl,
 i2:=by kernel_rfl,
 i3:=by kernel_rfl,
 i4:=by kernel_rfl,
 i5:=by kernel_rfl,
 i9:=by kernel_rfl,
 i20:=by kernel_rfl,
 i37:=by kernel_rfl,
 i46:=by kernel_rfl,
 i51:=by kernel_rfl,
 i53:=by kernel_rfl,
 i171:=by kernel_rfl,
 i173:=by kernel_rfl,
 i212:=by kernel_rfl,
 i232:=by kernel_rfl,
 i233:=by kernel_rfl,
 m17:=by kernel_rfl,
 m18:=by kernel_rfl,
 m19:=by kernel_rfl}
def sK(aF:Int):Option Bytes:=(fun n:Int=>some (Lib.itoa n)) aF
theorem xu{aF:Int}{r:Bytes}(h:sK aF=some r):Good prog 159 [.int .i64 aF] (.str r):=by cases h;exact Fi Le (g:=3) (by kernel_rfl) (aE (i:=0) (by kernel_rfl))
def wj:Ren:=⟨fun|172=>143|244=>160|245=>161|247=>170|279=>171|280=>172|281=>173|282=>174|287=>177|316=>178|171=>159|205=>179|321=>184|322=>185|243=>169|246=>176|283=>180|284=>181|285=>182|286=>183|129=>156|317=>186|318=>187|319=>188|320=>189|337=>190|338=>191|n=>n,fun|9=>9|3=>3|75=>159|76=>160|4=>4|5=>5|167=>187|37=>22|0=>0|85=>188|2=>2|168=>190|53=>175|175=>197|46=>131|210=>201|127=>208|145=>211|143=>209|21=>21|171=>203|173=>205|212=>214|51=>173|20=>20|213=>215|232=>217|233=>218|80=>219|n=>n,fun|15=>1|16=>2|17=>3|18=>4|19=>5|n=>n⟩
theorem Nx:Lays.n172 prog wj:= {
 mixed:=by kernel_rfl,
 f129:=func156.trans (congrArg some (by kernel_rfl)),
 f171:=func159.trans (congrArg some (by kernel_rfl)),
 f172:=func143.trans (congrArg some (by kernel_rfl)),
 f205:=func179.trans (congrArg some (by kernel_rfl)),
 f243:=func169.trans (congrArg some (by kernel_rfl)),
 f244:=func160.trans (congrArg some (by kernel_rfl)),
 f245:=func161.trans (congrArg some (by kernel_rfl)),
 f246:=func176.trans (congrArg some (by kernel_rfl)),
 f247:=func170.trans (congrArg some (by kernel_rfl)),
 f279:=func171.trans (congrArg some (by kernel_rfl)),
 f280:=func172.trans (congrArg some (by kernel_rfl)),
 f281:=func173.trans (congrArg some (by kernel_rfl)),
 f282:=func174.trans (congrArg some (by kernel_rfl)),
 f283:=func180.trans (congrArg some (by kernel_rfl)),
 f284:=func181.trans (congrArg some (by kernel_rfl)),
 f285:=func182.trans (congrArg some (by kernel_rfl)),
 f286:=func183.trans (congrArg some (by kernel_rfl)),
 f287:=func177.trans (congrArg some (by kernel_rfl)),
 f316:=func178.trans (congrArg some (by kernel_rfl)),
 f317:=func186.trans (congrArg some (by kernel_rfl)),
 f318:=func187.trans (congrArg some (by kernel_rfl)),
 f319:=func188.trans (congrArg some (by kernel_rfl)),
 f320:=func189.trans (congrArg some (by kernel_rfl)),
 f321:=func184.trans (congrArg some (by kernel_rfl)),
 f322:=func185.trans (congrArg some (by kernel_rfl)),
 f337:=func190.trans (congrArg some (by kernel_rfl)),
 f338:=func191.trans (congrArg some (by kernel_rfl)),
 t0:=underlying0,
 a0:=Tryz.isAgg0,
 z0:=Tryz.sizeOf0,
 v0:=Tryz.zeroValue0,
 t2:=underlying2,
 a2:=Tryz.isAgg2,
 z2:=Tryz.sizeOf2,
 v2:=Tryz.zeroValue2,
 t3:=underlying3,
 a3:=Tryz.isAgg3,
 z3:=Tryz.sizeOf3,
 v3:=Tryz.zeroValue3,
 t4:=underlying4,
 a4:=Tryz.isAgg4,
 z4:=Tryz.sizeOf4,
 v4:=Tryz.zeroValue4,
 t5:=underlying5,
 a5:=Tryz.isAgg5,
 z5:=Tryz.sizeOf5,
 v5:=Tryz.zeroValue5,
 t9:=underlying9,
 a9:=Tryz.isAgg9,
 z9:=Tryz.sizeOf9,
 v9:=Tryz.zeroValue9,
 t20:=underlying20,
 a20:=Tryz.isAgg20,
 z20:=Tryz.sizeOf20,
 v20:=Tryz.zeroValue20,
 t21:=underlying21,
 a21:=Tryz.isAgg21,
 z21:=Tryz.sizeOf21,
 v21:=Tryz.zeroValue21,
 t37:=underlying22,
 a37:=Tryz.isAgg22,
 z37:=Tryz.sizeOf22,
 v37:=Tryz.zeroValue22,
 t46:=underlying131,
 a46:=Tryz.isAgg131,
 z46:=Tryz.sizeOf131,
 v46:=Tryz.zeroValue131,
 t51:=underlying173,
 a51:=Tryz.isAgg173,
 z51:=Tryz.sizeOf173,
 v51:=Tryz.zeroValue173,
 t53:=underlying175,
 a53:=Tryz.isAgg175,
 z53:=Tryz.sizeOf175,
 v53:=Tryz.zeroValue175,
 t75:=underlying159,
 a75:=Tryz.isAgg159,
 z75:=Tryz.sizeOf159,
 v75:=Tryz.zeroValue159,
 t76:=underlying160,
 a76:=Tryz.isAgg160,
 z76:=Tryz.sizeOf160,
 v76:=Tryz.zeroValue160,
 t85:=underlying188,
 a85:=Tryz.isAgg188,
 z85:=Tryz.sizeOf188,
 v85:=Tryz.zeroValue188,
 t127:=underlying208,
 a127:=Tryz.isAgg208,
 z127:=Tryz.sizeOf208,
 v127:=Tryz.zeroValue208,
 t143:=underlying209,
 a143:=Tryz.isAgg209,
 z143:=Tryz.sizeOf209,
 v143:=Tryz.zeroValue209,
 t145:=underlying211,
 a145:=Tryz.isAgg211,
 z145:=Tryz.sizeOf211,
 v145:=Tryz.zeroValue211,
 t167:=underlying187,
 a167:=Tryz.isAgg187,
 z167:=Tryz.sizeOf187,
 v167:=Tryz.zeroValue187,
 t168:=underlying190,
 a168:=Tryz.isAgg190,
 z168:=Tryz.sizeOf190,
 v168:=Tryz.zeroValue190,
 t171:=underlying203,
 a171:=Tryz.isAgg203,
 z171:=Tryz.sizeOf203,
 v171:=Tryz.zeroValue203,
 t173:=underlying205,
 a173:=Tryz.isAgg205,
 z173:=Tryz.sizeOf205,
 v173:=Tryz.zeroValue205,
 t175:=underlying197,
 a175:=Tryz.isAgg197,
 z175:=Tryz.sizeOf197,
 v175:=Tryz.zeroValue197,
 t210:=underlying201,
 a210:=Tryz.isAgg201,
 z210:=Tryz.sizeOf201,
 v210:=Tryz.zeroValue201,
 t212:=underlying214,
 a212:=Tryz.isAgg214,
 z212:=Tryz.sizeOf214,
 v212:=Tryz.zeroValue214,
 t213:=underlying215,
 a213:=Tryz.isAgg215,
 z213:=Tryz.sizeOf215,
 t232:=underlying217,
 a232:=Tryz.isAgg217,
 z232:=Tryz.sizeOf217,
 v232:=Tryz.zeroValue217,
 t233:=underlying218,
 a233:=Tryz.isAgg218,
 z233:=Tryz.sizeOf218,
 v233:=Tryz.zeroValue218,
 g15:=by kernel_rfl,
 g16:=by kernel_rfl,
 g17:=by kernel_rfl,
 g18:=by kernel_rfl,
 g19:=by kernel_rfl}
theorem Lf:LaysM.n172 prog wj:= {Nx with
 t80:=underlying219,
 a80:=Tryz.isAgg219,
 z80:=Tryz.sizeOf219,
 v80:=Tryz.zeroValue219,
 i0:=by kernel_rfl,
 i2:=by kernel_rfl,
 i3:=by kernel_rfl,
 i4:=by kernel_rfl,
 i5:=by kernel_rfl,
 i9:=by kernel_rfl,
 i20:=by kernel_rfl,
 i21:=by kernel_rfl,
 i37:=by kernel_rfl,
 i46:=by kernel_rfl,
 i51:=by kernel_rfl,
 i53:=by kernel_rfl,
 i75:=by kernel_rfl,
 i76:=by kernel_rfl,
 i80:=by kernel_rfl,
 i85:=by kernel_rfl,
 i127:=by kernel_rfl,
 i143:=by kernel_rfl,
 i145:=by kernel_rfl,
 i167:=by kernel_rfl,
 i168:=by kernel_rfl,
 i171:=by kernel_rfl,
 i173:=by kernel_rfl,
 i175:=by kernel_rfl,
 i210:=by kernel_rfl,
 i212:=by kernel_rfl,
 i232:=by kernel_rfl,
 i233:=by kernel_rfl,
 m15:=by kernel_rfl,
 m16:=by kernel_rfl,
 m17:=by kernel_rfl,
 m18:=by kernel_rfl,
 m19:=by kernel_rfl}
theorem Lc:LaysC.n172 prog wj:= {Lf with
 c0:=by kernel_rfl,
 c2:=by kernel_rfl,
 c3:=by kernel_rfl,
 c4:=by kernel_rfl,
 c5:=by kernel_rfl,
 c9:=by kernel_rfl,
 c20:=by kernel_rfl,
 c21:=by kernel_rfl,
 c37:=by kernel_rfl,
 c46:=by kernel_rfl,
 c51:=by kernel_rfl,
 c53:=by kernel_rfl,
 c75:=by kernel_rfl,
 c76:=by kernel_rfl,
 c80:=by kernel_rfl,
 c85:=by kernel_rfl,
 c127:=by kernel_rfl,
 c143:=by kernel_rfl,
 c145:=by kernel_rfl,
 c167:=by kernel_rfl,
 c168:=by kernel_rfl,
 c171:=by kernel_rfl,
 c173:=by kernel_rfl,
 c175:=by kernel_rfl,
 c210:=by kernel_rfl,
 c212:=by kernel_rfl,
 c213:=by kernel_rfl,
 c232:=by kernel_rfl,
 c233:=by kernel_rfl}
def sJ(aF:Bytes):Option (Int×Bool):=EQ aF
theorem xq{aF:Bytes}{r:Int×Bool}(h:sJ aF=some r):Good prog 143 [.str aF] (.gj [.int .i64 r.1,.P7 r.2]):=Fh Lc (g:=1) (by kernel_rfl) (aE (i:=1) (by kernel_rfl)) h
def Fj:Ren:=⟨fun|106=>98|213=>123|265=>142|n=>n,fun|9=>9|3=>3|n=>n,fun|n=>n⟩
theorem Nv:Lays.n106 prog Fj:= {
 mixed:=by kernel_rfl,
 f106:=func98.trans (congrArg some (by kernel_rfl)),
 f213:=func123.trans (congrArg some (by kernel_rfl)),
 f265:=func142.trans (congrArg some (by kernel_rfl)),
 t3:=underlying3,
 a3:=Tryz.isAgg3,
 z3:=Tryz.sizeOf3,
 v3:=Tryz.zeroValue3,
 t9:=underlying9,
 a9:=Tryz.isAgg9,
 z9:=Tryz.sizeOf9,
 v9:=Tryz.zeroValue9}
def kx(aF:Bytes)(ay:Bytes):Option Int:=(fun a b:Bytes=>some (Lib.compareBytes a b)) aF ay
theorem mB{aF:Bytes}{ay:Bytes}{r:Int}(h:kx aF ay=some r):Good prog 98 [.str aF,.str ay] (.int .i64 r):=by cases h;exact CS Nv
end Go.Cx

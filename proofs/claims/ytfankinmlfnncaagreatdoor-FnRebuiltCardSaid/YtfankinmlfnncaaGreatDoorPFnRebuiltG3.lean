/- Calls that are handed slices of the caller's own, in values. No condition; plain lemmas. -/
import Derived.Test.YtfankinmlfnncaaGreatDoorPFnRebuiltG2
import Derived.Laws.BytesArg
import Derived.LoopN
import Derived.Test.YtfankinmlfnncaaGreatDoorProg
import Derived.KernelRfl
import Derived.Shelf.Strings.OnBuilder
import Derived.Shelf.Sort.Plain
import Derived.Shelf.Slices.In.SortNone2
import Derived.Shelf.Strconv.Itoa3
import Derived.WalkSmall
import Derived.Shelf.Strconv.Atoi
import Derived.Shelf.Strconv.ErrVar
import Derived.Shelf.Small.Strs
import Derived.Lib.AtoiBound
set_option linter.unusedVariables false
set_option linter.unusedSimpArgs false
namespace Go.Cx
open Go.RowKit
def I3(P:Program)(f:FuncId)(ds:aL)(d:D):Prop:=
 (∃fn,P.funcs[f]?=some fn/\fn.body.isSome=true/\(fn.name== "runtime.NumGoroutine")=false)/\
 ∀(w:World) (Θ:Nat->Nat) (args:bY) (bs ts us:aW),
  Mx w (fun b=>b∈ts)->AZ w args ds bs ts us->
  (∀b∈bs,Θ b=0)->(∀b,Θ b≠0->b<w.heap.size)->(∀b,Θ b<=1)->(∀b∈ts,Θ b=1/\b∈us)->us.Nodup->(∀b∈us,(b∉ts->Θ b=0)/\Wr w b)->
  Calls P f args.toArray w (fun e w'=>∃v b2 t2 u2,e=.returned v/\w'.os=w.os/\w'.tape=w.tape/\w'.output=w.output/\w.heap.size<=w'.heap.size/\
   (∀b,b<w.heap.size->b∉ts->w'.heap[b]?=w.heap[b]?)/\
   zS w' v d b2 t2 u2/\(∀b∈b2,(b<w.heap.size->Θ b=0\/b∈ts)/\b∉t2)/\u2.Nodup/\
   (∀b∈u2,(w.heap.size<=b\/b∈us)/\Wr w' b)/\∀b∈t2,b∈u2/\(w.heap.size<=b\/b∈ts))
section
variable{P:Program}{Γ:uB}{Q:Exit->St->Prop}{st:St}{κ κ':Nat->Option Value}{Θ Θ':Nat->Nat}{a:Act}{w w':World}{all:Array Oper}{rest:List Oper}
theorem a7k.out{fn:Func}{d:D}{e:Exit}{a':Act}{w':World}{Mr:St}{κ0:Nat->Option Value}{Θ0:Nat->Nat}(hs0:dl Γ Mr κ0 Θ0 a' w')(Wn:OJ P fn d e Mr):
 (e=.ret\/e=.normal)/\a'.defers=[]/\Pr Γ w'/\∃v b2 t2 u2,(results fn a'.tmps).run P w'=.ok v w'/\
  zS w' v d b2 t2 u2/\(∀b∈b2,(b<Γ.W0.heap.size->¬Γ.X b->Γ.Θ0 b=0)/\b∉t2)/\u2.Nodup/\
  (∀b∈u2,Sp Γ b/\Wr w' b)/\∀b∈t2,b∈u2/\xX Γ b:=by
 obtain⟨Az,nz,Zi,es,ms,qs,hres,Wo,MB,KK,rfl⟩:=Wn;obtain⟨ρ0,Zs⟩:=hs0.rV;have AT:=vh Wo;obtain⟨Θ1,ρ1,hs1,hu1,hm1,NE,UU⟩:=dl.FM ms hs0 Zs MB (fun m hm=>by
  obtain⟨e,sz,rows,hH⟩:=AT.1 m hm;exact⟨_,e,sz,rows,hH,rfl⟩)
 obtain⟨vs,bs',m1,m2,m3,m4,m5⟩:=Bn hs0 hres;have hq:∀m e sz rows,Mr.H[m]?=some (.row .uq e sz rows)->∃v cs ns,κ0 m=some v/\0<sz/\(∀r∈rows,r.length=sz)/\w'.ownsRow 0 e sz v rows.length cs/\wX w' (tr e) 0 cs rows.flatten ns/\ns.Nodup/\(∀b∈ns,ρ1 b=m+1)/\∀g,v.ownBlock=some g->Θ1 g=m+2:=by
  intro m e sz rows hH;have hnm:m∉ms:=fun hm=>by
   obtain⟨e',sz',dO,Db⟩:=AT.1 m hm;rw[hH]at Db;cases Db
  have Mo:(kill Mr.H ms)[m]?=some (.row .uq e sz rows):=by rw[gH hnm];exact hH
  obtain⟨v,cs,ns,r1,r2,r3,r4,r5⟩:=hu1.rows m e sz rows Mo;obtain⟨p1,p2,v2,_,_,p3,_,_,p4,_⟩:=hs1.ob m _ Mo;rw[r1]at p3;cases p3;exact⟨v,cs,ns,r1,p1,p2,r2,r3,r4,r5,p4⟩
 obtain⟨c,ts,us,Bg,A6⟩:=zL (w:=w') (vs:=vs) (fun b hb=>(hu1.free b hb).1) hq hs0.oN Wo KK (by omega) (fun i d hd=>by
  obtain⟨v,b,k1,k2,k3⟩:=m4 i d hd;exact⟨v,b,k1,k2,fun x hx=>NE x (m5 x (k3 x hx))⟩) hm1
 have KI:∃v,(results fn a'.tmps).run P w'=.ok v w'/\zS w' v (JO es) c ts us:=by
  have hrun:(results fn a'.tmps).run P w'=.ok (if h:vs.toArray.size=1 then vs.toArray[0]else .tuple vs.toArray) w':=by
   rw[results_eq,mU];simp[m1]
  cases Bg with
  |nil=>exact⟨.tuple #[],by simpa using hrun,.gL [] [] [] [] [] .nil⟩
  |cons v vs d es b1 b2 t1 t2 u1 u2 hv qU=>
   cases qU with
   |nil=>
    simp only[cz];exact⟨v,by simpa using hrun,.v hv⟩
   |cons v2 vs d2 es b3 b4 t3 t4 u3 u4 Mp qU=>exact⟨.tuple (v::v2::vs).toArray,by simpa using hrun,.gL _ _ _ _ _ (.cons _ _ _ _ _ _ _ _ _ _ hv (.cons _ _ _ _ _ _ _ _ _ _ Mp qU))⟩
 obtain⟨v,Ru,NB⟩:=KI;refine⟨Az,hs0.defers,hs0.stays,v,c,ts,us,Ru,NB,fun b hb=>⟨fun hlt hx=>?_,fun ht=>?_⟩,A6.nd,fun b hb=>?_,fun b hb=>?_⟩
 ·have:=A6.zero b hb;rw[<-(hs1.old b hlt hx).1];exact this
 ·obtain⟨⟨m,_,hΘ⟩,_⟩:=A6.top b ht;have:=A6.zero b hb;omega
 ·rcases A6.mem b hb with h|⟨m,hm,hρ⟩
  ·obtain⟨⟨m,hm,hΘ⟩,_⟩:=A6.top b h;exact⟨.inl (hs1.mine b (by omega)),Lf NB b h⟩
  ·have:=hu1.free b (by omega);exact⟨this.2.1,this.2.2⟩
 ·obtain⟨⟨m,hm,hΘ⟩,h2⟩:=A6.top b hb;exact⟨h2,hs1.mine b (by omega)⟩
theorem I3.of{f:FuncId}{fn:Func}{c:Code}{ds Ke:aL}{obs:bQ}{d:D}(hf:P.funcs[f]?=some fn)(hb:fn.body=some c)(hn:(fn.name== "runtime.NumGoroutine")=false)
 (hI:yQ 0 ds=(Ke,obs)) (hl:Ke.length<=fn.ntmps)
 (h:(∀x∈ds.map D.VT,gq x)->∀(Γ:uB),Γ.nt=fn.ntmps->AW P Γ c (OJ P fn d) ⟨wC 0 Ke,obs⟩):I3 P f ds d:=by
 refine⟨⟨fn,hf,by simp[hb],hn⟩,?_⟩;intro w Θ args bs ts us hvs hargs hz hown h1 hts hnd sA;have Rv:=hargs.shown;obtain⟨L,q1,q2,rfl,rfl,q5⟩:=hargs.inst 0;rw[hI]at q1 q5;have q1:L.map Fs.ob=obs:=q1;refine calls_of_wp hf hb ?_;let κ0:Nat->Option Value:=fun i=>(L[i]?).map Fs.v
 let Θ0:Nat->Nat:=fun b=>match Ky L b with|some i=>i+2|none=>Θ b
 let ρ0:Nat->Nat:=fun b=>match tH L b with|some i=>i+1|none=>0
 let Γ:uB:=⟨w,Θ0,fun b=>b∈L.flatMap Fs.ts,fn.ntmps,fun b=>b∈L.flatMap Fs.bl,hvs⟩
 have hkS:∀i x,L[i]?=some x->κ0 i=some x.v:=fun i x hx=>by simp[κ0,hx]
 have hnm:Names κ0 0 L:=fun i x hx=>by rw[cW];exact hkS i x hx
 have hrd:=q5 κ0 hnm;have hlen:args.length=Ke.length:=hrd.len;have Nj:∀(i:Nat) x b,L[i]?=some x->x.v.ownBlock=some b->b∈L.flatMap Fs.ts:=fun i x b hx hb'=>cA.2 ⟨x,aE hx,by simp[Fs.ts,hb']⟩
 have S0:∀(i:Nat) x b,L[i]?=some x->x.v.ownBlock=some b->Θ0 b=i+2:=by
  intro i x b hx hb';simp only[Θ0,JZ hnd hx hb']
 have UW:∀b,Θ b=0->Θ0 b=0:=by
  intro b h0;have e2:b∉L.flatMap Fs.ts:=fun e=>by have:=(hts b e).1;omega
  simp only[Θ0,xK e2];exact h0
 have Wi:∀(i:Nat) x b,L[i]?=some x->b∈x.ns->Θ0 b=0:=fun i x b hx hb'=>UW b ((sA b (sC hx hb')).1 (Ca hnd hx hb'))
 have A8:∀b,Θ0 b≠Θ b->b∈L.flatMap Fs.ts:=by
  intro b hne;refine dQ fun ht=>hne ?_
  simp only[Θ0,xK ht]
 have Rn:∀(j:Nat) o,obs[j]?=some o->∃x,L[j]?=some x/\o=x.ob:=by
  intro j o hj;rw[<-q1,bt]at hj;cases hx:L[j]? with
  |none=>simp[hx]at hj
  |some x=>simp[hx]at hj;exact⟨x,rfl,hj.symm⟩
 have Wj:obs.length=L.length:=by rw[<-q1];simp
 have hs:dl Γ ⟨wC 0 Ke,obs⟩ κ0 Θ0 {tmps:=args.toArray++Array.replicate (fn.ntmps-args.toArray.size) undef,defers:=[]} w:=by
  refine⟨rfl,?_,fun i hi=>?_,?_,?_,?_,?_,?_,?_,⟨rfl,rfl,rfl,bO _,fun _ _ _=>rfl⟩,⟨ρ0,?_,?_,?_⟩⟩
  ·simp[Γ];omega
  ·have hi:obs.length<=i:=hi;simp only[κ0];rw[cN (by omega)];rfl
  ·intro id u hu;simp only[κ0]at hu;cases hx:L[id]? with
   |none=>simp[hx]at hu
   |some x=>simp[hx]at hu;subst hu;exact(q2 x (aE hx)).2.2.2.2
  ·intro t;rw[Ey];simp only[v8,xW,w9];have TP:∀v,args[t]?=some v->(args.toArray++Array.replicate (fn.ntmps-args.toArray.size) undef).getD t undef=v:=by
    intro v hv;have hlt:=(aF.1 hv).1;rw[cG,eY (by simpa using hlt)];simp only[iD,hv,uA]
   cases hd:Ke[t]? with
   |none=>exact⟨[],.of (.any _),by simp⟩
   |some x=>
    obtain⟨v,b',k1,k2,k3⟩:=hrd.at (i:=t) (d:=x) hd;rw[TP v k1];exact⟨b',.v k2,fun b hb'=>UW b (hz b (k3 b hb'))⟩
  ·intro j o hj;obtain⟨x,hx,rfl⟩:=Rn j o hj;obtain⟨p1,p2,p3,p4,_⟩:=q2 x (aE hx);exact⟨p1,p2,x.v,x.cs,x.ns,hkS j x hx,p3,p4.rd,fun b hb'=>S0 j x b hx hb',fun b hb'=>Wi j x b hx hb'⟩
  ·intro b hb';by_cases e:Θ0 b=Θ b
   ·exact hown b (by rw[<-e];exact hb')
   ·exact hown b (by have:=(hts b (A8 b e)).1;omega)
  ·intro b hlt hx;refine⟨rfl,?_⟩;have e:Θ0 b=Θ b:=dQ fun e=>hx (A8 b e)
   rw[e];exact h1 b
  ·intro b hb';refine .inr (A8 b fun e=>?_);have:=h1 b;omega
  ·intro b hb';cases VO:tH L b with
   |none=>simp[ρ0,VO]at hb'
   |some i=>
    obtain⟨x,hx,B7⟩:=uC VO;exact⟨Wi i x b hx B7,.inr (sC hx B7),(sA b (sC hx B7)).2⟩
  ·intro id e sz rows hj;obtain⟨x,hx,Rp⟩:=Rn id _ hj;simp only[Fs.ob,Ob.row.injEq,qz]at Rp;obtain⟨rfl,rfl,rfl⟩:=Rp;obtain⟨p1,p2,p3,p4,_⟩:=q2 x (aE hx);exact⟨x.v,x.cs,x.ns,hkS id x hx,p3,p4,JJ hnd hx,fun b hb'=>by simp[ρ0,C2 hnd hx hb']⟩
  ·intro id o hj;obtain⟨x,hx,Rp⟩:=Rn id _ hj;subst Rp;exact Jp.wR rfl
 refine wp_mono (h Rv Γ rfl _ _ _ _ hs) ?_;rintro x a' w' ⟨Mr,κ1,Θ1,hs0,Wn⟩;obtain⟨Az,hdf,hst,v,b2,t2,u2,hrun,hres,Pf,Dc,vo,ht'⟩:=a7k.out hs0 Wn;have post:a'.defers=[]/\∃v',(results fn a'.tmps).run P w'=.ok v' w'/\∃v b2 t2 u2,Ending.returned v'=.returned v/\w'.os=w.os/\w'.tape=w.tape/\w'.output=w.output/\w.heap.size<=w'.heap.size/\
  (∀b,b<w.heap.size->b∉L.flatMap Fs.ts->w'.heap[b]?=w.heap[b]?)/\
  zS w' v d b2 t2 u2/\(∀b∈b2,(b<w.heap.size->Θ b=0\/b∈L.flatMap Fs.ts)/\b∉t2)/\u2.Nodup/\
  (∀b∈u2,(w.heap.size<=b\/b∈L.flatMap Fs.bl)/\Wr w' b)/\∀b∈t2,b∈u2/\(w.heap.size<=b\/b∈L.flatMap Fs.ts):=by
  refine⟨hdf,v,hrun,v,b2,t2,u2,rfl,hst.os,hst.tape,hst.output,hst.size,fun b hlt hnt=>hst.block b hlt (fun hx=>hnt hx),hres,fun b hb'=>?_,Dc,fun b hb'=>?_,fun b hb'=>?_⟩
  ·obtain⟨k1,k3⟩:=Pf b hb';refine⟨fun hlt=>?_,k3⟩;by_cases ht:b∈L.flatMap Fs.ts
   ·exact .inr ht
   ·refine .inl ?_;have:=k1 hlt (fun hx=>ht hx);have e:Θ0 b=Θ b:=dQ fun e=>ht (A8 b e)
    rw[<-e];exact this
  ·obtain⟨k1,k3⟩:=vo b hb';refine⟨?_,k3⟩;rcases k1 with(k1|k1)|k1
   ·exact .inl k1
   ·exact .inr (Dt k1)
   ·exact .inr k1
  ·obtain⟨k1,k2⟩:=ht' b hb';exact⟨k1,k2⟩
 rcases Az with rfl|rfl
 ·exact post
 ·exact post
theorem VZ{o:Oper}{f t:Nat}{xs:Array Operand}{ty:Array TypeId}{ds:aL}{d:D}{nz:List (List (Option (Nat×Nat)))}{ms qs:aW}
 (hop:o.op=.call {callee:=.value (.func f),args:=xs,argTypes:=ty}) (hd:o.dst=some t) (hg:o.guard=none) (ht:t<Γ.nt)
 (Az:AD st.H nz (xs.toList.map st.ev)=some (ds,ms,qs)) (MB:ms.Nodup) (KK:qs.Nodup) (ng:I3 P f ds d)
 (h:AO P Γ all rest Q ⟨(t,(oV st.H.length d).1)::st.σ,kill st.H (ms++qs)++(oV st.H.length d).2⟩):AO P Γ all (o::rest) Q st:=by
 intro κ Θ a w hs;have AT:=vh Az;obtain⟨ρ,hu⟩:=hs.rV;obtain⟨Θ1,ρ1,hs1,hu1,hm1,NE,UU⟩:=dl.FM ms hs hu MB (fun m hm=>by
  obtain⟨e,sz,rows,hH⟩:=AT.1 m hm;exact⟨_,e,sz,rows,hH,rfl⟩)
 have hq:∀m e sz rows,st.H[m]?=some (.row .uq e sz rows)->∃v cs ns,κ m=some v/\0<sz/\(∀r∈rows,r.length=sz)/\w.ownsRow 0 e sz v rows.length cs/\wX w (tr e) 0 cs rows.flatten ns/\ns.Nodup/\(∀b∈ns,ρ1 b=m+1)/\∀g,v.ownBlock=some g->Θ1 g=m+2:=by
  intro m e sz rows hH;have hnm:m∉ms:=fun hm=>by
   obtain⟨e',sz',dO,Db⟩:=AT.1 m hm;rw[hH]at Db;cases Db
  have Mo:(kill st.H ms)[m]?=some (.row .uq e sz rows):=by rw[gH hnm];exact hH
  obtain⟨v,cs,ns,r1,r2,r3,r4,r5⟩:=hu1.rows m e sz rows Mo;obtain⟨p1,p2,v2,_,_,p3,_,_,p4,_⟩:=hs1.ob m _ Mo;rw[r1]at p3;cases p3;exact⟨v,cs,ns,r1,p1,p2,r2,r3,r4,r5,p4⟩
 obtain⟨bs,ts,us,Bg,A6⟩:=zL (w:=w) (vs:=xs.toList.map a.eval) (fun b hb=>(hu1.free b hb).1) hq hs.oN Az KK (by simp) (fun i d hd=>by
  rw[bt]at hd;cases hx:xs.toList[i]? with
  |none=>rw[hx]at hd;cases hd
  |some x=>
   rw[hx]at hd;simp only[cU,ah]at hd;subst hd;obtain⟨b,r,z⟩:=hs.ev x;exact⟨a.eval x,b,by rw[bt,hx];rfl,r,fun y hy=>NE y (z y hy)⟩) hm1
 let Θc:Nat->Nat:=fun b=>if Θ1 b=0 then 0 else 1
 have A8:∀b,Θc b=0↔Θ1 b=0:=fun b=>by simp only[Θc];split<;>simp_all
 have J3:∀b∈ts,∃m∈qs,Θ1 b=m+2:=fun b hb=>(A6.top b hb).1
 have Of:Mx w fun b=>b∈ts:=by
  obtain⟨B,v1,v2⟩:=hs1.vsb;refine⟨B,v1,fun b hB=>⟨(v2 b hB).2.1,fun hb'=>?_⟩⟩;have hm:xX Γ b:=by
   obtain⟨m,hm,hΘ⟩:=J3 b hb';exact hs1.mine b (by omega)
  rcases hm with q|q
  ·have:=(v2 b hB).1;omega
  ·exact(v2 b hB).2.2 q
 have hwr:∀b∈us,Wr w b:=by
  intro b hb;rcases A6.mem b hb with h|⟨m,hm,hρ⟩
  ·exact Jn Bg b h
  ·exact(hu1.free b (by omega)).2.2
 have hc:=ng.2 w Θc (xs.toList.map a.eval) bs ts us Of Bg (fun b hb=>(A8 b).2 (A6.zero b hb)) (fun b hb=>hs1.own b (fun e=>hb ((A8 b).2 e))) (fun b=>by simp only[Θc];split<;>omega)
  (fun b hb=>by
   obtain⟨m,hm,hΘ⟩:=J3 b hb;exact⟨by simp only[Θc];rw[b9 (by omega)],(A6.top b hb).2⟩) A6.nd (fun b hb=>⟨fun hnt=>by
   rcases A6.mem b hb with h|⟨m,hm,hρ⟩
   ·exact absurd h hnt
   ·exact(A8 b).2 (hu1.free b (by omega)).1,hwr b hb⟩)
 refine wpList_plain hg fun K hK=>?_
 unfold Oper.wp;rw[wT hop ng.1,Oper.upon_enter];have e0:xs.map a.eval=(xs.toList.map a.eval).toArray:=by
  rw[<-qv,gw]
 rw[e0];refine hc.mono ?_;rintro x w' ⟨v,b2,t2,u2,rfl,k1,k2,k3,k4,S5,a3S,kb,Z7,ku,kt⟩;show K (a.put o.dst v) w';rw[hd];let N:=st.H.length
 have hs2:=hs1.forget qs;have hNl:(kill st.H ms).length=N:=fX _ _;simp only[hNl]at hs2;let Θ2:Nat->Nat:=fun b=>if qs.any (fun m=>Θ1 b==m+2)then N+2 else Θ1 b
 have hs2:dl Γ ⟨st.σ,kill (kill st.H ms) qs⟩ κ Θ2 a w:=hs2;have MC:∀b,Θ1 b=0->Θ2 b=0:=fun b hb=>by
  simp only[Θ2];rw[b9,hb];intro h;obtain⟨m,_,hm⟩:=cy.1 h;simp[hb]at hm
 have Er:∀b,b∈ts->Θ2 b=N+2:=by
  intro b hb;simp only[Θ2];rw[bN];obtain⟨m,hm,hΘ⟩:=J3 b hb;exact cy.2 ⟨m,hm,by simp[hΘ]⟩
 have Z5:zT Γ (kill (kill st.H ms) qs) κ Θ2 w ρ1:=by
  refine⟨fun b hb=>?_,fun j e sz rows hj=>?_,fun j o hj=>?_⟩
  ·obtain⟨q1,q2⟩:=hu1.free b hb;exact⟨MC b q1,q2⟩
  ·rcases oW hj with h|⟨_,h⟩
   ·cases h
   ·exact hu1.rows j e sz rows h
  ·rcases oW hj with h|⟨_,h⟩
   ·subst h;trivial
   ·exact hu1.more j o h
 obtain⟨L,c1,c2,c3,c4,c5⟩:=a3S.inst N;subst c3;subst c4;have Rg:∀x∈L,x.ok w':=c2;let κ':Nat->Option Value:=fun j=>if j<N then κ j else(L[j-N]?).map Fs.v
 let Θ':Nat->Nat:=fun b=>match Ky L b with|some i=>N+i+2|none=>if Θ2 b=N+2 then 0 else Θ2 b
 let ρ':Nat->Nat:=fun b=>match tH L b with|some i=>N+i+1|none=>ρ1 b
 have Oh:∀(i:Nat) x b,L[i]?=some x->x.v.ownBlock=some b->Θ' b=N+i+2:=by
  intro i x b hx hb;simp only[Θ',JZ Z7 hx hb]
 have A7:∀b,b∉L.flatMap Fs.ts->Θ' b=if Θ2 b=N+2 then 0 else Θ2 b:=by
  intro b h2;simp only[Θ',xK h2]
 have hzero:∀b,w.heap.size<=b->Θ2 b=0:=fun b hge=>by
  cases h:Θ2 b with
  |zero=>rfl
  |succ m=>exact absurd (hs2.own b (by omega)) (by omega)
 have Zr:∀b∈b2,Θ' b=0:=by
  intro b hb;obtain⟨p1,p3⟩:=kb b hb;rw[A7 b p3];by_cases hlt:b<w.heap.size
  ·rcases p1 hlt with h|h
   ·rw[MC b ((A8 b).1 h)];simp
   ·rw[bN (Er b h)]
  ·rw[hzero b (by omega)];simp
 have Oc:∀(i:Nat) x b,L[i]?=some x->b∈x.ns->Θ' b=0:=by
  intro i x b hx hb;have hmem:=sC hx hb;rw[A7 b (Ca Z7 hx hb)];rcases(ku b hmem).1 with h|h
  ·rw[hzero b h];simp
  ·rcases A6.mem b h with h|⟨m,hm,hρ⟩
   ·rw[bN (Er b h)]
   ·rw[MC b (hu1.free b (by omega)).1];simp
 have hn:∀(j:Nat) v,κ j=some v->κ' j=some v:=by
  intro j v hj;have:j<N:=dQ fun h=>by rw[hs.pH j (by omega)]at hj;cases hj
  simp only[κ'];rw[bN this];exact hj
 have vN:Names κ' N L:=by
  intro i x hx;simp only[κ'];rw[b9 (by omega),dP,hx];rfl
 have Wf:∀b∈L.flatMap Fs.ts,xX Γ b:=by
  intro b hb;rcases(kt b hb).2 with h|h
  ·exact .inl (dX hs.base h)
  ·obtain⟨m,hm,hΘ⟩:=J3 b h;exact hs1.mine b (by omega)
 have k:iJ w w' Θ2 Θ' (N+2):=by
  refine⟨by omega,k1,k2,k3,k4,fun b hlt hne=>S5 b hlt (fun e=>hne (Er b e)),fun b hlt hne=>?_,fun b hb=>?_⟩
  ·rw[A7 b (fun e=>?_),b9 hne];rcases(kt b e).2 with h|h
   ·omega
   ·exact hne (Er b h)
  ·by_cases ht':b∈L.flatMap Fs.ts
   ·obtain⟨x,T,hx⟩:=(ku b (Dt ht')).2;exact(bD.1 hx).1
   ·rw[A7 b ht']at hb;split at hb
    ·exact absurd rfl hb
    ·exact cu (hs2.own b hb) k4
 have hm:∀b,2<=Θ' b->xX Γ b:=by
  intro b hb;by_cases ht':b∈L.flatMap Fs.ts
  ·exact Wf b ht'
  ·rw[A7 b ht']at hb;split at hb
   ·omega
   ·exact hs2.mine b hb
 have sA:=hs2.nk k hn Z5;have Hl:(kill st.H (ms++qs)).length=N:=by simp[fX,N]
 have key:∀(j:Nat) y,(kill st.H (ms++qs)++L.map Fs.ob)[j]?=some y->(∃i x,j=N+i/\L[i]?=some x/\y=x.ob)\/(j<N/\(y=.gone\/(kill (kill st.H ms) qs)[j]?=some y)):=by
  intro j y hj;by_cases hlt:j<N
  ·rw[ar (by rw[Hl];exact hlt)]at hj;refine .inr ⟨hlt,?_⟩;rcases oW hj with h|⟨h3,h4⟩
   ·exact .inl h
   ·refine .inr ?_;simp only[aR,Ds]at h3;rw[gH h3.2,gH h3.1];exact h4
  ·rw[b8 (by omega),Hl,bt]at hj;cases hx:L[j-N]? with
   |none=>simp[hx]at hj
   |some x=>simp[hx]at hj;exact .inl ⟨j-N,x,by omega,hx,hj.symm⟩
 have hs':dl Γ ⟨st.σ,kill st.H (ms++qs)++L.map Fs.ob⟩ κ' Θ' a w':=by
  have Ki:∀(j:Nat) y,(kill (kill st.H ms) qs)[j]?=some y->y≠ .gone->∀b,ρ1 b=j+1->ρ' b=j+1:=by
   intro j y hy hyg b a35;have hjk:j∉qs:=by
    rcases oW hy with h|h
    ·exact absurd h hyg
    ·exact h.1
   have hnb:tH L b=none:=by
    cases hi:tH L b with
    |none=>rfl
    |some i=>
     exfalso;obtain⟨x,hx,B7⟩:=uC hi;obtain⟨z0,_,a7p,T'',a32⟩:=hu1.free b (by omega);rcases(ku b (sC hx B7)).1 with h|h
     ·have:=(bD.1 a32).1;omega
     ·rcases A6.mem b h with h|⟨m,hm',hρ⟩
      ·obtain⟨m,hm',hΘ⟩:=J3 b h;omega
      ·exact hjk (by
        have:j=m:=by omega
        rw[this];exact hm')
   simp only[ρ',hnb];exact a35
  refine hs2.step k hm hn ?_ ?_ ?_ ⟨ρ',?_,?_,?_⟩
  ·intro i hi;simp only[av,Hl,ax]at hi;simp only[κ'];rw[b9 (by omega),cN (by omega)];rfl
  ·intro i u vo;simp only[κ']at vo;split at vo
   ·exact hs.oN i u vo
   ·cases hx:L[i-N]? with
    |none=>simp[hx]at vo
    |some x=>simp[hx]at vo;subst vo;exact(Rg x (aE hx)).2.2.2.2
  ·intro j y hj;rcases key j y hj with⟨i,x,rfl,hx,rfl⟩|⟨hjl,hy|hy⟩
   ·obtain⟨q1,q2,q3,q4,_⟩:=Rg x (aE hx);exact .inr (.inr ⟨q1,q2,x.v,x.cs,x.ns,vN i x hx,q3,q4.rd,fun g' hg'=>Oh i x g' hx hg',fun b hb'=>Oc i x b hx hb'⟩)
   ·exact .inl hy
   ·exact .inr (.inl ⟨by omega,hy⟩)
  ·intro b hb;cases N8:tH L b with
   |some i=>
    obtain⟨x,hx,B7⟩:=uC N8;have hmem:=sC hx B7;refine⟨Oc i x b hx B7,?_,(ku b hmem).2⟩;rcases(ku b hmem).1 with h|h
    ·exact .inl (.inl (dX hs.base h))
    ·rcases A6.mem b h with h|⟨m,hm',hρ⟩
     ·obtain⟨m,hm',hΘ⟩:=J3 b h;exact .inl (hs1.mine b (by omega))
     ·exact(hu1.free b (by omega)).2.1
   |none=>
    simp only[ρ',N8]at hb;exact sA.1 b hb
  ·intro j e sz rows hj;rcases key j _ hj with⟨i,x,rfl,hx,hy⟩|⟨hjl,hy|hy⟩
   ·simp only[Fs.ob,Ob.row.injEq,qz]at hy;obtain⟨rfl,rfl,rfl⟩:=hy;obtain⟨q1,q2,q3,q4,_⟩:=Rg x (aE hx);exact⟨x.v,x.cs,x.ns,vN i x hx,q3,q4,JJ Z7 hx,fun b hb'=>by simp only[ρ',C2 Z7 hx hb']⟩
   ·cases hy
   ·obtain⟨v',c',bs',r1,r2,r3,r4,r5⟩:=sA.2.1 j e sz rows (by omega) hy;exact⟨v',c',bs',r1,r2,r3,r4,fun b hb'=>Ki j _ hy (by simp) b (r5 b hb')⟩
  ·intro j y hj;rcases key j _ hj with⟨i,x,rfl,hx,hy⟩|⟨hjl,hy|hy⟩
   ·subst hy;exact Jp.wR rfl
   ·subst hy;trivial
   ·by_cases hg:y=.gone
    ·subst hg;trivial
    ·exact(sA.2.2 j y (by omega) hy).re (Ki j y hy hg)
 rw[<-c1]at h;refine hK _ _ (h _ _ _ _ (hs'.set (t:=t) ht (c5 κ' vN) fun b hb=>Zr b hb))
end
end Go.Cx
namespace Go.Cx
open Go.RowKit
def Pn(P:Program)(f:FuncId)(e:TypeId)(sz:Nat)(rows dO:List aL):Prop:=
 (∃fn,P.funcs[f]?=some fn/\fn.body.isSome=true/\(fn.name== "runtime.NumGoroutine")=false)/\
 ∀(w:World) (v:Value) (cs:bY),0<sz->(∀r∈rows,r.length=sz)->w.ownsRow 0 e sz v rows.length cs->mm w cs rows.flatten []->
  Calls P f #[v] w (fun x w'=>x=.returned (.tuple #[])/\w'.os=w.os/\w'.tape=w.tape/\w'.output=w.output/\w.heap.size<=w'.heap.size/\
   (∀b,b<w.heap.size->v.ownBlock≠some b->w'.heap[b]?=w.heap[b]?)/\(∀r∈dO,r.length=sz)/\∃cs',w'.ownsRow 0 e sz v dO.length cs'/\mm w' cs' dO.flatten [])
section
variable{P:Program}{Γ:uB}{Q:Exit->St->Prop}{st:St}{κ:Nat->Option Value}{Θ:Nat->Nat}{a:Act}{w:World}{all:Array Oper}{rest:List Oper}
theorem Vb{o:Oper}{f id e sz:Nat}{x:Operand}{ts:Array TypeId}{k0:RK}{rows dO:List aL}(hop:o.op=.call {callee:=.value (.func f),args:= #[x],argTypes:=ts})(hd:∀t,o.dst=some t->t<Γ.nt)(hg:o.guard=none)
 (hx:st.ev x=.acc id) (hH:st.H[id]?=some (.row k0 e sz rows)) (hk0:k0.hand=true) (hfe:Ty e=true) (hfl:rows.flatten.all D.flat=true) (ng:Pn P f e sz rows dO)
 (h:AO P Γ all rest Q (St.put ⟨st.σ,st.H.set id (.row k0 e sz dO)⟩ o.dst (.gL []))):AO P Γ all (o::rest) Q st:=by
 intro κ Θ a w hs;obtain⟨b1,r1,_⟩:=hs.ev x;rw[hx]at r1;obtain⟨hkv,_⟩:=r1.vA;obtain⟨hsz,hrl,v,cs,bs,hk1,hown,hrd,Ep,hz⟩:=hs.ob id _ hH;rw[hkv]at hk1;cases hk1;have Dl:=hrd.flat hfl;subst Dl;obtain⟨ρ,hu⟩:=hs.rV;refine wpList_plain hg fun K hK=>?_
 unfold Oper.wp;rw[wT hop ng.1,Oper.upon_enter];have e1:(#[x]:Array Operand).map a.eval= #[a.eval x]:=by simp
 rw[e1];refine(ng.2 w _ cs hsz hrl hown hrd).mono ?_;rintro e' w' ⟨rfl,k1,k2,k3,k4,k5,J2,cs',Cs,NC⟩;have kk:iJ w w' Θ Θ (id+2):=⟨by omega,k1,k2,k3,k4,fun b hb ht=>k5 b hb fun e=>ht (Ep b e),fun _ _ _=>rfl,fun b hb=>cu (hs.own b hb) k4⟩
 have hs':dl Γ ⟨st.σ,st.H.set id (.row k0 e sz dO)⟩ κ Θ a w':=by
  refine hs.put [] wU (fun _ _ h=>h) (fun i hi=>hs.pH i (by simpa using hi)) hs.oN kk hs.mine ?_ hu (by simp) ?_ ?_
  ·refine⟨hsz,J2,_,cs',[],hkv,Cs,NC,Ep,?_⟩;cases k0 with
   |cl=>simp[RK.hand]at hk0
   |mv n=>simp[RK.hand]at hk0
   |ho p n=>simp[RK.hand]at hk0
   |sh=>simp
   |uq=>simp
  ·intro e2 FR dG he;cases he;exact⟨_,cs',[],hkv,Cs,.of NC (xG (Bp hfe)),by simp,by simp⟩
  ·cases k0 with
   |mv n=>simp[RK.hand]at hk0
   |ho p n=>simp[RK.hand]at hk0
   |_=>rfl
 show K (a.put o.dst (.tuple #[])) w';refine hK _ _ (h κ Θ _ w' ?_);cases OY:o.dst with
 |none=>exact hs'
 |some t=>exact hs'.set (hd t OY) (.gL [] [] [] .nil) (by simp)
end
end Go.Cx
namespace Go.Cx
open Go.RowKit
inductive An where
 |b (v:Bool)
 |row (r:aL)
 |ix (i:Nat)
 |ch (x:UInt8)
 |cut (l h:Nat)
 |d (x:D)
 |fl (v:Bool)
 |n (k:Nat)
 |n2 (π ρ:aW) (k m:Nat) (L X:aW)
 |sk (id:Nat)
 |Kq (t:Nat)
 |pb (id off e sz:Nat)
 |vw (t:Nat)
 |cn (K o:aW)
 |hl (m:Nat) (K o:aW)
 |mu (id:Nat) (rows:List aL)
 |dc (x:D)
 |gv (ms:aW) (outs:List Rw) (d:D)
 |mg (id i off:Nat) (r:aL)
 |ov (id:Nat) (rows:List aL)
 |kv (m:List (D×D))
 |gp (nz:List (List (Option (Nat×Nat)))) (cells:aL) (d:D)
 |dn (cells:aL)
 |fz
 |nl (x:D)
 |ds (x:D)
 |mz (id:Nat)
 |tk (r:aL)
 |gf (nz:List (List (Option (Nat×Nat)))) (d:D)
 |hd
abbrev Cl:=List Prop
def yJ:Cl->Prop
 | []=>True
 |p::ps=>p/\yJ ps
theorem yJ.app{p q:Cl}(h:yJ (p++q)):yJ p/\yJ q:=by
 induction p with
 |nil=>exact⟨trivial,h⟩
 |cons x p ih=>exact⟨⟨h.1,(ih h.2).1⟩,(ih h.2).2⟩
def GS(P:Program)(st:St)(op:Op)(A:List An):Option (D×List An×Cl):=match op with
 | .indexAddr t x i=>(match FT P t,st.ev x,st.ev i,A with
  |some (_,sz),.sl rows,.int _ n,.row r::A=>some (.ep r 0,A,[0<=n/\rows[n.toNat]?=some r/\r.length=sz])
  |some (_,sz),.acc id,.int _ n,.ix k::A=>(match st.H[id]? with|some (.row _ _ sz' rows)=>some (.op id k sz 0,A,[sz=sz'/\n=(k:Int)/\k<rows.length])|_=>none)
  |_,.val (.pointer (some ⟨g,o,none⟩)),.int _ n,.ix k::A=>(match a4E P t with|some (sz,len)=>some (.val (.pointer (some ⟨g,o+k*sz,none⟩)),A,[n=(k:Int)/\k<len])|none=>none)
  |_,_,_,_=>none)
 | .index t x i=>(match KW P t,st.ev x,st.ev i,A with
  |true,.str s,.int _ n,.ch c::A=>some (.int .u8 c.toNat,A,[0<=n/\s[n.toNat]?=some c])
  |_,_,_,_=>none)
 | .load t x=>(match st.ev x with
  | .op id i sz off=>(match AG P t,st.H[id]?,A with
   |some false,some (.row (.ho p n) _ sz' _),.hd::A=>some (.acc n,A,[sz'=sz/\i*sz+off=p])
   |some ag,some (.row k _ sz' rows),.row r::A=>(match k with
    | .ho _ _=>none
    |_=>(match Gi ag (zM P t) r off with
     |some d=>some (d,A,[sz'=sz/\k.P8=true/\rows[i]?=some r/\off+(bif ag then zM P t else 1)<=sz])
     |none=>none))
   |_,_,_=>none)
  | .val (.pointer (some ⟨g,o,none⟩))=>(match AG P t,A with
   |some false,.d d::A=>some (d,A,[U1 g o=some d])
   |_,_=>none)
  |_=>(match pv P st op with|some d=>some (d,A,[])|none=>none))
 | .slice t x lo hi none=>(match st.ev x,A with
  | .str s,.cut l h::A=>(match KW P t with
   |true=>some (.str ((s.take h).drop l),A,[AU s.length (lo.map st.ev) (hi.map st.ev)=some (l,h)])
   |false=>none)
  | .sl rows,.cut l h::A=>(match FT P t with
   |some (_,sz)=>some (.sl ((rows.take h).drop l),A,[AU rows.length (lo.map st.ev) (hi.map st.ev)=some (l,h)/\(rows.all fun r=>r.length==sz)=true])
   |none=>none)
  |_,_=>none)
 | .binOp op' t x y t'=>(match op',st.ev x,st.ev y with
  | .add,.str a,.str b=>some (.str (a++b),A,[a.length+b.length<=maxLen])
  | .quo,.int k a,.int k' b=>some (.int k (a/b),A,[k=k'/\0<=a/\0<b])
  | .rem,.int k a,.int k' b=>some (.int k (a%b),A,[k=k'/\0<=a/\0<b])
  |_,_,_=>(match pv P st op with|some d=>some (d,A,[])|none=>none))
 | .lookup T x i ok=>(match st.ev x,A with
  | .acc id,.d d::A=>(match st.H[id]? with
   |some (.mp kv)=>some (d,A,[plk P T kv (st.ev i) ok=some d])
   |_=>none)
  |_,_=>none)
 | .pick c a b=>(match st.ev c,A with
  | .bool t,.b v::A=>(match v with|true=>some (st.ev a,A,[t=true])|false=>some (st.ev b,A,[t=false]))
  |_,_=>none)
 |_=>(match pv P st op with|some d=>some (d,A,[])|none=>none)
theorem Tz{P:Program}{st:St}{op:Op}{A A':List An}{d:D}{p:Cl}(h:GS P st op A=some (d,A',p))(hp:yJ p):pv P st op=some d:=by
 have plain:∀ {op},(match pv P st op with|some d=>some (d,A,([]:Cl))|none=>none)=some (d,A',p)->pv P st op=some d:=by
  intro op h;split at h
  ·cases h;assumption
  ·cases h
 unfold GS at h;split at h
 ·rename_i t x i;split at h
  ·rename_i e sz rows kk n r A1 h1 h2 h3;cases h;obtain⟨⟨q1,q2,q3⟩,_⟩:=hp;simp only[pv,h1,h2,h3,q1,q2,pT,q3]
  ·rename_i e sz id kk n k A1 h1 h2 h3;split at h
   ·rename_i k' e' sz' rows hH;cases h;obtain⟨⟨rfl,rfl,q3⟩,_⟩:=hp;simp[pv,h1,h2,h3,hH,q3]
   ·cases h
  ·rename_i g o' kk n k A1 h2 h3;split at h
   ·rename_i sz len hT;cases h;obtain⟨⟨rfl,q3⟩,_⟩:=hp;simp[pv,h2,h3,hT,q3]
   ·cases h
  ·cases h
 ·rename_i t x i;split at h
  ·rename_i s kk n c A1 h1 h2 h3;cases h;obtain⟨⟨q1,q2⟩,_⟩:=hp;simp only[pv,h1,h2,h3,q1,q2,pT]
  ·cases h
 ·rename_i t x;split at h
  ·rename_i id i sz off h1;split at h
   ·rename_i p' n e sz' rows A1 h2 h3;cases h;obtain⟨⟨rfl,rfl⟩,_⟩:=hp;simp only[pv,h2,h1,h3,and_self,pT]
   ·rename_i ag k e sz' rows r A1 h2 h3;split at h
    ·cases h
    ·rename_i hnh;split at h
     ·rename_i d' hd;cases h;obtain⟨⟨rfl,q2,q3,q4⟩,_⟩:=hp;cases k with
      |ho p n=>exact absurd rfl (hnh p n)
      |_=>simp only[pv,h2,h1,h3,q3,q2,q4,qz,and_self,pT,hd]
     ·cases h
   ·cases h
  ·rename_i g o' h1;split at h
   ·rename_i d' A1 h2;cases h;simp only[pv,h2,h1];exact hp.1
   ·cases h
  ·exact plain h
 ·rename_i t x lo hi;split at h
  ·rename_i s l hh A1 h1;split at h
   ·rename_i h2;cases h;obtain⟨q1,_⟩:=hp;simp only[pv,h1,h2,q1,pT]
   ·cases h
  ·rename_i rows l hh A1 h1;split at h
   ·rename_i e sz h2;cases h;obtain⟨⟨q1,q2⟩,_⟩:=hp;simp only[pv,h1,h2,q1,q2,pT]
   ·cases h
  ·cases h
 ·rename_i op' t x y t';split at h
  ·rename_i a b h1 h2;cases h;obtain⟨q1,_⟩:=hp;simp only[pv,h1,h2,Up,q1,pT]
  ·rename_i k a k' b h1 h2;cases h;obtain⟨⟨rfl,q1,q2⟩,_⟩:=hp;simp only[pv,h1,h2,Up,q1,q2,pT,and_self]
  ·rename_i k a k' b h1 h2;cases h;obtain⟨⟨rfl,q1,q2⟩,_⟩:=hp;simp only[pv,h1,h2,Up,q1,q2,pT,and_self]
  ·exact plain h
 ·rename_i T x i ok;split at h
  ·rename_i id d' A1 h1;split at h
   ·rename_i kv hH;cases h;simp only[pv,h1,hH];exact hp.1
   ·cases h
  ·cases h
 ·split at h
  ·rename_i t v A1 h1;split at h
   ·cases h;obtain⟨rfl,_⟩:=hp;simp[pv,h1]
   ·cases h;obtain⟨rfl,_⟩:=hp;simp[pv,h1]
  ·cases h
 ·exact plain h
def bytesOf:List aL->Option Bytes
 | []=>some []
 |r::rs=>match r,bytesOf rs with
  | [.int .u8 n],some bs=>some (UInt8.ofNat n.toNat::bs)
  |_,_=>none
theorem Q6:∀ {rows:List aL} {bs:Bytes},bytesOf rows=some bs->∃xs:bC,rows=xs.map (fun n=>[D.int .u8 n])/\bs=xs.map (fun n=>UInt8.ofNat n.toNat):=by
 intro rows
 induction rows with
 |nil=>intro bs h;cases h;exact⟨[],rfl,rfl⟩
 |cons r rs ih=>
  intro bs h;simp only[bytesOf]at h;split at h
  ·rename_i n bs' h1;cases h;obtain⟨xs,rfl,rfl⟩:=ih h1;exact⟨n::xs,rfl,rfl⟩
  ·cases h
theorem M3:∀(xs:bC),(xs.map (fun n=>[D.int .u8 n])).flatten=xs.map (fun n=>D.int .u8 n)
 | []=>rfl
 |n::xs=>by simp only[bB,eT,M3 xs];rfl
def a6M(A:List An)(t:Nat):Option (List An):=match A with
 | .Kq u::A=>if u=t then some A else none
 |_=>none
def apS(H:bQ)(d:D)(e sz:Nat):Option (List aL×Bool×aW):=match d with
 | .nil=>some ([],true,[])
 | .acc m=>(match H[m]? with
  |some (.row k e' sz' rows)=>(match k with| .cl=>none| .uq=>(if e'=e/\sz'=sz then some (rows,true,[m])else none)| .sh=>(if e'=e/\sz'=sz then some (rows,false,[m])else none)| .mv _=>none| .ho _ _=>none)
  |_=>none)
 |_=>none
def apX(H:bQ)(d:D)(e sz:Nat)(A:List An):Option (List aL×Bool×aW×List An×Cl):=match d,A with
 | .nil,A=>some ([],true,[],A,[])
 | .acc m,A=>(match H[m]? with
  |some (.row k e' sz' rows)=>(match k with| .cl=>none| .uq=>(if e'=e/\sz'=sz then some (rows,true,[m],A,[])else none)| .sh=>(if sz'=sz then some (rows,false,[m],A,[])else none)| .mv _=>none| .ho _ _=>none)
  |_=>none)
 | .sl rows,.fl f::A=>some (rows,f&&Ty e,[],A,[(∀r∈rows,r.length=sz)/\(f=true->D.jv rows=true)])
 |_,_=>none
def ML(st:St)(d:D):Option (Nat×Nat×List aL×Option Value):=match d with
 | .acc id=>(match st.H[id]? with|some (.vq sz rows u)=>some (id,sz,rows,u)|_=>none)
 |_=>none
theorem MM{st:St}{d:D}{id sz:Nat}{rows:List aL}{u:Option Value}(h:ML st d=some (id,sz,rows,u)):d=.acc id/\st.H[id]?=some (.vq sz rows u):=by
 unfold ML at h;split at h
 ·split at h
  ·rename_i hH;cases h;exact⟨rfl,hH⟩
  ·cases h
 ·cases h
def Oy(st:St)(d:D):Option (Nat×Nat×Nat×Nat×List aL×Option Value):=match d with
 | .op id i sz off=>(match st.H[id]? with|some (.vq sz' rows u)=>if sz'=sz then some (id,i,off,sz,rows,u)else none|_=>none)
 |_=>none
theorem S9{st:St}{d:D}{id i off sz:Nat}{rows:List aL}{u:Option Value}(h:Oy st d=some (id,i,off,sz,rows,u)):d=.op id i sz off/\st.H[id]?=some (.vq sz rows u):=by
 unfold Oy at h;split at h
 ·split at h
  ·split at h
   ·rename_i hH he;subst he;cases h;exact⟨rfl,hH⟩
   ·cases h
  ·cases h
 ·cases h
def SB(H:bQ)(A:List An):Option (bQ×List An×Cl):=match A with
 | .mg id i off r::A=>(match H[id]? with
  |some (.hole sz rows u p n)=>(match H[n]?,r[off]? with
   |some (.vq _ dG _),some _=>some ((H.set n .gone).set id (.vq sz (rows.set i (r.set off (.sl dG))) u),A,[rows[i]?=some r,p=i*sz+off])
   |_,_=>none)
  |_=>none)
 |A=>some (H,A,[])
def u9(n:Nat):aL->aL×bQ
 | []=>([],[])
 |d::ds=>match d with
  | .sl rows=>(.acc n::(u9 (n+1) ds).1,.tk rows::(u9 (n+1) ds).2)
  |d=>(d::(u9 n ds).1,(u9 n ds).2)
def PX(r:aL):Bool:=r.all fun d=>match d with| .sl _=>true|d=>d.flat
def Gn(P:Program)(nt:Nat)(o:Oper)(st:St)(A:List An):Option (St×List An×Cl):=match o.op,o.dst with
 | .box _ x,some t=>(if t<nt then match(st.ev x).cellsOf with|some ds=>some (⟨(t,.ptr st.H.length 0)::st.σ,st.H++[.box ds]⟩,A,[])|none=>none else none)
 | .alloc T,some t=>(if t<nt then match tz P T with|some ds=>some (⟨(t,.ptr st.H.length 0)::st.σ,st.H++[.box ds]⟩,A,[])|none=>none else none)
 | .store T x y,none=>(match st.ev x,(st.ev y).cellsOf with
  | .ptr id off,some ds=>(match st.H[id]? with
   |some ob=>(match ob.TB with
    |some cells=>(if PY P T=true/\ds.length=zM P T/\off+ds.length<=cells.length/\ob.Ta off=true then some (⟨st.σ,st.H.set id (ob.re (cells.take off++ds++cells.drop (off+ds.length)))⟩,A,[])else none)
    |none=>none)
   |none=>none)
  | .op id i sz off,some ds=>(match st.H[id]?,I5 st.H ds,A with
   |some (.vq sz' rows u),_,.row r::A=>(if PY P T=true/\ds.length=zM P T/\0<ds.length/\sz'=sz/\off+ds.length<=sz/\ds.all D.flat=true then
    some (⟨st.σ,st.H.set id (.vq sz (rows.set i (r.take off++ds++r.drop (off+ds.length))) u)⟩,A,[rows[i]?=some r])else none)
   |some (.row k e sz' rows),some (es,ms),.row r::A=>(if PY P T=true/\ds.length=zM P T/\sz'=sz/\k.P8=true/\off+ds.length<=sz/\ms.Nodup/\id∉ms then
    some (⟨st.σ,(kill st.H ms).set id (.row (k.after (V9 st.H e off ds&&UN e sz)) e sz (rows.set i (r.take off++es++r.drop (off+ds.length))))⟩,A,[rows[i]?=some r])else none)
   |_,_,_=>none)
  |_,_=>none)
 | .makeMap _ none,some t=>(if t<nt then some (⟨(t,.acc st.H.length)::st.σ,st.H++[.mp []]⟩,A,[])else none)
 | .mapUpdate T x i y,none=>(match V5 P T,st.ev x,A with
  |some (kd,_),.acc id,.kv m::A=>(match st.H[id]? with
   |some (.mp kv)=>(if Hp kd (st.ev i)=true/\(st.ev y).scalar=true then some (⟨st.σ,st.H.set id (.mp m)⟩,A,[J9 (st.ev i) (st.ev y) kv=some m])else none)
   |_=>none)
  |_,_,_=>none)
 | .makeSlice T x y,some t=>(match FT P T,st.ev x,st.ev y with
  |some (e,sz),.int _ n,.int _ n'=>(match tz P e with
   |some zs=>(if t<nt/\0<sz then some (⟨(t,.acc st.H.length)::st.σ,st.H++[.row (xI (Ty e)) e sz (List.replicate n.toNat (zs.map D.Bo))]⟩,A,[n'=n/\0<=n/\Ye P e*n.toNat<=281474976710656/\n.toNat<=4611686018427387904])else none)
   |none=>none)
  |_,_,_=>none)
 | .buildSlice T len parts,some t=>(match FT P T with
  |some (e,sz)=>(match tz P e with
   |some zs=>(match yC (sv len sz) (List.replicate len zs).flatten (parts.toList.map fun p=>(p.1,st.ev p.2))with
    |some ds=>(match I5 st.H ds with
     |some (es,ms)=>(if t<nt/\0<sz/\len*sz<=16777216/\ms.Nodup then some (⟨(t,.acc st.H.length)::st.σ,kill st.H ms++[.row (xI (V9 st.H e 0 ds)) e sz (chunk sz len es)]⟩,A,[])else none)
     |none=>none)
    |none=>none)
   |none=>none)
  |none=>none)
 | .call c,some t=>(match c.callee,c.args.toList,c.argTypes.toList with
  | .builtin .append,[s,x],[T,T']=>(match FT P T with
   |some (e,sz)=>(match tz P e,apS st.H (st.ev s) e sz,apX st.H (st.ev x) e sz A with
    |some _,some (rows,u1,k1),some (dG,u2,k2,A,ow)=>(if t<nt/\0<sz/\T'=T/\(k1++k2).Nodup then
     some (⟨(t,.acc st.H.length)::st.σ,kill st.H (k1++k2)++[.row (xI ((u1&&u2)&&UN e sz)) e sz (rows++dG)]⟩,A,(rows.length+dG.length<=maxLen/\(rows.length+dG.length)*Ye P e<=140737488355328)::ow)else none)
    |_,_,_=>none)
   |none=>none)
  | .builtin .len,[x],[T]=>(match ML st (st.ev x)with
   |some (_,_,rows,_)=>(if t<nt/\(FT P T).isSome=true then some (⟨(t,.int .i64 rows.length)::st.σ,st.H⟩,A,[])else none)
   |none=>(if t<nt then match GS P st o.op A with|some (d,A,ow)=>some (⟨(t,d)::st.σ,st.H⟩,A,ow)|none=>none else none))
  | .value (.func f),xs,_=>(match GU st.H (xs.map st.ev),A with
   |_,.gv ms outs d::A=>(match MK st.H ms with
    |some ins=>(if t<nt/\ms.Nodup/\((xs.map st.ev).all D.bare)=true then
     (match SB (PC st.H ms outs) A with
     |some (H',A',ow)=>some (⟨(t,d)::st.σ,H'⟩,A',a11 P f ((xs.map st.ev).map (D.Tl ms)) ins outs d::ow)
     |none=>none)else none)
    |none=>none)
   |_,.gp nz cells' d::A=>(match xs with
    |x0::xr=>(match st.ev x0 with
     | .ptr id 0=>(match st.H[id]? with
      |some ob=>(match ob.TB with
       |some Js=>(match AD st.H nz (.agg Js::xr.map st.ev)with
        |some (.agg cells::ds,ms,qs)=>(if t<nt/\ms.Nodup/\qs.Nodup then
         some (⟨(t,(oV (st.H.length+(nh st.H.length cells').2.length) d).1)::st.σ,(kill st.H (ms++qs)).set id (ob.re (nh st.H.length cells').1)++((nh st.H.length cells').2++(oV (st.H.length+(nh st.H.length cells').2.length) d).2)⟩,A,[hY P f cells cells' ds d])else none)
        |_=>none)
       |none=>none)
      |none=>none)
     |_=>none)
    | []=>none)
   |some (ds,ms),.dn cells::A=>(if t<nt/\ms=[]then some (⟨(t,.ptr st.H.length 0)::st.σ,st.H++[.box cells]⟩,A,[I4 P f ds cells])else none)
   |some (ds,_),.dc d::A=>(if t<nt/\d.MY=true then some (⟨(t,(oV st.H.length d).1)::st.σ,st.H++(oV st.H.length d).2.map Ob.close⟩,A,[Good P f ds d])else none)
   |_,.ov id dO::A=>(match st.H[id]? with
    |some (.row .uq e sz rows)=>(if t<nt/\((xs.map st.ev).all D.bare)=true/\Ty e=true then some (⟨(t,.acc st.H.length)::st.σ,kill st.H [id]++[.row .uq e sz dO]⟩,A,[rows.flatten.all D.flat=true,GY P f ((xs.map st.ev).map (D.Tl [id])) e sz rows dO])else none)
    |_=>none)
   |_,.mu id dO::A=>(match xs,st.H[id]? with
    | [x],some (.row k e sz rows)=>(match st.ev x with
     | .acc id'=>(if t<nt/\id'=id/\k.hand=true/\Ty e=true then some (⟨(t,.gL [])::st.σ,st.H.set id (.row k e sz dO)⟩,A,[rows.flatten.all D.flat=true,Pn P f e sz rows dO])else none)
     |_=>none)
    |_,_=>none)
   |some (ds,ms),.d d::A=>(if t<nt/\(ms=[]\/d.MY=true)then some (⟨(t,(oV st.H.length d).1)::st.σ,st.H++(oV st.H.length d).2⟩,A,[Good P f ds d])else none)
   |_,.nl d::A=>(if t<nt/\(xs.map st.ev).all Kk=true then some (⟨(t,(oV st.H.length d).1)::st.σ,st.H++(oV st.H.length d).2⟩,A,[Good P f (xs.map st.ev) d])else none)
   |_,.gf nz d::A=>(match AD st.H nz (xs.map st.ev)with
    |some (ds,ms,qs)=>(if t<nt/\ms.Nodup/\qs.Nodup then some (⟨(t,(oV st.H.length d).1)::st.σ,kill st.H (ms++qs)++(oV st.H.length d).2⟩,A,[I3 P f ds d])else none)
    |none=>none)
   |_,_=>none)
  |_,_,_=>(if t<nt then match GS P st o.op A with|some (d,A,ow)=>some (⟨(t,d)::st.σ,st.H⟩,A,ow)|none=>none else none))
 | .convert s d x,some t=>(match st.ev x with
  | .acc id=>(match st.H[id]?,FT P s with
   |some (.row _ _ _ rows),some (e,sz)=>(match bytesOf rows with
    |some bs=>(if t<nt/\sz=1/\SZ P e=some .u8/\KW P d=true then some (⟨(t,.str bs)::st.σ,st.H⟩,A,[])else none)
    |none=>none)
   |_,_=>none)
  |_=>(if t<nt then match GS P st o.op A with|some (d,A,ow)=>some (⟨(t,d)::st.σ,st.H⟩,A,ow)|none=>none else none))
 | .assign x,some t=>(match a6M A t with
  |some A=>(match st.ev x,FT P o.type with
   | .nil,some (e,sz)=>(if t<nt/\0<sz then some (⟨(t,.acc st.H.length)::st.σ,st.H++[.row .uq e sz []]⟩,A,[])else none)
   |_,_=>none)
  |none=>(if t<nt then some (⟨(t,st.ev x)::st.σ,st.H⟩,A,[])else none))
 | .slice T x none (some hi) none,some t=>(match st.ev x with
  | .acc id=>(match st.H[id]?,FT P T,st.ev hi,A with
   |some (.row .uq e sz rows),some (_,sz'),.int _ n,.cut 0 h::A=>(if t<nt/\sz'=sz then some (⟨(t,.acc st.H.length)::st.σ,kill st.H [id]++[.row .uq e sz (rows.take h)]⟩,A,[n=((h:Nat):Int)/\h<=rows.length])else none)
   |_,_,_,_=>none)
  |_=>(if t<nt then match GS P st o.op A with|some (d,A,ow)=>some (⟨(t,d)::st.σ,st.H⟩,A,ow)|none=>none else none))
 | .slice T (.tmp s) (some lo) none none,some t=>(match A,lk st.σ s with
  | .fz::A,.acc id=>(match st.H[id]? with
   |some (.row k e sz rows)=>(if t<nt/\k.P8=true then match GS P ⟨(s,.sl rows)::st.σ,st.H.set id .gone⟩ o.op A with|some (d,A,ow)=>some (⟨(t,d)::(s,.sl rows)::st.σ,st.H.set id .gone⟩,A,ow)|none=>none else none)
   |_=>none)
  |_,_=>(if t<nt then match GS P st o.op A with|some (d,A,ow)=>some (⟨(t,d)::st.σ,st.H⟩,A,ow)|none=>none else none))
 | .indexAddr T x i,some t=>(match ML st (st.ev x)with
  |some (id,sz,rows,_)=>(match FT P T,st.ev i,A with
   |some (_,sz'),.int _ n,.ix m::A=>(if t<nt/\sz'=sz then some (⟨(t,.op id m sz 0)::st.σ,st.H⟩,A,[n=(m:Int)/\m<rows.length])else none)
   |_,_,_=>none)
  |none=>(if t<nt then match GS P st o.op A with|some (d,A,ow)=>some (⟨(t,d)::st.σ,st.H⟩,A,ow)|none=>none else none))
 | .load T x,some t=>(match Oy st (st.ev x)with
  |some (id,i,off,sz,rows,u)=>(match AG P T,A with
   |some false,.row r::A=>(match r[off]? with
    |some (.sl dG)=>(match FT P T with
     |some (_,FR)=>(if t<nt then some (⟨(t,.acc st.H.length)::st.σ,st.H.set id (.hole sz (rows.set i (r.set off .any)) u (i*sz+off) st.H.length)++[.vq FR dG none]⟩,A,[rows[i]?=some r,∀q∈dG,q.length=FR])else none)
     |none=>none)
    |some d=>(if t<nt/\d.flat=true then some (⟨(t,d)::st.σ,st.H⟩,A,[rows[i]?=some r])else none)
    |none=>none)
   |_,_=>none)
  |none=>(match A,st.ev x with
   | .tk r::A,.op id i sz 0=>(match st.H[id]? with
    |some (.row (.mv n) e sz' rows)=>(if t<nt/\sz'=sz/\AG P T=some true/\zM P T=sz then
     some (⟨(t,.agg (u9 st.H.length r).1)::st.σ,st.H.set id (.row (.mv (n+1)) e sz rows)++(u9 st.H.length r).2⟩,A,[i=n/\rows[n]?=some r/\PX r=true])else none)
    |_=>none)
   |A,_=>(if t<nt then match GS P st o.op A with|some (d,A,ow)=>some (⟨(t,d)::st.σ,st.H⟩,A,ow)|none=>none else none)))
 |op,some t=>(if t<nt then match GS P st op A with|some (d,A,ow)=>some (⟨(t,d)::st.σ,st.H⟩,A,ow)|none=>none else none)
 |_,none=>none
section
variable{P:Program}{Γ:uB}{Q:Exit->St->Prop}{st:St}{all:Array Oper}{rest:List Oper}
theorem dl.XZ{κ:Nat->Option Value}{Θ:Nat->Nat}{a:Act}{w:World}(hs:dl Γ st κ Θ a w)(e sz:Nat)(hsz:0<sz):dl Γ ⟨st.σ,st.H++[.row .uq e sz []]⟩ (xN κ st.H.length (some (.slice none 0 0))) Θ a w:=by
 obtain⟨ρ,hu⟩:=hs.rV;refine hs.put [] AB (wW (hs.pH _ (bO _)) _) ?_ ?_ (iJ.refl hs.own (by omega)) hs.mine ?_ hu (by simp) ?_
 ·intro i hi;simp only[av,aP,bS]at hi;unfold xN;rw[b9 (by omega)];exact hs.pH i (by omega)
 ·intro i x hx;unfold xN at hx;split at hx
  ·cases hx;rfl
  ·exact hs.oN i x hx
 ·exact⟨hsz,by simp,_,[],[],jN _ _ _,World.ownsRow_nil w 0 e sz,.nil,by simp[Value.ownBlock],by simp⟩
 ·intro e' sz' dO he;simp only[Ob.row.injEq,qz]at he;obtain⟨rfl,rfl,rfl⟩:=he;exact⟨_,[],[],jN _ _ _,World.ownsRow_nil w 0 e sz,.nil _,by simp,by simp⟩
theorem a2I{o:Oper}{x:Operand}{t e sz:Nat}(hop:o.op=.assign x)(hd:o.dst=some t)(hg:o.guard=none)(ht:t<Γ.nt)(hx:st.ev x=.nil)(hsz:0<sz)
 (h:AO P Γ all rest Q ⟨(t,.acc st.H.length)::st.σ,st.H++[.row .uq e sz []]⟩):AO P Γ all (o::rest) Q st:=by
 intro κ Θ a w hs;obtain⟨bs,r,_⟩:=hs.ev x;rw[hx]at r;have hv:=r.JI;have hp:pv P st o.op=some .nil:=by rw[hop];simp[pv,hx]
 obtain⟨v,b2,hrun,hrd,hz⟩:=F2 hs hp;have Mp:=hrd.JI;subst Mp;refine wpList_plain hg fun K hK=>?_
 unfold Oper.wp;rw[hrun,Oper.upon_value,hd];refine hK _ _ (h _ _ _ _ ((hs.XZ e sz hsz).set (t:=t) (d:=.acc st.H.length) (bs:=[]) ht ?_ (by simp)));exact(yb.acc st.H.length _ (jN _ _ _)).O0
theorem fK.a4C{κ:Nat->Option Value}{w:World}{n:Nat}(hk:κ n=some (.slice none 0 0)):∀ {vs:bY} {ds:aL} {bs:aW},fK w κ vs ds bs->∀ {off:Nat},ds[off]?=some .nil->∃bs',fK w κ vs (ds.set off (.acc n)) bs'/\∀b∈bs',b∈bs:=by
 intro vs ds bs h
 induction h with
 |nil=>intro off h;simp at h
 |cons v vs d ds b1 b2 h1 h2 h3 ih=>
  intro off h;cases off with
  |zero=>
   simp only[BA,ah]at h;subst h;have hv:v=.slice none 0 0:=by
    cases h2 with
    |pure h2=>cases h2;rfl
   subst hv;exact⟨[]++b2,.cons _ _ _ _ _ _ h1 (.acc n _ hk) h3,fun b hb=>by simp at hb;simp[hb]⟩
  |succ off=>
   obtain⟨bs',q1,q2⟩:=ih (off:=off) (by simpa using h);exact⟨b1++bs',.cons _ _ _ _ _ _ h1 h2 q1,fun b hb=>by
    rcases aR.1 hb with hb|hb
    ·exact aR.2 (.inl hb)
    ·exact aR.2 (.inr (q2 b hb))⟩
def St.prom(st:St)(id off e sz:Nat):Option St:=match st.H[id]? with
 |some (.box cells)=>(match cells[off]? with
  |some .nil=>(if 0<sz then some ⟨st.σ,(st.H++[Ob.row .uq e sz []]).set id (Ob.box (cells.set off (.acc st.H.length)))⟩else none)
  |_=>none)
 |_=>none
theorem dl.prom{κ:Nat->Option Value}{Θ:Nat->Nat}{a:Act}{w:World}{v7:St}{id off e sz:Nat}(hs:dl Γ st κ Θ a w)(h:st.prom id off e sz=some v7):∃κ',dl Γ v7 κ' Θ a w:=by
 unfold St.prom at h;split at h
 ·rename_i cells hH;split at h
  ·rename_i hc;split at h
   ·rename_i hsz;cases h;have hlt:id<st.H.length:=(aF.1 hH).1;have hs1:=hs.XZ e sz hsz;refine⟨_,hs1.defers,hs1.size,fun i hi=>hs1.pH i (by simpa using hi),hs1.oN,hs1.slot,?_,hs1.own,hs1.old,hs1.mine,hs1.stays,?_⟩
    ·intro j y hj;simp only[gI]at hj;split at hj
     ·rename_i e1;subst e1;split at hj
      ·cases hj;obtain⟨g,cs,T,q1,q2,q3,bs,q4,q5⟩:=hs1.ob id (.box cells) (by simpa[ar hlt]using hH);obtain⟨bs',p1,p2⟩:=fK.a4C (n:=st.H.length) (jN _ _ _) q4 hc;exact⟨g,cs,T,q1,q2,q3,bs',p1,fun b hb=>q5 b (p2 b hb)⟩
      ·cases hj
     ·exact hs1.ob j y hj
    ·obtain⟨ρ,hu⟩:=hs1.rV;refine⟨ρ,hu.free,fun i e' sz' rows hi=>hu.rows i e' sz' rows ?_,fun i o hi=>?_⟩
     ·simp only[gI]at hi;split at hi
      ·split at hi<;>cases hi
      ·exact hi
     ·simp only[gI]at hi;split at hi
      ·split at hi
       ·cases hi;trivial
       ·cases hi
      ·exact hu.more i o hi
   ·cases h
  ·cases h
 ·cases h
theorem dl.a6t{κ:Nat->Option Value}{Θ:Nat->Nat}{a:Act}{w:World}{id e sz:Nat}{rows:List aL}(hs:dl Γ st κ Θ a w)(hH:st.H[id]?=some (.row .uq e sz rows)):dl Γ ⟨st.σ,st.H.set id (.row .sh e sz rows)⟩ κ Θ a w:=by
 have hlt:id<st.H.length:=(aF.1 hH).1;refine⟨hs.defers,hs.size,fun i hi=>hs.pH i (by simpa using hi),hs.oN,hs.slot,?_,hs.own,hs.old,hs.mine,hs.stays,?_⟩
 ·intro j y hj;simp only[gI,hlt,pT]at hj;split at hj
  ·rename_i e1;subst e1;cases hj;exact(show wA w κ Θ id (.row .uq e sz rows)from hs.ob id _ hH)
  ·exact hs.ob j y hj
 ·obtain⟨ρ,hu⟩:=hs.rV;refine⟨ρ,hu.free,fun i e' sz' dO hi=>hu.rows i e' sz' dO ?_,fun i o hi=>?_⟩
  ·simp only[gI,hlt,pT]at hi;split at hi
   ·cases hi
   ·exact hi
  ·simp only[gI,hlt,pT]at hi;split at hi
   ·cases hi;trivial
   ·exact hu.more i o hi
theorem dl.mvz{κ:Nat->Option Value}{Θ:Nat->Nat}{a:Act}{w:World}{id e sz:Nat}{rows:List aL}(hs:dl Γ st κ Θ a w)(hH:st.H[id]?=some (.row .uq e sz rows)):dl Γ ⟨st.σ,st.H.set id (.row (.mv 0) e sz rows)⟩ κ Θ a w:=by
 have hlt:id<st.H.length:=(aF.1 hH).1;refine⟨hs.defers,hs.size,fun i hi=>hs.pH i (by simpa using hi),hs.oN,hs.slot,?_,hs.own,hs.old,hs.mine,hs.stays,?_⟩
 ·intro j y hj;simp only[gI,hlt,pT]at hj;split at hj
  ·rename_i e1;subst e1;cases hj;exact(show wA w κ Θ id (.row .uq e sz rows)from hs.ob id _ hH)
  ·exact hs.ob j y hj
 ·obtain⟨ρ,hu⟩:=hs.rV;refine⟨ρ,hu.free,fun i e' sz' dO hi=>hu.rows i e' sz' dO ?_,fun i o hi=>?_⟩
  ·simp only[gI,hlt,pT]at hi;split at hi
   ·cases hi
   ·exact hi
  ·simp only[gI,hlt,pT]at hi;split at hi
   ·rename_i e1;subst e1;cases hi;obtain⟨v,cs,bs,q1,q2,q3,q4,q5⟩:=hu.rows id e sz rows hH;exact⟨v,cs,bs,q1,q2,by simpa using q3.rd,q4,q5⟩
   ·exact hu.more i o hi
def shares:List An->St->St×List An
 | .sk id::A,st=>(match st.H[id]? with
  |some (.row .uq e sz rows)=>shares A ⟨st.σ,st.H.set id (.row .sh e sz rows)⟩
  |_=>(st,.sk id::A))
 | .mz id::A,st=>(match st.H[id]? with
  |some (.row .uq e sz rows)=>shares A ⟨st.σ,st.H.set id (.row (.mv 0) e sz rows)⟩
  |_=>(st,.mz id::A))
 |A,st=>(st,A)
theorem dl.shares{κ:Nat->Option Value}{Θ:Nat->Nat}{a:Act}{w:World}:∀ {A A1:List An} {st yE:St},dl Γ st κ Θ a w->shares A st=(yE,A1)->dl Γ yE κ Θ a w:=by
 intro A
 induction A with
 |nil=>intro A1 st yE hs h;simp only[Cx.shares,cX]at h;obtain⟨rfl,_⟩:=h;exact hs
 |cons x A ih=>
  intro A1 st yE hs h;cases x
  case sk id=>
   simp only[Cx.shares]at h;split at h
   ·rename_i e sz rows hH;exact ih (hs.a6t hH) h
   ·simp only[cX]at h;obtain⟨rfl,_⟩:=h;exact hs
  case mz id=>
   simp only[Cx.shares]at h;split at h
   ·rename_i e sz rows hH;exact ih (hs.mvz hH) h
   ·simp only[cX]at h;obtain⟨rfl,_⟩:=h;exact hs
  all_goals(simp only[Cx.shares,cX]at h;obtain⟨rfl,_⟩:=h;exact hs)
theorem ZF{o:Oper}{s d:TypeId}{x:Operand}{t id e e' sz':Nat}{k:RK}{rows:List aL}{bs:Bytes}(hop:o.op=.convert s d x)(hd:o.dst=some t)(hg:o.guard=none)(ht:t<Γ.nt)(hx:st.ev x=.acc id)
 (hH:st.H[id]?=some (.row k e' sz' rows)) (hT:FT P s=some (e,1)) (he:SZ P e=some .u8) (hs':KW P d=true) (hb:bytesOf rows=some bs) (h:AO P Γ all rest Q ⟨(t,.str bs)::st.σ,st.H⟩):AO P Γ all (o::rest) Q st:=by
 intro κ Θ a w hs;obtain⟨b0,r,_⟩:=hs.ev x;rw[hx]at r;obtain⟨hk,_⟩:=r.vA;obtain⟨hsz,hrl,v,cs,b1,hk2,hown,rU,_,_⟩:=hs.ob id _ hH;rw[hk]at hk2;cases hk2;obtain⟨xs,rfl,rfl⟩:=Q6 hb;obtain⟨hu,_,_⟩:=pK hT;have hue:P.underlying e=some (.int .u8):=by
  unfold SZ at he;split at he
  ·rename_i k' hk';cases he;exact hk'
  ·cases he
 have hud:=xL hs';have hfl:(xs.map (fun n=>[D.int .u8 n])).flatten=xs.map (fun n=>D.int .u8 n):=M3 xs;rw[hfl]at rU;have hcs:∀(xs:bC) (cs:bY) (b:aW),mm w cs (xs.map (fun n=>D.int .u8 n)) b->cs=xs.map (Value.int .u8):=by
  intro xs
  induction xs with
  |nil=>intro cs b h;cases h;rfl
  |cons n xs ih=>
   intro cs b h;cases h with
   |cons v vs _ _ b1 b2 _ h2 h3=>
    cases h2;rw[ih _ _ h3];rfl
 have hce:=hcs xs cs b1 rU;have hlen:xs.length<=maxLen:=by
  rcases hown.2 with⟨_,hn⟩|⟨g,cap,cur,_,_,_,hnc,hcm,_⟩
  ·simp at hn;rw[hn];simp
  ·simp at hnc;omega
 have hrun:(convert s d (a.eval x)).run P w=.ok (.string (strOfNums xs)) w:=by
  rcases hown.2 with⟨hv,hn⟩|⟨g,cap,cur,hv,_,hg,hnc,hcm,_,_⟩
  ·have hx0:xs=[]:=by simpa using hn
   subst hx0;rw[hv,run_convert_bytes_nil w s e hu hue 0 0 d hud];rfl
  ·rw[hv];have hcell:=hown.cells (g:=g) (by rw[hv];simp[Value.ownBlock]);refine run_convert_bytes_arg w s e hu hue g 0 _ cap xs (by simp) (fun i hi=>?_) d hud;have hi':i<xs.length:=by simpa using hi
   have:=hcell i (.int .u8 (xs.getD i 0)) (by rw[hce];simp[List.getD,af hi']);simpa[Addr.add_lit]using this
 refine wpList_plain hg fun K hK=>?_
 unfold Oper.wp;have QU:(execOp a.eval o).run P w=.ok (.value (.string (strOfNums xs))) w:=by
  simp only[execOp,hop];simp[hrun]
 rw[QU,Oper.upon_value,hd];refine hK _ _ (h _ _ _ _ (hs.set (t:=t) (bs:=[]) ht ?_ (by simp)));have hsl:(strOfNums xs).data.toList=xs.map (fun n=>UInt8.ofNat n.toNat):=by simp[strOfNums]
 have hss:(strOfNums xs).size<=maxLen:=by
  have:(strOfNums xs).size=xs.length:=by
   have:=congrArg List.length hsl;simpa using this
  omega
 have:=Rd.str (w:=w) (strOfNums xs) hss;rw[hsl]at this;exact .of this
theorem a2E{o:Oper}{t:Nat}{s x:Operand}{T e sz:Nat}{zs:aL}{rows dG:List aL}{u1 u2:Bool}{k1 k2:aW}{A A':List An}{ow:Cl}
 (hop:o.op=.call {callee:=.builtin .append,args:= #[s,x],argTypes:= #[T,T]}) (hd:o.dst=some t) (hg:o.guard=none) (ht:t<Γ.nt) (hT:FT P T=some (e,sz)) (hz:tz P e=some zs) (hsz:0<sz)
 (hS:apS st.H (st.ev s) e sz=some (rows,u1,k1)) (hX:apX st.H (st.ev x) e sz A=some (dG,u2,k2,A',ow)) (how:yJ ow) (hnd:(k1++k2).Nodup)
 (h63:rows.length+dG.length<=maxLen) (hby:(rows.length+dG.length)*Ye P e<=140737488355328)
 (h:AO P Γ all rest Q ⟨(t,.acc st.H.length)::st.σ,kill st.H (k1++k2)++[.row (xI ((u1&&u2)&&UN e sz)) e sz (rows++dG)]⟩):AO P Γ all (o::rest) Q st:=by
 refine U3 hop hd hg ht hT hz hsz h63 hby ?_ h;intro κ Θ a w ρ hs hu;have one:∃i1 b1 c1,Vl w Θ ρ e sz (a.eval s) rows u1 i1 b1 c1/\((k1=[]/\i1=st.H.length)\/k1=[i1]):=by
  obtain⟨bs,r,_⟩:=hs.ev s;unfold apS at hS;split at hS
  ·rename_i Gf;cases hS;rw[Gf]at r;have:=r.JI;rw[this];exact⟨st.H.length,[],[],Vs,.inl ⟨rfl,rfl⟩⟩
  ·rename_i m Gf;rw[Gf]at r;obtain⟨hk,_⟩:=r.vA;split at hS
   ·rename_i k e' sz' dO hH;split at hS
    ·cases hS
    ·split at hS
     ·rename_i hc;obtain⟨rfl,rfl⟩:=hc;cases hS;obtain⟨b1,c1,hA⟩:=I7 hs hu hk hH rfl;exact⟨m,b1,c1,hA,.inr rfl⟩
     ·cases hS
    ·split at hS
     ·rename_i hc;obtain⟨rfl,rfl⟩:=hc;cases hS;obtain⟨b1,c1,hA⟩:=I7 hs hu hk hH rfl;exact⟨m,b1,c1,hA,.inr rfl⟩
     ·cases hS
    ·cases hS
    ·cases hS
   ·cases hS
  ·cases hS
 have two:∃i2 b2 c2,OF w Θ ρ e sz (a.eval x) dG u2 i2 b2 c2/\(u2=true->b2=[]\/i2∈k2):=by
  obtain⟨bs,r,hz⟩:=hs.ev x;unfold apX at hX;split at hX
  ·rename_i A1 Gf;cases hX;rw[Gf]at r;have:=r.JI;rw[this];exact⟨0,[],[],Vt,fun _=>.inl rfl⟩
  ·rename_i A1 m Gf;rw[Gf]at r;obtain⟨hk,_⟩:=r.vA;split at hX
   ·rename_i k e' sz' dO hH;split at hX
    ·cases hX
    ·split at hX
     ·rename_i hc;obtain⟨rfl,rfl⟩:=hc;cases hX;obtain⟨b1,c1,hA⟩:=Pw hs hu hk hH rfl;exact⟨m,b1,c1,hA,fun _=>.inr (by simp)⟩
     ·cases hX
    ·split at hX
     ·rename_i hc;subst hc;cases hX;obtain⟨b1,c1,hA⟩:=Pw hs hu hk hH rfl;exact⟨m,b1,c1,hA.sh,fun _=>.inr (by simp)⟩
     ·cases hX
    ·cases hX
    ·cases hX
   ·cases hX
  ·rename_i dO f A1 Gf;cases hX;rw[Gf]at r;obtain⟨⟨q1,q2⟩,_⟩:=how;obtain⟨b2,c2,hA,hb⟩:=ZS (ρ:=ρ) r.PU hz q1 0 (f&&Ty e) (fun hh=>q2 (by simp only[aV]at hh;exact hh.1)) e (fun hh=>Bp (by simp only[aV]at hh;exact hh.2));exact⟨0,b2,c2,hA,fun e=>.inl (hb e)⟩
  ·cases hX
 obtain⟨i1,b1,c1,hA,hk1⟩:=one;obtain⟨i2,b2,c2,hB,hk2⟩:=two;refine⟨u1,u2,i1,i2,b1,b2,c1,c2,hA,hB,?_,fun vo=>?_⟩
 ·rcases hk1 with⟨_,h⟩|h
  ·exact .inr h
  ·exact .inl (by simp[h])
 ·rw[aV]at vo;obtain⟨vo,Rl⟩:=vo;simp only[aV]at vo;refine⟨vo.1,vo.2,?_,Rl⟩;rcases hk2 vo.2 with h|hmem
  ·exact .inl h
  ·refine .inr ⟨by simp[hmem],fun e=>?_⟩;rcases hk1 with⟨h1,h2⟩|h1
   ·
    have hlt:i2<st.H.length:=by
     unfold apX at hX;split at hX
     ·cases hX;cases hmem
     ·rename_i A1 m Gf;split at hX
      ·rename_i k e' sz' dO hH;have:=(aF.1 hH).1;split at hX
       ·cases hX
       ·split at hX
        ·cases hX;simp at hmem;omega
        ·cases hX
       ·split at hX
        ·cases hX;simp at hmem;omega
        ·cases hX
       ·cases hX
       ·cases hX
      ·cases hX
     ·cases hX;cases hmem
     ·cases hX
    omega
   ·subst e;have:=(bH.1 hnd).2.2 i1 (by simp[h1]) i1 hmem;exact this rfl
theorem Yd{κ:Nat->Option Value}{w:World}:∀ {ds:aL} {n:Nat} {vs:bY} {bs:aW},mm w vs ds bs->(∀d∈ds,d.flat=true\/∃rows,d=.sl rows)->bs.Nodup->
 ∃(us:bY) (L:List aW),us.length=(u9 n ds).2.length/\L.length=us.length/\L.flatten=bs/\
  (∀(j:Nat) o,(u9 n ds).2[j]?=some o->∃rows u b,o=.tk rows/\us[j]?=some u/\u.oneCell'=true/\L[j]?=some b/\Rd w u (.sl rows) b)/\
  (∀κ':Nat->Option Value,(∀(j:Nat) u,us[j]?=some u->κ' (n+j)=some u)->fK w κ' vs (u9 n ds).1 []):=by
 intro ds
 induction ds with
 |nil=>intro n vs bs h _ _;cases h;exact⟨[],[],rfl,rfl,rfl,by simp[u9],fun _ _=>.nil⟩
 |cons d ds ih=>
  intro n vs bs h hd hnd;cases h with
  |cons v vs _ _ b1 b2 h1 h2 h3=>
   obtain⟨n1,n2,n3⟩:=bH.1 hnd;rcases hd d (by simp)with hf|⟨rows,rfl⟩
   ·have hb:=h2.flat hf;subst hb;obtain⟨us,L,q1,q2,q3,q4,q5⟩:=ih (n:=n) h3 (fun x hx=>hd x (by simp[hx])) n2;have e:u9 n (d::ds)=(d::(u9 n ds).1,(u9 n ds).2):=by cases d<;>first|rfl| (simp[D.flat]at hf)
    rw[e];exact⟨us,L,q1,q2,q3,q4,fun κ' hk=>by simpa using fK.cons v vs d _ [] [] h1 (.pure h2) (q5 κ' hk)⟩
   ·obtain⟨us,L,q1,q2,q3,q4,q5⟩:=ih (n:=n+1) h3 (fun x hx=>hd x (by simp[hx])) n2;refine⟨v::us,b1::L,by simp[u9,q1],by simp[q2],by simp[q3],fun j o hj=>?_,fun κ' hk=>?_⟩
    ·cases j with
     |zero=>simp[u9]at hj;subst hj;exact⟨rows,v,b1,rfl,rfl,h1,rfl,h2⟩
     |succ j=>
      obtain⟨dO,u,b,r1,r2,r3,r4,r5⟩:=q4 j o (by simpa[u9]using hj);exact⟨dO,u,b,r1,by simpa using r2,r3,by simpa using r4,r5⟩
    ·have:=fK.cons v vs (.acc n) _ [] [] h1 (.acc n v (by have:=hk 0 v rfl;simpa using this)) (q5 κ' (fun j u hj=>by have:=hk (j+1) u (by simpa using hj);rw[<-this];congr 1;omega));simpa[u9]using this
theorem SX{r:aL}(h:PX r=true):∀d∈r,d.flat=true\/∃rows,d=.sl rows:=by
 intro d hd;have:=aq.1 h d hd;cases d<;>first|exact .inr ⟨_,rfl⟩|exact .inl this
theorem ZI{o:Oper}{T id i sz e t:Nat}{x:Operand}{rows:List aL}{r:aL}(hop:o.op=.load T x)(hd:o.dst=some t)(hg:o.guard=none)(ht:t<Γ.nt)
 (hx:st.ev x=.op id i sz 0) (hH:st.H[id]?=some (.row (.mv i) e sz rows)) (hrow:rows[i]?=some r) (hT:AG P T=some true) (hsz:zM P T=sz) (hok:PX r=true)
 (h:AO P Γ all rest Q ⟨(t,.agg (u9 st.H.length r).1)::st.σ,st.H.set id (.row (.mv (i+1)) e sz rows)++(u9 st.H.length r).2⟩):AO P Γ all (o::rest) Q st:=by
 intro κ Θ a w hs;obtain⟨b1,r1,_⟩:=hs.ev x;rw[hx]at r1;obtain⟨g,o0,len,cap,hk,hv⟩:=r1.F1;obtain⟨ρ,hu⟩:=hs.rV;obtain⟨a2x,hrl,vk0,cs0,VL,a5a,a1G,a8o,hΘ,yH⟩:=hs.ob id _ hH;obtain⟨vk,cs,bs,TU,hown,rU,hnd,hρ⟩:=hu.more id _ hH;rw[hk]at TU a5a;cases TU;cases a5a;have VR:=zC hown;subst VR;rw[cW]at hv;have TT:r.length=sz:=hrl r (aE hrow);have hlt:i<rows.length:=(aF.1 hrow).1;have WU:rows.drop i=r::rows.drop (i+1):=by
  rw[uQ hlt]
  congr 1
  rw[af hlt]at hrow;exact oF hrow
 rw[WU,eT]at rU;obtain⟨v1,v2,c1,c2,LG,Dl,k1,k2⟩:=rU.split;have l1:v1.length=sz:=by rw[k1.length,TT]
 have hcells:∀j c,cs[j]?=some c->w.cell? ⟨g,0+j,none⟩=some c:=by
  intro j c hj;have:=hown.cells (g:=g) (by simp[Value.ownBlock]) j c hj;simpa[Addr.add_lit]using this
 have L0:=nj (P:=P) (w:=w) hT (o:=i*sz+0) hcells;simp only[cW,yu]at L0 hv;have hle:(i+1)*sz<=rows.length*sz:=dw _ hlt;rw[kP,nW]at hle;have WS:=hown.1;have hval:(cs.drop (i*sz)).take sz=v1:=by rw[LG];exact iz l1
 have hrun:(execOp a.eval o).run P w=.ok (.value (.agg v1.toArray)) w:=by
  simp only[execOp,hop,hv];have:=L0.1 trivial (by rw[hsz,WS];omega);rw[hsz,hval]at this;simp[this]
 refine wpList_plain hg fun K hK=>?_
 unfold Oper.wp;rw[hrun,Oper.upon_value,hd];rw[Dl]at hnd hρ;obtain⟨n1,n2,n3⟩:=bH.1 hnd;obtain⟨us,L,q1,q2,q3,q4,q5⟩:=Yd (κ:=κ) (n:=st.H.length) k1 (SX hok) n1;let N:=st.H.length
 let κ':Nat->Option Value:=fun j=>if j<N then κ j else us[j-N]?
 let ρ':Nat->Nat:=fun b=>match ix (fun x:aW=>x.contains b) L with|some j=>N+j+1|none=>ρ b
 have hn:∀(j:Nat) v,κ j=some v->κ' j=some v:=by
  intro j v hj;have:j<N:=by
   rcases eL j N with h|h
   ·exact h
   ·rw[hs.pH j h]at hj;cases hj
  simp only[κ'];rw[bN this];exact hj
 have hk':∀(j:Nat) u,us[j]?=some u->κ' (N+j)=some u:=fun j u hj=>by
  simp only[κ'];rw[b9 (by omega),dP];exact hj
 have a4z:L.flatten.Nodup:=by rw[q3];exact n1
 have a5d:∀(j:Nat) x b,L[j]?=some x->b∈x->ρ' b=N+j+1:=by
  intro j x b hj hb;have:ix (fun x:aW=>x.contains b) L=some j:=Es hj (by simpa using hb) (fun m y hm hy=>by
   have hy':b∈y:=by simpa using hy
   exact dQ fun hne=>by
    have key:∀(L:List aW),L.flatten.Nodup->∀(p q:Nat) x y,L[p]?=some x->L[q]?=some y->b∈x->b∈y->p=q:=by
     intro L
     induction L with
     |nil=>intro _ p q x y hp;simp at hp
     |cons z L ih=>
      intro hnd p q x y hp hq B7 hby;simp only[eT]at hnd;obtain⟨m1,m2,m3⟩:=bH.1 hnd;cases p with
      |zero=>
       cases q with
       |zero=>rfl
       |succ q=>
        simp at hp hq;subst hp;exact absurd rfl (m3 b B7 b (fF.2 ⟨y,aE hq,hby⟩))
      |succ p=>
       cases q with
       |zero=>
        simp at hp hq;subst hq;exact absurd rfl (m3 b hby b (fF.2 ⟨x,aE hp,B7⟩))
       |succ q=>simp at hp hq;rw[ih m2 p q x y hp hq B7 hby]
    exact hne (key L a4z m j y x hm hj hy' hb))
  simp only[ρ',this]
 have Oj:∀b,b∉c1->ρ' b=ρ b:=by
  intro b hb;simp only[ρ'];cases hi:ix (fun x:aW=>x.contains b) L with
  |none=>rfl
  |some j=>
   obtain⟨x,hx',hp⟩:=zA hi;exact absurd (by rw[<-q3];exact fF.2 ⟨x,aE hx',by simpa using hp⟩) hb
 have aBG:id<N:=(aF.1 hH).1;have key:∀(j:Nat) y,(st.H.set id (.row (.mv (i+1)) e sz rows)++(u9 st.H.length r).2)[j]?=some y->(j=id/\y=.row (.mv (i+1)) e sz rows)\/(j≠id/\j<N/\st.H[j]?=some y)\/∃m,j=N+m/\(u9 st.H.length r).2[m]?=some y:=by
  intro j y hj;by_cases hlt:j<N
  ·rw[ar (by simpa using hlt)]at hj;rcases wU j y hj with h|⟨h1,h2⟩
   ·exact .inl h
   ·exact .inr (.inl ⟨h1,hlt,h2⟩)
  ·rw[b8 (by simpa using hlt)]at hj;exact .inr (.inr ⟨j-N,by omega,by simpa using hj⟩)
 have kk:iJ w w Θ Θ (id+2):=iJ.refl hs.own (by omega);have sA:=hs.nk kk hn hu;have hone:∀(j:Nat) u,κ' j=some u->u.oneCell'=true:=by
  intro j u hj;simp only[κ']at hj;split at hj
  ·exact hs.oN j u hj
  ·have hjl:j-N<(u9 st.H.length r).2.length:=by rw[<-q1];exact(aF.1 hj).1
   obtain⟨_,u',_,_,r2,r3,_⟩:=q4 (j-N) _ (af hjl);rw[hj]at r2;cases r2;exact r3
 have NE:∀b∈c1,Θ b=0:=fun b hb=>(hu.free b (by rw[hρ b (by simp[hb])];omega)).1
 have hs':dl Γ ⟨st.σ,st.H.set id (.row (.mv (i+1)) e sz rows)++(u9 st.H.length r).2⟩ κ' Θ a w:=by
  refine hs.step kk hs.mine hn (fun j hj=>?_) hone (fun j y hj=>?_) ⟨ρ',fun b hb=>?_,fun j e2 FR dG hj=>?_,fun j y hj=>?_⟩
  ·simp only[av,eU]at hj;simp only[κ'];rw[b9 (by omega)];exact cN (by rw[q1];exact Nat.le_sub_of_add_le' hj)
  ·rcases key j y hj with⟨rfl,rfl⟩|⟨h1,h2,h3⟩|⟨m,rfl,hm⟩
   ·exact .inr (.inr ⟨a2x,hrl,_,cs0,VL,hn _ _ hk,a1G,a8o,hΘ,yH⟩)
   ·exact .inr (.inl ⟨by omega,h3⟩)
   ·obtain⟨dO,u,b,rfl,r2,r3,r4,r5⟩:=q4 m y hm;exact .inr (.inr ⟨u,b,hk' m u r2,r5,fun x hx'=>NE x (by rw[<-q3];exact fF.2 ⟨b,aE r4,hx'⟩)⟩)
  ·by_cases hb':b∈c1
   ·exact sA.1 b (by rw[hρ b (by simp[hb'])];omega)
   ·rw[Oj b hb']at hb;exact sA.1 b hb
  ·rcases key j _ hj with⟨_,h⟩|⟨h1,h2,h3⟩|⟨m,rfl,hm⟩
   ·cases h
   ·obtain⟨v',cs',bs',p1,p2,p3,p4,p5⟩:=sA.2.1 j e2 FR dG (by omega) h3;refine⟨v',cs',bs',p1,p2,p3,p4,fun b hb=>?_⟩;rw[Oj b (fun hb'=>by have:=hρ b (by simp[hb']);have:=p5 b hb;omega)];exact p5 b hb
   ·obtain⟨_,_,_,h,_⟩:=q4 m _ hm;cases h
  ·rcases key j _ hj with⟨rfl,rfl⟩|⟨h1,h2,h3⟩|⟨m,rfl,hm⟩
   ·refine⟨_,cs,c2,hn _ _ hk,hown,?_,n2,fun b hb=>?_⟩
    ·have e1:cs.drop ((i+1)*sz)=v2:=by
      rw[kP,nW,<-fp,LG];exact fm l1
     rw[e1];exact k2
    ·rw[Oj b (fun hb'=>n3 b hb' b hb rfl)];exact hρ b (by simp[hb])
   ·refine(sA.2.2 j y (by omega) h3).re fun b hb=>?_
    rw[Oj b (fun hb'=>by have:=hρ b (by simp[hb']);omega)];exact hb
   ·obtain⟨dO,u,b,rfl,r2,r3,r4,r5⟩:=q4 m y hm;have hsub:∀x∈b,ρ' x=N+m+1:=fun x hx'=>a5d m b x r4 hx'
    have a8B:b.Nodup:=by
     have XK:∀(L:List aW),L.flatten.Nodup->∀x∈L,x.Nodup:=by
      intro L
      induction L with
      |nil=>intro _ x hx';cases hx'
      |cons z L ih=>
       intro hnd x hx';simp only[eT]at hnd;obtain⟨m1,m2,_⟩:=bH.1 hnd;rcases bL.1 hx' with rfl|hx'
       ·exact m1
       ·exact ih m2 x hx'
     exact XK L a4z b (aE r4)
    exact⟨u,b,hk' m u r2,r5,a8B,hsub⟩
 refine hK _ _ (h κ' Θ _ w (hs'.set (t:=t) ht (.v (.agg v1 _ [] (q5 κ' hk'))) (by simp)))
theorem By{o:Oper}{t:Nat}{d:D}{A A':List An}{p:Cl}(hd:o.dst=some t)(hg:o.guard=none)(ht:t<Γ.nt)(hv:GS P st o.op A=some (d,A',p))(hp:yJ p)(h:AO P Γ all rest Q ⟨(t,d)::st.σ,st.H⟩):
 AO P Γ all (o::rest) Q st:=a10 hd hg ht (Tz hv hp) h
theorem U4{o:Oper}{s id e sz:Nat}{k:RK}{rows:List aL}(hx:lk st.σ s=.acc id)(hH:st.H[id]?=some (.row k e sz rows))(hk:k.P8=true)
 (h:AO P Γ all (o::rest) Q ⟨(s,.sl rows)::st.σ,st.H.set id .gone⟩):AO P Γ all (o::rest) Q st:=by
 intro κ Θ a w hs;obtain⟨ρ,hu⟩:=hs.rV;obtain⟨Θ',ρ',hs',_,⟨v,bs,hkm,hrd,hz,_⟩,_⟩:=hs.a3W hu hH hk;obtain⟨bx,rx,_⟩:=hs.slot s;rw[hx]at rx;obtain⟨hkx,_⟩:=rx.vA;have hv:a.tmps.getD s undef=v:=by rw[hkm]at hkx;cases hkx;rfl
 refine h κ Θ' a w ⟨hs'.defers,hs'.size,hs'.pH,hs'.oN,fun u=>?_,hs'.ob,hs'.own,hs'.old,hs'.mine,hs'.stays,hs'.rV⟩;show∃bs,rW w κ (a.tmps.getD u undef) (if u=s then .sl rows else lk st.σ u) bs/\_;by_cases sA:u=s
 ·subst sA;rw[bN rfl,hv];exact⟨bs,.of hrd,hz⟩
 ·rw[b9 sA];exact hs'.slot u
theorem qC(c:Call){callee:Callee}{xs:List Operand}{ts:List TypeId}(h1:c.callee=callee)(h2:c.args.toList=xs)(h3:c.argTypes.toList=ts):c= {callee:=callee,args:=xs.toArray,argTypes:=ts.toArray}:=by
 cases c;simp only at h1 h2 h3;subst h1;subst h2;subst h3;simp
theorem P3{H H':bQ}{A A':List An}{p:Cl}{σ:List (Nat×D)}(h:SB H A=some (H',A',p))(hp:yJ p)(hn:AO P Γ all rest Q ⟨σ,H'⟩):AO P Γ all rest Q ⟨σ,H⟩:=by
 unfold SB at h;split at h
 ·split at h
  ·rename_i sz rows u p' n hH;split at h
   ·rename_i FR dG u2 d hN hc;cases h;have he:=hp.2.1;subst he;exact Vh (st:=⟨σ,H⟩) hH hN hp.1 hc hn
   ·cases h
  ·cases h
 ·cases h;exact hn
theorem OE{o:Oper}{A A':List An}{v7:St}{p:Cl}{nt:Nat}(hnt:Γ.nt=nt)(hg:o.guard=none)(h:Gn P nt o st A=some (v7,A',p))(hp:yJ p)(hn:AO P Γ all rest Q v7):AO P Γ all (o::rest) Q st:=by
 subst hnt;unfold Gn at h;split at h
 ·rename_i T x t hop hd;split at h
  ·split at h
   ·cases h;exact a2F hop hd hg (by assumption) (by assumption) hn
   ·cases h
  ·cases h
 ·rename_i T t hop hd;split at h
  ·split at h
   ·cases h;exact VX hop hd hg (by assumption) (by assumption) hn
   ·cases h
  ·cases h
 ·rename_i T x y hop hd;split at h
  ·rename_i id off ds h1 h2;split at h
   ·rename_i ob h3;split at h
    ·rename_i cells h4;split at h
     ·rename_i hc;cases h;exact Vj hop hd hg h1 h3 h4 h2 hc.1 hc.2.1 hc.2.2.1 hc.2.2.2 hn
     ·cases h
    ·cases h
   ·cases h
  ·rename_i id i sz off ds h1 h2;split at h
   ·rename_i sz' rows u _ r A1 h3;split at h
    ·rename_i hc;obtain⟨c1,c2,c3,rfl,c5,c6⟩:=hc;cases h;exact U5 hop hd hg h1 h3 hp.1 h2 c6 c1 c2 c3 c5 hn
    ·cases h
   ·rename_i k e sz' rows es ms r A1 h3 h4;split at h
    ·rename_i hc;obtain⟨c1,c2,rfl,c4,c5,c6,c7⟩:=hc;cases h;exact Pk hop hd hg h1 h3 c4 hp.1 h2 h4 c6 c7 c1 c2 c5 hn
    ·cases h
   ·cases h
  ·cases h
 ·rename_i T t hop hd;split at h
  ·cases h;exact RH hop hd hg (by assumption) hn
  ·cases h
 ·rename_i T x i y hop hd;split at h
  ·rename_i kd dz id m A1 h1 h2;split at h
   ·rename_i kv h3;split at h
    ·rename_i hc;cases h;exact OD hop hd hg h1 h2 h3 hc.1 hc.2 hp.1 hn
    ·cases h
   ·cases h
  ·cases h
 ·rename_i T x y t hop hd;split at h
  ·rename_i e sz k n k' n' h1 h2 h3;split at h
   ·rename_i zs h4;split at h
    ·rename_i hc;cases h;obtain⟨⟨rfl,q2,q3,q4⟩,_⟩:=hp;exact OC hop hd hg hc.1 h1 h4 hc.2 h2 h3 q2 q3 q4 hn
    ·cases h
   ·cases h
  ·cases h
 ·rename_i T len parts t hop hd;split at h
  ·rename_i e sz h1;split at h
   ·rename_i zs h2;split at h
    ·rename_i ds h3;split at h
     ·rename_i es ms h4;split at h
      ·rename_i hc;cases h;exact Mv hop hd hg hc.1 h1 h2 hc.2.1 hc.2.2.1 h3 h4 hc.2.2.2 hn
      ·cases h
     ·cases h
    ·cases h
   ·cases h
  ·cases h
 ·rename_i c t hop hd;split at h
  ·rename_i s x T T' h1 h2 h3;split at h
   ·rename_i e sz h4;split at h
    ·rename_i zs rows u1 k1 dG u2 k2 A1 ow h5 h6 h7;split at h
     ·rename_i hc;obtain⟨c1,c2,rfl,c4⟩:=hc;cases h;obtain⟨⟨q1,q2⟩,q3⟩:=hp;exact a2E (hop.trans (congrArg Op.call (qC c h1 h2 h3))) hd hg c1 h4 h5 c2 h6 h7 q3 c4 q1 q2 hn
     ·cases h
    ·cases h
   ·cases h
  ·rename_i x T h1 h2 h3;split at h
   ·rename_i id sz rows u h4;obtain⟨h5,h6⟩:=MM h4;split at h
    ·rename_i hc;cases h;exact ZH (hop.trans (congrArg Op.call (qC c h1 h2 h3))) hd hg hc.1 hc.2 h5 h6 hn
    ·cases h
   ·split at h
    ·split at h
     ·rename_i d A1 ow h4;cases h;exact By hd hg (by assumption) h4 hp hn
     ·cases h
    ·cases h
  ·rename_i f xs ts h1;split at h
   ·rename_i ms outs d A1 h4;split at h
    ·rename_i ins h5;split at h
     ·rename_i hc;obtain⟨c1,c2,c3⟩:=hc;split at h
      ·rename_i H' A2 ow h6;cases h;exact Vf (hop.trans (congrArg Op.call (qC c h1 rfl rfl))) hd hg c1 c2 h5 (by simpa using c3) (by simpa using hp.1) (P3 h6 hp.2 hn)
      ·cases h
     ·cases h
    ·cases h
   ·rename_i nz cells' d A1 h4;split at h
    ·rename_i x0 xr h5;split at h
     ·rename_i id h6;split at h
      ·rename_i ob h7;split at h
       ·rename_i Js h8;split at h
        ·rename_i cells ds ms qs h9;split at h
         ·rename_i hc;obtain⟨c1,c2,c3⟩:=hc;cases h;exact Ve (hop.trans (congrArg Op.call (qC c h1 rfl rfl))) hd hg c1 (by simpa using h5) h6 h7 h8 h9 c2 c3 hp.1 hn
         ·cases h
        ·cases h
       ·cases h
      ·cases h
     ·cases h
    ·cases h
   ·rename_i ds ms cells A1 h4;split at h
    ·rename_i hc;obtain⟨c1,rfl⟩:=hc;cases h;exact Vc (hop.trans (congrArg Op.call (qC c h1 rfl rfl))) hd hg c1 (by simpa using h4) hp.1 hn
    ·cases h
   ·rename_i ds ms d A1 h4;split at h
    ·rename_i hc;cases h;exact VY (hop.trans (congrArg Op.call (qC c h1 rfl rfl))) hd hg hc.1 (by simpa using h4) hc.2 hp.1 hn
    ·cases h
   ·rename_i id dO A1 h4;split at h
    ·rename_i e sz rows h5;split at h
     ·rename_i hc;obtain⟨c1,c3⟩:=hc;cases h;exact Vd (hop.trans (congrArg Op.call (qC c h1 rfl rfl))) hd hg c1 h5 c3.2 hp.1 (by simpa using c3.1) (by simpa using hp.2.1) hn
     ·cases h
    ·cases h
   ·rename_i id dO A1 h4;split at h
    ·rename_i x k e sz rows h5 h6;split at h
     ·rename_i id' h7;split at h
      ·rename_i hc;obtain⟨c1,rfl,c3⟩:=hc;cases h;have e1:c.args= #[x]:=by rw[<-qv];simpa using h5
       refine Vb (ts:=c.argTypes) (hop.trans (congrArg Op.call ?_)) (fun t' ht'=>?_) hg h7 h6 c3.1 c3.2 hp.1 hp.2.1 ?_
       ·rw[<-e1];exact qC c h1 rfl rfl
       ·rw[hd]at ht';cases ht';exact c1
       ·rw[hd];exact hn
      ·cases h
     ·cases h
    ·cases h
   ·rename_i ds ms d A1 h4;split at h
    ·rename_i hc;cases h;exact ZE (hop.trans (congrArg Op.call (qC c h1 rfl rfl))) hd hg hc.1 (by simpa using h4) hc.2 hp.1 hn
    ·cases h
   ·rename_i d A1;split at h
    ·rename_i hc;cases h;exact Va (hop.trans (congrArg Op.call (qC c h1 rfl rfl))) hd hg hc.1 (by simpa using hc.2) (by simpa using hp.1) hn
    ·cases h
   ·rename_i nz d A1;split at h
    ·rename_i ds ms qs h9;split at h
     ·rename_i hc;obtain⟨c1,c2,c3⟩:=hc;cases h;exact VZ (hop.trans (congrArg Op.call (qC c h1 rfl rfl))) hd hg c1 h9 c2 c3 hp.1 hn
     ·cases h
    ·cases h
   ·cases h
  ·split at h
   ·split at h
    ·rename_i d A1 ow h4;cases h;exact By hd hg (by assumption) h4 hp hn
    ·cases h
   ·cases h
 ·rename_i s d x t hop hd;split at h
  ·rename_i id h1;split at h
   ·rename_i k e' sz' rows e sz h2 h3;split at h
    ·rename_i bs h4;split at h
     ·rename_i hc;obtain⟨c1,rfl,c3,c4⟩:=hc;cases h;exact ZF hop hd hg c1 h1 h2 h3 c3 c4 h4 hn
     ·cases h
    ·cases h
   ·cases h
  ·split at h
   ·split at h
    ·rename_i d A1 ow h4;cases h;exact By hd hg (by assumption) h4 hp hn
    ·cases h
   ·cases h
 ·rename_i x t hop hd;split at h
  ·rename_i A1;split at h
   ·rename_i e sz h1 h2;split at h
    ·rename_i hc;cases h;exact a2I hop hd hg hc.1 h1 hc.2 hn
    ·cases h
   ·cases h
  ·split at h
   ·cases h;exact a10 hd hg (by assumption) (by rw[hop];rfl) hn
   ·cases h
 ·rename_i T x hi t hop hd;split at h
  ·rename_i id h1;split at h
   ·rename_i e sz rows e' sz' kk n hh A1 h2 h3 h4;split at h
    ·rename_i hc;obtain⟨c1,rfl⟩:=hc;cases h;exact ZG hop hd hg c1 h3 h1 h2 (by rw[h4,hp.1.1]) hp.1.2 hn
    ·cases h
   ·cases h
  ·split at h
   ·split at h
    ·rename_i d A1 ow h4;cases h;exact By hd hg (by assumption) h4 hp hn
    ·cases h
   ·cases h
 ·rename_i T s lo t hop hd;split at h
  ·rename_i A0 id h1;split at h
   ·rename_i k e sz rows h2;split at h
    ·rename_i hc;split at h
     ·rename_i d A1 ow h4;cases h;exact U4 h1 h2 hc.2 (By hd hg hc.1 h4 hp hn)
     ·cases h
    ·cases h
   ·cases h
  ·split at h
   ·split at h
    ·rename_i d A1 ow h4;cases h;exact By hd hg (by assumption) h4 hp hn
    ·cases h
   ·cases h
 ·rename_i T x i t hop hd;split at h
  ·rename_i id sz rows u h1;obtain⟨h2,h3⟩:=MM h1;split at h
   ·rename_i e sz' k n m A1 h4 h5;split at h
    ·rename_i hc;obtain⟨c1,rfl⟩:=hc;cases h;exact a2G hop hd hg c1 h4 h2 h5 h3 hp.1.1 hp.1.2 hn
    ·cases h
   ·cases h
  ·split at h
   ·split at h
    ·rename_i d A1 ow h4;cases h;exact By hd hg (by assumption) h4 hp hn
    ·cases h
   ·cases h
 ·rename_i T x t hop hd;split at h
  ·rename_i id i off sz rows u h1;obtain⟨h2,h3⟩:=S9 h1;split at h
   ·rename_i r A1 h4;split at h
    ·rename_i dG h5;split at h
     ·rename_i e FR h6;split at h
      ·rename_i hc;cases h;exact Vi hop hd hg hc h4 h2 h3 hp.1 h5 hp.2.1 hn
      ·cases h
     ·cases h
    ·rename_i d _ h5;split at h
     ·rename_i hc;cases h;exact Vg hop hd hg hc.1 h4 h2 h3 hp.1 h5 hc.2 hn
     ·cases h
    ·cases h
   ·cases h
  ·split at h
   ·rename_i r A1 id i sz h1;split at h
    ·rename_i n e sz' rows h2;split at h
     ·rename_i hc;obtain⟨c1,rfl,c3,c4⟩:=hc;cases h;obtain⟨⟨rfl,q2,q3⟩,_⟩:=hp;exact ZI hop hd hg c1 h1 h2 q2 c3 c4 q3 hn
     ·cases h
    ·cases h
   ·split at h
    ·split at h
     ·rename_i d A1 ow h4;cases h;exact By hd hg (by assumption) h4 hp hn
     ·cases h
    ·cases h
 ·split at h
  ·split at h
   ·rename_i d A1 ow h4;cases h;exact By (by assumption) hg (by assumption) h4 hp hn
   ·cases h
  ·cases h
 ·cases h
theorem YY{o:Oper}{A A':List An}{v7:St}{p:Cl}{nt:Nat}(hnt:Γ.nt=nt)(h:Gn P nt o st A=some (v7,A',p)):∀ {t:Nat},o.dst=some t->t<Γ.nt:=by
 intro t ht;subst hnt;unfold Gn at h;split at h
 all_goals first
  | (rename_i hd;rw[ht]at hd;cases hd;done)
  |skip
 all_goals(try(rename_i hd;rw[ht]at hd;cases hd))
 all_goals(repeat' split at h)
 all_goals(try cases h)
 all_goals first
  |assumption
  | (
   have hc:_/\_:=by assumption
   exact hc.1)
  | (simp_all;done)
end
end Go.Cx
namespace Go.Cx
open Go.RowKit
abbrev fA:=List An
section
variable{P:Program}{Γ:uB}{Q:Exit->St->Prop}{st:St}{κ:Nat->Option Value}{Θ:Nat->Nat}{a:Act}{w:World}{all:Array Oper}{X:aW}
def zR(X:aW)(H H':bQ):Prop:=∀(i:Nat) o,i∉X->H[i]?=some o->H'[i]?=some o
theorem zR.refl{X:aW}(H:bQ):zR X H H:=fun _ _ _ h=>h
theorem zR.trans{X:aW}{A B C:bQ}(h:zR X A B)(k:zR X B C):zR X A C:=fun i o n e=>k i o n (h i o n e)
theorem zR.app{X:aW}{H H':bQ}(h:zR X H H')(n:bQ):zR X H (H'++n):=by
 intro i o hni hi;have:=h i o hni hi;rw[ar (aF.1 this).1,this]
theorem zR.cs{X:aW}{H H':bQ}(h:zR X H H'){i:Nat}{cs:aL}(hi:i∉X)(hc:(H[i]?).bind Ob.TB=some cs):(H'[i]?).bind Ob.TB=some cs:=by
 obtain⟨ob,hb,Pf⟩:=ny.1 hc;rw[h i ob hi hb];exact Pf
def Cd(X:aW)(st:St):Op->Bool
 | .fieldAddr _ _ _=>true
 | .field _ _ _=>true
 | .extract _ _=>true
 | .move _=>true
 | .binOp _ _ _ _ _=>true
 | .unOp _ _ _=>true
 | .nilCheck _=>true
 | .convert _ _ _=>true
 | .index _ _ _=>true
 | .build _ _=>true
 | .indexAddr _ x _=>(match st.ev x with| .sl _=>true| .acc id=> !X.contains id|_=>false)
 | .load _ x=>(match st.ev x with| .ep _ _=>true| .ptr id _=> !X.contains id| .op id _ _ _=> !X.contains id|_=>false)
 |_=>false
theorem Ya{X:aW}{σ σ':List (Nat×D)}{H H':bQ}{op:Op}{d:D}(hx:zR X H H')(hs:Cd X ⟨σ,H⟩ op=true)(he:∀x∈op.operands.toList,St.ev ⟨σ,H⟩ x=St.ev ⟨σ',H'⟩ x)(h:pv P ⟨σ,H⟩ op=some d):pv P ⟨σ',H'⟩ op=some d:=by
 cases op<;>simp only[Cd,zO]at hs<;>simp only[pv]at h⊢
 case move x=>rw[he x (by simp[Op.operands])]at*;exact h
 case nilCheck x=>rw[he x (by simp[Op.operands])]at h;exact h
 case binOp op t x y t'=>rw[he x (by simp[Op.operands]),he y (by simp[Op.operands])]at h;exact h
 case unOp op t x=>cases op<;>simp only[pv]at h⊢ <;>(try cases h)<;>(rw[he x (by simp[Op.operands])]at h;exact h)
 case convert s d x=>rw[he x (by simp[Op.operands])]at h;exact h
 case field t x f=>rw[he x (by simp[Op.operands])]at h;exact h
 case fieldAddr t x f=>rw[he x (by simp[Op.operands])]at h;exact h
 case indexAddr t x i=>
  rw[he x (by simp[Op.operands])]at hs;rw[he x (by simp[Op.operands]),he i (by simp[Op.operands])]at h;split at hs
  ·rename_i rows h0;rw[h0]at h⊢;generalize FT P t=a at h⊢;generalize St.ev ⟨σ',H'⟩ i=b at h⊢;cases a<;>cases b<;>exact h
  ·rename_i id h0;rw[h0]at h⊢;generalize FT P t=a at h⊢;generalize St.ev ⟨σ',H'⟩ i=b at h⊢;cases a<;>cases b<;>first|exact h|skip
   dsimp only at h⊢;cases hH:H[id]? with
   |none=>rw[hH]at h;cases h
   |some o=>rw[hx id o (by simpa using hs) hH];rw[hH]at h;exact h
  ·cases hs
 case load t x=>
  rw[he x (by simp[Op.operands])]at hs h;split at hs
  ·rename_i row off h0;rw[h0]at h⊢;generalize AG P t=a at h⊢;cases a<;>exact h
  ·rename_i id off h0;rw[h0]at h⊢;generalize AG P t=a at h⊢;cases a
   ·exact h
   ·dsimp only at h⊢;split at h
    ·rename_i cells hH;simp only[hx.cs (by simpa using hs) hH];exact h
    ·cases h
  ·rename_i id i sz off h0;rw[h0]at h⊢;generalize AG P t=a at h⊢;cases a
   ·exact h
   ·dsimp only at h⊢;cases hH:H[id]? with
    |none=>rw[hH]at h;cases h
    |some o=>rw[hx id o (by simpa using hs) hH];rw[hH]at h;exact h
  ·cases hs
 case extract x i=>rw[he x (by simp[Op.operands])]at h;exact h
 case index t x i=>rw[he x (by simp[Op.operands]),he i (by simp[Op.operands])]at h;exact h
 case build t parts=>
  have:(parts.toList.map fun p=>(p.1,St.ev ⟨σ,H⟩ p.2))=parts.toList.map fun p=>(p.1,St.ev ⟨σ',H'⟩ p.2):=by
   apply oQ;intro p hp;rw[he p.2 (by simp only[Op.operands];simp;exact⟨p.1,by simpa using hp⟩)]
  rw[this]at h;exact h
def RN(xs acc:aW):aW:=xs.foldl (fun acc x=>bif acc.contains x then acc else x::acc) acc
theorem SA:∀ {xs acc:aW} {x:Nat},x∈RN xs acc->x∈xs\/x∈acc:=by
 intro xs
 induction xs with
 |nil=>intro acc x h;exact .inr h
 |cons y ys ih=>
  intro acc x h;rcases ih (acc:=bif acc.contains y then acc else y::acc) h with h|h
  ·exact .inl (by simp[h])
  ·cases hc:acc.contains y with
   |true=>rw[hc]at h;exact .inr h
   |false=>
    rw[hc]at h;rcases bL.1 h with rfl|h
    ·exact .inl (by simp)
    ·exact .inr h
def a16(acc:List aW)(es:List Edge):aW:=es.foldl (fun d e=>bif Region.binds .any e then RN (e.on::acc.getD e.on []) d else d) []
theorem Ug{acc:List aW}{es:List Edge}{i:Nat}(h:i∈a16 acc es):∃e∈es,Region.binds .any e=true/\(i=e.on\/i∈acc.getD e.on []):=by
 have key:∀(es:List Edge) (d:aW),i∈es.foldl (fun d e=>bif Region.binds .any e then RN (e.on::acc.getD e.on []) d else d) d->i∈d\/∃e∈es,Region.binds .any e=true/\(i=e.on\/i∈acc.getD e.on []):=by
  intro es
  induction es with
  |nil=>intro d h;exact .inl h
  |cons e es ih=>
   intro d h;rcases ih _ h with h|⟨e',h1,h2⟩
   ·cases hb:Region.binds .any e with
    |false=>simp only[hb,aS]at h;exact .inl h
    |true=>
     simp only[hb,aI]at h;rcases SA h with h|h
     ·exact .inr ⟨e,by simp,hb,by simpa using h⟩
     ·exact .inl h
   ·exact .inr ⟨e',by simp[h1],h2⟩
 rcases key es [] h with h|h
 ·cases h
 ·exact h
def Iw(acc:List aW)(o:Oper):List aW:=acc++[a16 acc o.after.toList]
def RY(ops:List Oper):List aW:=ops.foldl Iw []
theorem Zh{ops:Array Oper}{listed:Array Bool}(closed:∀(j:Nat) oj,ops[j]?=some oj->listed.getD j false=true->∀e∈oj.after,Region.binds .any e=true->listed.getD e.on false=true):
 ∀(l pre:List Oper) (acc:List aW),ops.toList=pre++l->acc.length=pre.length->
  (∀(j:Nat) o,ops[j]?=some o->(∀e∈o.after,Region.binds .any e=true->listed.getD e.on false=true)->∀i∈acc.getD j [],listed.getD i false=true)->
  ∀(j:Nat) o,ops[j]?=some o->(∀e∈o.after,Region.binds .any e=true->listed.getD e.on false=true)->∀i∈(l.foldl Iw acc).getD j [],listed.getD i false=true:=by
 intro l
 induction l with
 |nil=>intro pre acc _ _ h;exact h
 |cons o l ih=>
  intro pre acc hl ha h;refine ih (pre++[o]) (Iw acc o) (by simp[hl]) (by simp[Iw,ha]) ?_;intro j oj hj hall i hi;unfold Iw at hi;rw[lH]at hi;rcases w5 j acc.length with hlt|heq|hgt
  ·rw[ar hlt,<-lH]at hi;exact h j oj hj hall i hi
  ·subst heq;rw[b8 (bO _),qB]at hi;simp only[BA,uA]at hi;have ho:oj=o:=by
    rw[<-jl,hl,b8 (by omega),ha,qB]at hj;simpa using hj.symm
   subst ho;obtain⟨e,he,hb,hi⟩:=Ug hi;have he':e∈oj.after:=by simpa using he
   have hel:=hall e he' hb;rcases hi with rfl|hi
   ·exact hel
   ·cases hoe:ops[e.on]? with
    |none=>
     have h1:e.on<acc.length:=by
      rcases eL e.on acc.length with h|h
      ·exact h
      ·rw[lH,cN h]at hi;cases hi
     have h2:ops.size<=e.on:=by simpa using hoe
     have h3:ops.size=pre.length+(l.length+1):=by rw[<-uW,hl];simp
     omega
    |some oe=>exact h e.on oe hoe (closed e.on oe hoe hel) i hi
  ·rw[cN (by simp;omega)]at hi;cases hi
theorem xu{ops:Array Oper}{listed:Array Bool}(closed:∀(j:Nat) oj,ops[j]?=some oj->listed.getD j false=true->∀e∈oj.after,Region.binds .any e=true->listed.getD e.on false=true){j:Nat}(hj:j∈Region.ready .any ops listed){i:Nat}(hi:((RY ops.toList).getD j []).contains i=true):listed.getD i false=true:=by
 obtain⟨_,o,ho,hall⟩:=mem_ready.1 hj;exact Zh closed ops.toList [] [] (by simp) rfl (by simp) j o ho hall i (List.contains_iff_mem.1 hi)
def WE(dp:List aW)(ops:Array Oper)(n m:Nat)(L:aW):Bool:=
 (decide (n<=m)&&decide (m<ops.size))&&
 (Region.seqB .any ops (ops.size-m) m (Array.replicate m true++Array.replicate (ops.size-m) false)&&
 (((List.range (ops.size-m)).all fun j=>(List.range m).all fun i=>(dp.getD (m+j) []).contains i)&&
 (((List.range (m-n)).all fun j=>(List.range (n+j)).all fun i=>(dp.getD (n+j) []).contains i||L.contains i)&&
 (((List.range m).all fun i=>match ops[i]? with|none=>false|some o=>o.after.all fun e=> !Region.binds .any e||decide (e.on<i))&&
 ((
  (List.range n).all fun i=>match ops[i]? with
  |none=>false
  |some o=>((o.looksAt ops).all fun t=>(List.range n).all fun j=>match ops[j]? with|some oj=> !(oj.dst==some t)||(decide (j<i)&&Region.waitsFor .any ops i j)|none=>true)&&
   (List.range n).all fun j=>j==i||(match ops[j]? with|some oj=> !(oj.dst==o.dst)||o.dst.isNone|none=>true))&&
 ((
  (List.range (m-n)).all fun j=>match ops[n+j]? with
  |none=>false
  |some o=>L.all fun i=>match ops[i]? with
   |none=>false
   |some oi=>(!(oi.dst==o.dst)&& !((oi.looksAt ops).any fun t=>o.dst==some t))&&((dp.getD (n+j) []).contains i|| !((o.looksAt ops).any fun t=>oi.dst==some t)))&&
 L.all fun i=>decide (i<n)&&(match ops[i]? with|some oi=>oi.guard.isNone&&oi.dst.isSome|none=>false)))))))
def Lw(ops:Array Oper)(n m:Nat)(L:aW):Bool:=WE (RY ops.toList) ops n m L
def Step(P:Program)(Γ:uB)(o:Oper)(st yE:St):Prop:=
 ∀κ Θ a w,dl Γ st κ Θ a w->o.wp P a w (fun a' w'=>∃κ' Θ',dl Γ yE κ' Θ' a' w') (fun e _ _=>e=.normal)
def VW(P:Program)(Γ:uB)(X:aW)(K:St->Prop):List Oper->St->Prop
 | [],st=>K st
 |o::os,st=>∃yE,((∃t d,o.dst=some t/\t<Γ.nt/\yE.σ=(t,d)::st.σ)\/(o.dst=none/\yE.σ=st.σ))/\zR X st.H yE.H/\o.guard=none/\(∀cs b,o.op≠ .select cs b)/\Step P Γ o st yE/\VW P Γ X K os yE
theorem RC{o:Oper}{a b:Act}{w:World}{K K2:Act->World->Prop}{Q1 Q2:Exit->Act->World->Prop}(hsel:∀cs b,o.op≠ .select cs b)(he:∀x∈o.op.operands,a.eval x=b.eval x)
 (hK:∀v w',K (b.put o.dst v) w'->K2 (a.put o.dst v) w') (hdf:∀d w',¬K ({b with defers:=d::b.defers}.put o.dst undef) w') (hQ:∀e c w',Q1 e c w'->e=.normal) (h:o.wp P b w K Q1):o.wp P a w K2 Q2:=by
 unfold Oper.wp at*;rw[execOp_congr o hsel he];generalize(execOp b.eval o).run P w=r at*;cases r with
 |ok n w'=>
  cases n with
  |value v=>exact hK _ _ h
  |skip=>exact hK _ _ h
  |defer d=>exact absurd h (hdf _ _)
  |enter f args=>
   refine Calls.mono h ?_;intro e w'' he;cases e with
   |returned v=>exact hK _ _ he
   |panicked c=>exact absurd (hQ _ _ _ he) (by simp)
   |outgrown=>
    obtain⟨a0,w0,hq⟩:=he;exact absurd (hQ _ _ _ hq) (by simp)
  |row r args=>exact Rows.mono h fun v w'' he=>hK _ _ he
  |_=>exact h.elim
 |halt x w'=>
  cases x with
  |panic u=>exact absurd (hQ _ _ _ h) (by simp)
  |_=>exact h.elim
theorem a3V{l:List (Nat×D)}{σ:List (Nat×D)}(h:∀p∈l,p.2=.any){t:Nat}(ht:t∈l.map Prod.fst):lk (l++σ) t=.any:=by
 induction l with
 |nil=>cases ht
 |cons p l ih=>
  obtain⟨u,d⟩:=p;have hd:d=.any:=h (u,d) (by simp);subst hd;simp only[qw,lk];by_cases e:t=u
  ·rw[bN e]
  ·rw[b9 e];refine ih (fun p hp=>h p (by simp[hp])) ?_;simp only[bB,bL]at ht;rcases ht with h|h
   ·exact absurd h e
   ·exact h
theorem Hr(a:Act){t u:Nat}(v:Value)(h:u≠t):(a.put (some t) v).tmps.getD u undef=a.tmps.getD u undef:=by
 show(a.tmps.setIfInBounds t v).getD u undef=_;simp[cG,rZ h]
theorem JR(a:Act){t:Nat}(v:Value)(h:t<a.tmps.size):(a.put (some t) v).tmps.getD t undef=v:=by
 show(a.tmps.setIfInBounds t v).getD t undef=_;simp[cG,h]
theorem count_set{m i:Nat}{listed:Array Bool}(hi:i<m)(hsz:i<listed.size)(hl:listed.getD i false=false):((List.range m).filter fun j=> !(listed.setIfInBounds i true).getD j false).length+1=((List.range m).filter fun j=> !listed.getD j false).length:=by
 have UQ:((List.range m).filter fun j=> !(listed.setIfInBounds i true).getD j false)=((List.range m).filter fun j=> !listed.getD j false).erase i:=by
  have hnd:((List.range m).filter fun j=> !listed.getD j false).Nodup:=xV _ BB;rw[hnd.erase_eq_filter,zP];apply AX;intro j _;by_cases e:j=i
  ·subst e;simp[hsz]
  ·rw[getD_set_ne false (rZ e)];simp[e]
 have hmem:i∈(List.range m).filter fun j=> !listed.getD j false:=gr.2 ⟨bh.2 hi,by simp only[hl];rfl⟩
 have hpos:0<((List.range m).filter fun j=> !listed.getD j false).length:=Bv hmem;rw[UQ,qX hmem];omega
def Vn(P:Program)(Γ:uB)(X:aW)(l:List Oper)(σF:List (Nat×D))(H0:bQ)(i:Nat):Prop:=
 ∃o t d,l.toArray[i]?=some o/\o.guard=none/\o.dst=some t/\t<Γ.nt/\lk σF t=d/\∀σ' H',zR X H0 H'->(∀u∈o.looksAt l.toArray,lk σ' u=lk σF u)->pv P ⟨σ',H'⟩ o.op=some d
theorem QB{l:List Oper}{n m:Nat}{L:aW}{σF:List (Nat×D)}{H0:bQ}(hB:Lw l.toArray n m L=true)(a1D:∀i∈L,Vn P Γ X l σF H0 i):
 ∀(f c:Nat) (S:St) (listed:Array Bool) (σ':List (Nat×D)) (κ:Nat->Option Value) (Θ:Nat->Nat) (a:Act) (w:World),HeadInv .any l.toArray l.toArray.size listed->
  (∀i,i<n->i∉L->listed.getD i false=true)->n+c<=m->(∀i,n<=i->i<n+c->listed.getD i false=true)->(∀i,n+c<=i->i<l.toArray.size->listed.getD i false=false)->
  ((List.range m).filter fun i=> !listed.getD i false).length=f->
  (∀t,(∀(i:Nat) o,l.toArray[i]?=some o->n<=i->i<n+c->o.dst≠some t)->lk S.σ t=lk σF t)->zR X H0 S.H->
  VW P Γ X (fun v7=>AO P Γ l.toArray (l.drop m) Q v7) ((l.drop (n+c)).take (m-(n+c))) S->
  (∀t,(∀i∈L,∀o,l.toArray[i]?=some o->listed.getD i false=false->o.dst≠some t)->lk σ' t=lk S.σ t)->
  dl Γ ⟨σ',S.H⟩ κ Θ a w->
  wpAny P .any l.toArray (fun e a' w'=>∃v7 κ' Θ',dl Γ v7 κ' Θ' a' w'/\Q e v7) (f+(l.toArray.size-m)) listed a w:=by
 simp only[Lw,WE,aV,bI]at hB;obtain⟨⟨hnm,MB⟩,Zq,Wp,hmid,WV,WY,Wh,hL⟩:=hB;have a7r:∀i,i<m->∃o,l.toArray[i]?=some o/\∀e∈o.after,Region.binds .any e=true->e.on<i:=by
  intro i hi;have:=aq.1 WV i (bh.2 hi);split at this
  ·cases this
  ·rename_i o ho;refine⟨o,ho,fun e he hb=>?_⟩;have:=vF.1 this e he;simpa[hb]using this
 have Ev:∀i∈L,i<n:=by
  intro i hi;have:=aq.1 hL i hi;simp only[aV,bI]at this;exact this.1
 have QR:∀(i:Nat) o,i<n->l.toArray[i]?=some o->∀u∈o.looksAt l.toArray,∀(j:Nat) oj,j<n->l.toArray[j]?=some oj->oj.dst=some u->j<i/\Region.waitsFor .any l.toArray i j=true:=by
  intro i o hi ho u hu j oj hj xz hd;have:=aq.1 WY i (bh.2 hi);simp only[ho,aV]at this;have:=aq.1 (aq.1 this.1 u hu) j (bh.2 hj);simpa[xz,hd]using this
 have JE:∀(j:Nat) o,n<=j->j<m->l.toArray[j]?=some o->∀i∈L,∀oi,l.toArray[i]?=some oi->oi.dst≠o.dst/\(∀u∈oi.looksAt l.toArray,o.dst≠some u)/\(((RY l.toArray.toList).getD j []).contains i=true\/∀u∈o.looksAt l.toArray,oi.dst≠some u):=by
  intro j o Gg hj2 ho i hi oi hoi;have:=aq.1 Wh (j-n) (bh.2 (by omega));rw[show n+(j-n)=j from by omega]at this;simp only[ho]at this;have:=aq.1 this i hi;simp only[hoi,aV,pz,oD]at this;obtain⟨⟨h1,h2⟩,h3⟩:=this;refine⟨by simpa using h1,fun u hu he=>?_,h3.imp id fun h u hu he=>?_⟩
  ·have:=List.any_eq_false.1 h2 u hu;simp[he]at this
  ·have:=List.any_eq_false.1 h u hu;simp[he]at this
 intro f
 induction f with
 |zero=>
  intro c S listed σ' κ Θ a w inv hN hc hM hT oc hS hX hA hag hs;have hall:∀i,i<m->listed.getD i false=true:=by
   intro i hi;have h0:=cL oc;cases hl:listed.getD i false with
   |true=>rfl
   |false=>
    have:i∈(List.range m).filter fun i=> !listed.getD i false:=gr.2 ⟨bh.2 hi,by simp only[hl];rfl⟩
    rw[h0]at this;cases this
  have hcm:n+c=m:=by
   rcases eL (n+c) m with h|h
   ·have h1:=hall (n+c) h;rw[hT (n+c) (bO _) (by omega)]at h1;cases h1
   ·omega
  have Wd:listed=Array.replicate m true++Array.replicate (l.toArray.size-m) false:=by
   apply Array.ext
   ·rw[inv.size];simp at MB⊢;omega
   ·intro i h1 h2;by_cases hi:i<m
    ·have:=hall i hi;rw[AL (by simpa using hi)];simp[h1]at this;simp[this]
    ·have hi':i<l.toArray.size:=by rw[<-inv.size];exact h1
     have:=hT i (by omega) hi';rw[zN (by simpa using hi)];simp[h1]at this;simp[this]
  rw[cW];rw[hcm,qB,List.take_zero]at hA;have hA:AO P Γ l.toArray (l.drop m) Q S:=hA;have hs2:=dl.same (st:=⟨σ',S.H⟩) (σ':=S.σ) (fun t=>hag t (fun i hi o ho hl=>by rw[hall i (by have:=Ev i hi;omega)]at hl;cases hl)) hs;have hwp:=hA κ Θ a w hs2;have hdl:(l.drop m).length=l.toArray.size-m:=by simp
  have:=wpAny_of_seq (md:=.any) (l.drop m) m listed a w (fun j=>by simp[eZ]) (by rw[hdl,Wd];exact Zq) hwp
  rwa[hdl]at this
 |succ f ih=>
  intro c S listed σ' κ Θ a w inv hN hc hM hT oc hS hX hA hag hs;have hun:∃i,i<m/\listed.getD i false=false:=by
   have hne:((List.range m).filter fun i=> !listed.getD i false)≠[]:=by
    intro h0;rw[h0]at oc;simp at oc
   obtain⟨i,hi⟩:=uR _ hne;obtain⟨h1,h2⟩:=gr.1 hi;exact⟨i,bh.1 h1,by simpa using h2⟩
  have hsz:=inv.size;rw[show f+1+(l.toArray.size-m)=(f+(l.toArray.size-m))+1 from by omega];refine⟨fun h0=>?_,fun i hi=>?_⟩
  ·exfalso;obtain⟨i,⟨hin,RE⟩,hmin⟩:=exists_least (p:=fun i=>i<m/\listed.getD i false=false) hun;obtain⟨o,ho,hed⟩:=a7r i hin;have:i∈Region.ready .any l.toArray listed:=by
    refine mem_ready.2 ⟨getD_in (by rw[hsz];omega) RE,o,ho,fun e he hb=>?_⟩;have:=hed e he hb;cases hl:listed.getD e.on false with
    |true=>rfl
    |false=>have:=hmin e.on ⟨by omega,hl⟩;omega
   rw[h0]at this;cases this
  ·obtain⟨i0,hi0,hl0⟩:=hun;obtain⟨RE,o,ho,hall⟩:=mem_ready.1 hi;have Ay:=getD_both RE;have CW:i<l.toArray.size:=(bD.1 ho).1;have him:i<m:=by
    rcases eL i m with h|h
    ·exact h
    ·have h1:=aq.1 Wp (i-m) (bh.2 (by omega));have h2:=aq.1 h1 i0 (bh.2 hi0);rw[show m+(i-m)=i from by omega]at h2;rw[xu inv.closed hi h2]at hl0;cases hl0
   have UQ:=count_set him (by rw[hsz];exact CW) Ay;have qo:∀(j:Nat),(listed.setIfInBounds i true).getD j false=true↔(j=i\/listed.getD j false=true):=by
    intro j;by_cases e:i=j
    ·subst e;have:i<listed.size:=by rw[hsz];exact CW
     simp[this]
    ·rw[getD_set_ne false e];constructor
     ·exact .inr
     ·rintro(rfl|h)
      ·exact absurd rfl e
      ·exact h
   have aA4:∀(j:Nat),(listed.setIfInBounds i true).getD j false=false->j≠i/\listed.getD j false=false:=by
    intro j h;refine⟨fun e=>?_,?_⟩
    ·have:=(qo j).2 (.inl e);rw[this]at h;cases h
    ·cases h2:listed.getD j false with
     |false=>rfl
     |true=>have:=(qo j).2 (.inr h2);rw[this]at h;cases h
   rcases eL i n with hin|hin
   ·
    have hiL:i∈L:=by
     by_cases h:i∈L
     ·exact h
     ·rw[hN i hin h]at Ay;cases Ay
    obtain⟨o',t,d,ho',hg,hd,htn,hdF,hpv⟩:=a1D i hiL;rw[ho]at ho';cases ho';have QT:∀u∈o.looksAt l.toArray,lk σ' u=lk σF u:=by
     intro u hu;rw[hag u,hS u]
     ·intro j oj xz Gg hj2 he;exact(JE j oj Gg (by omega) xz i hiL o ho).2.1 u hu he
     ·intro j hj oj xz hlj he;obtain⟨h1,h2⟩:=QR i o hin ho u hu j oj (Ev j hj) xz he;obtain⟨o2,ho2,e,Ho,hb,hon⟩:=Region.waitsFor_spec h2;rw[ho]at ho2;cases ho2;have:=hall e Ho hb;rw[hon,hlj]at this;cases this
    have hp:=hpv σ' S.H hX QT;obtain⟨v,bs,hrun,hrd,hz⟩:=F2 (st:=⟨σ',S.H⟩) hs hp;refine AH ho (by simp[Region.wanted,hg]) ?_;unfold Oper.wp;rw[hrun,Oper.upon_value,hd];refine ih c S (listed.setIfInBounds i true) ((t,d)::σ') κ Θ _ w (inv.set hi CW) ?_ hc ?_ ?_ (by omega) hS hX hA ?_ (hs.set (st:=⟨σ',S.H⟩) htn hrd hz)
    ·intro j hj hjL;exact(qo j).2 (.inr (hN j hj hjL))
    ·intro j Gg hj2;exact(qo j).2 (.inr (hM j Gg hj2))
    ·intro j Gg hj2;rw[getD_set_ne false (by omega)];exact hT j Gg hj2
    ·intro u hu;simp only[lk];by_cases e:u=t
     ·rw[bN e,e,hS t,hdF];intro j oj xz Gg hj2 he;exact(JE j oj Gg (by omega) xz i hiL o ho).1 (by rw[hd,he])
     ·rw[b9 e];refine hag u fun j hj oj xz hlj he=>?_
      by_cases hji:j=i
      ·subst hji;rw[ho]at xz;cases xz;rw[hd]at he;cases he;exact e rfl
      ·exact hu j hj oj xz (by rw[getD_set_ne false (rZ hji)];exact hlj) he
   ·
    have hic:i=n+c:=by
     rcases w5 i (n+c)with h|h|h
     ·rw[hM i hin h]at Ay;cases Ay
     ·exact h
     ·have h1:=aq.1 hmid (i-n) (bh.2 (by omega));rw[show n+(i-n)=i from by omega]at h1;have h2:=aq.1 h1 (n+c) (bh.2 h);simp only[oD]at h2;rcases h2 with h2|h2
      ·have:=xu inv.closed hi h2;rw[hT (n+c) (bO _) (by omega)]at this;cases this
      ·have:=Ev (n+c) (by simpa using h2);omega
    subst hic;have WU:(l.drop (n+c)).take (m-(n+c))=o::(l.drop (n+(c+1))).take (m-(n+(c+1))):=by
     have h1:l[n+c]?=some o:=by simpa using ho
     have h2:(n+c)<l.length:=(aF.1 h1).1;have h3:l[n+c]=o:=(aF.1 h1).2;rw[uQ h2,h3,show m-(n+c)=(m-(n+(c+1)))+1 from by omega,uX];rfl
    rw[WU]at hA;obtain⟨S1,OY,hX1,hgm,hsel,hstep,hA1⟩:=hA;have a8Z:∀u,o.dst≠some u->lk S1.σ u=lk S.σ u:=by
     intro u hu;rcases OY with⟨tm,dm,Zn,htm,a36⟩|⟨_,a36⟩
     ·rw[a36];simp only[lk];rw[b9 (fun e=>hu (by rw[Zn,e]))]
     ·rw[a36]
    have a5P:∀(b:Act) (v:Value),(b.put o.dst v).tmps.size=b.tmps.size:=by
     intro b v;rcases OY with⟨tm,dm,Zn,_,_⟩|⟨Zn,_⟩
     ·rw[Zn];show(b.tmps.setIfInBounds tm v).size=_;simp
     ·rw[Zn];rfl
    have a5O:∀(b:Act) (v:Value),(b.put o.dst v).defers=b.defers:=by
     intro b v;cases o.dst<;>rfl
    have fill:∀k,k<=n->∃(ak:Act) (σk:List (Nat×D)),dl Γ ⟨σk,S.H⟩ κ Θ ak w/\(∀u,(∀j∈L,∀oj,l.toArray[j]?=some oj->listed.getD j false=false->k<=j->oj.dst≠some u)->lk σk u=lk S.σ u)/\
     (∀u,(∀j∈L,∀oj,l.toArray[j]?=some oj->listed.getD j false=false->oj.dst≠some u)->ak.tmps.getD u undef=a.tmps.getD u undef):=by
     intro k
     induction k with
     |zero=>intro _;exact⟨a,σ',hs,fun u hu=>hag u (fun j hj oj xz hl=>hu j hj oj xz hl (Dq _)),fun _ _=>rfl⟩
     |succ k ihk=>
      intro hk;obtain⟨ak,σk,hsk,a2b,hek⟩:=ihk (by omega);by_cases hkl:k∈L/\listed.getD k false=false
      ·obtain⟨hkL,hkF⟩:=hkl;obtain⟨ok,t,d,hok,hg,hd,htn,hdF,hpv⟩:=a1D k hkL;have QT:∀u∈ok.looksAt l.toArray,lk σk u=lk σF u:=by
        intro u hu;rw[a2b u,hS u]
        ·intro j oj xz Gg hj2 he;exact(JE j oj Gg (by omega) xz k hkL ok hok).2.1 u hu he
        ·intro j hj oj xz hlj hkj he;obtain⟨h1,h2⟩:=QR k ok (by omega) hok u hu j oj (Ev j hj) xz he;omega
       have hp:=hpv σk S.H hX QT;obtain⟨v,bs,hrun,hrd,hz⟩:=F2 (st:=⟨σk,S.H⟩) hsk hp;refine⟨ak.put (some t) v,(t,d)::σk,hsk.set (st:=⟨σk,S.H⟩) htn hrd hz,?_,?_⟩
       ·intro u hu;simp only[lk];by_cases e:u=t
        ·rw[bN e,e,hS t,hdF];intro j oj xz Gg hj2 he;exact(JE j oj Gg (by omega) xz k hkL ok hok).1 (by rw[hd,he])
        ·rw[b9 e];refine a2b u fun j hj oj xz hlj hkj he=>?_
         by_cases hjk:j=k
         ·subst hjk;rw[hok]at xz;cases xz;rw[hd]at he;cases he;exact e rfl
         ·exact hu j hj oj xz hlj (by omega) he
       ·intro u hu;rw[Hr _ _ (fun e=>hu k hkL ok hok hkF (by rw[hd,e])),hek u hu]
      ·refine⟨ak,σk,hsk,fun u hu=>a2b u fun j hj oj xz hlj hkj=>?_,hek⟩;by_cases hjk:j=k
       ·subst hjk;exact absurd ⟨hj,hlj⟩ hkl
       ·exact hu j hj oj xz hlj (by omega)
    obtain⟨an,σn,hsn,a88,hen⟩:=fill n (bO _);have hsS:=dl.same (st:=⟨σn,S.H⟩) (σ':=S.σ) (fun u=>a88 u (fun j hj oj xz _ hnj=>by have:=Ev j hj;omega)) hsn;have hwp:=hstep κ Θ an w hsS;refine AH ho (by simp[Region.wanted,hgm]) (RC (Q2:=_) hsel ?_ ?_ ?_ (fun e _ _ h=>h) hwp)
    ·intro x hx;cases x with
     |tmp u=>
      refine(hen u fun j hj oj xz hlj he=>?_).symm;have hu:u∈o.looksAt l.toArray:=by
       unfold Oper.looksAt;exact aR.2 (.inl (cD.2 ⟨.tmp u,by simpa using hx,rfl⟩))
      rcases(JE (n+c) o (by omega) him ho j hj oj xz).2.2 with h|h
      ·rw[xu inv.closed hi h]at hlj;cases hlj
      ·exact h u hu he
     |const v=>rfl
     |global g=>rfl
     |func f=>rfl
    ·rintro v w' ⟨κ',Θ',hs'⟩;let late:List (Nat×D):=(L.filterMap fun j=>bif listed.getD j false then none else(l.toArray[j]?).bind (·.dst)).map fun u=>(u,D.any)
     have QS:∀u,u∈late.map Prod.fst↔∃j∈L,∃oj,l.toArray[j]?=some oj/\listed.getD j false=false/\oj.dst=some u:=by
      intro u;simp only[late,yt,cE,cD,Function.comp];constructor
      ·rintro⟨x,⟨j,hj,hx⟩,rfl⟩;cases hl:listed.getD j false with
       |true=>rw[hl]at hx;cases hx
       |false=>
        rw[hl,aS]at hx;cases xz:l.toArray[j]? with
        |none=>rw[xz]at hx;cases hx
        |some oj=>rw[xz]at hx;exact⟨j,hj,oj,xz,hl,hx⟩
      ·rintro⟨j,hj,oj,xz,hl,hx⟩;exact⟨u,⟨j,hj,by rw[hl,aS,xz];exact hx⟩,rfl⟩
     have hs2:dl Γ ⟨late++S1.σ,S1.H⟩ κ' Θ' (a.put o.dst v) w':=by
      refine⟨by rw[a5O];exact hs.defers,by rw[a5P];exact hs.size,hs'.pH,hs'.oN,?_,hs'.ob,hs'.own,hs'.old,hs'.mine,hs'.stays,hs'.rV⟩;intro u;show∃bs,rW w' κ' _ (lk (late++S1.σ) u) bs/\_;by_cases hu:u∈late.map Prod.fst
      ·rw[a3V (fun p hp=>by simp only[late,cE]at hp;obtain⟨_,_,rfl⟩:=hp;rfl) hu];exact⟨[],.of (.any _),by simp⟩
      ·rw[Ex _ _ _ (fun p hp e=>hu (cE.2 ⟨p,hp,e⟩))];have e1:(a.put o.dst v).tmps.getD u undef=(an.put o.dst v).tmps.getD u undef:=by
        have e0:=(hen u fun j hj oj xz hlj he=>hu ((QS u).2 ⟨j,hj,oj,xz,hlj,he⟩)).symm;rcases OY with⟨tm,dm,Zn,htm,_⟩|⟨Zn,_⟩
        ·rw[Zn];by_cases e:u=tm
         ·subst e;rw[JR _ _ (by rw[hs.size];exact htm),JR _ _ (by rw[hsn.size];exact htm)]
         ·rw[Hr _ _ e,Hr _ _ e];exact e0
        ·rw[Zn];exact e0
       rw[e1];exact hs'.slot u
     refine ih (c+1) S1 (listed.setIfInBounds (n+c) true) (late++S1.σ) κ' Θ' _ w' (inv.set hi CW) ?_ (by omega) ?_ ?_ (by omega) ?_ (hX.trans hX1) hA1 ?_ hs2
     ·intro j hj hjL;exact(qo j).2 (.inr (hN j hj hjL))
     ·intro j Gg hj2;by_cases e:j=n+c
      ·exact(qo j).2 (.inl e)
      ·exact(qo j).2 (.inr (hM j Gg (by omega)))
     ·intro j Gg hj2;rw[getD_set_ne false (by omega)];exact hT j (by omega) hj2
     ·intro u hu;rw[a8Z u (hu (n+c) o ho (by omega) (by omega))];exact hS u fun j oj xz Gg hj2=>hu j oj xz Gg (by omega)
     ·intro u hu;rw[Ex];intro p hp e;obtain⟨j,hj,oj,xz,hl,he⟩:=(QS u).1 (cE.2 ⟨p,hp,e⟩);refine hu j hj oj xz ?_ he;rw[getD_set_ne false (by have:=Ev j hj;omega)];exact hl
    ·rintro d w' ⟨κ',Θ',hs'⟩;have:=hs'.defers;cases hod:o.dst<;>rw[hod]at this<;>cases this
theorem Ks{p:Nat->Bool}{n:Nat}:∀(k:Nat),(∀i,n<=i->i<n+k->p i=true)->((List.range (n+k)).filter p).length=((List.range n).filter p).length+k
 |0,_=>rfl
 |k+1,h=>by
  rw[<-lD,List.range_succ,List.filter_append,av,Ks k (fun i h1 h2=>h i h1 (by omega))];have:p (n+k)=true:=h (n+k) (by omega) (by omega);simp[this];omega
def NN(P:Program)(Γ:uB)(ops:Array Oper)(Q:Exit->St->Prop)(st:St):Prop:=
 ∀κ Θ a w,dl Γ st κ Θ a w->wpAny P .any ops (fun e a' w'=>∃v7 κ' Θ',dl Γ v7 κ' Θ' a' w'/\Q e v7) ops.size (Array.replicate ops.size false) a w
theorem NN.aw{id:Nat}{ops:Array Oper}(hm:P.follows .mixedOrders=true)(h:NN P Γ ops Q st):AW P Γ (.region id ops true) Q st:=
 fun κ Θ a w hs=>wp_region_any hm (h κ Θ a w.drew hs.drew)
theorem UC{l:List Oper}(n m:Nat)(L:aW)(hB0:Lw l.toArray n m L=true)
 (h:KY P Γ l.toArray st.H (fun σ acc=>(∀i∈L,∀o,l[i]?=some o->Cd X ⟨σ,st.H⟩ o.op=true)/\VW P Γ X (fun v7=>AO P Γ l.toArray (l.drop m) Q v7) ((l.drop n).take (m-n)) ⟨σ,st.H++acc⟩) (l.take n) st.σ [] []):NN P Γ l.toArray Q st:=by
 have hB:=hB0;simp only[Lw,WE,aV,bI]at hB;obtain⟨⟨hnm,MB⟩,Zq,Wp,hmid,WV,WY,Wh,hL⟩:=hB;have hn:n<l.toArray.size:=by omega
 have Kg:((List.range n).all fun i=>match l.toArray[i]? with
  |none=>false
  |some o=>(o.after.all fun e=> !Region.binds .any e||decide (e.on<i))&&
   ((o.looksAt l.toArray).all fun t=>(List.range n).all fun j=>match l.toArray[j]? with|some oj=> !(oj.dst==some t)||(decide (j<i)&&Region.waitsFor .any l.toArray i j)|none=>true)&&
   (List.range n).all fun j=>j==i||(match l.toArray[j]? with|some oj=> !(oj.dst==o.dst)||o.dst.isNone|none=>true))=true:=by
  rw[aq];intro i hi;have h1:=aq.1 WV i (bh.2 (by have:=bh.1 hi;omega));have h2:=aq.1 WY i hi;cases ho:l.toArray[i]? with
  |none=>rw[ho]at h1;cases h1
  |some o=>
   simp only[ho,aV]at h1 h2⊢;exact⟨⟨h1,h2.1⟩,h2.2⟩
 have Ev:∀i∈L,i<n:=by
  intro i hi;have:=aq.1 hL i hi;simp only[aV,bI]at this;exact this.1
 obtain⟨ps,L4,hlen,M7,⟨hstill,hK⟩,hFl,hFo,hFu⟩:=KY.unfold _ _ _ _ h;simp only[ck,bS,yu,cW]at M7 hK hFl hFo hstill;have hn':n<l.length:=by simpa using hn
 have hpl:ps.length=n:=by rw[hlen];simp;omega
 have hop:∀(i:Nat),i<n->∃o p,l.toArray[i]?=some o/\ps[i]?=some p/\o.dst=p.t/\tU P Γ l.toArray st.H (((ps.take i).filterMap Cp.sl).reverse++st.σ) o p/\p.r=st.H.length+((ps.take i).flatMap Cp.obs).length:=by
  intro i hi;have h1:l[i]?=some l[i]:=af (by omega);have h2:ps[i]?=some ps[i]:=af (by omega);have h3:=M7 i l[i] ps[i] (by rw[cP,bN hi];exact h1) h2;exact⟨l[i],ps[i],by simp[iD,h1],h2,h3.1.slots,h3.1,h3.2.1⟩
 have Rs:∀(i:Nat) p,ps[i]?=some p->p.r=st.H.length+((ps.take i).flatMap Cp.obs).length:=by
  intro i p hp;have hi:i<n:=by have:=(aF.1 hp).1;omega
  obtain⟨_,p',_,hp',_,_,hr⟩:=hop i hi;rw[hp]at hp';cases hp';exact hr
 have Oe:∀(i:Nat) p id ob,ps[i]?=some p->p.up=some (id,ob)->st.H.length<=id/\(∃zs ds,ob=.box ds/\zs.length=ds.length/\((ps.take i).flatMap Cp.obs)[id-st.H.length]?=some (.box zs))/\∀(i2:Nat) q B8,i2<i->ps[i2]?=some q->q.up≠some (id,B8):=by
  intro i p id ob hp he;have hi:i<n:=by have:=(aF.1 hp).1;omega
  have h1:l[i]?=some l[i]:=af (by omega);have h3:=(M7 i l[i] p (by rw[cP,bN hi];exact h1) hp).2.2 id ob he;exact⟨h3.2.1,h3.2.2.1,h3.2.2.2⟩
 have Ws:∀(i j:Nat) p q id ob B8,ps[i]?=some p->ps[j]?=some q->p.up=some (id,ob)->q.up=some (id,B8)->i=j:=by
  intro i j p q id ob B8 hp hq he Ho;rcases w5 i j with h|h|h
  ·exact absurd he ((Oe j q id B8 hq Ho).2.2 i p ob h hp)
  ·exact h
  ·exact absurd Ho ((Oe i p id ob hp he).2.2 j q B8 h hq)
 have Wt:∀(i:Nat) p id ob,ps[i]?=some p->p.up=some (id,ob)->p.obs=[]:=by
  intro i p id ob hp he;have hi:i<n:=by have:=(aF.1 hp).1;omega
  obtain⟨_,p',_,hp',_,hc,_⟩:=hop i hi;rw[hp]at hp';cases hp';rcases hc.Yk with h|h
  ·rw[h]at he;cases he
  ·exact h
 have hfit:∀(i:Nat) p,ps[i]?=some p->p.r+p.obs.length<=st.H.length+(ps.flatMap Cp.obs).length:=by
  intro i p hp;rw[Rs i p hp,qn hp];simp only[av];omega
 have OX:∀(i j:Nat) p q,ps[i]?=some p->ps[j]?=some q->i<j->p.r+p.obs.length<=q.r:=by
  intro i j p q hp hq hij;rw[Rs i p hp,Rs j q hq];have:=Nt hp hij;omega
 have hdist:∀(i j:Nat) p q t,ps[i]?=some p->ps[j]?=some q->p.t=some t->q.t=some t->i=j:=by
  intro i j p q t hp hq he1 Ho;have hi:i<n:=by have:=(aF.1 hp).1;omega
  have hj:j<n:=by have:=(aF.1 hq).1;omega
  obtain⟨oi,p',ho,hp',hdi,_⟩:=hop i hi;obtain⟨oj,q',xz,NA,hdj,_⟩:=hop j hj;rw[hp]at hp';cases hp';rw[hq]at NA;cases NA;have:=aq.1 Kg i (bh.2 hi);simp only[ho,aV]at this;have:=aq.1 this.2 j (bh.2 hj);simp only[xz,hdi,hdj,he1,Ho,qx,bW,ug,Option.isNone_some,ug,cc]at this;exact this.symm
 have Eo:∀(i:Nat) p t,ps[i]?=some p->p.t=some t->∀q∈ps.filterMap Cp.sl,q.1=t->q=(t,p.d):=by
  intro i p t hp hpt q hq he;obtain⟨q',NA,KK⟩:=cD.1 hq;obtain⟨j,hj,rfl⟩:=eO.1 NA;have Hy:ps[j]?=some ps[j]:=af hj;unfold Cp.sl at KK;cases Zo:ps[j].t with
  |none=>rw[Zo]at KK;cases KK
  |some u=>
   rw[Zo]at KK;simp only[cU,ah]at KK;subst KK;simp only at he;subst he;have:=hdist j i _ p u Hy hp Zo hpt;subst this;rw[hp]at Hy;cases Hy;rfl
 have hlk:∀(i:Nat) (o:Oper),i<n->l.toArray[i]?=some o->∀t∈o.looksAt l.toArray,lk (((ps.take i).filterMap Cp.sl).reverse++st.σ) t=lk ((ps.filterMap Cp.sl).reverse++st.σ) t:=by
  intro i o hin ho t ht;have J0:=aq.1 Kg i (bh.2 hin);simp only[ho,aV]at J0;have J0:=aq.1 J0.1.2 t ht;by_cases hex:∃(j:Nat) (q:Cp),ps[j]?=some q/\q.t=some t
  ·obtain⟨j,q,hq,LF⟩:=hex;have hj:j<n:=by have:=(aF.1 hq).1;omega
   obtain⟨oj,q',xz,NA,hdj,_⟩:=hop j hj;rw[hq]at NA;cases NA;have:=aq.1 J0 j (bh.2 hj);simp only[xz,hdj,LF,qx,bW,qW,aV,bI]at this;obtain⟨hji,_⟩:=this;rw[Hq (ps.filterMap Cp.sl).reverse st.σ (t,q.d) (by rw[eA];exact cD.2 ⟨q,aE hq,by simp[Cp.sl,LF]⟩) (fun q2 Hy Ho=>Eo j q t hq LF q2 (by simpa using Hy) Ho)];refine Hq ((ps.take i).filterMap Cp.sl).reverse st.σ (t,q.d) ?_ (fun q2 Hy Ho=>Eo j q t hq LF q2 ?_ Ho)
   ·rw[eA];exact cD.2 ⟨q,aE (i:=j) (by rw[cP,bN hji];exact hq),by simp[Cp.sl,LF]⟩
   ·obtain⟨q3,Rt,yA⟩:=cD.1 (eA.1 Hy);exact cD.2 ⟨q3,bu Rt,yA⟩
  ·have hno:∀q3∈ps,q3.t≠some t:=by
    intro q3 Rt he;obtain⟨j,hj,hqj⟩:=eO.1 Rt;exact hex ⟨j,q3,by rw[<-hqj];exact af hj,he⟩
   have hsl:∀(qs:List Cp),(∀q3∈qs,q3.t≠some t)->∀p∈(qs.filterMap Cp.sl).reverse,p.1≠t:=by
    intro qs KK p hp he;obtain⟨q3,Rt,yA⟩:=cD.1 (eA.1 hp);unfold Cp.sl at yA;cases hpt:q3.t with
    |none=>rw[hpt]at yA;cases yA
    |some u=>rw[hpt]at yA;simp only[cU,ah]at yA;subst yA;simp only at he;exact KK q3 Rt (by rw[hpt,he])
   rw[Ex _ _ _ (hsl _ hno),Ex _ _ _ (hsl _ (fun q3 Rt=>hno q3 (bu Rt)))]
 have a1N:∀i∈L,∃(o:Oper) (p:Cp),l.toArray[i]?=some o/\ps[i]?=some p/\p.obs=[]/\p.up=none/\Vn P Γ X l ((ps.filterMap Cp.sl).reverse++st.σ) st.H i:=by
  intro i hi;have hin:=Ev i hi;have h1:=aq.1 hL i hi;obtain⟨o,p,ho,hp,hd,hc,_⟩:=hop i hin;simp only[ho,aV]at h1;have hg:o.guard=none:=by simpa using h1.2.1
  have hst:=hstill i hi o (by simpa using ho);rcases hc with⟨t,hpt,TS,hdt,htn,hc⟩|⟨_,_,hdt,_⟩
  ·have hc:I2 P st.H (((ps.take i).filterMap Cp.sl).reverse++st.σ) o p:=by
    rcases hc with⟨_,hc⟩|⟨_,_,_,_,hg',_⟩|⟨_,_,_,hg',_⟩
    ·exact hc
    ·rw[hg]at hg';cases hg'
    ·rw[hg]at hg';cases hg'
   have hpv:pv P ⟨((ps.take i).filterMap Cp.sl).reverse++st.σ,st.H⟩ o.op=some p.d/\p.obs=[]:=by
    rcases hc with(hc|⟨f,xs,ts,ds,ms,d,Ro,_⟩)| (⟨T,zs,Ro,_⟩|⟨T,x,ds,Ro,_⟩)|⟨T,e,sz,len,parts,zs,ds,es,Ro,_⟩|⟨T,e,sz,len,parts,zs,ds,Ro,_⟩
    ·exact hc
    all_goals(rw[Ro]at hst;simp[Cd]at hst)
   refine⟨o,p,ho,hp,hpv.2,TS,o,t,p.d,ho,hg,hdt,htn,?_,?_⟩
   ·exact Hq (ps.filterMap Cp.sl).reverse st.σ (t,p.d) (by rw[eA];exact cD.2 ⟨p,aE hp,by simp[Cp.sl,hpt]⟩) (fun q2 Hy Ho=>Eo i p t hp hpt q2 (by simpa using Hy) Ho)
   ·intro σ' H' hX QT;have e1:pv P ⟨(ps.filterMap Cp.sl).reverse++st.σ,st.H⟩ o.op=some p.d:=PE (fun _ _ h=>h) (Lx (st:=⟨_,st.H⟩) (v7:=⟨_,st.H⟩) (ops:=l.toArray) (o:=o) (fun t ht=>hlk i o hin ho t ht)) hpv.1;refine Ya hX hst ?_ e1;intro x hx;rw[QD σ' H' st.H x];exact(Lx (st:=⟨σ',st.H⟩) (v7:=⟨_,st.H⟩) (ops:=l.toArray) (o:=o) (fun t ht=>QT t ht) x hx).symm
  ·have:o.dst.isSome=true:=h1.2.2;rw[hdt]at this;cases this
 intro κ Θ a w hs;have switch:∀(f:Nat) (listed:Array Bool) (σ':List (Nat×D)) (H':bQ) (κ:Nat->Option Value) (Θ:Nat->Nat) (a:Act) (w:World),HeadInv .any l.toArray n listed->
  ((List.range n).filter fun i=> !listed.getD i false).length=f->
  (∀(i:Nat) p t,ps[i]?=some p->p.t=some t->listed.getD i false=true->lk σ' t=p.d)->
  (∀t,(∀(i:Nat) p,ps[i]?=some p->listed.getD i false=true->p.t≠some t)->lk σ' t=lk st.σ t)->
  H'.length=st.H.length+(ps.flatMap Cp.obs).length->Ext st.H H'->
  (∀(i:Nat) p,ps[i]?=some p->listed.getD i false=true->∀(j:Nat) o,p.obs[j]?=some o->(∀(i2:Nat) q ob,ps[i2]?=some q->listed.getD i2 false=true->q.up≠some (p.r+j,ob))->H'[p.r+j]?=some o)->
  (∀(i:Nat) q id ob,ps[i]?=some q->listed.getD i false=true->q.up=some (id,ob)->H'[id]?=some ob/\∃v,κ id=some v)->
  (∀(i:Nat) p,ps[i]?=some p->listed.getD i false=false->∀j,j<p.obs.length->κ (p.r+j)=none)->
  dl Γ ⟨σ',H'⟩ κ Θ a w->(∀i,i<n->i∉L->listed.getD i false=true)->
  wpAny P .any l.toArray (fun e a' w'=>∃v7 κ' Θ',dl Γ v7 κ' Θ' a' w'/\Q e v7) (f+(l.toArray.size-n)) listed a w:=by
  intro f listed σ' H' κ Θ a w inv oc hA hB hHl VN TM Z3 TL hs hN;have a1A:∀(i:Nat) p,ps[i]?=some p->(p.up≠none\/p.obs≠[])->listed.getD i false=true:=by
   intro i p hp hne;have hi:i<n:=by have:=(aF.1 hp).1;omega
   refine hN i hi fun hiL=>?_
   obtain⟨_,p',_,hp',h1,h2,_⟩:=a1N i hiL;rw[hp]at hp';cases hp';rcases hne with h|h
   ·exact h h2
   ·exact h h1
  have KI:∀t,(∀i∈L,∀o,l.toArray[i]?=some o->listed.getD i false=false->o.dst≠some t)->lk σ' t=lk ((ps.filterMap Cp.sl).reverse++st.σ) t:=by
   intro t hno;by_cases hex:∃(i:Nat) (p:Cp),ps[i]?=some p/\p.t=some t
   ·obtain⟨i,p,hp,hpt⟩:=hex;have hi:i<n:=by have:=(aF.1 hp).1;omega
    have hli:listed.getD i false=true:=by
     cases hl:listed.getD i false with
     |true=>rfl
     |false=>
      obtain⟨o,p',ho,hp',hd,_⟩:=hop i hi;rw[hp]at hp';cases hp';by_cases hiL:i∈L
      ·exact absurd (by rw[hd,hpt]) (hno i hiL o ho hl)
      ·rw[hN i hi hiL]at hl;cases hl
    rw[hA i p t hp hpt hli];exact(Hq (ps.filterMap Cp.sl).reverse st.σ (t,p.d) (by rw[eA];exact cD.2 ⟨p,aE hp,by simp[Cp.sl,hpt]⟩) (fun q hq he=>Eo i p t hp hpt q (by simpa using hq) he)).symm
   ·rw[hB t (fun i p hp _ he=>hex ⟨i,p,hp,he⟩),Ex];intro q hq he;obtain⟨p,hp,hps⟩:=cD.1 (eA.1 hq);obtain⟨i,hi,hpi⟩:=eO.1 hp;refine hex ⟨i,p,by rw[<-hpi];exact af hi,?_⟩;unfold Cp.sl at hps;cases hpt:p.t with
    |none=>rw[hpt]at hps;cases hps
    |some u=>rw[hpt]at hps;simp only[cU,ah]at hps;subst hps;simp only at he;rw[he]
  have WL:H'=st.H++L4:=by
   apply nw;intro k;by_cases h1:k<st.H.length
   ·rw[ar h1];exact VN k _ (af h1)|>.trans (af h1).symm
   ·rw[b8 (by omega)];by_cases hex:∃(i:Nat) (q:Cp) (ob:Ob),ps[i]?=some q/\q.up=some (k,ob)
    ·obtain⟨i,q,ob,hq,he⟩:=hex;rw[(Z3 i q k ob hq (a1A i q hq (.inl (by rw[he];simp))) he).1,hFu i q k ob hq he]
    ·have hno:∀(i:Nat) q ob,ps[i]?=some q->q.up≠some (k,ob):=fun i q ob hq he=>hex ⟨i,q,ob,hq,he⟩
     rw[hFo (k-st.H.length) (fun i q ob hq=>by rw[show st.H.length+(k-st.H.length)=k from by omega];exact hno i q ob hq)];by_cases h2:k-st.H.length<(ps.flatMap Cp.obs).length
     ·obtain⟨i,p,j,hp,hj,hk⟩:=z7 h2;have e3:p.r+j=k:=by rw[Rs i p hp];omega
      have h3:=TM i p hp (a1A i p hp (.inr (by intro e;rw[e]at hj;simp at hj))) j _ (af hj) (fun i2 q ob hq _=>by rw[e3];exact hno i2 q ob hq);rw[e3]at h3;rw[h3,qn hp,hk,b8 (by omega),dP,ar hj,af hj]
     ·rw[cN (by omega),cN (by omega)]
  subst WL;have hsz:=inv.size;have hcm:((List.range m).filter fun i=> !listed.getD i false).length=f+(m-n):=by
   have:=Ks (p:=fun i=> !listed.getD i false) (n:=n) (m-n) (fun i h1 h2=>by
    have:=getD_both (inv.tail i h1 (by omega));simp only[this];rfl)
   rw[show n+(m-n)=m from by omega]at this;rw[this,oc]
  have:=QB (Q:=Q) (H0:=st.H) hB0 (fun i hi=>by obtain⟨_,_,_,_,_,_,h⟩:=a1N i hi;exact h) (f+(m-n)) 0 ⟨(ps.filterMap Cp.sl).reverse++st.σ,st.H++L4⟩ listed σ' κ Θ a w
   ⟨hsz,inv.closed,fun t h1 h2=>absurd h2 (by omega)⟩ hN (by omega) (fun i h1 h2=>absurd h2 (by omega)) (fun i h1 h2=>getD_both (inv.tail i (by omega) h2)) hcm (fun _ _=>rfl)
   ((zR.refl _).app _) (by simpa using hK) KI hs
  rw[show f+(m-n)+(l.toArray.size-m)=f+(l.toArray.size-n)from by omega]at this;exact this
 have main:∀(f:Nat) (listed:Array Bool) (σ':List (Nat×D)) (H':bQ) (κ:Nat->Option Value) (Θ:Nat->Nat) (a:Act) (w:World),HeadInv .any l.toArray n listed->
  ((List.range n).filter fun i=> !listed.getD i false).length=f->
  (∀(i:Nat) p t,ps[i]?=some p->p.t=some t->listed.getD i false=true->lk σ' t=p.d)->
  (∀t,(∀(i:Nat) p,ps[i]?=some p->listed.getD i false=true->p.t≠some t)->lk σ' t=lk st.σ t)->
  H'.length=st.H.length+(ps.flatMap Cp.obs).length->Ext st.H H'->
  (∀(i:Nat) p,ps[i]?=some p->listed.getD i false=true->∀(j:Nat) o,p.obs[j]?=some o->(∀(i2:Nat) q ob,ps[i2]?=some q->listed.getD i2 false=true->q.up≠some (p.r+j,ob))->H'[p.r+j]?=some o)->
  (∀(i:Nat) q id ob,ps[i]?=some q->listed.getD i false=true->q.up=some (id,ob)->H'[id]?=some ob/\∃v,κ id=some v)->
  (∀(i:Nat) p,ps[i]?=some p->listed.getD i false=false->∀j,j<p.obs.length->κ (p.r+j)=none)->
  dl Γ ⟨σ',H'⟩ κ Θ a w->
  wpAny P .any l.toArray (fun e a' w'=>∃v7 κ' Θ',dl Γ v7 κ' Θ' a' w'/\Q e v7) (f+(l.toArray.size-n)) listed a w:=by
  intro f
  induction f with
  |zero=>
   intro listed σ' H' κ Θ a w inv oc hA hB hHl VN TM Z3 TL hs;have hall:∀i,i<n->listed.getD i false=true:=by
    intro i hi;have h0:=cL oc;cases hl:listed.getD i false with
    |true=>rfl
    |false=>
     have:i∈(List.range n).filter fun i=> !listed.getD i false:=gr.2 ⟨bh.2 hi,by simp[hl]⟩
     rw[h0]at this;cases this
   exact switch 0 listed σ' H' κ Θ a w inv oc hA hB hHl VN TM Z3 TL hs (fun i hi _=>hall i hi)
  |succ f ih=>
   intro listed σ' H' κ Θ a w inv oc hA hB hHl VN TM Z3 TL hs;by_cases hsw:∀i,i<n->i∉L->listed.getD i false=true
   ·exact switch (f+1) listed σ' H' κ Θ a w inv oc hA hB hHl VN TM Z3 TL hs hsw
   have a8x:∃i,i<n/\i∉L/\listed.getD i false=false:=by
    obtain⟨i,hi⟩:=Classical.not_forall.1 hsw;refine⟨i,?_⟩;by_cases h1:i<n
    ·by_cases h2:i∈L
     ·exact absurd (fun _ h=>absurd h2 h) hi
     ·refine⟨h1,h2,?_⟩;cases hl:listed.getD i false with
      |false=>rfl
      |true=>exact absurd (fun _ _=>hl) hi
    ·exact absurd (fun h=>absurd h h1) hi
   have hun:∃i,i<n/\listed.getD i false=false:=by
    have hne:((List.range n).filter fun i=> !listed.getD i false)≠[]:=by
     intro h0;rw[h0]at oc;simp at oc
    obtain⟨i,hi⟩:=uR _ hne;obtain⟨h1,h2⟩:=gr.1 hi;exact⟨i,bh.1 h1,by simpa using h2⟩
   have hsz:=inv.size;rw[show f+1+(l.toArray.size-n)=(f+(l.toArray.size-n))+1 from by omega];refine⟨fun h0=>?_,fun i hi=>?_⟩
   ·exfalso;obtain⟨i,⟨hin,RE⟩,hmin⟩:=exists_least (p:=fun i=>i<n/\listed.getD i false=false) hun;obtain⟨o,p,ho,_,_,_⟩:=hop i hin;have:i∈Region.ready .any l.toArray listed:=by
     refine mem_ready.2 ⟨getD_in (by rw[hsz];omega) RE,o,ho,fun e he hb=>?_⟩;have:=aq.1 Kg i (bh.2 hin);simp only[ho,aV]at this;have:=vF.1 this.1.1 e he;simp only[hb,bW,qW,bI]at this;cases hl:listed.getD e.on false with
     |true=>rfl
     |false=>
      have:=hmin e.on ⟨by omega,hl⟩;omega
    rw[h0]at this;cases this
   ·obtain⟨i0,hi0,hl0⟩:=hun;have hin:i<n:=by
     rcases eL i n with h|h
     ·exact h
     ·obtain⟨i1,hi1,a8R,hl1⟩:=a8x;obtain⟨_,oi,hoi,_⟩:=mem_ready.1 hi;have CW:i<l.toArray.size:=(bD.1 hoi).1;exfalso;rcases eL i m with hm1|hm1
      ·have h1:=aq.1 hmid (i-n) (bh.2 (by omega));have h2:=aq.1 h1 i1 (bh.2 (by omega));rw[show n+(i-n)=i from by omega]at h2;simp only[oD]at h2;rcases h2 with h2|h2
       ·rw[xu inv.closed hi h2]at hl1;cases hl1
       ·exact a8R (by simpa using h2)
      ·have h1:=aq.1 Wp (i-m) (bh.2 (by omega));have h2:=aq.1 h1 i1 (bh.2 (by omega));rw[show m+(i-m)=i from by omega]at h2;rw[xu inv.closed hi h2]at hl1;cases hl1
    obtain⟨o,p,ho,hp,hd,hc,_⟩:=hop i hin;obtain⟨RE,o',ho',hall⟩:=mem_ready.1 hi;rw[ho]at ho';cases ho';have Ay:=getD_both RE;have WR:tU P Γ l.toArray st.H σ' o p:=by
     refine tU.congr (σ:=((ps.take i).filterMap Cp.sl).reverse++st.σ) (σ':=σ') ?_ hc;intro t ht;have J0:=aq.1 Kg i (bh.2 hin);simp only[ho,aV]at J0;have J0:=aq.1 J0.1.2 t ht;by_cases hex:∃(j:Nat) (q:Cp),ps[j]?=some q/\q.t=some t
     ·obtain⟨j,q,hq,LF⟩:=hex;have hj:j<n:=by have:=(aF.1 hq).1;omega
      obtain⟨oj,q',xz,NA,hdj,_⟩:=hop j hj;rw[hq]at NA;cases NA;have:=aq.1 J0 j (bh.2 hj);simp only[xz,hdj,LF,qx,bW,qW,aV,bI]at this;obtain⟨hji,Wu⟩:=this;obtain⟨oi',Wk,e,he,hb,hon⟩:=Region.waitsFor_spec Wu;rw[ho]at Wk;cases Wk;have hjl:=hall e he hb;rw[hon]at hjl;rw[hA j q t hq LF hjl];refine Hq ((ps.take i).filterMap Cp.sl).reverse st.σ (t,q.d) ?_ (fun q2 Hy Ho=>Eo j q t hq LF q2 ?_ Ho)
      ·rw[eA];exact cD.2 ⟨q,aE (i:=j) (by rw[cP,bN hji];exact hq),by simp[Cp.sl,LF]⟩
      ·obtain⟨q3,Rt,yA⟩:=cD.1 (eA.1 Hy);exact cD.2 ⟨q3,bu Rt,yA⟩
     ·rw[hB t (fun j q hq _ he=>hex ⟨j,q,hq,he⟩),Ex];intro q hq he;obtain⟨q3,Rt,yA⟩:=cD.1 (eA.1 hq);obtain⟨j,hj,hqj⟩:=eO.1 (bu Rt);refine hex ⟨j,q3,by rw[<-hqj];exact af hj,?_⟩;unfold Cp.sl at yA;cases hpt:q3.t with
      |none=>rw[hpt]at yA;cases yA
      |some u=>rw[hpt]at yA;simp only[cU,ah]at yA;subst yA;simp only at he;rw[he]
    have hfp:=hfit i p hp;have Wa:∀id ob,p.up=some (id,ob)->∃v,κ id=some v:=by
     intro id ob he;rcases WR with⟨_,_,h,_⟩|⟨_,_,_,_,T,x,y,id',ds,Ro,hx',_,_,_,_,TS⟩
     ·rw[h]at he;cases he
     ·rw[TS]at he;cases he;obtain⟨b1,r1,_⟩:=hs.ev x;rw[QD σ' H' st.H x,hx']at r1;obtain⟨g,hk,_⟩:=r1.zD;exact⟨_,hk⟩
    have Wq:∀id ob,p.up=some (id,ob)->∃zs ds,H'[id]?=some (.box zs)/\ob=.box ds/\zs.length=ds.length:=by
     intro id ob he;obtain⟨u1,⟨zs,ds,u2,u3,u4⟩,_⟩:=Oe i p id ob hp he;refine⟨zs,ds,?_,u2,u3⟩;obtain⟨i1,p1,j1,hp1,Gg,hk1⟩:=z7 (aF.1 u4).1;have Rq:ps[i1]?=some p1:=by
      have:=(aF.1 hp1).1;rw[cP]at hp1;split at hp1
      ·exact hp1
      ·cases hp1
     have hi1:i1<i:=by have:=(aF.1 hp1).1;simp at this;omega
     have et:(ps.take i).take i1=ps.take i1:=by rw[tS,fG (by omega)]
     rw[et]at hk1;have e1:p1.r+j1=id:=by rw[Rs i1 p1 Rq];omega
     have xy:p1.obs[j1]?=some (.box zs):=by
      rw[qn hp1,et,hk1,b8 (by omega),dP,ar Gg]at u4;exact u4
     have hl1:listed.getD i1 false=true:=by
      cases hl:listed.getD i1 false with
      |true=>rfl
      |false=>
       have h0:=TL i1 p1 Rq hl j1 Gg;rw[e1]at h0;obtain⟨v,hv⟩:=Wa id ob he;rw[h0]at hv;cases hv
     have:=TM i1 p1 Rq hl1 j1 _ xy (fun i2 q B8 hq hl Ho=>by
      rw[e1]at Ho;have:=Ws i i2 p q id ob B8 hp hq he Ho;subst this;rw[Ay]at hl;cases hl)
     rw[e1]at this;exact this
    refine WR.wp hs VN ho (by omega) (fun j hj=>TL i p hp Ay j hj) Wq fun κ' Θ' a' w' hs' hsame=>?_
    have qo:∀(j:Nat),(listed.setIfInBounds i true).getD j false=true↔(j=i\/listed.getD j false=true):=by
     intro j;by_cases e:i=j
     ·subst e;have:i<listed.size:=by rw[hsz];omega
      simp[this]
     ·rw[getD_set_ne false e];constructor
      ·exact .inr
      ·rintro(rfl|h)
       ·exact absurd rfl e
       ·exact h
    have hput:(p.B1 H').length=H'.length:=by
     unfold Cp.B1;split
     ·simp
     ·exact uL (by omega)
    have a2n:∀(k:Nat),k<st.H.length->(p.B1 H')[k]?=H'[k]?:=by
     intro k hk;unfold Cp.B1;split
     ·rename_i id ob he;have:=(Oe i p id ob hp he).1;rw[cB (by omega)]
     ·rw[uK (by omega),bN (by rw[Rs i p hp];omega)]
    refine ih (listed.setIfInBounds i true) (p.slot σ') (p.B1 H') κ' Θ' a' w' (inv.set hi hin) ?_ ?_ ?_ (by rw[hput];exact hHl) ?_ ?_ ?_ ?_ hs'
    ·have UQ:((List.range n).filter fun j=> !(listed.setIfInBounds i true).getD j false)=((List.range n).filter fun j=> !listed.getD j false).erase i:=by
      have hnd:((List.range n).filter fun j=> !listed.getD j false).Nodup:=xV _ BB;rw[hnd.erase_eq_filter,zP];apply AX;intro j _;by_cases e:j=i
      ·subst e;have:=(qo j).2 (.inl rfl);rw[this];simp
      ·rw[getD_set_ne false (rZ e)];simp[e]
     rw[UQ,qX (gr.2 ⟨bh.2 hin,by simp[Ay]⟩),oc];rfl
    ·intro j q t hq LF hl;unfold Cp.slot;rcases(qo j).1 hl with rfl|Bf
     ·rw[hp]at hq;cases hq;rw[LF];simp[lk]
     ·cases hpt:p.t with
      |none=>exact hA j q t hq LF Bf
      |some u=>
       simp only[lk];rw[b9,hA j q t hq LF Bf];intro e;have:=hdist j i q p t hq hp LF (by rw[hpt,e]);subst this;rw[Ay]at Bf;cases Bf
    ·intro t ht;unfold Cp.slot;have qU:=hB t (fun j q hq hl=>ht j q hq ((qo j).2 (.inr hl)));cases hpt:p.t with
     |none=>exact qU
     |some u=>
      simp only[lk];rw[b9 (fun e=>ht i p hp ((qo i).2 (.inl rfl)) (by rw[hpt,e]))];exact qU
    ·intro j y hj;rw[a2n j (aF.1 hj).1];exact VN j y hj
    ·intro j q hq hl k y hy hno;have hkl:=(aF.1 hy).1;unfold Cp.B1;split
     ·rename_i id ob he;have hne:q.r+k≠id:=fun e=>hno i p ob hp ((qo i).2 (.inl rfl)) (by rw[e];exact he)
      rw[cB (rZ hne)];rcases(qo j).1 hl with rfl|Bf
      ·rw[hp]at hq;cases hq;rw[Wt j p id ob hp he]at hy;simp at hy
      ·exact TM j q hq Bf k y hy (fun i2 q2 B8 Hy VP=>hno i2 q2 B8 Hy ((qo i2).2 (.inr VP)))
     ·rw[uK (by omega)];rcases(qo j).1 hl with rfl|Bf
      ·rw[hp]at hq;cases hq;rw[b9 (by omega),bN (by omega),dP];exact hy
      ·have hne:j≠i:=fun e=>by subst e;rw[Ay]at Bf;cases Bf
       have h3:=TM j q hq Bf k y hy (fun i2 q2 B8 Hy VP=>hno i2 q2 B8 Hy ((qo i2).2 (.inr VP)));rcases vG hne with h|h
       ·have:=OX j i q p hq hp h;rw[bN (by omega)];exact h3
       ·have:=OX i j p q hp hq h;rw[b9 (by omega),b9 (by omega)];exact h3
    ·intro j q id ob hq hl he;rcases(qo j).1 hl with rfl|Bf
     ·rw[hp]at hq;cases hq;obtain⟨zs,ds,z1,_⟩:=Wq id ob he;have hlt:=(aF.1 z1).1;refine⟨by simp only[Cp.B1,he];rw[dB hlt],?_⟩;obtain⟨v,hv⟩:=Wa id ob he;refine⟨v,?_⟩;rw[hsame id (by rw[Wt j p id ob hp he];simp;omega)];exact hv
     ·obtain⟨h1,v,hv⟩:=Z3 j q id ob hq Bf he;have hout:id<p.r\/p.r+p.obs.length<=id:=by
       rcases eL id p.r with h|h
       ·exact .inl h
       ·rcases eL id (p.r+p.obs.length)with h2|h2
        ·have:=TL i p hp Ay (id-p.r) (by omega);rw[show p.r+(id-p.r)=id from by omega,hv]at this;cases this
        ·exact .inr h2
      refine⟨?_,v,by rw[hsame id hout];exact hv⟩;unfold Cp.B1;split
      ·rename_i id2 B8 Ho;have hne:id2≠id:=fun e=>by
        subst e;have:=Ws i j p q id2 B8 ob hp hq Ho he;subst this;rw[Ay]at Bf;cases Bf
       rw[cB hne];exact h1
      ·rw[uK (by omega)];rcases hout with h|h
       ·rw[bN h];exact h1
       ·rw[b9 (by omega),b9 (by omega)];exact h1
    ·intro j q hq hl k hk;have hne:j≠i:=fun e=>by
      subst e;have:=(qo j).2 (.inl rfl);rw[this]at hl;cases hl
     have Bf:listed.getD j false=false:=by
      cases h:listed.getD j false with
      |false=>rfl
      |true=>have:=(qo j).2 (.inr h);rw[this]at hl;cases hl
     have h3:=TL j q hq Bf k hk;rw[hsame,h3];rcases vG hne with h|h
     ·have:=OX j i q p hq hp h;omega
     ·have:=OX i j p q hp hq h;omega
 have a3R:HeadInv .any l.toArray n (Array.replicate l.toArray.size false):=
  ⟨by simp,fun j oj _ hl=>(by rw[getD_replicate_false]at hl;cases hl),fun t _ ht=>getD_in (by simpa using ht) (getD_replicate_false _ _)⟩
 have oc:((List.range n).filter fun i=> !(Array.replicate l.toArray.size false).getD i false).length=n:=by
  rw[List.filter_eq_self.2]
  ·simp
  ·intro i _;rw[getD_replicate_false];rfl
 have:=main n (Array.replicate l.toArray.size false) st.σ (st.H++List.replicate (ps.flatMap Cp.obs).length .gone) κ Θ a w a3R oc (fun i p t _ _ hl=>by rw[getD_replicate_false]at hl;cases hl) (fun t _=>rfl)
  (by simp) (fun i o h=>by rw[ar (aF.1 h).1];exact h) (fun i p _ hl=>by rw[getD_replicate_false]at hl;cases hl)
  (fun i q id ob _ hl=>by rw[getD_replicate_false]at hl;cases hl)
  (fun i p hp _ j _=>hs.pH _ (by rw[Rs i p hp];omega)) (hs.room _)
 rw[show n+(l.toArray.size-n)=l.toArray.size from by omega]at this;exact this
def Km(X:aW)(st:St)(op:Op)(A:fA):Bool:=match op with
 | .buildSlice _ _ _=>true
 | .build _ _=>true
 | .extract _ _=>true
 | .field _ _ _=>true
 | .move _=>true
 | .indexAddr _ x _=>(ML st (st.ev x)).isNone
 | .load _ x=>(Oy st (st.ev x)).isNone&&(match st.ev x,A with| .op id _ _ _,.tk _::_=>X.contains id|_,_=>true)
 | .store _ x _=>(match st.ev x with| .ptr id _=>X.contains id|_=>false)
 | .call c=>(match c.callee,A with
  | .builtin .append,_=>true
  | .value (.func _),.d _::_=>true
  | .value (.func _),.gf _ _::_=>true
  | .value (.func _),.gp _ _ _::_=>(match c.args.toList with|x::_=>(match st.ev x with| .ptr id _=>X.contains id|_=>false)| []=>false)
  |_,_=>false)
 |_=>false
def QM(X:aW)(H H':bQ):Bool:=(List.range H.length).all fun i=>X.contains i||(match H[i]? with|some .gone=>true|_=>(match H'[i]? with|some .gone=>false|_=>true))
def MT(P:Program)(nt:Nat)(X:aW):List Oper->St->fA->Option (St×fA×Cl)
 | [],st,A=>some (st,A,[])
 |o::rest,st,A=>match o.guard,Km X st o.op A with
  |none,true=>(match Gn P nt o st A with
   |some (yE,A1,p)=>(match QM X st.H yE.H,MT P nt X rest yE A1 with|true,some (Mg,A2,q)=>some (Mg,A2,p++q)|_,_=>none)
   |none=>none)
  |_,_=>none
theorem Qa{H:bQ}{ms:aW}{i:Nat}(h:i∈ms)(hl:i<H.length):(kill H ms)[i]?=some .gone:=by
 induction ms generalizing H with
 |nil=>cases h
 |cons m ms ih=>
  show(kill (H.set m .gone) ms)[i]?=_;by_cases hi:i∈ms
  ·exact ih hi (by simpa using hl)
  ·rw[gH hi];rcases bL.1 h with rfl|h
   ·rw[dB hl]
   ·exact absurd h hi
theorem TJ{X:aW}{H H':bQ}(h:QM X H H'=true){i:Nat}{o:Ob}(hi:i∉X)(ho:H[i]?=some o)(hg:H'[i]?=some .gone):o=.gone:=by
 have h1:=aq.1 h i (bh.2 (aF.1 ho).1);rw[ho,hg,List.contains_eq_mem,bM hi,qW]at h1;cases o<;>first|rfl|cases h1
theorem MH{X:aW}{H:bQ}{ms:aW}{n:bQ}(h:QM X H (kill H ms++n)=true):zR X H (kill H ms++n):=by
 intro i o hi ho;have hl:=(aF.1 ho).1;have e:(kill H ms++n)[i]?=(kill H ms)[i]?:=ar (by rw[fX];exact hl);by_cases hm:i∈ms
 ·have e2:=e.trans (Qa hm hl);rw[e2,TJ h hi ho e2]
 ·rw[e,gH hm,ho]
theorem Uc{X:aW}{H:bQ}{ms:aW}{n:bQ}{id:Nat}{b:Ob}(hid:id∈X)(h:QM X H ((kill H ms).set id b++n)=true):zR X H ((kill H ms).set id b++n):=by
 intro i o hi ho;have hne:id≠i:=fun e=>hi (e▸hid)
 have hl:=(aF.1 ho).1;have e:((kill H ms).set id b++n)[i]?=(kill H ms)[i]?:=by
  rw[ar (by rw[eU,fX];exact hl),cB hne]
 by_cases hm:i∈ms
 ·have e2:=e.trans (Qa hm hl);rw[e2,TJ h hi ho e2]
 ·rw[e,gH hm,ho]
theorem YX{X:aW}{nt:Nat}{o:Oper}{A A1:fA}{yE:St}{p:Cl}(hk:Km X st o.op A=true)(hgn:QM X st.H yE.H=true)(h:Gn P nt o st A=some (yE,A1,p)):((∃t d,o.dst=some t/\t<nt/\yE.σ=(t,d)::st.σ)\/(o.dst=none/\yE.σ=st.σ))/\zR X st.H yE.H:=by
 have plain:∀ {t:Nat},o.dst=some t->(if t<nt then match GS P st o.op A with|some (d,A,ow)=>some ((⟨(t,d)::st.σ,st.H⟩:St),A,ow)|none=>none else none)=some (yE,A1,p)->((∃t d,o.dst=some t/\t<nt/\yE.σ=(t,d)::st.σ)\/(o.dst=none/\yE.σ=st.σ))/\zR X st.H yE.H:=by
  intro t hd h;split at h
  ·rename_i ht;split at h
   ·cases h;exact⟨.inl ⟨t,_,hd,ht,rfl⟩,zR.refl _⟩
   ·cases h
  ·cases h
 unfold Gn at h;split at h
 case h_3=>
  rename_i T x y hop hd;rw[hop]at hk;simp only[Km]at hk;split at h
  ·rename_i id off ds h1 h2;rw[h1]at hk;split at h
   ·split at h
    ·split at h
     ·cases h;refine⟨.inr ⟨hd,rfl⟩,fun i cs hi hcs=>?_⟩;have hne:id≠i:=fun e=>hi (by subst e;simpa using hk)
      show(st.H.set id _)[i]?=_;rw[cB hne,hcs]
     ·cases h
    ·cases h
   ·cases h
  ·rename_i id i sz off ds h1 h2;rw[h1]at hk;cases hk
  ·cases h
 case h_7=>
  rename_i T len parts t hop hd;split at h
  ·split at h
   ·split at h
    ·split at h
     ·rename_i es ms hab;split at h
      ·rename_i hc;cases h;exact⟨.inl ⟨t,_,hd,hc.1,rfl⟩,MH hgn⟩
      ·cases h
     ·cases h
    ·cases h
   ·cases h
  ·cases h
 case h_8=>
  rename_i c t hop hd;rw[hop]at hk;simp only[Km]at hk;split at h
  ·split at h
   ·split at h
    ·rename_i rows u1 k1 dG u2 k2 A' ow _ hS hX;split at h
     ·rename_i hc;cases h;exact⟨.inl ⟨t,_,hd,hc.1,rfl⟩,MH hgn⟩
     ·cases h
    ·cases h
   ·cases h
  ·rename_i a2g _ _;rw[a2g]at hk;cases hk
  ·rename_i f a2g;rw[a2g]at hk;split at hk
   ·rename_i hb;cases hb
   ·rename_i f' d A' hb;split at h
    ·rename_i hA;cases hA
    ·rename_i hA;cases hA
    ·rename_i hA;cases hA
    ·rename_i hA;cases hA
    ·rename_i hA;cases hA
    ·rename_i hA;cases hA
    ·rename_i ds ms d' A'' hv hA;split at h
     ·rename_i hc;cases h;exact⟨.inl ⟨t,_,hd,hc.1,rfl⟩,(zR.refl _).app _⟩
     ·cases h
    ·rename_i hA;cases hA
    ·rename_i hA;cases hA
    ·cases h
   ·rename_i f' nz d A' hb;generalize GU st.H (List.map st.ev c.args.toList)=q at h;rcases q with _|⟨qa,qb⟩
    all_goals
     dsimp only at h;split at h
     ·rename_i ds ms qs h9;split at h
      ·rename_i hc;cases h;exact⟨.inl ⟨t,_,hd,hc.1,rfl⟩,MH hgn⟩
      ·cases h
     ·cases h
   ·rename_i f' nz cells' d A' hb;generalize GU st.H (List.map st.ev c.args.toList)=q at h;rcases q with _|⟨qa,qb⟩
    all_goals
     dsimp only at h;split at h
     ·rename_i x0 xr h5;rw[h5]at hk;split at h
      ·rename_i id h6;simp only[h6]at hk;split at h
       ·rename_i ob h7;split at h
        ·rename_i Js h8;split at h
         ·rename_i cells ds ms qs h9;split at h
          ·rename_i hc;cases h;exact⟨.inl ⟨t,_,hd,hc.1,rfl⟩,Uc (by simpa using hk) hgn⟩
          ·cases h
         ·cases h
        ·cases h
       ·cases h
      ·cases h
     ·cases h
   ·cases hk
  ·exact plain hd h
 case h_13=>
  rename_i T x i t hop hd;rw[hop]at hk;simp only[Km]at hk;split at h
  ·rename_i hl;rw[hl]at hk;cases hk
  ·exact plain hd h
 case h_14=>
  rename_i T x t hop hd;rw[hop]at hk;simp only[Km]at hk;split at h
  ·rename_i hl;rw[hl]at hk;cases hk
  ·rw[aV]at hk
   replace hk:=hk.2
   split at h
   ·rename_i r A' id i sz h1;split at h
    ·rename_i n e sz' rows h2;split at h
     ·rename_i hc;cases h;refine⟨.inl ⟨t,_,hd,hc.1,rfl⟩,zR.app (fun j cs hj hcs=>?_) _⟩;have hne:id≠j:=fun e=>hj (by subst e;rw[h1]at hk;simpa using hk)
      rw[cB hne];exact hcs
     ·cases h
    ·cases h
   ·exact plain hd h
 all_goals first
  | (rename_i hop _;rw[hop]at hk;simp[Km]at hk;done)
  | (rename_i hop;rw[hop]at hk;simp[Km]at hk;done)
  |skip
 all_goals first
  |exact plain (by assumption) h
  |cases h
theorem Step.of{nt:Nat}(hnt:Γ.nt=nt){o:Oper}{A A1:fA}{yE:St}{p:Cl}(hg:o.guard=none)(hsel:∀cs b,o.op≠ .select cs b)(h:Gn P nt o st A=some (yE,A1,p))(hp:yJ p):Step P Γ o st yE:=by
 intro κ Θ a w hs;have h1:=OE (P:=P) (Γ:=Γ) (all:= #[]) (rest:=[]) (Q:=fun e s=>e=.normal/\s=yE) hnt hg h hp (a2H ⟨rfl,rfl⟩) κ Θ a w hs;have hw:Region.wanted o (yielded #[] a.tmps)=true:=by simp[Region.wanted,hg]
 simp only[wpList,hw,pT]at h1;rcases h1 with h1|⟨_,a0,w0,v7,κ',Θ',_,hq,_⟩
 ·refine RC hsel (fun _ _=>rfl) ?_ ?_ ?_ h1
  ·rintro v w' ⟨v7,κ',Θ',hs',_,rfl⟩;exact⟨κ',Θ',hs'⟩
  ·rintro d w' ⟨v7,κ',Θ',hs',_,rfl⟩;have:=hs'.defers;cases hod:o.dst<;>rw[hod]at this<;>cases this
  ·rintro e c w' ⟨v7,κ',Θ',hs',rfl,_⟩;rfl
 ·cases hq
theorem P4{X:aW}{nt:Nat}(hnt:Γ.nt=nt){K:St->Prop}{Mg:St}{A2:fA}:∀ {ops:List Oper} {st:St} {A:fA} {p:Cl},MT P nt X ops st A=some (Mg,A2,p)->yJ p->K Mg->VW P Γ X K ops st:=by
 intro ops
 induction ops with
 |nil=>intro st A p h hp hK;simp only[MT,ah,cX]at h;obtain⟨rfl,_,_⟩:=h;exact hK
 |cons o os ih=>
  intro st A p h hp hK;simp only[MT]at h;split at h
  ·rename_i hg hok;split at h
   ·rename_i yE A1 p1 h1;split at h
    ·rename_i a0n A2' q hgn h2;cases h;obtain⟨hp1,hq⟩:=hp.app;obtain⟨hd,hX⟩:=YX hok hgn h1;have hsel:∀cs b,o.op≠ .select cs b:=by
      intro cs b e;rw[e]at hok;cases hok
     exact⟨yE,hd.imp (fun⟨t,d,hd,ht,hσ⟩=>⟨t,d,hd,by rw[hnt];exact ht,hσ⟩) id,hX,hg,hsel,Step.of hnt hg hsel h1 hp1,ih h2 hq hK⟩
    ·cases h
   ·cases h
  ·cases h
def YZ(X:aW)(st:St)(ops:List Oper)(L:aW):Bool:=L.all fun i=>match ops[i]? with|some o=>Cd X st o.op|none=>false
theorem V2{X:aW}{st:St}{ops:List Oper}{L:aW}(h:YZ X st ops L=true):∀i∈L,∀o,ops[i]?=some o->Cd X st o.op=true:=by
 intro i hi o ho;have:=aq.1 h i hi;rw[ho]at this;exact this
def Bm(ρ:aW)(o:Oper):Oper:= {o with after:=o.after.map fun e=> {e with on:=ρ.getD e.on 0},guard:=o.guard.map fun g=>(ρ.getD g.1 0,g.2)}
def vC(ops:Array Oper)(π ρ:aW):List Oper:=π.filterMap fun i=>(ops[i]?).map (Bm ρ)
def Ko(ops:Array Oper)(π ρ:aW):Bool:=
 decide (π.length=ops.size)&&(decide (ρ.length=ops.size)&&
 (((List.range ops.size).all fun i=>(match ρ[i]? with|some k=>π[k]?==some i|none=>false))&&
 (((List.range ops.size).all fun k=>(match π[k]? with|some i=>ρ[i]?==some k|none=>false))&&
 (ops.toList.all fun o=>(o.after.all fun e=>decide (e.on<ops.size))&&(match o.guard with|some g=>decide (g.1<ops.size)|none=>true)))))
theorem Lz(ρ:aW)(o:Oper)(f:Operand->Value):execOp f (Bm ρ o)=execOp f o:=by
 cases o;rfl
theorem Yr(ρ:aW){o:Oper}{K:Act->World->Prop}{Q:Exit->Act->World->Prop}(h:(Bm ρ o).wp P a w K Q):o.wp P a w K Q:=by
 unfold Oper.wp at*;rw[Lz]at h;exact h
theorem RQ(ρ:aW){o:Oper}(h:(Bm ρ o).asks P a w):o.asks P a w:=by
 unfold Oper.asks at*;rw[Lz]at h;exact h
section
variable{ops:Array Oper}{π ρ:aW}
theorem Mb(hB:Ko ops π ρ=true){k i:Nat}{o:Oper}(hk:π[k]?=some i)(ho:ops[i]?=some o):(vC ops π ρ).toArray[k]?=some (Bm ρ o):=by
 simp only[Ko,aV,bI]at hB;obtain⟨h1,h2,h3,h4,h5⟩:=hB;have hall:∀x∈π,∃o,ops[x]?=some o:=by
  intro x hx;obtain⟨j,hj,rfl⟩:=eO.1 hx;have:=aq.1 h4 j (bh.2 (by omega));rw[af hj]at this;simp only[cc]at this;have:=(aF.1 this).1;exact⟨_,cO (by omega)⟩
 have key:∀(l:aW) (k:Nat),(∀x∈l,∃o,ops[x]?=some o)->l[k]?=some i->(l.filterMap fun i=>(ops[i]?).map (Bm ρ))[k]?=some (Bm ρ o):=by
  intro l
  induction l with
  |nil=>intro k _ h;simp at h
  |cons x l ih=>
   intro k hl h;obtain⟨ox,Rp⟩:=hl x (by simp);rw[yZ];simp only[Rp,cU];cases k with
   |zero=>simp at h;subst h;rw[ho]at Rp;cases Rp;rfl
   |succ k=>simpa using ih k (fun y hy=>hl y (by simp[hy])) (by simpa using h)
 have:=key π k hall hk;simpa[vC]using this
theorem Qt(hB:Ko ops π ρ=true):(vC ops π ρ).toArray.size=ops.size:=by
 have hB':=hB;simp only[Ko,aV,bI]at hB;obtain⟨h1,h2,h3,h4,h5⟩:=hB;have hall:∀x∈π,∃o,ops[x]?=some o:=by
  intro x hx;obtain⟨j,hj,rfl⟩:=eO.1 hx;have:=aq.1 h4 j (bh.2 (by omega));rw[af hj]at this;simp only[cc]at this;have:=(aF.1 this).1;exact⟨_,cO (by omega)⟩
 have key:∀(l:aW),(∀x∈l,∃o,ops[x]?=some o)->(l.filterMap fun i=>(ops[i]?).map (Bm ρ)).length=l.length:=by
  intro l
  induction l with
  |nil=>intro _;rfl
  |cons x l ih=>
   intro hl;obtain⟨ox,Rp⟩:=hl x (by simp);rw[yZ];simp only[Rp,cU,aP,ih (fun y hy=>hl y (by simp[hy]))]
 rw[vz,vC,key π hall,h1]
theorem Xh{Q':Exit->Act->World->Prop}(hB:Ko ops π ρ=true):∀(fuel:Nat) (listed listed':Array Bool) (a:Act) (w:World),listed.size=ops.size->listed'.size=ops.size->(∀(k i:Nat),π[k]?=some i->listed'.getD k false=listed.getD i false)->
 wpAny P .any (vC ops π ρ).toArray Q' fuel listed' a w->wpAny P .any ops Q' fuel listed a w:=by
 have hB':=hB;simp only[Ko,aV,bI]at hB';obtain⟨h1,h2,h3,h4,h5⟩:=hB';have to:∀i,i<ops.size->∃k,ρ[i]?=some k/\π[k]?=some i/\k<ops.size:=by
  intro i hi;have:=aq.1 h3 i (bh.2 hi);split at this
  ·rename_i k hk;simp only[cc]at this;exact⟨k,hk,this,by have:=(aF.1 this).1;omega⟩
  ·cases this
 have back:∀k,k<ops.size->∃i,π[k]?=some i/\ρ[i]?=some k/\i<ops.size:=by
  intro k hk;have:=aq.1 h4 k (bh.2 hk);split at this
  ·rename_i i hi;simp only[cc]at this;exact⟨i,hi,this,by have:=(aF.1 this).1;omega⟩
  ·cases this
 have rin:∀(i:Nat) o,ops[i]?=some o->(∀e∈o.after,e.on<ops.size)/\∀g,o.guard=some g->g.1<ops.size:=by
  intro i o ho;have hm:o∈ops.toList:=by rw[<-jl]at ho;exact aE ho
  have:=aq.1 h5 o hm;simp only[aV]at this;refine⟨fun e he=>by simpa using vF.1 this.1 e he,fun g hg=>?_⟩;have:=this.2;rw[hg]at this;simpa using this
 have rd:∀(listed listed':Array Bool),listed.size=ops.size->listed'.size=ops.size->(∀(k i:Nat),π[k]?=some i->listed'.getD k false=listed.getD i false)->∀(k i:Nat),π[k]?=some i->(i∈Region.ready .any ops listed↔k∈Region.ready .any (vC ops π ρ).toArray listed'):=by
  intro listed listed' hs1 hs2 VQ k i hki;have hk:k<ops.size:=by have:=(aF.1 hki).1;omega
  obtain⟨i',hi',hr,hilt⟩:=back k hk;rw[hki]at hi';cases hi';have ho:ops[i]?=some ops[i]:=cO hilt;have ho':=Mb hB hki ho;have hon:∀e∈ops[i].after,listed'.getD (ρ.getD e.on 0) false=listed.getD e.on false:=by
   intro e he;obtain⟨k2,hk2,hk3,_⟩:=to e.on ((rin i _ ho).1 e he);rw[lH,hk2,uA];exact VQ k2 e.on hk3
  rw[mem_ready,mem_ready];constructor
  ·rintro⟨q1,o,q2,q3⟩;rw[ho]at q2;cases q2;refine⟨getD_in (by omega) (by rw[VQ k i hki];exact getD_both q1),_,ho',?_⟩;intro e he hb;simp only[Bm,Array.mem_map]at he;obtain⟨e0,he0,rfl⟩:=he;simp only;rw[hon e0 he0];exact q3 e0 he0 hb
  ·rintro⟨q1,o,q2,q3⟩;rw[ho']at q2;cases q2;refine⟨getD_in (by omega) (by rw[<-VQ k i hki];exact getD_both q1),_,ho,?_⟩;intro e he hb;rw[<-hon e he];exact q3 {e with on:=ρ.getD e.on 0} (by simp only[Bm,Array.mem_map];exact⟨e,he,rfl⟩) hb
 have lt:∀ {listed:Array Bool} {ops:Array Oper} {i:Nat},i∈Region.ready .any ops listed->i<ops.size:=by
  intro listed ops i hi;obtain⟨_,o,ho,_⟩:=mem_ready.1 hi;exact(bD.1 ho).1
 have a1P:∀(listed listed':Array Bool),listed.size=ops.size->listed'.size=ops.size->(∀(k i:Nat),π[k]?=some i->listed'.getD k false=listed.getD i false)->(Region.ready .any ops listed=[]↔Region.ready .any (vC ops π ρ).toArray listed'=[]):=by
  intro listed listed' hs1 hs2 VQ;constructor
  ·intro h;rw[xA];intro k hk;obtain⟨i,hi,_⟩:=back k (by have:=lt hk;rw[Qt hB]at this;exact this);have:=(rd listed listed' hs1 hs2 VQ k i hi).2 hk;rw[h]at this;cases this
  ·intro h;rw[xA];intro i hi;obtain⟨k,_,hk,_⟩:=to i (lt hi);have:=(rd listed listed' hs1 hs2 VQ k i hk).1 hi;rw[h]at this;cases this
 intro fuel
 induction fuel with
 |zero=>
  intro listed listed' a w hs1 hs2 VQ h;exact⟨(a1P listed listed' hs1 hs2 VQ).2 h.1,h.2⟩
 |succ fuel ih=>
  intro listed listed' a w hs1 hs2 VQ h;refine⟨fun h0=>h.1 ((a1P listed listed' hs1 hs2 VQ).1 h0),fun i hi=>?_⟩;have hilt:=lt hi;obtain⟨k,hrk,hk,aBK⟩:=to i hilt;have hkr:=(rd listed listed' hs1 hs2 VQ k i hk).1 hi;have ho:ops[i]?=some ops[i]:=cO hilt;have ho':=Mb hB hk ho;have h2:=wpOp_mono (K':=wpAny P .any ops Q' fuel (listed.setIfInBounds i true)) (fun a' w' h'=>ih (listed.setIfInBounds i true) (listed'.setIfInBounds k true) a' w' (by simpa using hs1) (by simpa using hs2) (by
   intro k2 i2 WZ;by_cases e:k=k2
   ·subst e;rw[hk]at WZ;cases WZ;have g1:k<listed'.size:=by omega
    have g2:i<listed.size:=by omega
    simp[g1,g2]
   ·have e2:i≠i2:=by
     intro e3;subst e3;obtain⟨i',hi',hr',_⟩:=back k2 (by have:=(aF.1 WZ).1;omega);rw[WZ]at hi';cases hi';rw[hrk]at hr';cases hr';exact e rfl
    rw[getD_set_ne false e,getD_set_ne false e2];exact VQ k2 i2 WZ) h') (h.2 k hkr)
  have hw:Region.wanted (Bm ρ ops[i]) (yielded (vC ops π ρ).toArray a.tmps)=Region.wanted ops[i] (yielded ops a.tmps):=by
   cases hg:ops[i].guard with
   |none=>simp[Region.wanted,Bm,hg]
   |some g=>
    obtain⟨j,want⟩:=g;have hj:=(rin i _ ho).2 _ hg;obtain⟨k3,a8m,hk3,_⟩:=to j hj;have xz:ops[j]?=some ops[j]:=cO hj;have a8g:=Mb hB hk3 xz;have:yielded (vC ops π ρ).toArray a.tmps (ρ.getD j 0)=yielded ops a.tmps j:=by
     rw[lH,a8m,uA];unfold yielded;rw[a8g,xz];rfl
    simp only[Region.wanted,Bm,hg,cU];rw[this]
  unfold wpOp at h2⊢;simp only[ho',ho]at h2⊢;rw[hw]at h2;split
  ·rename_i Wv;rw[bN Wv]at h2;exact h2.imp (Yr ρ) fun⟨q1,q2⟩=>⟨RQ ρ q1,q2⟩
  ·rename_i Wv;rw[b9 Wv]at h2;exact h2
theorem NN.perm(hB:Ko ops π ρ=true)(h:NN P Γ (vC ops π ρ).toArray Q st):NN P Γ ops Q st:=by
 intro κ Θ a w hs;have:=h κ Θ a w hs;rw[Qt hB]at this;refine Xh hB ops.size (Array.replicate ops.size false) (Array.replicate ops.size false) a w (by simp) (by simp) (fun k i _=>?_) this;rw[getD_replicate_false,getD_replicate_false]
end
end
end Go.Cx
namespace Go.Cx
open Go.RowKit
def yS(P:Program)(nt:Nat)(all:Array Oper):List Oper->St->fA->Option (St×fA×Cl)
 | [],st,A=>(match shares A st with| (yE,A1)=>some (yE,A1,[]))
 |o::rest,st,A=>match o.guard with
  |none=>(match Gn P nt o st A with
   |some (yE,A1,p)=>(match yS P nt all rest yE A1 with|some (Mg,A2,q)=>some (Mg,A2,p++q)|none=>none)
   |none=>none)
  |some (j,want)=>(match(all[j]?).bind (·.dst),A with
   |some s,.b v::A=>(match lk st.σ s with
    | .bool b=>(match v==want with
     |true=>(match Gn P nt {o with guard:=none} st A with
      |some (yE,A1,p)=>(match yS P nt all rest yE A1 with|some (Mg,A2,q)=>some (Mg,A2,(b=v)::(p++q))|none=>none)
      |none=>none)
     |false=>(match o.dst with
      |some t=>(if t<nt then match yS P nt all rest ⟨(t,.gL [])::st.σ,st.H⟩ A with|some (Mg,A2,q)=>some (Mg,A2,(b=v)::q)|none=>none else none)
      |none=>(match yS P nt all rest st A with|some (Mg,A2,q)=>some (Mg,A2,(b=v)::q)|none=>none)))
    | .gL []=>(match o.dst with
     |some t=>(if t<nt then yS P nt all rest ⟨(t,.gL [])::st.σ,st.H⟩ A else none)
     |none=>yS P nt all rest st A)
    |_=>none)
   |_,_=>none)
def T6(P:Program)(H:bQ)(r:Nat)(σ:List (Nat×D))(o:Oper)(A:fA):Option (D×bQ×fA×Cl):=match o.op with
 | .call c=>(match c.callee with
  | .value (.func f)=>(match GU H (c.args.toList.map (St.ev ⟨σ,H⟩)),A with
   |some (ds,ms),.d d::A=>(if ms=[]\/d.MY=true then some ((oV r d).1,(oV r d).2,A,[Good P f ds d])else none)
   |some (ds,ms),.ds d::A=>(if d.a3a=true/\d.MY=true then some (d.VT,[],A,[Good P f ds d])else none)
   |_,.nl d::A=>(if(c.args.toList.map (St.ev ⟨σ,H⟩)).all Kk=true then some ((oV r d).1,(oV r d).2,A,[Good P f (c.args.toList.map (St.ev ⟨σ,H⟩)) d])else none)
   |_,_=>none)
  |_=>(match GS P ⟨σ,H⟩ o.op A with|some (d,A,ow)=>some (d,[],A,ow)|none=>none))
 | .alloc T=>(match tz P T with|some zs=>some (.ptr r 0,[.box zs],A,[])|none=>none)
 | .box _ x=>(match(St.ev ⟨σ,H⟩ x).cellsOf with|some ds=>some (.ptr r 0,[.box ds],A,[])|none=>none)
 | .buildSlice T len parts=>(match FT P T with
  |some (e,sz)=>(match tz P e with
   |some zs=>(match yC (sv len sz) (List.replicate len zs).flatten (parts.toList.map fun q=>(q.1,St.ev ⟨σ,H⟩ q.2))with
    |some ds=>(match A with
     | .vw _::A=>(if 0<sz/\len*sz<=16777216/\ds.all D.Ph=true/\ds.all D.flat=true then some (.sl (chunk sz len ds),[],A,[])else none)
     |A=>(match I5 H ds with
      |some (es,ms)=>(if 0<sz/\len*sz<=16777216/\ms=[]then some (.acc r,[.row (xI (V9 H e 0 ds)) e sz (chunk sz len es)],A,[])else none)
      |none=>none))
    |none=>none)
   |none=>none)
  |none=>none)
 |_=>(match GS P ⟨σ,H⟩ o.op A with|some (d,A,ow)=>some (d,[],A,ow)|none=>none)
def xT(P:Program)(nt:Nat)(all:Array Oper)(H:bQ):List Oper->List (Nat×D)->bQ->aW->fA->Option (List (Nat×D)×bQ×fA×Cl)
 | [],σ,acc,_,A=>some (σ,acc,A,[])
 |o::rest,σ,acc,U,A=>match o.dst with
  |none=>(match o.op,o.guard with
   | .store T x y,none=>(match St.ev ⟨σ,H⟩ x,(St.ev ⟨σ,H⟩ y).cellsOf with
    | .ptr id off,some ds=>(match acc[id-H.length]? with
     |some (.box zs)=>(if off=0/\H.length<=id/\id∉U/\PY P T=true/\ds.length=zM P T/\zs.length=ds.length then xT P nt all H rest σ (acc.set (id-H.length) (.box ds)) (id::U) A else none)
     |_=>none)
    |_,_=>none)
   |_,_=>none)
  |some t=>(if t<nt then match o.guard with
   |none=>(match T6 P H (H.length+acc.length) σ o A with
    |some (d,obs,A1,p)=>(match xT P nt all H rest ((t,d)::σ) (acc++obs) U A1 with|some (σ2,Pu,A2,q)=>some (σ2,Pu,A2,p++q)|none=>none)
    |none=>none)
   |some (j,want)=>(match(all[j]?).bind (·.dst),A with
    |some s,.b v::A=>(match lk σ s with
     | .bool b=>(match v==want with
      |true=>(match T6 P H (H.length+acc.length) σ o A with
       |some (d,obs,A1,p)=>(match xT P nt all H rest ((t,d)::σ) (acc++obs) U A1 with|some (σ2,Pu,A2,q)=>some (σ2,Pu,A2,(b=v)::(p++q))|none=>none)
       |none=>none)
      |false=>(match xT P nt all H rest ((t,.gL [])::σ) acc U A with|some (σ2,Pu,A2,q)=>some (σ2,Pu,A2,(b=v)::q)|none=>none))
     | .gL []=>xT P nt all H rest ((t,.gL [])::σ) acc U A
     |_=>none)
    |_,_=>none)
   else none)
inductive Fr where
 |sq (c:Code)
 |bl (id:Nat)
 |lp
def depth:List Fr->Nat
 | []=>0
 | .lp::K=>depth K+1
 |_::K=>depth K
inductive Cfg where
 |run (c:Code)
 |Xf
 |ex (id:Nat)
inductive Stop where
 |ret (d:D)
 |lp (c:Code) (K:List Fr) (st:St)
 |cont (k:Nat) (st:St)
 |at_ (c:Code) (K:List Fr) (st:St)
def a3e(P:Program)(rs:List ResultVar×List (List (Option (Nat×Nat))))(st:St):Option D:=match Gj P st rs.1 with
 |some ds=>(match AD st.H rs.2 ds with|some (es,ms,qs)=>(if ms.Nodup/\qs.Nodup then some (JO es)else none)|none=>none)
 |none=>none
def a8Y(A:fA)(m:Nat):Option (aW×aW):=match A with
 | .hl m' k o::_=>if m'=m then some (k,o)else none
 |_=>none
def O4(p:Cl)(x:Option (Stop×Cl)):Option (Stop×Cl):=match x with
 |some (s,q)=>some (s,p++q)
 |none=>none
def go(P:Program)(rf:St->Option D)(nt:Nat):Nat->Cfg->List Fr->St->fA->Option (Stop×Cl)
 |0,_,_,_,_=>none
 |n+1,.run c,K,st,A=>(match c with
  | .skip=>go P rf nt n .Xf K st A
  | .ret=>(match rf st with|some d=>some (.ret d,[])|none=>none)
  | .exit id=>go P rf nt n (.ex id) K st A
  | .seq x y=>go P rf nt n (.run x) (.sq y::K) st A
  | .block id x=>go P rf nt n (.run x) (.bl id::K) st A
  | .loop x=>(match A with
   | .cn k o::_=>(if o.Nodup then some (.lp x K (st.Cn k o),[])else none)
   | .pb id off e sz::A=>(match st.prom id off e sz with|some yE=>(match shares A yE with| (Mg,A2)=>go P rf nt n (.run (.loop x)) K Mg A2)|none=>none)
   |_=>none)
  | .cond x y z=>(match st.ev x,A with
   | .bool b,.b v::A=>O4 [b=v] (go P rf nt n (.run (match v with|true=>y|false=>z)) K st A)
   |_,_=>none)
  | .region _ ops dr=>(match dr with
   |false=>(match yS P nt ops ops.toList st A with|some (yE,A1,p)=>O4 p (go P rf nt n .Xf K yE A1)|none=>none)
   |true=>(match A with
    | .n k::A=>(match WD ops k with
     |true=>(match xT P nt ops st.H (ops.toList.take k) st.σ [] [] A with
      |some (σ1,acc,A1,p)=>(match yS P nt ops (ops.toList.drop k) ⟨σ1,st.H++acc⟩ A1 with|some (Mg,A2,q)=>O4 (p++q) (go P rf nt n .Xf K Mg A2)|none=>none)
      |none=>none)
     |false=>none)
    | .n2 π ρ k m L X::A=>(match Ko ops π ρ,vC ops π ρ with
     |true,ops'=>(match Lw ops'.toArray k m L with
      |true=>(match xT P nt ops'.toArray st.H (ops'.take k) st.σ [] [] A with
       |some (σ1,acc,A1,p)=>(match YZ X ⟨σ1,st.H⟩ ops' L,MT P nt X ((ops'.drop k).take (m-k)) ⟨σ1,st.H++acc⟩ A1 with
        |true,some (yE,A2,p2)=>(match yS P nt ops'.toArray (ops'.drop m) yE A2 with|some (Mg,A3,q)=>O4 (p++(p2++q)) (go P rf nt n .Xf K Mg A3)|none=>none)
        |_,_=>none)
       |none=>none)
      |false=>none)
     |false,_=>none)
    |_=>none))
  |_=>none)
 |n+1,.Xf,K,st,A=>(match K with
  | []=>(match rf st with|some d=>some (.ret d,[])|none=>none)
  | .sq y::K=>(match a8Y A K.length with|some (k,o)=>(if o.Nodup then some (.at_ y K (st.Cn k o),[])else none)|none=>go P rf nt n (.run y) K st A)
  | .bl _::K=>go P rf nt n .Xf K st A
  | .lp::K=>(match A with| .cn k o::_=>(if o.Nodup then some (.cont (depth K) (st.Cn k o),[])else none)|_=>none))
 |n+1,.ex id,K,st,A=>(match K with
  | []=>none
  | .sq _::K=>go P rf nt n (.ex id) K st A
  | .bl i::K=>(if id=i then go P rf nt n .Xf K st A else go P rf nt n (.ex id) K st A)
  | .lp::K=>go P rf nt n (.ex id) K st A)
section
variable{P:Program}{Γ:uB}{Q:Exit->St->Prop}{N:Nat->St->Prop}
def KQ(P:Program)(Γ:uB)(N:Nat->St->Prop)(Q:Exit->St->Prop):List Fr->Exit->St->Prop
 | []=>Q
 | .sq y::K=>Yf (AW P Γ y (KQ P Γ N Q K)) (KQ P Γ N Q K)
 | .bl id::K=>OO id (KQ P Γ N Q K)
 | .lp::K=>Yf (fun st=>∃k o,o.Nodup/\N (depth K) (st.Cn k o)) (KQ P Γ N Q K)
theorem a2L:∀(K:List Fr) {st:St},Q .ret st->KQ P Γ N Q K .ret st:=by
 intro K
 induction K with
 |nil=>intro st h;exact h
 |cons f K ih=>intro st h;cases f<;>exact ih h
theorem Pp{N':Nat->St->Prop}:∀(K:List Fr),(∀d,d<depth K->N d=N' d)->KQ P Γ N Q K=KQ P Γ N' Q K:=by
 intro K
 induction K with
 |nil=>intro _;rfl
 |cons f K ih=>
  intro h;cases f with
  |sq y=>simp only[KQ];rw[ih h]
  |bl id=>simp only[KQ];rw[ih h]
  |lp=>simp only[KQ];rw[ih (fun d hd=>h d (by simp only[depth];omega)),h (depth K) (by simp only[depth];omega)]
theorem Cb{nt:Nat}(hnt:Γ.nt=nt){all:Array Oper}{Mg:St}{A2:fA}:∀ {ops:List Oper} {st:St} {A:fA} {p:Cl},yS P nt all ops st A=some (Mg,A2,p)->yJ p->Q .normal Mg->AO P Γ all ops Q st:=by
 intro ops
 induction ops with
 |nil=>
  intro st A p h _ hq;simp only[yS]at h;cases hsh:shares A st with
  |mk yE A1=>
   rw[hsh]at h;simp only[ah,cX]at h;obtain⟨rfl,_,_⟩:=h;exact fun κ Θ a w hs=>wpList_nil ⟨_,_,_,hs.shares hsh,hq⟩
 |cons o rest ih=>
  intro st A p h hp hq;simp only[yS]at h;split at h
  ·rename_i hg;split at h
   ·rename_i yE A1 p1 h1;split at h
    ·rename_i a0n A2' q h2;cases h;exact OE hnt hg h1 hp.app.1 (ih h2 hp.app.2 hq)
    ·cases h
   ·cases h
  ·rename_i j want hg;split at h
   ·rename_i s v A1 hj;split at h
    ·rename_i b hb;split at h
     ·rename_i hv;simp only[cc]at hv;subst hv;split at h
      ·rename_i yE A2' p1 h1;split at h
       ·rename_i a0n A3 q h2;cases h;refine La (b:=b) hg hj hb ?_ (fun _=>OE hnt rfl h1 hp.2.app.1 (ih h2 hp.2.app.2 hq)) (fun hne=>absurd hp.1 hne);intro t ht;exact YY hnt h1 ht
       ·cases h
      ·cases h
     ·rename_i hv;split at h
      ·rename_i t hd;split at h
       ·rename_i ht;split at h
        ·rename_i a0n A3 q h2;cases h;refine La (b:=b) hg hj hb (fun t' ht'=>?_) (fun e=>?_) (fun _=>?_)
         ·rw[hd]at ht';cases ht';rw[hnt];exact ht
         ·exfalso;have:=hp.1;simp only[dK,ne_eq]at hv;exact hv (this.symm.trans e)
         ·rw[hd];exact ih h2 hp.2 hq
        ·cases h
       ·cases h
      ·rename_i hd;split at h
       ·rename_i a0n A3 q h2;cases h;refine La (b:=b) hg hj hb (fun t' ht'=>?_) (fun e=>?_) (fun _=>?_)
        ·rw[hd]at ht';cases ht'
        ·exfalso;have:=hp.1;simp only[dK,ne_eq]at hv;exact hv (this.symm.trans e)
        ·rw[hd];exact ih h2 hp.2 hq
       ·cases h
    ·rename_i hb;split at h
     ·rename_i t hd;split at h
      ·rename_i ht;refine NM hg hj hb (fun t' ht'=>?_) ?_
       ·rw[hd]at ht';cases ht';rw[hnt];exact ht
       ·rw[hd];exact ih h hp hq
      ·cases h
     ·rename_i hd;refine NM hg hj hb (fun t' ht'=>?_) ?_
      ·rw[hd]at ht';cases ht'
      ·rw[hd];exact ih h hp hq
    ·cases h
   ·cases h
theorem Ka{H:bQ}{r:Nat}{σ:List (Nat×D)}{o:Oper}{A A1:fA}{d:D}{obs:bQ}{p:Cl}(t:Option Nat)(u:Option (Nat×Ob))(h:T6 P H r σ o A=some (d,obs,A1,p))(hp:yJ p):I2 P H σ o ⟨t,d,r,obs,u⟩:=by
 have plain:∀ {x},(match GS P ⟨σ,H⟩ x A with|some (d,A,ow)=>some (d,([]:bQ),A,ow)|none=>none)=some (d,obs,A1,p)->pv P ⟨σ,H⟩ x=some d/\obs=[]:=by
  intro x h;split at h
  ·rename_i d' A' ow h1;cases h;exact⟨Tz h1 hp,rfl⟩
  ·cases h
 unfold T6 at h;split at h
 ·rename_i c hop;split at h
  ·rename_i f hc;split at h
   ·rename_i ds ms d' A' h1;split at h
    ·rename_i hsh;cases h;exact .inl (.inr ⟨f,_,_,ds,ms,d',hop.trans (congrArg Op.call (qC c hc rfl rfl)),.inl (by simpa using h1),hsh,hp.1,.inl rfl⟩)
    ·cases h
   ·rename_i ds ms d' A' h1;split at h
    ·rename_i A5;cases h;exact .inl (.inr ⟨f,_,_,ds,ms,d',hop.trans (congrArg Op.call (qC c hc rfl rfl)),.inl (by simpa using h1),.inr A5.2,hp.1,.inr ⟨A5.1,rfl,rfl⟩⟩)
    ·cases h
   ·rename_i d' A';split at h
    ·rename_i hk;cases h;exact .inl (.inr ⟨f,_,_,_,[],d',hop.trans (congrArg Op.call (qC c hc rfl rfl)),.inr ⟨by simpa using hk,by simp,rfl⟩,.inl rfl,hp.1,.inl rfl⟩)
    ·cases h
   ·cases h
  ·exact .inl (.inl (plain h))
 ·rename_i T hop;split at h
  ·rename_i zs hz;cases h;exact .inr (.inl (.inl ⟨T,zs,hop,hz,rfl,rfl⟩))
  ·cases h
 ·rename_i T x hop;split at h
  ·rename_i ds hc;cases h;exact .inr (.inl (.inr ⟨T,x,ds,hop,hc,rfl,rfl⟩))
  ·cases h
 ·rename_i T len parts hop;split at h
  ·rename_i e sz h1;split at h
   ·rename_i zs h2;split at h
    ·rename_i ds h3;split at h
     ·split at h
      ·rename_i hc;obtain⟨c1,c2,c3,c4⟩:=hc;cases h;exact .inr (.inr (.inr ⟨T,e,sz,len,parts,zs,ds,hop,h1,h2,c1,c2,h3,c3,c4,rfl,rfl⟩))
      ·cases h
     ·split at h
      ·rename_i es ms h4;split at h
       ·rename_i hc;obtain⟨c1,c2,rfl⟩:=hc;cases h;exact .inr (.inr (.inl ⟨T,e,sz,len,parts,zs,ds,es,hop,h1,h2,c1,c2,h3,h4,rfl,rfl⟩))
       ·cases h
      ·cases h
    ·cases h
   ·cases h
  ·cases h
 ·exact .inl (.inl (plain h))
theorem Gc{nt:Nat}(hnt:Γ.nt=nt){all:Array Oper}{H:bQ}{K:List (Nat×D)->bQ->Prop}{σ2:List (Nat×D)}{Pu:bQ}{A2:fA}:∀ {ops:List Oper} {σ:List (Nat×D)} {acc:bQ} {U:aW} {A:fA} {p:Cl},
 xT P nt all H ops σ acc U A=some (σ2,Pu,A2,p)->yJ p->K σ2 Pu->KY P Γ all H K ops σ acc U:=by
 subst hnt;intro ops
 induction ops with
 |nil=>
  intro σ acc U A p h _ hK;simp only[xT,ah,cX]at h;obtain⟨rfl,rfl,_,_⟩:=h;exact hK
 |cons o rest ih=>
  intro σ acc U A p h hp hK;simp only[xT]at h;split at h
  ·rename_i hd;split at h
   ·rename_i T x y hop hg;split at h
    ·rename_i id off ds h1 h2;split at h
     ·rename_i zs h3;split at h
      ·rename_i hc;obtain⟨rfl,c2,c3,c4,c5,c6⟩:=hc;exact⟨⟨none,.any,H.length+acc.length,[],some (id,.box ds)⟩,rfl,.inr ⟨rfl,rfl,hd,hg,T,x,y,id,ds,hop,h1,c2,h2,c4,c5,rfl⟩,⟨c3,c2,zs,ds,h3,rfl,c6⟩,ih h hp hK⟩
      ·cases h
     ·cases h
    ·cases h
   ·cases h
  ·rename_i t hd;split at h
   ·rename_i ht;split at h
    ·rename_i hg;split at h
     ·rename_i d obs A1 p1 h1;split at h
      ·rename_i σ3 a4s A3 q h2;cases h;exact⟨⟨some t,d,H.length+acc.length,obs,none⟩,rfl,.inl ⟨t,rfl,rfl,hd,ht,.inl ⟨hg,Ka _ _ h1 hp.app.1⟩⟩,trivial,ih h2 hp.app.2 hK⟩
      ·cases h
     ·cases h
    ·rename_i j want hg;split at h
     ·rename_i s v A1 hj;split at h
      ·rename_i b hb;split at h
       ·rename_i hv;simp only[cc]at hv;subst hv;split at h
        ·rename_i d obs A2' p1 h1;split at h
         ·rename_i σ3 a4s A3 q h2;cases h;exact⟨⟨some t,d,H.length+acc.length,obs,none⟩,rfl,.inl ⟨t,rfl,rfl,hd,ht,.inr (.inl ⟨j,s,v,b,hg,hj,hb,.inl ⟨hp.1,Ka _ _ h1 hp.2.app.1⟩⟩)⟩,trivial,ih h2 hp.2.app.2 hK⟩
         ·cases h
        ·cases h
       ·rename_i hv;simp only[dK,ne_eq]at hv;split at h
        ·rename_i σ3 a4s A3 q h2;cases h;refine⟨⟨some t,.gL [],H.length+acc.length,[],none⟩,rfl,.inl ⟨t,rfl,rfl,hd,ht,.inr (.inl ⟨j,s,want,b,hg,hj,hb,.inr ⟨fun e=>hv (hp.1.symm.trans e),rfl,rfl⟩⟩)⟩,trivial,?_⟩;simp only[Cp.fill,cz];exact ih h2 hp.2 hK
        ·cases h
      ·rename_i hb;refine⟨⟨some t,.gL [],H.length+acc.length,[],none⟩,rfl,.inl ⟨t,rfl,rfl,hd,ht,.inr (.inr ⟨j,s,want,hg,hj,hb,rfl,rfl⟩)⟩,trivial,?_⟩;simp only[Cp.fill,cz];exact ih h hp hK
      ·cases h
     ·cases h
   ·cases h
def Vq(P:Program)(Γ:uB)(N:Nat->St->Prop)(Q:Exit->St->Prop)(d0:D):Stop->Prop
 | .ret d=>d=d0
 | .lp c K st=>AW P Γ (.loop c) (KQ P Γ N Q K) st
 | .cont k st=>N k st
 | .at_ c K st=>AW P Γ c (KQ P Γ N Q K) st
theorem Pm{c:Code}{st:St}{k o:aW}(hnd:o.Nodup)(h:AW P Γ c Q (st.Cn k o)):AW P Γ c Q st:=by
 intro κ Θ a w hs;obtain⟨κ',Θ',hs'⟩:=hs.Cn k o hnd;exact h κ' Θ' a w hs'
theorem a3f{fn:Func}{st:St}{d:D}{e:Exit}(he:e=.ret\/e=.normal){nz:List (List (Option (Nat×Nat)))}(h:a3e P (fn.results.toList,nz) st=some d):OJ P fn d e st:=by
 unfold a3e at h;split at h
 ·rename_i ds h1;split at h
  ·rename_i es ms qs h2;split at h
   ·rename_i hc;cases h;exact⟨he,nz,ds,es,ms,qs,h1,h2,hc.1,hc.2,rfl⟩
   ·cases h
  ·cases h
 ·cases h
def a4p(P:Program)(Γ:uB)(N:Nat->St->Prop)(Q:Exit->St->Prop)(K:List Fr)(st:St):Cfg->Prop
 | .run c=>AW P Γ c (KQ P Γ N Q K) st
 | .Xf=>KQ P Γ N Q K .normal st
 | .ex id=>KQ P Γ N Q K (.exit id) st
theorem Cf{p q:Cl}{x:Option (Stop×Cl)}{s:Stop}(h:O4 p x=some (s,q)):∃q',x=some (s,q')/\q=p++q':=by
 unfold O4 at h;split at h
 ·cases h;exact⟨_,rfl,rfl⟩
 ·cases h
theorem go_sound{rf:St->Option D}{d0:D}(hrf:∀st e,(e=.ret\/e=.normal)->rf st=some d0->Q e st){nt:Nat}(hnt:Γ.nt=nt)(hm:P.follows .mixedOrders=true):∀ {n:Nat} {cfg:Cfg} {K:List Fr} {st:St} {A:fA} {s:Stop} {p:Cl},go P rf nt n cfg K st A=some (s,p)->yJ p->Vq P Γ N Q d0 s->a4p P Γ N Q K st cfg:=by
 intro n
 induction n with
 |zero=>intro cfg K st A s p h;simp[go]at h
 |succ n ih=>
  intro cfg K st A s p h hp hs;cases cfg with
  |run c=>
   show AW P Γ c (KQ P Γ N Q K) st;cases c with
   |skip=>simp only[go]at h;exact ZN (ih h hp hs)
   |ret=>
    simp only[go]at h;split at h
    ·rename_i d hd;simp only[ah,cX]at h;obtain⟨rfl,_⟩:=h;have hd0:d=d0:=hs;subst hd0;exact a2J (a2L K (hrf st _ (.inl rfl) hd))
    ·cases h
   |exit id=>simp only[go]at h;exact ZL (ih h hp hs)
   |seq x y=>simp only[go]at h;exact a2K (ih h hp hs)
   |block id x=>simp only[go]at h;exact Vk (ih h hp hs)
   |loop x=>
    simp only[go]at h;split at h
    ·split at h
     ·rename_i hnd;simp only[ah,cX]at h;obtain⟨rfl,_⟩:=h;exact Pm hnd hs
     ·cases h
    ·split at h
     ·rename_i A0 x0 yE hst;intro κ Θ a w a8r;obtain⟨κ',hs'⟩:=a8r.prom hst;exact(ih h hp hs:AW P Γ (.loop x) (KQ P Γ N Q K) (shares A0 yE).1) κ' Θ a w (hs'.shares (rfl:shares A0 yE=((shares A0 yE).1,(shares A0 yE).2)))
     ·cases h
    ·cases h
   |cond x y z=>
    simp only[go]at h;split at h
    ·rename_i b v A1 hx;obtain⟨q,h1,rfl⟩:=Cf h;obtain⟨hb,hp'⟩:=hp;subst hb;refine ZJ hx (fun e=>?_) (fun e=>?_)
     ·subst e;exact ih h1 hp' hs
     ·subst e;exact ih h1 hp' hs
    ·cases h
   |region id ops dr=>
    simp only[go]at h;cases dr with
    |false=>
     simp only at h;split at h
     ·rename_i yE A1 p1 h1;obtain⟨q,h2,rfl⟩:=Cf h;have:=Cb (Q:=KQ P Γ N Q K) hnt h1 hp.app.1 (ih h2 hp.app.2 hs);have hr:=U6 (id:=id) (l:=ops.toList) (by simpa using this);simpa using hr
     ·cases h
    |true=>
     simp only at h;split at h
     ·rename_i k A1;split at h
      ·rename_i hB;split at h
       ·rename_i σ1 acc A2 p1 h1;split at h
        ·rename_i Mg A3 p2 h2;obtain⟨q,h3,rfl⟩:=Cf h;have hq:=hp.app.1.app;have h4:=Cb (Q:=KQ P Γ N Q K) hnt h2 hq.2 (ih h3 hp.app.2 hs);have h5:=Gc (Γ:=Γ) (K:=fun σ acc=>AO P Γ ops (ops.toList.drop k) (KQ P Γ N Q K) ⟨σ,st.H++acc⟩) hnt h1 hq.1 h4;have hr:=ZK (id:=id) (l:=ops.toList) (Q:=KQ P Γ N Q K) (st:=st) k hm (by simpa using hB) (by simpa using h5);simpa using hr
        ·cases h
       ·cases h
      ·cases h
     ·rename_i π ρ k m L X A1;split at h
      ·rename_i ops' hB1;generalize a8h:vC ops π ρ=ops' at h;split at h
       ·rename_i hB;split at h
        ·rename_i σ1 acc A2 p1 h1;split at h
         ·rename_i yE A3 p2 hst hmid;split at h
          ·rename_i Mg A4 p3 h2;obtain⟨q,h3,rfl⟩:=Cf h;have hq:=hp.app.1.app;have Hy:=hq.2.app;have h4:=Cb (Q:=KQ P Γ N Q K) hnt h2 Hy.2 (ih h3 hp.app.2 hs);have h6:=P4 (Γ:=Γ) (K:=fun v7=>AO P Γ ops'.toArray (ops'.drop m) (KQ P Γ N Q K) v7) hnt hmid Hy.1 h4;have h5:=Gc (Γ:=Γ) (K:=fun σ acc=>(∀i∈L,∀o,ops'[i]?=some o->Cd X ⟨σ,st.H⟩ o.op=true)/\VW P Γ X (fun v7=>AO P Γ ops'.toArray (ops'.drop m) (KQ P Γ N Q K) v7) ((ops'.drop k).take (m-k)) ⟨σ,st.H++acc⟩) hnt h1 hq.1 ⟨V2 hst,h6⟩;have hr:=UC (l:=ops') (Q:=KQ P Γ N Q K) (st:=st) k m L hB h5;rw[<-a8h]at hr;exact(hr.perm hB1).aw hm
          ·cases h
         ·cases h
        ·cases h
       ·cases h
      ·cases h
     ·cases h
   |_=>simp[go]at h
  |Xf=>
   show KQ P Γ N Q K .normal st;simp only[go]at h;split at h
   ·split at h
    ·rename_i d hd;simp only[ah,cX]at h;obtain⟨rfl,_⟩:=h;have hd0:d=d0:=hs;subst hd0;exact hrf st _ (.inr rfl) hd
    ·cases h
   ·split at h
    ·split at h
     ·rename_i hnd;simp only[ah,cX]at h;obtain⟨rfl,_⟩:=h;exact Pm hnd hs
     ·cases h
    ·exact ih (cfg:=.run _) h hp hs
   ·exact ih (cfg:=.Xf) h hp hs
   ·split at h
    ·split at h
     ·rename_i k o _ hnd;simp only[ah,cX]at h;obtain⟨rfl,_⟩:=h;exact⟨k,o,hnd,hs⟩
     ·cases h
    ·cases h
  |ex id=>
   show KQ P Γ N Q K (.exit id) st;simp only[go]at h;split at h
   ·cases h
   ·exact ih (cfg:=.ex id) h hp hs
   ·rename_i i K;simp only[KQ,OO];split at h
    ·rename_i e;rw[bN e];exact ih (cfg:=.Xf) h hp hs
    ·rename_i e;rw[b9 e];exact ih (cfg:=.ex id) h hp hs
   ·exact ih (cfg:=.ex id) h hp hs
def dig:Code->aW->List Fr->Code×List Fr
 |c,[],K=>(c,K)
 | .seq x y,i::p,K=>(match i with|0=>dig x p (.sq y::K)|_=>dig y p K)
 | .block id c,_::p,K=>dig c p (.bl id::K)
 | .cond _ x y,i::p,K=>(match i with|0=>dig x p K|_=>dig y p K)
 | .loop c,_::p,K=>dig c p (.lp::K)
 |c,_::_,K=>(c,K)
def a1l(P:Program)(rs:List ResultVar×List (List (Option (Nat×Nat))))(st:St):Option D:=match Gj P st rs.1,(st.H[0]?:Option Ob)with
 |some ds,some (Ob.AA cells v)=>(match AD st.H rs.2 (.agg cells::ds)with
  |some (.agg cells'::es,ms,qs)=>(if ms.Nodup/\qs.Nodup then some (.gL [JO es,.agg cells',.val v])else none)
  |_=>none)
 |_,_=>none
def a1k(P:Program)(rs:List ResultVar)(st:St):Option D:=match Gj P st rs with
 |some [.ptr j 0]=>(match st.H[j]? with|some (.box cells)=>(if cells.all D.Ph=true then some (.agg cells)else none)|_=>none)
 |_=>none
inductive Kd where
 |q (nz:List (List (Option (Nat×Nat)))) (d:D)
 |p (nz:List (List (Option (Nat×Nat)))) (v:Value) (cells:aL) (d:D)
 |n (cells:aL)
def Kd.rf(P:Program)(fn:Func)(k:Kd)(st:St):Option D:=match k with
 | .q nz _=>a3e P (fn.results.toList,nz) st
 | .p nz _ _ _=>a1l P (fn.results.toList,nz) st
 | .n _=>a1k P fn.results.toList st
def Kd.d0:Kd->D
 | .q _ d=>d
 | .p _ v cells d=>.gL [d,.agg cells,.val v]
 | .n cells=>.agg cells
def Kd.qq(P:Program)(fn:Func):Kd->Exit->St->Prop
 | .q _ d=>OJ P fn d
 | .p _ v cells d=>Vp P fn v cells d
 | .n cells=>a4q P fn cells
theorem Kd.ok{fn:Func}(k:Kd){st:St}{e:Exit}(he:e=.ret\/e=.normal)(h:k.rf P fn st=some k.d0):k.qq P fn e st:=by
 cases k with
 |q nz d=>exact a3f he h
 |p nz v cells d=>
  simp only[Kd.rf,a1l,Kd.d0]at h;split at h
  ·rename_i ds OP v' h1 h2;split at h
   ·rename_i cells' es ms qs h3;split at h
    ·rename_i hc;simp only[ah,D.gL.injEq,List.cons.injEq,D.agg.injEq,D.val.injEq,and_true]at h;obtain⟨rfl,rfl,rfl⟩:=h;exact⟨he,_,_,_,_,_,_,h1,h2,h3,hc.1,hc.2,rfl⟩
    ·cases h
   ·cases h
  ·cases h
 |n cells=>
  simp only[Kd.rf,a1k,Kd.d0]at h;split at h
  ·rename_i j h1;split at h
   ·rename_i cells' h2;split at h
    ·rename_i hc;simp only[ah,D.agg.injEq]at h;subst h;exact⟨he,j,h1,h2,hc⟩
    ·cases h
   ·cases h
  ·cases h
theorem Lc{fn:Func}{k:Kd}{nt n:Nat}{c:Code}{K:List Fr}{st:St}(A:fA)(s:Stop){p:Cl}(hnt:Γ.nt=nt)(hm:P.follows .mixedOrders=true)(h:go P (k.rf P fn) nt n (.run c) K st A=some (s,p))(hp:yJ p)
 (hs:Vq P Γ N (k.qq P fn) k.d0 s):AW P Γ c (KQ P Γ N (k.qq P fn) K) st:=go_sound (Q:=k.qq P fn) (N:=N) (K:=K) (st:=st) (d0:=k.d0) (cfg:=.run c) (fun _ _ he h=>k.ok he h) hnt hm h hp hs
def Sn(P:Program)(Γ:uB)(c:Code)(Q:Exit->St->Prop)(n:Nat)(st:St):Prop:=
 ∀κ Θ a w,dl Γ st κ Θ a w->Code.rounds P c (fun e a' w'=>∃v7 κ' Θ',dl Γ v7 κ' Θ' a' w'/\Q e v7) n a w
theorem ZM{c:Code}{n:Nat}{st:St}(h:Sn P Γ c Q n st):AW P Γ (.loop c) Q st:=fun κ Θ a w hs=>wp_loop_rounds n (h κ Θ a w hs)
theorem aQ{c:Code}{K:List Fr}{n:Nat}{st:St}
 (h:∀N',(∀d,d<depth K->N' d=N d)->N' (depth K)=Sn P Γ c (KQ P Γ N Q K) n->AW P Γ c (KQ P Γ N' Q (.lp::K)) st):Sn P Γ c (KQ P Γ N Q K) (n+1) st:=by
 intro κ Θ a w hs;have:=h (fun d=>if d<depth K then N d else Sn P Γ c (KQ P Γ N Q K) n) (fun d hd=>bN hd) (b9 (by omega));simp only[KQ]at this;rw[b9 (by omega)]at this;rw[<-Pp (N:=N) (N':=fun d=>if d<depth K then N d else Sn P Γ c (KQ P Γ N Q K) n) K (fun d hd=>(bN hd).symm)]at this;rw[rounds_succ];refine wp_mono (this κ Θ a w hs) ?_;rintro e a' w' ⟨v7,κ',Θ',hs',hq⟩;cases e with
 |normal=>
  obtain⟨k,o,hnd,hR'⟩:=hq;obtain⟨κ2,Θ2,hs2⟩:=hs'.Cn k o hnd;exact hR' κ2 Θ2 a' w' hs2
 |exit id=>exact⟨_,_,_,hs',hq⟩
 |goto l=>exact⟨_,_,_,hs',hq⟩
 |ret=>exact⟨_,_,_,hs',hq⟩
 |panic c=>exact⟨_,_,_,hs',hq⟩
 |outgrown=>exact⟨_,_,_,hs',hq⟩
end
theorem aM{α:Type}{c:Bool}{x y:Option α}{r:α}(h:(bif c then x else y)=some r):(c=true/\x=some r)\/(c=false/\y=some r):=by
 cases c
 ·exact .inr ⟨rfl,h⟩
 ·exact .inl ⟨rfl,h⟩
theorem bR{α:Type}{c:Bool}{x:Option α}{r:α}(h:(bif c then x else none)=some r):c=true/\x=some r:=by
 cases c
 ·cases h
 ·exact⟨rfl,h⟩
theorem aB{α β:Type}{x:Option α}{f:α->Option β}{r:β}(h:x.bind f=some r):∃y,x=some y/\f y=some r:=by
 cases x with
 |none=>cases h
 |some y=>exact⟨y,rfl,h⟩
theorem aN{α:Type}{x y:α}(h:some x=some y):x=y:=by cases h;rfl
theorem ow{p:Prop}{ps:Cl}(h:p)(t:yJ ps):yJ (p::ps):=⟨h,t⟩
def iP{α:Type}(l:List α)(i:Int):Option α:=bif decide (0<=i)then l[i.toNat]? else none
theorem Sz{α β:Type}{l:List α}{i:Int}{x:α}(f:α->β)(h:iP l i=some x):0<=i/\(l.map f)[i.toNat]?=some (f x):=by
 unfold iP at h;cases hd:decide (0<=i)with
 |false=>rw[hd]at h;cases h
 |true=>rw[hd]at h;simp only[aI]at h;exact⟨by simpa using hd,by rw[bt,h];rfl⟩
theorem a2Q{l:Bytes}{i:Int}{x:UInt8}(h:iP l i=some x):0<=i/\l[i.toNat]?=some x:=by
 unfold iP at h;cases hd:decide (0<=i)with
 |false=>rw[hd]at h;cases h
 |true=>rw[hd]at h;exact⟨by simpa using hd,h⟩
def fuel:Nat:=4194304
theorem fO{α:Type}{l:List α}{i:Int}{x:α}(f:α->aL)(n:Nat)(h:iP l i=some x)(hn:(f x).length=n):0<=i/\(l.map f)[i.toNat]?=some (f x)/\(f x).length=n:=⟨(Sz f h).1,(Sz f h).2,hn⟩
theorem SF{i n:Nat}(sz:Nat)(h:decide (i<n)=true):sz=sz/\(i:Int)=((i:Nat):Int)/\i<n:=⟨rfl,rfl,bn h⟩
theorem nU{α:Type}{l:List α}{i:Nat}{x:α}(f:α->aL)(sz:Nat)(h:l[i]?=some x):sz=sz/\(i:Int)=((i:Nat):Int)/\i<(l.map f).length:=⟨rfl,rfl,by rw[ax];exact(aF.1 h).1⟩
theorem gl{α:Type}{l:List α}{i:Int}{x:α}(f:α->aL)(sz:Nat)(h:iP l i=some x):sz=sz/\i=((i.toNat:Nat):Int)/\i.toNat<(l.map f).length:=by
 obtain⟨h0,h1⟩:=Sz f h;exact⟨rfl,by omega,(aF.1 h1).1⟩
theorem eW{α:Type}{l:List α}{i:Int}{x:α}(h:iP l i=some x):l[i.toNat]?=some x:=by
 have:=(Sz (fun y=>y) h).2;simpa using this
theorem PF{x y:Int}(k:IntKind)(h:(decide (0<=x)&&decide (0<y))=true):k=k/\0<=x/\0<y:=by simpa using h
def room(n b:Nat):Bool:=decide (n<=maxLen)&&decide (n*b<=140737488355328)
theorem bf{n b:Nat}(h:room n b=true):n<=maxLen/\n*b<=140737488355328:=by
 simp only[room,aV,bI]at h;exact h
theorem Wx{k n:Nat}(h:k<n)(hn:n<=maxLen):IntKind.i64.wrap ((k:Int)+1)=((k+1:Nat):Int):=by
 unfold maxLen at hn;rw[dS (pL.i64.2 (by omega))];omega
theorem a0F{k n:Nat}(h:k<n):decide ((k:Int)<(n:Int))=true:=by simp[h]
theorem XS{k n:Nat}(h:n<=k):decide ((k:Int)<(n:Int))=false:=by simp;omega
theorem drop_cons{α:Type}{l:List α}{k:Nat}{x:α}{xs:List α}(h:l.drop k=x::xs):l[k]?=some x/\k<l.length/\l.drop (k+1)=xs:=by
 have h1:l[k]?=some x:=by
  have:=congrArg (fun m:List α=>m[0]?) h;simpa[eZ]using this
 refine⟨h1,(aF.1 h1).1,?_⟩;rw[<-fp,h];rfl
theorem drop_nil{α:Type}{l:List α}{k:Nat}(h:l.drop k=[]):l.length<=k:=by simpa using h
theorem XU{α β:Type}{l:List α}{k:Nat}{x:α}(f:α->β)(h:l[k]?=some x):0<=(k:Int)/\(l.map f)[(k:Int).toNat]?=some (f x):=⟨by omega,by simp[h]⟩
theorem bJ{α:Type}{l:List α}{k:Nat}{x:α}(f:α->aL)(n:Nat)(h:l[k]?=some x)(hn:(f x).length=n):0<=(k:Int)/\(l.map f)[(k:Int).toNat]?=some (f x)/\(f x).length=n:=⟨(XU f h).1,(XU f h).2,hn⟩
theorem XT{α β:Type}{l:List α}{k:Nat}(f:α->β)(h:k<l.length):decide ((k:Int)<((l.map f).length:Int))=true:=by rw[ax];exact a0F h
theorem Uf{α β:Type}{l:List α}{k:Nat}(f:α->β)(h:l.length<=k):decide ((k:Int)<((l.map f).length:Int))=false:=by rw[ax];exact XS h
theorem cR{α β:Type}{l:List α}{k:Nat}{x:α}(f:α->β)(h:l[k]?=some x):(l.map f)[k]?=some (f x):=by rw[bt,h];rfl
def JB{α β:Type}[BEq α](z:β)(k:α):List (α×β)->β
 | []=>z
 |p::r=>bif k==p.1 then p.2 else JB z k r
def a0G{α β:Type}[BEq α](k:α):List (α×β)->Bool
 | []=>false
 |p::r=>bif k==p.1 then true else a0G k r
def MO{α β:Type}[BEq α](k:α)(v:β):List (α×β)->List (α×β)
 | []=>[(k,v)]
 |p::r=>bif k==p.1 then(k,v)::r else p::MO k v r
def eB(b:Bool):D:=.bool b
def kS{β:Type}(e:β->D)(p:Bytes×β):D×D:=(.str p.1,e p.2)
theorem TG{β:Type}{e:β->D}(z:β)(k:Bytes):∀(m:List (Bytes×β)),(Eu (.str k) (m.map (kS e))=some none/\a0G k m=false/\JB z k m=z)\/(Eu (.str k) (m.map (kS e))=some (some (e (JB z k m)))/\a0G k m=true)
 | []=>.inl ⟨rfl,rfl,rfl⟩
 |p::r=>by
  simp only[bB,Eu,kS,keq,a0G,JB];cases hb:k==p.1 with
  |true=>exact .inr ⟨rfl,rfl⟩
  |false=>exact TG z k r
theorem a66{P:Program}{T:TypeId}{β:Type}{e:β->D}{z:β}{k:Bytes}{m:List (Bytes×β)}(hT:V5 P T=some (.string,e z)):plk P T (m.map (kS e)) (.str k) false=some (e (JB z k m)):=by
 unfold plk;rw[hT];rcases TG (e:=e) z k m with⟨h1,_,h3⟩|⟨h1,_⟩
 ·simp only[Hp,h1,h3,aS]
 ·simp only[Hp,h1,aS]
theorem Xl{β:Type}{e:β->D}{k:Bytes}{v:β}:∀ {m:List (Bytes×β)},J9 (.str k) (e v) (m.map (kS e))=some ((MO k v m).map (kS e))
 | []=>rfl
 |p::r=>by
  simp only[bB,J9,MO];have hq:keq (.str k) (kS e p).1=some (k==p.1):=rfl;rw[hq];cases hb:k==p.1 with
  |true=>rfl
  |false=>simp only[Xl (m:=r),cU,aS,bB]
end Go.Cx
namespace Go.Cx
open Go.RowKit
abbrev vT:=List Fr
section
variable{P:Program}{Γ:uB}{Q:Exit->St->Prop}{st:St}{κ κ':Nat->Option Value}{Θ Θ':Nat->Nat}{a:Act}{w w':World}{all:Array Oper}{rest:List Oper}
theorem wX.a0J{f:Nat->Option (TypeId×Nat)}{i:Nat}{vs:bY}{ds:aL}{bs:aW}(h:wX w f i vs ds bs){p:Nat}{d:D}(hd:ds[p]?=some d):
 ∃c b1 b2 b3,vs[p]?=some c/\c.oneCell'=true/\Rd w c d b2/\(∀t,f (i+p)=some t->GX w t c d b2)/\bs=b1++(b2++b3)/\
  ∀(e:D) (b4:aW),Rd w c e b4->(∀t,f (i+p)=some t->GX w t c e b4)->wX w f i vs (ds.set p e) (b1++(b4++b3)):=by
 obtain⟨l,r,rfl,hl⟩:=KM hd;obtain⟨v1,v2,c1,c2,rfl,rfl,k1,k2⟩:=h.split;cases k2 with
 |cons _ c vs _ _ b2 b3 h1 h2 h4 h3=>
  have hl1:v1.length=p:=by rw[k1.length];exact hl
  refine⟨c,c1,b2,b3,by rw[b8 (by omega),hl1];simp,h1,h2,fun t ht=>h4 t (by rw[hl];exact ht),rfl,fun e b4 he hf=>?_⟩;have e1:(l++d::r).set p e=l++e::r:=by rw[mX _ _ (by omega),hl];simp
  rw[e1];exact k1.app (.cons _ _ _ _ _ _ _ h1 he (fun t ht=>hf t (by rw[<-hl];exact ht)) h3)
theorem dl.a4w(hs:dl Γ st κ Θ a w){m e sz i off e' sz':Nat}{rows Ce:List aL}{r:aL}(hH:st.H[m]?=some (.row .uq e sz rows))(hr:rows[i]?=some r)(hd:r[off]?=some (.sl Ce))
 (Rl:UN e sz=true) (hf:tr e off=some (e',sz')):
 ∃κ',dl Γ ⟨st.σ,st.H.set m (.row (.ho (i*sz+off) st.H.length) e sz (rows.set i (r.set off .any)))++[.tf e' sz' Ce]⟩ κ' Θ a w:=by
 obtain⟨ρ,hu⟩:=hs.rV;obtain⟨hsz,hrl,v0,_,_,hk0,_,_,hΘ,_⟩:=hs.ob m _ hH;obtain⟨v,cs,bs,hkm,hown,hF,hnd,hρ⟩:=hu.rows m e sz rows hH;rw[hk0]at hkm;cases hkm;have hrow:=hrl r (aE hr);have hcell:rows.flatten[i*sz+off]?=some (.sl Ce):=(Iy hrl hr hd).1;obtain⟨c,b1,bc,b3,q1,q2,q3,q4,rfl,q6⟩:=hF.a0J hcell;have a8D:tr e (0+(i*sz+off))=some (e',sz'):=by
  rw[show 0+(i*sz+off)=off+i*sz by omega,M1 Rl];exact hf
 have hfull:=q4 _ a8D;have hnew:=q6 .any [] (.any _) (fun t _=>.inl ⟨rfl,rfl⟩);rw[<-CV (e:=.any) hrl hr hd]at hnew;obtain⟨n1,n2,n3⟩:=bH.1 hnd;obtain⟨n4,n5,n6⟩:=bH.1 n2;let n:=st.H.length
 let ρ':Nat->Nat:=fun b=>if b∈bc then n+1 else ρ b
 have aBP:m<st.H.length:=(aF.1 hH).1;have WN:∀b∈bc,b∈b1++(bc++b3):=fun b hb=>aR.2 (.inr (aR.2 (.inl hb)))
 have hz:∀b∈b1++(bc++b3),Θ b=0:=fun b hb=>(hu.free b (by rw[hρ b hb];omega)).1
 have hkn:=wW (hs.pH n (bO _)) (some c);have hk':iJ w w Θ Θ (n+2):=iJ.refl hs.own (by omega);have key:∀(j:Nat) x,(st.H.set m (.row (.ho (i*sz+off) n) e sz (rows.set i (r.set off .any)))++[.tf e' sz' Ce])[j]?=some x->
  (j=n/\x=.tf e' sz' Ce)\/(j=m/\x=.row (.ho (i*sz+off) n) e sz (rows.set i (r.set off .any)))\/(j≠m/\j<n/\st.H[j]?=some x):=by
  intro j x hj;rcases AB j x hj with⟨h1,h2⟩|⟨h1,h2⟩
  ·rw[eU]at h1;exact .inl ⟨h1,h2⟩
  ·rcases wU j x h2 with⟨h3,h4⟩|⟨h3,h4⟩
   ·exact .inr (.inl ⟨h3,h4⟩)
   ·exact .inr (.inr ⟨h3,(aF.1 h4).1,h4⟩)
 have sA:=hs.nk hk' hkn hu;have qU:∀b,b∈b1++([]++b3)->b∉bc/\b∈b1++(bc++b3):=by
  intro b hb;rw[ck]at hb;rcases aR.1 hb with hb|hb
  ·exact⟨fun h=>n3 b hb b (aR.2 (.inl h)) rfl,aR.2 (.inl hb)⟩
  ·exact⟨fun h=>n6 b h b hb rfl,aR.2 (.inr (aR.2 (.inr hb)))⟩
 have Dc:(b1++([]++b3)).Nodup:=by
  rw[ck];exact bH.2 ⟨n1,n5,fun x hx y hy=>n3 x hx y (aR.2 (.inr hy))⟩
 have J2:∀x∈rows.set i (r.set off .any),x.length=sz:=by
  intro x hx;rcases mV hx with hx|rfl
  ·exact hrl x hx
  ·rw[eU];exact hrow
 have Cs:w.ownsRow 0 e sz v0 (rows.set i (r.set off .any)).length cs:=by rw[eU];exact hown
 have hre:∀(j:Nat),j≠m->∀b,ρ b=j+1->ρ' b=j+1:=by
  intro j hj b hb;simp only[ρ'];rw[b9 (fun h=>by have:=hρ b (WN b h);omega)];exact hb
 refine⟨xN κ n (some c),hs.step hk' hs.mine hkn (fun i hi=>?_) (fun i x hx=>?_) (fun j x hj=>?_) ⟨ρ',fun b hb=>?_,fun id e2 FR dG h=>?_,fun id x h=>?_⟩⟩
 ·simp only[av,eU,aP,bS]at hi;unfold xN;rw[b9 (by omega)];exact hs.pH i (by omega)
 ·unfold xN at hx;split at hx
  ·cases hx;exact q2
  ·exact hs.oN i x hx
 ·rcases key j x hj with⟨rfl,rfl⟩|⟨rfl,rfl⟩|⟨h1,h2,h3⟩
  ·exact .inr (.inr ⟨c,bc,jN _ _ _,q3,fun b hb=>hz b (WN b hb)⟩)
  ·exact .inr (.inr ⟨hsz,J2,v0,cs,_,hkn _ _ hk0,Cs,hnew.rd,hΘ,fun b hb=>hz b (qU b hb).2⟩)
  ·exact .inr (.inl ⟨by omega,h3⟩)
 ·refine sA.1 b fun h0=>hb ?_
  simp only[ρ'];rw[b9 (fun h=>by have:=hρ b (WN b h);omega)];exact h0
 ·rcases key id _ h with⟨_,h1⟩|⟨_,h1⟩|⟨h1,h2,h3⟩
  ·simp at h1
  ·simp at h1
  ·obtain⟨v2,c2,b2,p1,p2,p3,p4,p5⟩:=sA.2.1 id e2 FR dG (by omega) h3;exact⟨v2,c2,b2,p1,p2,p3,p4,fun b hb=>hre id h1 b (p5 b hb)⟩
 ·rcases key id _ h with⟨rfl,rfl⟩|⟨rfl,rfl⟩|⟨h1,h2,h3⟩
  ·exact⟨c,bc,jN _ _ _,hfull,q3.lt,n4,fun b hb=>bN hb⟩
  ·refine⟨v0,cs,_,hkn _ _ hk0,Cs,hnew,Dc,fun b hb=>?_,c,q1,jN _ _ _⟩;simp only[ρ'];rw[b9 (qU b hb).1];exact hρ b (qU b hb).2
  ·exact(sA.2.2 id x (by omega) h3).re fun b hb=>hre id h1 b hb
def F8:D->Bool
 | .acc _=>true
 | .ptr _ _=>true
 | .op _ _ _ _=>true
 |d=>d.flat
theorem Ny{v:Value}{d:D}{bs:aW}(h:yb w κ v d bs)(ht:F8 d=true):bs=[]:=by
 cases h with
 |pure h=>exact h.flat (by cases d<;>first|exact ht|cases h| (simp[F8,D.flat]at ht))
 |acc id v hk=>rfl
 |ptr id off b hk=>rfl
 |op id i sz off b o0 len cap hk=>rfl
theorem Mk:∀ {ds:aL} {vs:bY} {bs:aW},fK w κ vs ds bs->ds.all F8=true->bs=[]:=by
 intro ds
 induction ds with
 |nil=>intro vs bs h _;cases h;rfl
 |cons d ds ih=>
  intro vs bs h ht;simp only[dA,aV]at ht;cases h with
  |cons v vs _ _ b1 b2 h1 h2 h3=>rw[Ny h2 ht.1,ih h3 ht.2];rfl
theorem V4{v:Value}{d:D}{bs:aW}(h:rW w κ v d bs)(ht:F8 d=true):bs=[]:=by
 cases h with
 |v h=>
  cases h with
  |cell h=>exact Ny h ht
  |agg cs ds bs h=>simp[F8,D.flat]at ht
 |gL vs ds bs h=>simp[F8,D.flat]at ht
theorem a0r{t:Nat}:∀ {σ:List (Nat×D)},(σ.all fun p=>F8 p.2)=true->F8 (lk σ t)=true:=by
 intro σ
 induction σ with
 |nil=>intro _;rfl
 |cons p r ih=>
  intro h;obtain⟨s,d⟩:=p;simp only[dA,aV]at h;simp only[lk];split
  ·exact h.1
  ·exact ih h.2
def Cw(n:Nat)(j:Nat)(o:Ob):Bool:=match o with
 | .gone=>true
 | .box cells=>cells.all F8
 | .AA _ _=>j==0
 | .row .uq _ _ _=>true
 | .row (.ho _ _) _ _ _=>true
 | .row .cl _ _ _=>true
 | .mp _=>true
 | .tf _ _ _=>j==n
 |_=>false
def R6(n:Nat):Nat->bQ->Bool
 |_,[]=>true
 |j,o::H=>Cw n j o&&R6 n (j+1) H
theorem Nz{n:Nat}:∀ {H:bQ} {k j:Nat} {o:Ob},R6 n k H=true->H[j]?=some o->Cw n (k+j) o=true:=by
 intro H
 induction H with
 |nil=>intro k j o _ h;simp at h
 |cons x H ih=>
  intro k j o h hj;simp only[R6,aV]at h;cases j with
  |zero=>simp at hj;subst hj;exact h.1
  |succ j=>have:=ih h.2 (by simpa using hj);rwa[show k+1+j=k+(j+1)by omega]at this
theorem Rd.again{w0 w:World}{c:Value}{Me Ku:List aL}{VL VM:aW}(h0:Rd w0 c (.sl Me) VL)(h1:Rd w c (.sl Ku) VM)(hf:D.jv Ku=true):∃bs,Rd w c (.sl Ku) bs/\∀b∈bs,b∈VL:=by
 have key:∀(d:D),d=.sl Ku->Rd w c d VM->∃bs,Rd w c (.sl Ku) bs/\∀b∈bs,b∈VL:=by
  intro d hd h1;cases h1<;>simp only[reduceCtorEq,D.sl.injEq]at hd
  case wV=>subst hd;exact⟨[],.wV,by simp⟩
  case lm a cap hc=>subst hd;exact⟨[],.lm a cap hc,by simp⟩
  case sl b off cap sz rows cs bs h10 h2 h3 h4 h5 h6=>
   subst hd;have Dl:bs=[]:=h6.flat (by
    unfold D.jv at hf;rw[aq]at hf⊢;intro d hd;obtain⟨r,hr,Gf⟩:=fF.1 hd;exact aq.1 (hf r hr) d Gf)
   subst Dl;cases rows with
   |nil=>exact⟨[],.lm _ cap h3,by simp⟩
   |cons r rs=>
    refine⟨[b],.sl b off cap sz (r::rs) cs [] h10 h2 h3 h4 h5 h6,fun x hx=>?_⟩;rw[cZ.1 hx];have XK:∀(v:Value) (d:D),v=.slice (some ⟨b,off,none⟩) (r::rs).length cap->d=.sl Me->Rd w0 v d VL->b∈VL:=by
     intro v d hv hd h;cases h<;>simp only[reduceCtorEq,D.sl.injEq,Value.slice.injEq,ah,Addr.mk.injEq]at hd hv
     case wV=>exact hv.1.elim
     case lm a cap' _=>simp at hv
     case sl b' off' cap' sz' dO cs' bs' _ _ _ _ _ _=>
      obtain⟨⟨rfl,_⟩,_⟩:=hv;simp
    exact XK _ _ rfl rfl h0
 exact key _ rfl h1
theorem dl.a9f(hs:dl Γ st κ Θ a w){n e sz:Nat}{Ce:List aL}(hH:st.H[n]?=some (.tf e sz Ce))(he:Ty e=true){u:Value}{Me rows:List aL}{fl:aL}(hO:Vo Γ u Me)(hrw:D.jv rows=true)(h0:st.H[0]?=some (.AA (.sl rows::fl) u))
 (hfl:fl.all D.flat=true) (hσ:(st.σ.all fun p=>F8 p.2)=true) (hT:R6 n 0 st.H=true):
 ∃Θ',dl Γ ⟨st.σ,st.H.set n (.row .uq e sz Ce)⟩ κ Θ' a w:=by
 obtain⟨ρ,hu⟩:=hs.rV;obtain⟨v,bs,hkn,hfull,hlt,hnd,hρ⟩:=hu.more n _ hH;have hnl:n<st.H.length:=(aF.1 hH).1;rcases hfull with⟨h,_⟩|⟨dG,Z1,ns,a2w,p1,p2,p3,p4,rfl⟩
 ·cases h
 cases a2w;simp only at p1 p2 p3;obtain⟨J1,a2p,a8c⟩:=bH.1 hnd;let Θ':Nat->Nat:=fun b=>if v.ownBlock=some b then n+2 else Θ b
 let ρ':Nat->Nat:=fun b=>if v.ownBlock=some b then 0 else ρ b
 have Od:∀b,v.ownBlock=some b->ρ b=n+1:=fun b hb=>hρ b (aR.2 (.inl (by simp[hb])))
 have a5Y:∀b,v.ownBlock=some b->Θ b=0:=fun b hb=>(hu.free b (by rw[Od b hb];omega)).1
 have Nj:∀b,v.ownBlock=some b->xX Γ b:=fun b hb=>by
  rcases(hu.free b (by rw[Od b hb];omega)).2.1 with h|h
  ·exact h
  ·exact absurd h (hO.1 b)
 have CY:∀b,Θ b≠0->Θ' b=Θ b:=fun b hb=>b9 fun h=>hb (a5Y b h)
 have TQ:∀b,ρ b≠n+1->Θ' b=Θ b/\ρ' b=ρ b:=fun b hb=>⟨b9 fun h=>hb (Od b h),b9 fun h=>hb (Od b h)⟩
 have key:∀(j:Nat) x,(st.H.set n (.row .uq e sz Ce))[j]?=some x->(j=n/\x=.row .uq e sz Ce)\/(j≠n/\st.H[j]?=some x):=fun j x hj=>wU j x hj
 have Oc:∀b∈ns,Θ b=0/\v.ownBlock≠some b:=fun b hb=>⟨(hu.free b (by rw[hρ b (aR.2 (.inr hb))];omega)).1,fun h=>a8c b (by simp[h]) b hb rfl⟩
 have hrow:∀(j e2 FR:Nat) dG,j≠n->st.H[j]?=some (.row .uq e2 FR dG)->∃v cs bs,κ j=some v/\w.ownsRow 0 e2 FR v dG.length cs/\wX w (tr e2) 0 cs dG.flatten bs/\bs.Nodup/\∀b∈bs,ρ' b=j+1/\Θ' b=0:=by
  intro j e2 FR dG hj hjH;obtain⟨v2,c2,b2,q1,q2,q3,q4,q5⟩:=hu.rows j e2 FR dG hjH;refine⟨v2,c2,b2,q1,q2,q3,q4,fun b hb=>?_⟩;have hb':=q5 b hb;obtain⟨r1,r2⟩:=TQ b (by omega);exact⟨r2.trans hb',r1.trans (hu.free b (by omega)).1⟩
 have hho:∀(j p m e2 FR:Nat) dG,j≠n->st.H[j]?=some (.row (.ho p m) e2 FR dG)->∃v cs bs,κ j=some v/\w.ownsRow 0 e2 FR v dG.length cs/\wX w (tr e2) 0 cs dG.flatten bs/\bs.Nodup/\(∀b∈bs,ρ' b=j+1/\Θ' b=0)/\∃c,cs[p]?=some c/\κ m=some c:=by
  intro j p m e2 FR dG hj hjH;obtain⟨v2,c2,b2,q1,q2,q3,q4,q5,q6⟩:=hu.more j _ hjH;refine⟨v2,c2,b2,q1,q2,q3,q4,fun b hb=>?_,q6⟩;have hb':=q5 b hb;obtain⟨r1,r2⟩:=TQ b (by omega);exact⟨r2.trans hb',r1.trans (hu.free b (by omega)).1⟩
 refine⟨Θ',hs.defers,hs.size,fun i hi=>hs.pH i (by simpa using hi),hs.oN,fun t=>?_,fun j o hj=>?_,fun b hb=>?_,fun b hb hx=>?_,fun b hb=>?_,hs.stays,ρ',fun b hb=>?_,fun j e2 FR dG hj=>?_,fun j o hj=>?_⟩
 ·obtain⟨bs,hr,_⟩:=hs.slot t;have:=V4 hr (a0r hσ);subst this;exact⟨[],hr,by simp⟩
 ·rcases key j o hj with⟨rfl,rfl⟩|⟨hjn,hj'⟩
  ·exact⟨p1,p2,v,Z1,ns,hkn,p3,p4,fun g hg=>bN hg,fun b hb=>(b9 (Oc b hb).2).trans (Oc b hb).1⟩
  ·have xy:=hs.ob j o hj';have Rx:=Nz hT hj';cases o with
   |gone=>trivial
   |tk r=>simp[Cw]at Rx
   |vq s r u=>simp[Cw]at Rx
   |hole s r u p q=>simp[Cw]at Rx
   |tf e2 s2 r=>simp only[Cw,cW,cc]at Rx;exact absurd Rx hjn
   |mp kv=>
    obtain⟨g,es,c,q1,q2,q3,q4⟩:=xy;exact⟨g,es,c,q1,q2,(CY g (by omega)).trans q3,q4⟩
   |box cells=>
    obtain⟨g,cs,T,q1,q2,q3,bs,q4,q5⟩:=xy;have:=Mk q4 Rx;subst this;exact⟨g,cs,T,q1,q2,(CY g (by omega)).trans q3,[],q4,by simp⟩
   |AA cells u2=>
    simp only[Cw,cW,cc]at Rx;subst Rx;rw[h0]at hj';cases hj';obtain⟨hK,g,cs,T,q1,q2,q3,bs,q4,q5⟩:=xy;obtain⟨_,c,VL,r1,r2,r3⟩:=hO;obtain⟨z1,z2⟩:=hK.2 c r1 g cs T q1 q2;refine⟨hK,g,cs,T,q1,q2,(CY g (by omega)).trans q3,?_⟩;have hb0:∀b∈VL,w.heap[b]?=Γ.W0.heap[b]?/\Θ' b=0:=by
     intro b hb;obtain⟨s1,s2,s3⟩:=r3 b hb;refine⟨hs.stays.block b s1 s2,?_⟩;have hne:¬v.ownBlock=some b:=fun h=>by
      rcases Nj b h with h|h
      ·omega
      ·exact s2 h
     exact(b9 hne).trans ((hs.old b s1 s2).1.trans s3)
    rw[<-jl]at z2;generalize cs.toList=l at q4 z2;cases q4 with
    |cons x xs _ _ b1 b2 k1 k2 k3=>
     simp at z2;subst z2;have r2w:Rd w x (.sl _) VL:=r2.keep fun b hb=>(hb0 b hb).1
     obtain⟨bs4,r4,r5⟩:=r2w.again (by cases k2 with|pure h=>exact h) hrw;have Pf:b2=[]:=Mk k3 (by
      rw[aq]at hfl⊢;intro d hd;have:=hfl d hd;cases d<;>first|rfl| (simp[D.flat]at this))
     subst Pf;exact⟨bs4++[],.cons _ _ _ _ _ _ k1 (.pure r4) k3,fun b hb=>(hb0 b (r5 b (by simpa using hb))).2⟩
   |row k e2 FR dG=>
    obtain⟨q1,q2,v2,cs3,bs3,q3,q4,q5,q6,q7⟩:=xy;cases k with
    |sh=>simp[Cw]at Rx
    |mv m=>simp[Cw]at Rx
    |cl=>
     refine⟨q1,q2,v2,cs3,bs3,q3,q4,q5,fun g hg=>(CY g (by rw[q6 g hg];omega)).trans (q6 g hg),q7.1,fun b hb=>⟨(CY b (by rw[(q7.2.1 b hb).1];omega)).trans (q7.2.1 b hb).1,(q7.2.1 b hb).2⟩,q7.2.2⟩
    |uq=>
     obtain⟨v4,c4,b4,r1,r2,r3,r4,r5⟩:=hrow j e2 FR dG hjn hj';rw[q3]at r1;cases r1;exact⟨q1,q2,v2,c4,b4,q3,r2,r3.rd,fun g hg=>(CY g (by rw[q6 g hg];omega)).trans (q6 g hg),fun b hb=>(r5 b hb).2⟩
    |ho p m=>
     obtain⟨v4,c4,b4,r1,r2,r3,r4,r5,_⟩:=hho j p m e2 FR dG hjn hj';rw[q3]at r1;cases r1;exact⟨q1,q2,v2,c4,b4,q3,r2,r3.rd,fun g hg=>(CY g (by rw[q6 g hg];omega)).trans (q6 g hg),fun b hb=>(r5 b hb).2⟩
 ·simp only[Θ']at hb;split at hb
  ·rename_i h;exact hlt b (aR.2 (.inl (by simp[h])))
  ·exact hs.own b hb
 ·have hne:¬v.ownBlock=some b:=fun h=>by
   rcases Nj b h with h|h
   ·omega
   ·exact hx h
  have e1:Θ' b=Θ b:=b9 hne;rw[e1];exact hs.old b hb hx
 ·by_cases h:v.ownBlock=some b
  ·exact Nj b h
  ·have e1:Θ' b=Θ b:=b9 h;rw[e1]at hb;exact hs.mine b hb
 ·by_cases h:v.ownBlock=some b
  ·exact absurd (bN h) hb
  ·have e1:Θ' b=Θ b:=b9 h;have e2:ρ' b=ρ b:=b9 h;rw[e2]at hb;rw[e1];exact hu.free b hb
 ·rcases key j _ hj with⟨rfl,h1⟩|⟨hjn,hj'⟩
  ·simp only[Ob.row.injEq,qz]at h1;obtain⟨rfl,rfl,rfl⟩:=h1;exact⟨v,Z1,ns,hkn,p3,.of p4 (xG (Bp he)),a2p,fun b hb=>(b9 (Oc b hb).2).trans (hρ b (aR.2 (.inr hb)))⟩
  ·obtain⟨v4,c4,b4,r1,r2,r3,r4,r5⟩:=hrow j e2 FR dG hjn hj';exact⟨v4,c4,b4,r1,r2,r3,r4,fun b hb=>(r5 b hb).1⟩
 ·rcases key j o hj with⟨rfl,rfl⟩|⟨hjn,hj'⟩
  ·exact Jp.wR rfl
  ·have Rx:=Nz hT hj';cases o with
   |row k e2 FR dG=>
    cases k with
    |mv m=>simp[Cw]at Rx
    |ho p m=>
     obtain⟨v4,c4,b4,r1,r2,r3,r4,r5,r6⟩:=hho j p m e2 FR dG hjn hj';exact⟨v4,c4,b4,r1,r2,r3,r4,fun b hb=>(r5 b hb).1,r6⟩
    |_=>trivial
   |tk r=>simp[Cw]at Rx
   |tf e2 s2 r=>simp only[Cw,cW,cc]at Rx;exact absurd Rx hjn
   |_=>trivial
theorem ZO{c:Code}{Q:Exit->St->Prop}{m e sz i off e' sz':Nat}{rows Ce:List aL}{r:aL}{u:Value}{Me Ku:List aL}{fl:aL}(hO:Vo Γ u Me)(hrw:D.jv Ku=true)(hr:rows[i]?=some r)(hH:st.H[m]?=some (.row .uq e sz rows))(hd:r[off]?=some (.sl Ce))(h0:st.H[0]?=some (.AA (.sl Ku::fl) u))
 (Rl:UN e sz=true) (hf:tr e off=some (e',sz')) (he:Ty e'=true) (hfl:fl.all D.flat=true) (hσ:(st.σ.all fun p=>F8 p.2)=true) (hT:R6 st.H.length 0 (st.H.set m (.row (.ho (i*sz+off) st.H.length) e sz (rows.set i (r.set off .any)))++[.tf e' sz' Ce])=true)
 (h:AW P Γ c Q ⟨st.σ,st.H.set m (.row (.ho (i*sz+off) st.H.length) e sz (rows.set i (r.set off .any)))++[.row .uq e' sz' Ce]⟩):AW P Γ c Q st:=by
 intro κ Θ a w hs;obtain⟨κ1,hs1⟩:=hs.a4w hH hr hd Rl hf;have hlen:(st.H.set m (.row (.ho (i*sz+off) st.H.length) e sz (rows.set i (r.set off .any)))).length=st.H.length:=eU;have hm0:m≠0:=fun h=>by subst h;rw[hH]at h0;cases h0
 have h0l:0<st.H.length:=(aF.1 h0).1;obtain⟨Θ2,hs2⟩:=hs1.a9f (n:=st.H.length) (e:=e') (sz:=sz') (Ce:=Ce) (by rw[b8 (by omega),hlen];simp) he hO hrw (fl:=fl) (by rw[ar (by omega),cB hm0];exact h0) hfl hσ hT;have e1:(st.H.set m (.row (.ho (i*sz+off) st.H.length) e sz (rows.set i (r.set off .any)))++[Ob.tf e' sz' Ce]).set st.H.length (.row .uq e' sz' Ce)=st.H.set m (.row (.ho (i*sz+off) st.H.length) e sz (rows.set i (r.set off .any)))++[.row .uq e' sz' Ce]:=by
  rw[mX _ _ (by omega),hlen];simp
 rw[e1]at hs2;exact h κ1 Θ2 a w hs2
end
end Go.Cx
namespace Go.Cx
open Go.RowKit Go.Proofs Tryz
structure aD where
 rel:Bytes
 args:aG
 deriving DecidableEq
structure aX where
 var:Bytes
 value:Bytes
 deriving DecidableEq
structure aO where
 kind:Int
 pat:aD
 left:Bytes
 right:Bytes
 deriving DecidableEq
structure Action where
 kind:Int
 pat:aD
 deriving DecidableEq
structure aK where
 name:Bytes
 prio:Int
 conds:List aO
 cK:List Action
 deriving DecidableEq
structure aU where
 facts:List aD
 bind:List aX
 deriving DecidableEq
structure dW where
 rule:Bytes
 facts:List aD
 bind:List aX
 deriving DecidableEq
structure aZ where
 shape:aD
 facts:List aD
 deriving DecidableEq
structure Node where
 parent:Int
 cond:aO
 cj:Int
 tokens:List aU
 deriving DecidableEq
structure aH where
 rules:List aK
 ends:bC
 au:List aZ
 nodes:List Node
 facts:List aD
 bp:Int
 deriving DecidableEq
structure dh where
 fact:aD
 time:Int
 deriving DecidableEq
structure a7j where
 rule:Bytes
 times:bC
 deriving DecidableEq
structure a7i where
 aBq:dW
 prio:Int
 times:bC
 spec:Int
 order:Int
 deriving DecidableEq
structure cJ where
 b:bC
 i:Int
 h:Int
 deriving DecidableEq
abbrev tx(s:Bytes):List D:=[.str s]
abbrev iM(n:Int):List D:=[.int .i64 n]
abbrev bx(b:Bool):List D:=[.bool b]
abbrev yx(n:Int):List D:=[.int .u8 n]
abbrev dT(l:List Bytes):D:=.sl (l.map tx)
abbrev dI(l:List Int):D:=.sl (l.map iM)
abbrev aD.c(x:aD):List D:=[.str x.rel,dT x.args]
abbrev aX.c(x:aX):List D:=[.str x.var,.str x.value]
abbrev aO.c(x:aO):List D:=[.int .i64 x.kind,.str x.pat.rel,dT x.pat.args,.str x.left,.str x.right]
abbrev Action.c(x:Action):List D:=[.int .i64 x.kind,.str x.pat.rel,dT x.pat.args]
abbrev aK.c(x:aK):List D:=[.str x.name,.int .i64 x.prio,.sl (x.conds.map aO.c),.sl (x.cK.map Action.c)]
abbrev aU.c(x:aU):List D:=[.sl (x.facts.map aD.c),.sl (x.bind.map aX.c)]
abbrev dW.c(x:dW):List D:=[.str x.rule,.sl (x.facts.map aD.c),.sl (x.bind.map aX.c)]
abbrev aZ.c(x:aZ):List D:=[.str x.shape.rel,dT x.shape.args,.sl (x.facts.map aD.c)]
abbrev Node.c(x:Node):List D:=[.int .i64 x.parent,.int .i64 x.cond.kind,.str x.cond.pat.rel,dT x.cond.pat.args,.str x.cond.left,.str x.cond.right,.int .i64 x.cj,.sl (x.tokens.map aU.c)]
abbrev aH.c(x:aH):List D:=[.sl (x.rules.map aK.c),dI x.ends,.sl (x.au.map aZ.c),.sl (x.nodes.map Node.c),.sl (x.facts.map aD.c),.int .i64 x.bp]
abbrev dh.c(x:dh):List D:=[.str x.fact.rel,dT x.fact.args,.int .i64 x.time]
abbrev cJ.c(x:cJ):List D:=[.sl (x.b.map yx),.int .i64 x.i,.int .i64 x.h]
def wE(fn:Func):Code:=match fn.body with
 |some c=>c
 |none=>.skip
theorem mix:prog.follows .mixedOrders=true:=by kernel_rfl
theorem a7g{P:Program}{Γ:uB}{Q:Exit->St->Prop}{N N':Nat->St->Prop}{c:Code}{K K0:vT}{st:St}(hd:depth K=depth K0)(hN:∀d,d<depth K0->N' d=N d)(t:AW P Γ c (KQ P Γ N Q K) st):AW P Γ c (KQ P Γ N' Q K) st:=by
 rw[Pp (N:=N') (N':=N) K (fun d h=>hN d (by omega))];exact t
theorem a4m{P:Program}{Γ:uB}{Q:Exit->St->Prop}{c:Code}{s s':St}(h:s=s')(t:AW P Γ c Q s'):AW P Γ c Q s:=by rw[h];exact t
theorem Be{α:Type}{c:α->aL}(hc:∀x,(c x).all D.flat=true)(l:List α):(l.map c).flatten.all D.flat=true:=by
 induction l with
 |nil=>rfl
 |cons x l ih=>rw[bB,eT,List.all_append,hc,ih];rfl
abbrev bT:An:=.b true
abbrev bF:An:=.b false
structure Pre(A:List An)(p:Cl):Prop where
 h:yJ p
theorem aY:Pre [] []:=⟨trivial⟩
theorem yJ.join{p q:Cl}(h:yJ p)(k:yJ q):yJ (p++q):=by
 induction p with
 |nil=>exact k
 |cons x p ih=>exact⟨h.1,ih h.2⟩
theorem Pre.ext{A:fA}{p:Cl}(o:Pre A p)(B:fA){q:Cl}(hq:yJ q):Pre (A++B) (p++q):=⟨o.h.join hq⟩
section
variable{A:fA}{p:Cl}
theorem Pre.b(o:Pre A p){c v:Bool}(h:c=v):Pre (A++[.b v]) (p++[c=v]):=o.ext _ ⟨h,trivial⟩
theorem Pre.r(o:Pre A p)(n:Nat){c v:Bool}(h:c=v):Pre (A++List.replicate n (.b v)) (p++List.replicate n (c=v)):=o.ext _ (by
 induction n with
 |zero=>trivial
 |succ n ih=>exact⟨h,ih⟩)
theorem Pre.T(o:Pre A p)(n:Nat):Pre (A++List.replicate n bT) (p++List.replicate n (true=true)):=o.r n rfl
theorem Pre.F(o:Pre A p)(n:Nat):Pre (A++List.replicate n bF) (p++List.replicate n (false=false)):=o.r n rfl
theorem Pre.g(o:Pre A p){f:FuncId}{ds:aL}{d:D}(h:Good prog f ds d):Pre (A++[.d d]) (p++[Good prog f ds d]):=o.ext _ ⟨h,trivial⟩
theorem Pre.hp(o:Pre A p)(nz:List (List (Option (Nat×Nat)))){f:FuncId}{cells cells' ds:aL}{d:D}(h:hY prog f cells cells' ds d):Pre (A++[.gp nz cells' d]) (p++[hY prog f cells cells' ds d]):=o.ext _ ⟨h,trivial⟩
theorem Pre.hf(o:Pre A p)(nz:List (List (Option (Nat×Nat)))){f:FuncId}{ds:aL}{d:D}(h:I3 prog f ds d):Pre (A++[.gf nz d]) (p++[I3 prog f ds d]):=o.ext _ ⟨h,trivial⟩
theorem Pre.hn(o:Pre A p){f:FuncId}{ds cells:aL}(h:I4 prog f ds cells):Pre (A++[.dn cells]) (p++[I4 prog f ds cells]):=o.ext _ ⟨h,trivial⟩
theorem Pre.w(o:Pre A p){q:Prop}(h:q):Pre (A++[]) (p++[q]):=o.ext _ ⟨h,trivial⟩
theorem Pre.a(o:Pre A p)(B:fA):Pre (A++B) (p++[]):=o.ext _ (q:=[]) trivial
theorem Pre.l(o:Pre A p){n:Int}{rows:List aL}{r:aL}{sz:Nat}(h:0<=n/\rows[n.toNat]?=some r/\r.length=sz):Pre (A++[.row r]) (p++[0<=n/\rows[n.toNat]?=some r/\r.length=sz]):=o.ext _ ⟨h,trivial⟩
theorem Pre.i(o:Pre A p){sz sz' m k:Nat}{n:Int}(h:sz=sz'/\n=((k:Nat):Int)/\k<m):Pre (A++[.ix k]) (p++[sz=sz'/\n=((k:Nat):Int)/\k<m]):=o.ext _ ⟨h,trivial⟩
theorem Pre.o(o:Pre A p)(sz n:Nat)(k:RK){rows:List aL}{i:Nat}{r:aL}(h:rows[i]?=some r)(hk:k.P8=true:=by kernel_rfl)(hn:Nat.ble n sz=true:=by kernel_rfl):Pre (A++[.row r]) (p++[sz=sz/\k.P8=true/\rows[i]?=some r/\n<=sz]):=o.ext _ ⟨⟨rfl,hk,h,jm hn⟩,trivial⟩
theorem Pre.c(o:Pre A p){s:Bytes}{i:Int}{b:UInt8}(h:iP s i=some b):Pre (A++[.ch b]) (p++[0<=i/\s[i.toNat]?=some b]):=o.ext _ ⟨a2Q h,trivial⟩
theorem Pre.lt{α:Type}{l xs:List α}{i:Nat}{x:α}(o:Pre A p)(f:α->aL)(h:l.drop i=x::xs):Pre (A++[bT]) (p++[decide ((i:Int)<((l.map f).length:Int))=true]):=o.b (XT f (drop_cons h).2.1)
theorem Pre.ge{α:Type}{l:List α}{i:Nat}(o:Pre A p)(f:α->aL)(h:l.drop i=[]):Pre (A++[bF]) (p++[decide ((i:Int)<((l.map f).length:Int))=false]):=o.b (Uf f (drop_nil h))
end
theorem dc{α:Type}{l:List α}{k:Nat}{x:α}{xs:List α}(h:l.drop k=x::xs):l[k]?=some x:=(drop_cons h).1
theorem dn{α:Type}{l:List α}{k:Nat}{x:α}{xs:List α}(h:l.drop k=x::xs):l.drop (k+1)=xs:=(drop_cons h).2.2
theorem iS{α:Type}{l:List α}{k:Nat}{x:α}{xs:List α}(h:l.drop k=x::xs)(hn:l.length<=maxLen):IntKind.i64.wrap ((k:Int)+1)=((k+1:Nat):Int):=Wx (drop_cons h).2.1 hn
theorem RW{n:Int}{m:Nat}(h:(decide (0<=n)&&decide (n.toNat<=m))=true):n=((n.toNat:Nat):Int)/\n.toNat<=m:=by
 simp only[aV,bI]at h;exact⟨by omega,h.2⟩
theorem mA{α β:Type}(f:α->β):(∀a b:List α,(a++b).map f=a.map f++b.map f)/\(∀(x:α) (a:List α),(x::a).map f=f x::a.map f)/\([]:List α).map f=[]/\(∀(l:List α) (i:Nat) (x:α),(l.set i x).map f=(l.map f).set i (f x))/\(∀(n:Nat) (x:α),(List.replicate n x).map f=List.replicate n (f x))/\(∀(l:List α) (n:Nat),(l.take n).map f=(l.map f).take n):=
 ⟨fun _ _=>bA,fun _ _=>rfl,rfl,fun _ _ _=>List.map_set,fun _ _=>List.map_replicate,fun _ _=>bg⟩
section
variable{Γ:uB}{N N1:Nat->St->Prop}{fn:Func}{k:Kd}{nt:Nat}{A:fA}{p:Cl}{c c':Code}{K K' K0:vT}{st v7:St}
theorem Pre.ret(o:Pre A p)(hnt:Γ.nt=nt)(h:go prog (k.rf prog fn) nt 2000 (.run c) K st A=some (.ret k.d0,p):=by kernel_rfl):AW prog Γ c (KQ prog Γ N (k.qq prog fn) K) st:=Lc (n:=2000) A _ hnt mix h o.h rfl
theorem Pre.rts(o:Pre A p)(hnt:Γ.nt=nt)(d:D)(hd:d=k.d0)(h:go prog (k.rf prog fn) nt 2000 (.run c) K st A=some (.ret d,p):=by kernel_rfl):AW prog Γ c (KQ prog Γ N (k.qq prog fn) K) st:=Lc (n:=2000) A _ hnt mix h o.h hd
theorem Pre.cs(o:Pre A p)(hnt:Γ.nt=nt){n:Nat}(hS:N1 (depth K')=Sn prog Γ c' (KQ prog Γ N (k.qq prog fn) K') n)(S:St)(e:S=v7)(t:Sn prog Γ c' (KQ prog Γ N (k.qq prog fn) K') n v7)
 (h:go prog (k.rf prog fn) nt 2000 (.run c) K st A=some (.cont (depth K') S,p):=by kernel_rfl):AW prog Γ c (KQ prog Γ N1 (k.qq prog fn) K) st:=Lc (n:=2000) A _ hnt mix h o.h ((congrFun hS _).mpr (by rw[e];exact t))
theorem Pre.cf(o:Pre A p)(hnt:Γ.nt=nt){n:Nat}(hS:N1 (depth K')=Sn prog Γ c' (KQ prog Γ N (k.qq prog fn) K') n)(t:Sn prog Γ c' (KQ prog Γ N (k.qq prog fn) K') n v7)
 (h:go prog (k.rf prog fn) nt 2000 (.run c) K st A=some (.cont (depth K') v7,p):=by kernel_rfl):AW prog Γ c (KQ prog Γ N1 (k.qq prog fn) K) st:=o.cs hnt hS _ rfl t h
theorem Pre.ct(o:Pre A p)(hnt:Γ.nt=nt){n i:Nat}{S:Int->St}(hS:N1 (depth K')=Sn prog Γ c' (KQ prog Γ N (k.qq prog fn) K') n)(hi:IntKind.i64.wrap ((i:Int)+1)=((i+1:Nat):Int))(t:Sn prog Γ c' (KQ prog Γ N (k.qq prog fn) K') n (S ((i+1:Nat):Int)))
 (h:go prog (k.rf prog fn) nt 2000 (.run c) K st A=some (.cont (depth K') (S (IntKind.i64.wrap ((i:Int)+1))),p):=by kernel_rfl):AW prog Γ c (KQ prog Γ N1 (k.qq prog fn) K) st:=o.cs hnt hS _ (congrArg S hi) t h
theorem Pre.exs(o:Pre A p)(hnt:Γ.nt=nt)(hN:∀d,d<depth K0->N1 d=N d)(S:St)(e:S=v7)(t:AW prog Γ c' (KQ prog Γ N (k.qq prog fn) K') v7)(hd:depth K'=depth K0:=by kernel_rfl)(h:go prog (k.rf prog fn) nt 2000 (.run c) K st A=some (.at_ c' K' S,p):=by kernel_rfl):
 AW prog Γ c (KQ prog Γ N1 (k.qq prog fn) K) st:=Lc (n:=2000) A _ hnt mix h o.h (a7g (K0:=K0) hd hN (by rw[e];exact t))
theorem Pre.ex(o:Pre A p)(hnt:Γ.nt=nt)(hN:∀d,d<depth K0->N1 d=N d)(t:AW prog Γ c' (KQ prog Γ N (k.qq prog fn) K') v7)(hd:depth K'=depth K0:=by kernel_rfl)(h:go prog (k.rf prog fn) nt 2000 (.run c) K st A=some (.at_ c' K' v7,p):=by kernel_rfl):
 AW prog Γ c (KQ prog Γ N1 (k.qq prog fn) K) st:=o.exs hnt hN _ rfl t hd h
theorem Pre.lps(o:Pre A p)(hnt:Γ.nt=nt){n:Nat}(S:St)(e:S=v7)(t:Sn prog Γ c' (KQ prog Γ N (k.qq prog fn) K') n v7)(h:go prog (k.rf prog fn) nt 2000 (.run c) K st A=some (.lp c' K' S,p):=by kernel_rfl):
 AW prog Γ c (KQ prog Γ N (k.qq prog fn) K) st:=Lc (n:=2000) A _ hnt mix h o.h (a4m e (ZM t))
theorem Pre.lp(o:Pre A p)(hnt:Γ.nt=nt){n:Nat}(t:Sn prog Γ c' (KQ prog Γ N (k.qq prog fn) K') n v7)(h:go prog (k.rf prog fn) nt 2000 (.run c) K st A=some (.lp c' K' v7,p):=by kernel_rfl):
 AW prog Γ c (KQ prog Γ N (k.qq prog fn) K) st:=o.lps hnt _ rfl t h
end
abbrev lc(f:Func)(p:List Nat):Code:=(dig (wE f) p []).1
abbrev lk'(f:Func)(p:List Nat):List Fr:=(dig (wE f) p []).2
abbrev Ax(Γ:uB)(N:Nat->St->Prop)(f:Func)(k:Kd)(p:List Nat)(s:St):Prop:=AW prog Γ (lc f p) (KQ prog Γ N (k.qq prog f) (lk' f p)) s
abbrev Ar(Γ:uB)(N:Nat->St->Prop)(f:Func)(k:Kd)(p:List Nat)(n:Nat)(s:St):Prop:=Sn prog Γ (lc f (p++[0])) (KQ prog Γ N (k.qq prog f) (lk' f p)) n s
theorem gd{f:FuncId}{fn:Func}{ds:aL}{d:D}(hf:prog.funcs[f]?=some fn)(nz:List (List (Option (Nat×Nat))))(nt:Nat)(h:(∀d∈ds,gq d)->∀Γ:uB,Γ.nt=nt->AW prog Γ (wE fn) (KQ prog Γ (fun _ _=>False) ((Kd.q nz d).qq prog fn) []) ⟨wC 0 ds,[]⟩)
 (hb:fn.body=some (wE fn):=by kernel_rfl) (hn:(fn.name== "runtime.NumGoroutine")=false:=by kernel_rfl) (hl:Nat.ble ds.length fn.ntmps=true:=by kernel_rfl) (ht:fn.ntmps=nt:=by kernel_rfl):Good prog f ds d:=
 Good.of hf hb hn (jm hl) fun hr Γ hΓ=>h hr Γ (hΓ.trans ht)
theorem gdN{f:FuncId}{fn:Func}{ds cells:aL}(hf:prog.funcs[f]?=some fn)(nt:Nat)(h:(∀d∈ds,gq d)->∀Γ:uB,Γ.nt=nt->AW prog Γ (wE fn) (KQ prog Γ (fun _ _=>False) ((Kd.n cells).qq prog fn) []) ⟨wC 0 ds,[]⟩)
 (hb:fn.body=some (wE fn):=by kernel_rfl) (hn:(fn.name== "runtime.NumGoroutine")=false:=by kernel_rfl) (hl:Nat.ble ds.length fn.ntmps=true:=by kernel_rfl) (ht:fn.ntmps=nt:=by kernel_rfl):I4 prog f ds cells:=
 I4.of hf hb hn (jm hl) fun hr Γ hΓ=>h hr Γ (hΓ.trans ht)
theorem Iz{f:FuncId}{fn:Func}{cells cells' ds:aL}{d:D}(hf:prog.funcs[f]?=some fn)(nz:List (List (Option (Nat×Nat))))(nt:Nat)(yL Ke:aL)(obs:bQ)
 (h:(∀x∈(D.agg cells::ds).map D.VT,gq x)->∀(v0:Value) (Γ:uB),Γ.nt=nt->AW prog Γ (wE fn) (KQ prog Γ (fun _ _=>False) ((Kd.p nz v0 cells' d).qq prog fn) []) ⟨wC 0 (.ptr 0 0::Ke),.AA yL v0::obs⟩)
 (hI:yQ 1 (.agg cells::ds)=(.agg yL::Ke,obs):=by kernel_rfl) (hb:fn.body=some (wE fn):=by kernel_rfl) (hn:(fn.name== "runtime.NumGoroutine")=false:=by kernel_rfl) (hl:Nat.ble (Ke.length+1) fn.ntmps=true:=by kernel_rfl) (ht:fn.ntmps=nt:=by kernel_rfl):hY prog f cells cells' ds d:=
 hY.of hf hb hn hI (jm hl) fun hr v0 Γ hΓ _=>h hr v0 Γ (hΓ.trans ht)
theorem a7v{f:FuncId}{fn:Func}{rows:List aL}{x1 x2:D}{cells' ds:aL}{d:D}(hf:prog.funcs[f]?=some fn)(nz:List (List (Option (Nat×Nat))))(nt:Nat)(Ke:aL)
 (h:(∀x∈(D.agg [.sl rows,x1,x2]::ds).map D.VT,gq x)->∀(v0:Value) (Γ:uB),Γ.nt=nt->Vo Γ v0 rows->AW prog Γ (wE fn) (KQ prog Γ (fun _ _=>False) ((Kd.p nz v0 cells' d).qq prog fn) []) ⟨wC 0 (.ptr 0 0::Ke),[.AA [.sl rows,x1,x2] v0]⟩)
 (hI:yQ 1 (.agg [.sl rows,x1,x2]::ds)=(.agg [.sl rows,x1,x2]::Ke,[]):=by kernel_rfl) (hb:fn.body=some (wE fn):=by kernel_rfl) (hn:(fn.name== "runtime.NumGoroutine")=false:=by kernel_rfl) (hl:Nat.ble (Ke.length+1) fn.ntmps=true:=by kernel_rfl) (ht:fn.ntmps=nt:=by kernel_rfl):hY prog f [.sl rows,x1,x2] cells' ds d:=
 hY.of hf hb hn hI (jm hl) fun hr v0 Γ hΓ hO=>h hr v0 Γ (hΓ.trans ht) (hO rfl rfl rows rfl)
theorem gdF{f:FuncId}{fn:Func}{ds:aL}{d:D}(hf:prog.funcs[f]?=some fn)(nz:List (List (Option (Nat×Nat))))(nt:Nat)(Ke:aL)(obs:bQ)
 (h:(∀x∈ds.map D.VT,gq x)->∀(Γ:uB),Γ.nt=nt->AW prog Γ (wE fn) (KQ prog Γ (fun _ _=>False) ((Kd.q nz d).qq prog fn) []) ⟨wC 0 Ke,obs⟩)
 (hI:yQ 0 ds=(Ke,obs):=by kernel_rfl) (hb:fn.body=some (wE fn):=by kernel_rfl) (hn:(fn.name== "runtime.NumGoroutine")=false:=by kernel_rfl) (hl:Nat.ble Ke.length fn.ntmps=true:=by kernel_rfl) (ht:fn.ntmps=nt:=by kernel_rfl):I3 prog f ds d:=
 I3.of hf hb hn hI (jm hl) fun hr Γ hΓ=>h hr Γ (hΓ.trans ht)
theorem Zj(l:bC):D.jv (l.map yx)=true:=by
 unfold D.jv;rw[aq];intro r hr;obtain⟨x,_,rfl⟩:=cE.1 hr;rfl
theorem a1F{α:Type}{l:List α}{i:Int}{x:α}(f:α->aL)(sz:Nat)(h:iP l i=some x){r:aL}:sz=sz/\i=((i.toNat:Nat):Int)/\i.toNat<((l.map f).set i.toNat r).length:=by
 rw[eU];exact gl f sz h
theorem a5M{α:Type}{l:List α}{i:Int}{x:α}(f:α->aL)(r:aL)(h:iP l i=some x):((l.map f).set i.toNat r)[i.toNat]?=some r:=dB (gl f 0 h).2.2
end Go.Cx
namespace Go.Cx
open Go.RowKit Go.Proofs Tryz
abbrev aJ:=List aD
abbrev aT:=List aX
abbrev ai:=List aO
abbrev aj:=List aK
abbrev ay:=List aU
abbrev bE:=List Node
abbrev bK:=List aZ
abbrev eF:=List Action
theorem jw{α:Type}[DecidableEq α][BEq α][LawfulBEq α](a b:α):(a==b)=decide (a=b):=by rw[br];simp
def sw{α:Type}(w:α->Nat)(l:List α):Nat:=l.length+(l.map w).sum
def tw(s:Bytes):Nat:=s.length
theorem a0w{α:Type}(w:α->Nat):sw w []=0:=rfl
theorem nq{α:Type}(w:α->Nat)(x:α)(l:List α):sw w (x::l)=1+w x+sw w l:=by simp[sw];omega
theorem Mn{α:Type}(w:α->Nat)(a b:List α):sw w (a++b)=sw w a+sw w b:=by
 induction a with
 |nil=>simp[sw]
 |cons x a ih=>rw[qw,nq,nq,ih];omega
theorem tN{α:Type}(w:α->Nat)(l:List α):l.length<=sw w l:=by unfold sw;omega
theorem tO{α:Type}{w:α->Nat}{l:List α}{x:α}(h:x∈l):w x+1<=sw w l:=by
 induction l with
 |nil=>cases h
 |cons y l ih=>
  rw[nq];rcases bL.1 h with rfl|h
  ·omega
  ·have:=ih h;omega
theorem Z2{α:Type}[DecidableEq α]{f:α->α->Option Bool}{a b:List α}{c:α->aL}(L:Option Bool->List α->Nat->Option Bool)(uI:∀k i,L k [] i=k)
 (tu:∀k x xs i,L k (x::xs) i=(iP b (i:Int)).bind fun y=>(f x y).bind fun r=>bif !r then some false else L k xs (i+1)) (hf:∀x y,f x y=some (decide (x=y))):
 (bif (((a.map c).length:Int) != ((b.map c).length:Int))then some false else L (some true) a 0)=some (decide (a=b)):=by
 by_cases hl:a.length=b.length
 ·have e:(((a.map c).length:Int) != ((b.map c).length:Int))=false:=by simp[hl]
  rw[e];have key:∀(ra rb pa pb:List α),a=pa++ra->b=pb++rb->pa.length=pb.length->L (some true) ra pa.length=some (decide (ra=rb)):=by
   intro ra
   induction ra with
   |nil=>
    intro rb pa pb h1 h2 h3;rw[uI];have:rb=[]:=by
     have:=congrArg List.length h1;have:=congrArg List.length h2;simp at*;apply cL;omega
    subst this;simp
   |cons x xs ih=>
    intro rb pa pb h1 h2 h3;cases rb with
    |nil=>
     exfalso;have:=congrArg List.length h1;have:=congrArg List.length h2;simp at*;omega
    |cons y ys=>
     rw[tu];have e1:iP b (pa.length:Int)=some y:=by
      unfold iP;have:b[pa.length]?=some y:=by rw[h2,h3];simp
      simp[this]
     rw[e1,aA,hf,aA];have:=ih ys (pa++[x]) (pb++[y]) (by rw[h1];simp) (by rw[h2];simp) (by simp[h3]);by_cases hxy:x=y
     ·subst hxy;simp only[Dr,bW,aS];simp only[av,aP,bS]at this;rw[this];simp
     ·simp[hxy]
  have:=key a b [] [] rfl rfl rfl;simpa using this
 ·have e:(((a.map c).length:Int) != ((b.map c).length:Int))=true:=by simp;omega
  rw[e];have:a≠b:=fun h=>hl (by rw[h])
  simp[this]
end Go.Cx
namespace Go.Cx
end Go.Cx
namespace Go.Cx
end Go.Cx
namespace Go.Cx
end Go.Cx
namespace Go.Cx
end Go.Cx
namespace Go.Cx
open Go.RowKit Go.Proofs Tryz
def aD.wt(x:aD):Nat:=tw x.rel+sw tw x.args
def aO.wt(x:aO):Nat:=tw x.pat.rel+sw tw x.pat.args+tw x.left+tw x.right
def Action.wt(x:Action):Nat:=tw x.pat.rel+sw tw x.pat.args
def aK.wt(x:aK):Nat:=tw x.name+sw aO.wt x.conds+sw Action.wt x.cK
end Go.Cx
namespace Go.Cx
open Go.RowKit Go.Proofs Go.Shelf Tryz
theorem Rd.uM{w:World}{v:Value}{s:Bytes}{bs:aW}(h:Rd w v (.str s) bs):∃y:ByteArray,v=.string y/\y.data.toList=s/\y.size<=maxLen/\bs=[]:=by
 cases h with
 |str y hy=>exact⟨y,rfl,rfl,hy,rfl⟩
theorem mm.strs{w:World}{xs:aG}:∀ {cs:bY} {bs:aW},mm w cs (xs.map D.str) bs->∃ys:List ByteArray,cs=ys.map Value.string/\ys.map (·.data.toList)=xs:=by
 induction xs with
 |nil=>intro cs bs h;cases h;exact⟨[],rfl,rfl⟩
 |cons x xs ih=>
  intro cs bs h;cases h with
  |cons v vs d ds b1 b2 h1 h2 h3=>
   obtain⟨y,e1,e2,_,_⟩:=h2.uM;obtain⟨ys,e3,e4⟩:=ih h3;exact⟨y::ys,by simp[e1,e3],by simp[e2,e4]⟩
theorem OV(xs:aG):(xs.map tx).flatten=xs.map D.str:=by
 induction xs with
 |nil=>rfl
 |cons x xs ih=>simp[tx,ih]
theorem Calls.txt{P:Program}{f:FuncId}{args:Array Value}{w:World}{r:ByteArray}{Θ:Nat->Nat}(hr:r.size<=maxLen)
 (h:Calls P f args w fun e w'=>e=.returned (.string r)/\Below w.heap.size w w'):
 Calls P f args w (fun e w'=>∃v bs' ts us,e=.returned v/\Below w.heap.size w w'/\zS w' v (.str r.data.toList) bs' ts us/\(∀b∈bs',b<w.heap.size->Θ b=0)/\(∀b∈bs',b∉ts)/\us.Nodup/\
  (∀b∈us,w.heap.size<=b/\Wr w' b)/\∀b∈ts,b∈us):=
 h.mono fun e w' ⟨h1,h2⟩=>⟨_,[],[],[],h1,h2,.v (.cell (.pure (.str r hr))),by simp,by simp,by simp,by simp,by simp⟩
end Go.Cx
namespace Go.Cx
open Go.RowKit Go.Proofs Go.Shelf Go.Sort Tryz
theorem mm.a0p{w:World}{xs:aG}:∀ {cs:bY} {bs:aW},mm w cs (xs.map D.str) bs->∀x∈xs,x.length<=maxLen:=by
 induction xs with
 |nil=>intro cs bs h x hx;cases hx
 |cons x xs ih=>
  intro cs bs h y hy;cases h with
  |cons v vs d ds b1 b2 h1 h2 h3=>
   obtain⟨s,_,e2,e3,_⟩:=h2.uM;rcases bL.1 hy with rfl|hy
   ·rw[<-e2];exact e3
   ·exact ih h3 y hy
theorem mm.Th{w:World}:∀ {xs:aG},(∀x∈xs,x.length<=maxLen)->mm w (xs.map encStr) (xs.map D.str) []
 | [],_=>.nil
 |x::xs,h=>by
  have h1:Rd w (.string ⟨x.toArray⟩) (.str x) []:=by
   have:=Rd.str (w:=w) ⟨x.toArray⟩ (by have:=h x (by simp);simpa[ByteArray.size]using this);simpa using this
  exact .cons _ _ _ _ [] [] rfl h1 (mm.Th fun y hy=>h y (by simp[hy]))
theorem QH(xs:aG):(xs.map tx).flatten.all D.flat=true:=by
 rw[OV];simp[D.flat]
def oC(xs:aG):aG:=xs.mergeSort fun x y=>decide (x<=y)
theorem AF(xs:aG):(oC xs).Perm xs:=List.mergeSort_perm _ _
theorem MJ{P:Program}{ρ:Ren}(L:Lays.n192 P ρ){e:TypeId}{xs:aG}(hn:xs.length<4611686018427387904):Pn P (ρ.f 192) e 1 (xs.map tx) ((oC xs).map tx):=by
 refine⟨⟨_,L.f192,rfl,rfl⟩,?_⟩;intro w v cs hsz hrl hown hrd;rw[OV]at hrd;have hle:=hrd.a0p;obtain⟨ys,rfl,hys⟩:=hrd.strs;have hlen:(oC xs).length=xs.length:=(AF xs).length_eq;have J2:∀r∈(oC xs).map tx,r.length=1:=by
  intro r hr;obtain⟨x,_,rfl⟩:=cE.1 hr;rfl
 rcases hown.2 with⟨rfl,h0⟩|⟨g,cap,cur,rfl,hb,Oa,hnc,hcm,hcs,QV⟩
 ·have hx:xs=[]:=by simpa using h0
  subst hx;refine(Any.sort_Strings_none L none 0 w).mono ?_;rintro e' w' ⟨rfl,rfl⟩;exact⟨rfl,rfl,rfl,rfl,bO _,fun _ _ _=>rfl,J2,[],⟨by simp[hlen],.inl ⟨rfl,by simp[hlen]⟩⟩,by simpa[oC]using mm.nil⟩
 ·rw[ax]at hnc QV⊢;rw[Nat.mul_one]at QV hcs;have hyl:ys.length=xs.length:=by rw[<-hys];simp
  have M8:∀j,j<xs.length->cur[j]?=some (encStr xs.toArray[j]!):=by
   intro j hj;have h1:(cur.toList.take xs.length)[j]?=cur[j]?:=by rw[uh hj];simp
   rw[<-h1,QV,bt];have hj':j<ys.length:=by omega
   rw[af hj'];have:xs[j]?=some ys[j].data.toList:=by rw[<-hys,bt,af hj'];rfl
   have hx:xs.toArray[j]! =ys[j].data.toList:=by
    rw[getElem!_pos _ _ (by simpa using hj)];rw[af hj]at this;simpa using this
   rw[hx];simp[encStr]
  have hH:Holds encStr w g 0 xs.toArray:=by
   intro j hj;have hj:j<xs.length:=by simpa using hj
   refine⟨?_,?_⟩
   ·rw[<-M8 j hj];simp[World.cell?,Oa]
   ·simp[World.frozen?,Oa]
  have hblk:g<w.heap.size:=(bD.1 Oa).1;refine(Any.sort_Strings L g 0 cap xs w hH hblk hn).mono ?_;rintro e' w' ⟨rfl,n,os,rfl⟩;have hheap:(grow (putRow encStr (Sort.ahead w n) g 0 (oC xs).toArray) os).heap=(w.heap.modify g (onCells (putCells encStr 0 (oC xs).toArray)))++os:=rfl;have M6:∀b,b<w.heap.size->b≠g->(grow (putRow encStr (Sort.ahead w n) g 0 (oC xs).toArray) os).heap[b]?=w.heap[b]?:=by
   intro b hb hne;rw[hheap,eY (by simpa using hb),we,b9 (fun e=>hne e.symm)]
  have hrow:(grow (putRow encStr (Sort.ahead w n) g 0 (oC xs).toArray) os).heap[g]?=some (.cells (putCells encStr 0 (oC xs).toArray cur) e (0,0)):=by
   rw[hheap,eY (by simpa using hblk),we,bN rfl,Oa];rfl
  refine⟨rfl,rfl,rfl,rfl,by show w.heap.size<=(grow (putRow encStr (Sort.ahead w n) g 0 (oC xs).toArray) os).heap.size;rw[hheap];simp,fun b hb hne=>M6 b hb fun e=>hne (by rw[e];rfl),J2,(oC xs).map encStr,⟨by simp,.inr ⟨g,cap,_,by simp[hlen],hb,hrow,by simpa[hlen]using hnc,hcm,by simp[putCells,hcs],?_⟩⟩,?_⟩
  ·apply nw;intro j;simp only[ax,Nat.mul_one];by_cases hj:j<(oC xs).length
   ·have hj2:j<cur.size:=by omega
    rw[uh hj,bt,af hj];simp[putCells,hj2,hj]
   ·rw[cN (by simp;omega),cN (by simp;omega)]
  ·rw[OV];exact mm.Th fun x hx=>hle x ((AF xs).mem_iff.1 hx)
end Go.Cx
namespace Go.Cx
open Go.RowKit Go.Proofs Go.Shelf Go.Lib Tryz
theorem XG(n:Int)(h:pL .i64 n):(itoa n).length<=20:=by
 have h1: -9223372036854775808<=n:=h.1;have h2:n<=9223372036854775807:=h.2;have key:∀u:Nat,u<=9223372036854775808->nDigits u<=19:=by
  intro u hu;by_cases h0:u=0
  ·subst h0;rw[nDigits_small (by omega)];omega
  ·by_cases hk:nDigits u<=19
   ·exact hk
   ·exfalso;have XK:∀(k v:Nat),v<10^k->1<=k->nDigits v<=k:=by
     intro k
     induction k with
     |zero=>intro v _ h;omega
     |succ k ih=>
      intro v hv _;by_cases h10:v<10
      ·rw[nDigits_small h10];omega
      ·rw[nDigits_big h10];have h3:v/10<10^k:=by rw[w8]at hv;omega
       have hk1:1<=k:=by
        cases k with
        |zero=>simp at hv;omega
        |succ k=>omega
       have:=ih (v/10) h3 hk1;omega
    have:=XK 19 u (by omega) (by omega);omega
 unfold itoa;split
 ·rw[aP,decDigits_length];have:=key n.natAbs (by omega);omega
 ·rw[decDigits_length];have:=key n.toNat (by omega);omega
theorem Q0(w:World)(k:Nat)(os:Array Obj):Below w.heap.size w (Sort.grow (w.drewN k) os):=
 ⟨rfl,rfl,rfl,by show w.heap.size<=(w.heap++os).size;simp,fun b hb=>by show(w.heap++os)[b]?=_;rw[eY hb]⟩
theorem Qc{P:Program}{ρ:Ren}(L:LaysM.n171 P ρ){g:Nat}(hg:P.globalNamed "internal/strconv.uint64pow10" =some g)(hx:(g,fun cs:bY=>cs=pow10Tab.map fun z=>Value.int .u64 z)∈yG){n:Int}:
 Good P (ρ.f 171) [.int .i64 n] (.str (itoa n)):=by
 refine⟨⟨_,L.f171,rfl,rfl⟩,?_⟩;intro w Θ args bs hv ha _ _ _;obtain _|⟨v1,_,_,_,b1,_,h1,ha⟩:=ha;cases ha;cases h1 with
 |int _ _ hr=>
  have h0: -9223372036854775808<=n:=hr.1;have h1:n<=9223372036854775807:=hr.2;have hl:=XG n hr;have ht:TabIs P w "internal/strconv.uint64pow10" .u64 pow10Tab:=by
   obtain⟨cs,h2,h3⟩:=hv.var hx hg;have h4:cs=(pow10Tab.map fun z=>Value.int .u64 z).toArray:=by rw[<-h3]
   rw[h4]at h2;exact h2
  have:=Calls.txt (Θ:=Θ) (r:=⟨(itoa n).toArray⟩) (by show(itoa n).toArray.size<=maxLen;rw[vz];unfold maxLen;omega)
   ((Any.strconv_Itoa L n h0 h1 w ht).mono fun e w' ⟨k1,k,os,k2⟩=>⟨k1,by subst k2;exact Q0 w k os⟩)
  simpa using this
end Go.Cx
namespace Go.Cx
open Go.RowKit Go.Proofs Go.Shelf Go.Lib Tryz
theorem Pz(w:World)(t5:TypeId)(t:ByteArray):Below w.heap.size w (Lib.bytesWorld w t5 t):=Lib.bytesWorld_below _ _ _
def Ow(s:Bytes):Option (Int×Bool):=if s.length<=18 then(match Lib.atoi s with|some n=>some (n,false)|none=>some (0,true))else none
theorem Qb{P:Program}{ρ:Ren}(L:LaysC.n172 P ρ){g:Nat}(hg:P.globalNamed "strconv.ErrSyntax" =some g)(hx:(g,fun cs:bY=>∃tp p,cs=[Value.iface tp p])∈yG){s:Bytes}{r:Int×Bool}(h:Ow s=some r):
 Good P (ρ.f 172) [.str s] (.gL [.int .i64 r.1,.ifc r.2]):=by
 refine⟨⟨_,L.f172,rfl,rfl⟩,?_⟩;intro w Θ args bs hv ha _ _ _;obtain _|⟨v1,_,_,_,b1,_,h1,ha⟩:=ha;cases ha;obtain⟨y,rfl,rfl,_,_⟩:=h1.uM;unfold Ow at h;split at h
 ·rename_i hl;have hl':y.size<=18:=by simpa using hl
  split at h
  ·rename_i n hn;cases h;have hb:=Lib.atoi_bound hn hl;refine(Any.strconv_Atoi L.toM.ton172 y n hl' hn w).mono ?_;rintro e w' ⟨rfl,t,rfl⟩;exact⟨_,[],[],[],rfl,Pz _ _ _,.gL [.int .i64 n,.nilIface] [.int .i64 n,.ifc false] [] [] [] (.cons _ _ _ _ [] [] [] [] [] [] (.cell (.pure (.int _ _ (pL.i64.2 (by omega))))) (.cons _ _ _ _ [] [] [] [] [] [] (.cell (.pure .UY)) .nil)),by simp,by simp,by simp,by simp,by simp⟩
  ·rename_i hn;cases h;obtain⟨cs,h2,tp,p,h3⟩:=hv.var hx hg;have h4:cs= #[.iface tp p]:=by rw[<-qv,h3]
   rw[h4]at h2;refine(Any.strconv_Atoi_err_var L y hl' hn tp p w h2).mono ?_;rintro e w' ⟨N,rfl,_,_,VO⟩;exact⟨_,[],[],[],rfl,VO,.gL [.int .i64 0,.iface _ _] [.int .i64 0,.ifc true] [] [] [] (.cons _ _ _ _ [] [] [] [] [] [] (.cell (.pure (.int _ _ (pL.zero _)))) (.cons _ _ _ _ [] [] [] [] [] [] (.cell (.pure (.UZ _ _))) .nil)),by simp,by simp,by simp,by simp,by simp⟩
 ·cases h
theorem T8:∀(a b:Bytes), -1<=Lib.compareBytes a b/\Lib.compareBytes a b<=1
 | [],[]=>by simp[Lib.compareBytes]
 | [],_::_=>by simp[Lib.compareBytes]
 |_::_,[]=>by simp[Lib.compareBytes]
 |a::xs,b::ys=>by
  simp only[Lib.compareBytes];split
  ·omega
  ·split
   ·omega
   ·exact T8 xs ys
theorem MI{P:Program}{ρ:Ren}(L:Lays.n106 P ρ){a b:Bytes}:Good P (ρ.f 106) [.str a,.str b] (.int .i64 (Lib.compareBytes a b)):=by
 refine⟨⟨_,L.f106,rfl,rfl⟩,?_⟩;intro w Θ args bs hv ha _ _ _;obtain _|⟨v1,_,_,_,b1,_,h1,ha⟩:=ha;obtain _|⟨v2,_,_,_,b2,_,h2,ha⟩:=ha;cases ha;obtain⟨y,rfl,rfl,_,_⟩:=h1.uM;obtain⟨z,rfl,rfl,_,_⟩:=h2.uM;have hc:=T8 y.data.toList z.data.toList;refine(Any.strings_Compare L y z w).mono ?_;rintro e w' ⟨rfl,rfl⟩;exact⟨_,[],[],[],rfl,Below.refl _ _,.v (.cell (.pure (.int _ _ (pL.i64.2 (by omega))))),by simp,by simp,by simp,by simp,by simp⟩
end Go.Cx
namespace Go.Cx
open Go.RowKit Go.Proofs Go.Shelf Tryz
def Qe:Ren:=⟨fun|192=>212|190=>227|125=>237|258=>236|128=>253|129=>254|302=>244|303=>245|304=>246|305=>247|306=>248|307=>249|308=>250|309=>251|310=>252|333=>266|329=>267|330=>268|334=>269|335=>270|336=>271|344=>280|n=>n,fun|31=>41|0=>0|9=>9|3=>3|46=>183|51=>221|53=>223|4=>4|183=>214|182=>213|131=>187|5=>5|218=>236|222=>240|228=>255|229=>141|n=>n,fun|n=>n⟩
theorem a0E:Lays.n192 prog Qe:= {
 mixed:=by kernel_rfl,
 f125:=func237.trans (congrArg some (by kernel_rfl)),
 f128:=func253.trans (congrArg some (by kernel_rfl)),
 f129:=func254.trans (congrArg some (by kernel_rfl)),
 f190:=func227.trans (congrArg some (by kernel_rfl)),
 f192:=func212.trans (congrArg some (by kernel_rfl)),
 f258:=func236.trans (congrArg some (by kernel_rfl)),
 f302:=func244.trans (congrArg some (by kernel_rfl)),
 f303:=func245.trans (congrArg some (by kernel_rfl)),
 f304:=func246.trans (congrArg some (by kernel_rfl)),
 f305:=func247.trans (congrArg some (by kernel_rfl)),
 f306:=func248.trans (congrArg some (by kernel_rfl)),
 f307:=func249.trans (congrArg some (by kernel_rfl)),
 f308:=func250.trans (congrArg some (by kernel_rfl)),
 f309:=func251.trans (congrArg some (by kernel_rfl)),
 f310:=func252.trans (congrArg some (by kernel_rfl)),
 f329:=func267.trans (congrArg some (by kernel_rfl)),
 f330:=func268.trans (congrArg some (by kernel_rfl)),
 f333:=func266.trans (congrArg some (by kernel_rfl)),
 f334:=func269.trans (congrArg some (by kernel_rfl)),
 f335:=func270.trans (congrArg some (by kernel_rfl)),
 f336:=func271.trans (congrArg some (by kernel_rfl)),
 f344:=func280.trans (congrArg some (by kernel_rfl)),
 t0:=underlying0,
 a0:=Tryz.isAgg0,
 z0:=Tryz.sizeOf0,
 v0:=Tryz.zeroValue0,
 t3:=underlying3,
 a3:=Tryz.isAgg3,
 z3:=Tryz.sizeOf3,
 v3:=Tryz.zeroValue3,
 t4:=underlying4,
 a4:=Tryz.isAgg4,
 z4:=Tryz.sizeOf4,
 v4:=Tryz.zeroValue4,
 t5:=underlying5,
 a5:=Tryz.isAgg5,
 z5:=Tryz.sizeOf5,
 v5:=Tryz.zeroValue5,
 t9:=underlying9,
 a9:=Tryz.isAgg9,
 z9:=Tryz.sizeOf9,
 v9:=Tryz.zeroValue9,
 t31:=underlying41,
 a31:=Tryz.isAgg41,
 z31:=Tryz.sizeOf41,
 v31:=Tryz.zeroValue41,
 t46:=underlying183,
 a46:=Tryz.isAgg183,
 z46:=Tryz.sizeOf183,
 v46:=Tryz.zeroValue183,
 t51:=underlying221,
 a51:=Tryz.isAgg221,
 z51:=Tryz.sizeOf221,
 v51:=Tryz.zeroValue221,
 t53:=underlying223,
 a53:=Tryz.isAgg223,
 z53:=Tryz.sizeOf223,
 v53:=Tryz.zeroValue223,
 t131:=underlying187,
 a131:=Tryz.isAgg187,
 z131:=Tryz.sizeOf187,
 v131:=Tryz.zeroValue187,
 t182:=underlying213,
 a182:=Tryz.isAgg213,
 z182:=Tryz.sizeOf213,
 v182:=Tryz.zeroValue213,
 t183:=underlying214,
 a183:=Tryz.isAgg214,
 z183:=Tryz.sizeOf214,
 v183:=Tryz.zeroValue214,
 t218:=underlying236,
 a218:=Tryz.isAgg236,
 z218:=Tryz.sizeOf236,
 v218:=Tryz.zeroValue236,
 t222:=underlying240,
 a222:=Tryz.isAgg240,
 z222:=Tryz.sizeOf240,
 v222:=Tryz.zeroValue240,
 t228:=underlying255,
 a228:=Tryz.isAgg255,
 z228:=Tryz.sizeOf255,
 v228:=Tryz.zeroValue255,
 t229:=underlying141,
 a229:=Tryz.isAgg141,
 z229:=Tryz.sizeOf141,
 v229:=Tryz.zeroValue141}
theorem Fz{e:TypeId}{xs:aG}(hn:xs.length<4611686018427387904):Pn prog 212 e 1 (xs.map tx) ((oC xs).map tx):=MJ a0E hn
def Kl:Ren:=⟨fun|171=>225|243=>235|246=>243|283=>262|284=>263|285=>264|286=>265|129=>254|317=>276|318=>277|319=>278|320=>279|337=>283|338=>284|n=>n,fun|3=>3|9=>9|2=>2|4=>4|171=>232|0=>0|53=>223|37=>22|5=>5|173=>234|212=>252|51=>221|20=>20|213=>253|46=>183|232=>262|233=>263|n=>n,fun|17=>3|18=>4|19=>5|n=>n⟩
theorem a0C:Lays.n171 prog Kl:= {
 mixed:=by kernel_rfl,
 f129:=func254.trans (congrArg some (by kernel_rfl)),
 f171:=func225.trans (congrArg some (by kernel_rfl)),
 f243:=func235.trans (congrArg some (by kernel_rfl)),
 f246:=func243.trans (congrArg some (by kernel_rfl)),
 f283:=func262.trans (congrArg some (by kernel_rfl)),
 f284:=func263.trans (congrArg some (by kernel_rfl)),
 f285:=func264.trans (congrArg some (by kernel_rfl)),
 f286:=func265.trans (congrArg some (by kernel_rfl)),
 f317:=func276.trans (congrArg some (by kernel_rfl)),
 f318:=func277.trans (congrArg some (by kernel_rfl)),
 f319:=func278.trans (congrArg some (by kernel_rfl)),
 f320:=func279.trans (congrArg some (by kernel_rfl)),
 f337:=func283.trans (congrArg some (by kernel_rfl)),
 f338:=func284.trans (congrArg some (by kernel_rfl)),
 t0:=underlying0,
 a0:=Tryz.isAgg0,
 z0:=Tryz.sizeOf0,
 v0:=Tryz.zeroValue0,
 t2:=underlying2,
 a2:=Tryz.isAgg2,
 z2:=Tryz.sizeOf2,
 v2:=Tryz.zeroValue2,
 t3:=underlying3,
 a3:=Tryz.isAgg3,
 z3:=Tryz.sizeOf3,
 v3:=Tryz.zeroValue3,
 t4:=underlying4,
 a4:=Tryz.isAgg4,
 z4:=Tryz.sizeOf4,
 v4:=Tryz.zeroValue4,
 t5:=underlying5,
 a5:=Tryz.isAgg5,
 z5:=Tryz.sizeOf5,
 v5:=Tryz.zeroValue5,
 t9:=underlying9,
 a9:=Tryz.isAgg9,
 z9:=Tryz.sizeOf9,
 v9:=Tryz.zeroValue9,
 t20:=underlying20,
 a20:=Tryz.isAgg20,
 z20:=Tryz.sizeOf20,
 v20:=Tryz.zeroValue20,
 t37:=underlying22,
 a37:=Tryz.isAgg22,
 z37:=Tryz.sizeOf22,
 v37:=Tryz.zeroValue22,
 t46:=underlying183,
 a46:=Tryz.isAgg183,
 z46:=Tryz.sizeOf183,
 v46:=Tryz.zeroValue183,
 t51:=underlying221,
 a51:=Tryz.isAgg221,
 z51:=Tryz.sizeOf221,
 v51:=Tryz.zeroValue221,
 t53:=underlying223,
 a53:=Tryz.isAgg223,
 z53:=Tryz.sizeOf223,
 v53:=Tryz.zeroValue223,
 t171:=underlying232,
 a171:=Tryz.isAgg232,
 z171:=Tryz.sizeOf232,
 v171:=Tryz.zeroValue232,
 t173:=underlying234,
 a173:=Tryz.isAgg234,
 z173:=Tryz.sizeOf234,
 v173:=Tryz.zeroValue234,
 t212:=underlying252,
 a212:=Tryz.isAgg252,
 z212:=Tryz.sizeOf252,
 v212:=Tryz.zeroValue252,
 t213:=underlying253,
 a213:=Tryz.isAgg253,
 z213:=Tryz.sizeOf253,
 t232:=underlying262,
 a232:=Tryz.isAgg262,
 z232:=Tryz.sizeOf262,
 v232:=Tryz.zeroValue262,
 t233:=underlying263,
 a233:=Tryz.isAgg263,
 z233:=Tryz.sizeOf263,
 v233:=Tryz.zeroValue263,
 g17:=by kernel_rfl,
 g18:=by kernel_rfl,
 g19:=by kernel_rfl}
theorem XN:LaysM.n171 prog Kl:= {a0C with
 i0:=by kernel_rfl,
 i2:=by kernel_rfl,
 i3:=by kernel_rfl,
 i4:=by kernel_rfl,
 i5:=by kernel_rfl,
 i9:=by kernel_rfl,
 i20:=by kernel_rfl,
 i37:=by kernel_rfl,
 i46:=by kernel_rfl,
 i51:=by kernel_rfl,
 i53:=by kernel_rfl,
 i171:=by kernel_rfl,
 i173:=by kernel_rfl,
 i212:=by kernel_rfl,
 i232:=by kernel_rfl,
 i233:=by kernel_rfl,
 m17:=by kernel_rfl,
 m18:=by kernel_rfl,
 m19:=by kernel_rfl}
def zz(aC:Int):Option Bytes:=(fun n:Int=>some (Lib.itoa n)) aC
theorem GR{aC:Int}{r:Bytes}(h:zz aC=some r):Good prog 225 [.int .i64 aC] (.str r):=by cases h;exact Qc XN (g:=3) (by kernel_rfl) (aE (i:=0) (by kernel_rfl))
def Ew:Ren:=⟨fun|172=>229|244=>238|245=>239|247=>255|279=>256|280=>257|281=>258|282=>259|287=>272|316=>273|171=>225|205=>274|321=>281|322=>282|243=>235|246=>243|283=>262|284=>263|285=>264|286=>265|129=>254|317=>276|318=>277|319=>278|320=>279|337=>283|338=>284|n=>n,fun|9=>9|3=>3|75=>198|76=>199|4=>4|5=>5|167=>224|37=>22|0=>0|85=>225|2=>2|168=>227|53=>223|175=>242|46=>183|210=>246|127=>258|145=>261|143=>259|21=>21|171=>232|173=>234|212=>252|51=>221|20=>20|213=>253|232=>262|233=>263|80=>264|n=>n,fun|15=>1|16=>2|17=>3|18=>4|19=>5|n=>n⟩
theorem a0D:Lays.n172 prog Ew:= {
 mixed:=by kernel_rfl,
 f129:=func254.trans (congrArg some (by kernel_rfl)),
 f171:=func225.trans (congrArg some (by kernel_rfl)),
 f172:=func229.trans (congrArg some (by kernel_rfl)),
 f205:=func274.trans (congrArg some (by kernel_rfl)),
 f243:=func235.trans (congrArg some (by kernel_rfl)),
 f244:=func238.trans (congrArg some (by kernel_rfl)),
 f245:=func239.trans (congrArg some (by kernel_rfl)),
 f246:=func243.trans (congrArg some (by kernel_rfl)),
 f247:=func255.trans (congrArg some (by kernel_rfl)),
 f279:=func256.trans (congrArg some (by kernel_rfl)),
 f280:=func257.trans (congrArg some (by kernel_rfl)),
 f281:=func258.trans (congrArg some (by kernel_rfl)),
 f282:=func259.trans (congrArg some (by kernel_rfl)),
 f283:=func262.trans (congrArg some (by kernel_rfl)),
 f284:=func263.trans (congrArg some (by kernel_rfl)),
 f285:=func264.trans (congrArg some (by kernel_rfl)),
 f286:=func265.trans (congrArg some (by kernel_rfl)),
 f287:=func272.trans (congrArg some (by kernel_rfl)),
 f316:=func273.trans (congrArg some (by kernel_rfl)),
 f317:=func276.trans (congrArg some (by kernel_rfl)),
 f318:=func277.trans (congrArg some (by kernel_rfl)),
 f319:=func278.trans (congrArg some (by kernel_rfl)),
 f320:=func279.trans (congrArg some (by kernel_rfl)),
 f321:=func281.trans (congrArg some (by kernel_rfl)),
 f322:=func282.trans (congrArg some (by kernel_rfl)),
 f337:=func283.trans (congrArg some (by kernel_rfl)),
 f338:=func284.trans (congrArg some (by kernel_rfl)),
 t0:=underlying0,
 a0:=Tryz.isAgg0,
 z0:=Tryz.sizeOf0,
 v0:=Tryz.zeroValue0,
 t2:=underlying2,
 a2:=Tryz.isAgg2,
 z2:=Tryz.sizeOf2,
 v2:=Tryz.zeroValue2,
 t3:=underlying3,
 a3:=Tryz.isAgg3,
 z3:=Tryz.sizeOf3,
 v3:=Tryz.zeroValue3,
 t4:=underlying4,
 a4:=Tryz.isAgg4,
 z4:=Tryz.sizeOf4,
 v4:=Tryz.zeroValue4,
 t5:=underlying5,
 a5:=Tryz.isAgg5,
 z5:=Tryz.sizeOf5,
 v5:=Tryz.zeroValue5,
 t9:=underlying9,
 a9:=Tryz.isAgg9,
 z9:=Tryz.sizeOf9,
 v9:=Tryz.zeroValue9,
 t20:=underlying20,
 a20:=Tryz.isAgg20,
 z20:=Tryz.sizeOf20,
 v20:=Tryz.zeroValue20,
 t21:=underlying21,
 a21:=Tryz.isAgg21,
 z21:=Tryz.sizeOf21,
 v21:=Tryz.zeroValue21,
 t37:=underlying22,
 a37:=Tryz.isAgg22,
 z37:=Tryz.sizeOf22,
 v37:=Tryz.zeroValue22,
 t46:=underlying183,
 a46:=Tryz.isAgg183,
 z46:=Tryz.sizeOf183,
 v46:=Tryz.zeroValue183,
 t51:=underlying221,
 a51:=Tryz.isAgg221,
 z51:=Tryz.sizeOf221,
 v51:=Tryz.zeroValue221,
 t53:=underlying223,
 a53:=Tryz.isAgg223,
 z53:=Tryz.sizeOf223,
 v53:=Tryz.zeroValue223,
 t75:=underlying198,
 a75:=Tryz.isAgg198,
 z75:=Tryz.sizeOf198,
 v75:=Tryz.zeroValue198,
 t76:=underlying199,
 a76:=Tryz.isAgg199,
 z76:=Tryz.sizeOf199,
 v76:=Tryz.zeroValue199,
 t85:=underlying225,
 a85:=Tryz.isAgg225,
 z85:=Tryz.sizeOf225,
 v85:=Tryz.zeroValue225,
 t127:=underlying258,
 a127:=Tryz.isAgg258,
 z127:=Tryz.sizeOf258,
 v127:=Tryz.zeroValue258,
 t143:=underlying259,
 a143:=Tryz.isAgg259,
 z143:=Tryz.sizeOf259,
 v143:=Tryz.zeroValue259,
 t145:=underlying261,
 a145:=Tryz.isAgg261,
 z145:=Tryz.sizeOf261,
 v145:=Tryz.zeroValue261,
 t167:=underlying224,
 a167:=Tryz.isAgg224,
 z167:=Tryz.sizeOf224,
 v167:=Tryz.zeroValue224,
 t168:=underlying227,
 a168:=Tryz.isAgg227,
 z168:=Tryz.sizeOf227,
 v168:=Tryz.zeroValue227,
 t171:=underlying232,
 a171:=Tryz.isAgg232,
 z171:=Tryz.sizeOf232,
 v171:=Tryz.zeroValue232,
 t173:=underlying234,
 a173:=Tryz.isAgg234,
 z173:=Tryz.sizeOf234,
 v173:=Tryz.zeroValue234,
 t175:=underlying242,
 a175:=Tryz.isAgg242,
 z175:=Tryz.sizeOf242,
 v175:=Tryz.zeroValue242,
 t210:=underlying246,
 a210:=Tryz.isAgg246,
 z210:=Tryz.sizeOf246,
 v210:=Tryz.zeroValue246,
 t212:=underlying252,
 a212:=Tryz.isAgg252,
 z212:=Tryz.sizeOf252,
 v212:=Tryz.zeroValue252,
 t213:=underlying253,
 a213:=Tryz.isAgg253,
 z213:=Tryz.sizeOf253,
 t232:=underlying262,
 a232:=Tryz.isAgg262,
 z232:=Tryz.sizeOf262,
 v232:=Tryz.zeroValue262,
 t233:=underlying263,
 a233:=Tryz.isAgg263,
 z233:=Tryz.sizeOf263,
 v233:=Tryz.zeroValue263,
 g15:=by kernel_rfl,
 g16:=by kernel_rfl,
 g17:=by kernel_rfl,
 g18:=by kernel_rfl,
 g19:=by kernel_rfl}
theorem XO:LaysM.n172 prog Ew:= {a0D with
 t80:=underlying264,
 a80:=Tryz.isAgg264,
 z80:=Tryz.sizeOf264,
 v80:=Tryz.zeroValue264,
 i0:=by kernel_rfl,
 i2:=by kernel_rfl,
 i3:=by kernel_rfl,
 i4:=by kernel_rfl,
 i5:=by kernel_rfl,
 i9:=by kernel_rfl,
 i20:=by kernel_rfl,
 i21:=by kernel_rfl,
 i37:=by kernel_rfl,
 i46:=by kernel_rfl,
 i51:=by kernel_rfl,
 i53:=by kernel_rfl,
 i75:=by kernel_rfl,
 i76:=by kernel_rfl,
 i80:=by kernel_rfl,
 i85:=by kernel_rfl,
 i127:=by kernel_rfl,
 i143:=by kernel_rfl,
 i145:=by kernel_rfl,
 i167:=by kernel_rfl,
 i168:=by kernel_rfl,
 i171:=by kernel_rfl,
 i173:=by kernel_rfl,
 i175:=by kernel_rfl,
 i210:=by kernel_rfl,
 i212:=by kernel_rfl,
 i232:=by kernel_rfl,
 i233:=by kernel_rfl,
 m15:=by kernel_rfl,
 m16:=by kernel_rfl,
 m17:=by kernel_rfl,
 m18:=by kernel_rfl,
 m19:=by kernel_rfl}
theorem XM:LaysC.n172 prog Ew:= {XO with
 c0:=by kernel_rfl,
 c2:=by kernel_rfl,
 c3:=by kernel_rfl,
 c4:=by kernel_rfl,
 c5:=by kernel_rfl,
 c9:=by kernel_rfl,
 c20:=by kernel_rfl,
 c21:=by kernel_rfl,
 c37:=by kernel_rfl,
 c46:=by kernel_rfl,
 c51:=by kernel_rfl,
 c53:=by kernel_rfl,
 c75:=by kernel_rfl,
 c76:=by kernel_rfl,
 c80:=by kernel_rfl,
 c85:=by kernel_rfl,
 c127:=by kernel_rfl,
 c143:=by kernel_rfl,
 c145:=by kernel_rfl,
 c167:=by kernel_rfl,
 c168:=by kernel_rfl,
 c171:=by kernel_rfl,
 c173:=by kernel_rfl,
 c175:=by kernel_rfl,
 c210:=by kernel_rfl,
 c212:=by kernel_rfl,
 c213:=by kernel_rfl,
 c232:=by kernel_rfl,
 c233:=by kernel_rfl}
def zy(aC:Bytes):Option (Int×Bool):=Ow aC
theorem GQ{aC:Bytes}{r:Int×Bool}(h:zy aC=some r):Good prog 229 [.str aC] (.gL [.int .i64 r.1,.ifc r.2]):=Qb XM (g:=1) (by kernel_rfl) (aE (i:=1) (by kernel_rfl)) h
def Qd:Ren:=⟨fun|106=>172|213=>213|265=>228|n=>n,fun|9=>9|3=>3|n=>n,fun|n=>n⟩
theorem a0B:Lays.n106 prog Qd:= {
 mixed:=by kernel_rfl,
 f106:=func172.trans (congrArg some (by kernel_rfl)),
 f213:=func213.trans (congrArg some (by kernel_rfl)),
 f265:=func228.trans (congrArg some (by kernel_rfl)),
 t3:=underlying3,
 a3:=Tryz.isAgg3,
 z3:=Tryz.sizeOf3,
 v3:=Tryz.zeroValue3,
 t9:=underlying9,
 a9:=Tryz.isAgg9,
 z9:=Tryz.sizeOf9,
 v9:=Tryz.zeroValue9}
def qT(aC:Bytes)(aa:Bytes):Option Int:=(fun a b:Bytes=>some (Lib.compareBytes a b)) aC aa
theorem s9{aC:Bytes}{aa:Bytes}{r:Int}(h:qT aC aa=some r):Good prog 172 [.str aC,.str aa] (.int .i64 r):=by cases h;exact MI a0B
end Go.Cx

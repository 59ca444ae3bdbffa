/- The structure of a network in plain words. No condition but bounds. -/
import Derived.Test.YtbeaohmbmfjabaaGreatDoorPPutInNetworkG7
import Derived.Test.YtbeaohmbmfjabaaGreatDoorPPutInNetworkG3
import Derived.Test.YtbeaohmbmfjabaaGreatDoorPPutInNetworkG4
import Derived.ProofKit
set_option linter.unusedVariables false
set_option linter.unusedSimpArgs false
namespace Go.Cx
open Go.RowKit Go.Proofs Tryz
def Z3(sh:aE):b8->Nat->Option Nat
 | [],_=>none
 |x::xs,i=>if x.shape=sh then some i else Z3 sh xs (i+1)
def Xv(al:b8)(sh:aE):b8×Int:=match Z3 sh al 0 with
 |some i=>(al,dD i)
 |none=>(al++[⟨sh,[]⟩],dD al.length)
theorem P9{n:Nat}(h:n<=1099511627776):IntKind.i64.wrap (((n+1:Nat):Int)-1)=dD n:=by
 unfold dD;rw[gf (tU.i64.2 (by omega))];omega
theorem aDJ(n:aF)(sh:aE)(k:Option (aF×Int)):∀(l:b8) (i:Nat),lf n sh k l i=match Z3 sh l i with|some j=>some (n,dD j)|none=>k:=by
 intro l
 induction l with
 |nil=>intro i;rfl
 |cons x l ih=>
  intro i;rw[lf,XL,aA,ih,Z3];by_cases h:x.shape=sh
  ·rw[bU h,aW,bQ h];rfl
  ·rw[b9 h,af,bG h]
theorem sAl(n:aF)(sh:aE)(h:n.ay.length<=1048576):tQ n sh=some (⟨n.rules,n.ends,(Xv n.ay sh).1,n.nodes,n.facts,n.cL⟩,(Xv n.ay sh).2):=by
 unfold tQ;rw[wo (by omega),aW,aDJ,mW (by omega) (by decide),aW];unfold Xv;cases Z3 sh n.ay 0 with
 |some j=>rfl
 |none=>
  dsimp only;rw[show((n.ay.map aQ.c)++[[D.str sh.rel,D.sl (sh.args.map tx),D.sl []]]).length=n.ay.length+1 by simp,P9 (by omega)]
theorem aCw(n:aF)(sh:aE)(k:Option (aF×Int)):∀(l:b8) (i:Nat),eV n sh k l i=match Z3 sh l i with|some j=>some (n,dD j)|none=>k:=by
 intro l
 induction l with
 |nil=>intro i;rfl
 |cons x l ih=>
  intro i;rw[eV,Qb,aA,ih,Z3];by_cases h:x.shape=sh
  ·rw[bU h,aW,bQ h];rfl
  ·rw[b9 h,af,bG h]
theorem iAl(n:aF)(sh:aE)(h:n.ay.length<=1048576):iP n sh=some (⟨n.rules,n.ends,(Xv n.ay sh).1,n.nodes,n.facts,n.cL⟩,(Xv n.ay sh).2):=by
 unfold iP;rw[wo (by omega),aW,aCw,mW (by omega) (by decide),aW];unfold Xv;cases Z3 sh n.ay 0 with
 |some j=>rfl
 |none=>
  dsimp only;rw[show((n.ay.map aQ.c)++[[D.str sh.rel,D.sl (sh.args.map tx),D.sl []]]).length=n.ay.length+1 by simp,P9 (by omega)]
def Rq(p:Int)(c:aN):az->Nat->Option Nat
 | [],_=>none
 |x::xs,i=>if 0<i/\x.parent=p/\x.cond=c then some i else Rq p c xs (i+1)
def Rp(al:b8)(c:aN):b8×Int:=if c.kind=1\/c.kind=2 then Xv al (vW c.pat)else(al, -1)
def Ny(al:b8)(ns:az)(p:Int)(c:aN):(b8×az)×Int:=match Rq p c ns 0 with
 |some i=>((al,ns),dD i)
 |none=>(((Rp al c).1,ns++[⟨p,c,(Rp al c).2,[]⟩]),dD ns.length)
theorem Ua(p:Int)(c:aN)(ns:az):Rq p c ns 0=Rq p c (ns.drop 1) 1:=by
 cases ns with
 |nil=>rfl
 |cons x ns=>rw[Rq,bG (fun h=>by omega)];rfl
def Zk(n:aF)(z:(b8×az)×Int):aF×Int:=(⟨n.rules,n.ends,z.1.1,z.1.2,n.facts,n.cL⟩,z.2)
theorem aDL(n:aF)(p:Int)(c:aN)(k:Option (aF×Int))(hn:n.nodes.length<=1048576):∀(d v fu:Nat),v+d=n.nodes.length+1->1<=v->d<fu->gH n p c k fu (v:Int)=match Rq p c (n.nodes.drop v) v with|some j=>some (n,dD j)|none=>k:=by
 intro d
 induction d with
 |zero=>
  intro v fu hv h1 hf;obtain⟨fu,rfl⟩:∃m,fu=m+1:=⟨fu-1,by omega⟩
  rw[gH,aZ,b9 (by omega),af,p6 (by omega)];rfl
 |succ d ih=>
  intro v fu hv h1 hf;obtain⟨fu,rfl⟩:∃m,fu=m+1:=⟨fu-1,by omega⟩
  by_cases hl:v<n.nodes.length
  ·have hx:n.nodes[v]?=some n.nodes[v]:=ai hl;have e3:mC n.nodes (v:Int)=some n.nodes[v]:=by unfold mC;rw[bU (by omega),aW];exact hx
   rw[mY hl,Rq,gH,aZ,bU (by omega),aW,e3,aA,Nq (by omega),ih (v+1) fu (by omega) (by omega) (by omega),a2t,aA];generalize n.nodes[v]=x;by_cases hp:x.parent=p
   ·rw[show((x.parent:Int)==p)=true by simp[hp],aW];by_cases hc:x.cond=c
    ·rw[bU hc,aW,bQ ⟨by omega,hp,hc⟩];rfl
    ·rw[b9 hc,af,bG (fun h=>hc h.2.2)]
   ·rw[show((x.parent:Int)==p)=false by simp[hp],af,bG (fun h=>hp h.2.1)]
  ·rw[gH,aZ,b9 (by omega),af,p6 (by omega)];rfl
theorem sCh(n:aF)(p:Int)(c:aN)(hn:n.nodes.length<=1048576)(ha:n.ay.length<=1048576)(hc:c.wt<=1048576):wJ n p c=some (Zk n (Ny n.ay n.nodes p c)):=by
 have hp:=aN.fJ hc;have hargs:=aE.dV hp;unfold wJ;have e:=aDL n p c;rw[show(1:Int)=((1:Nat):Int)from rfl,e _ hn n.nodes.length 1 fuel (by omega) (bR _) (by unfold fuel;omega),<-Ua,Ti c (by omega),aA,a8O c.pat hp,aA,sAl n _ ha,aA];unfold Ny Rp Zk;cases Rq p c n.nodes 0 with
 |some j=>rfl
 |none=>
  dsimp only;rw[mW (by omega) (by decide),aW];by_cases h1:c.kind=1
  ·rw[show((c.kind:Int)==((1:Nat):Int))=true by simp[h1],aW,bQ (.inl h1)];simp[P9,hn,show n.nodes.length<=1099511627776 by omega]
   first|done| (unfold dD;rw[gf (tU.i64.2 (by omega))])
  ·rw[show((c.kind:Int)==((1:Nat):Int))=false by simp[h1],af];by_cases h2:c.kind=2
   ·rw[show((c.kind:Int)==(2:Int))=true by simp[h2],aW,bQ (.inr h2)];simp[P9,hn,show n.nodes.length<=1099511627776 by omega]
    first|done| (unfold dD;rw[gf (tU.i64.2 (by omega))])
   ·rw[show((c.kind:Int)==(2:Int))=false by simp[h2],af,bG (by omega)]
    first|rw[mW (by omega) (by decide),aW]|rw[aA,mW (by omega) (by decide),aW]|skip
    simp[P9,hn,show n.nodes.length<=1099511627776 by omega]
    first|done| (unfold dD;rw[gf (tU.i64.2 (by omega))])
theorem aCy(n:aF)(p:Int)(c:aN)(k:Option (aF×Int)):∀(l:az) (i:Nat),dA n p c k l i=match Rq p c l i with|some j=>some (n,dD j)|none=>k:=by
 intro l
 induction l with
 |nil=>intro i;rfl
 |cons x l ih=>
  intro i;rw[dA,Rq,ih,TH,aA];by_cases hi:0<i
  ·rw[bU (by omega),aW];by_cases hp:x.parent=p
   ·rw[show((x.parent:Int)==p)=true by simp[hp],aW];by_cases hc:x.cond=c
    ·rw[bU hc,aW,bQ ⟨hi,hp,hc⟩];rfl
    ·rw[b9 hc,af,bG (fun h=>hc h.2.2)]
   ·rw[show((x.parent:Int)==p)=false by simp[hp],af,bG (fun h=>hp h.2.1)]
  ·rw[b9 (by omega),af,bG (fun h=>hi h.1)]
theorem iCh(n:aF)(p:Int)(c:aN)(hn:n.nodes.length<=1048576)(ha:n.ay.length<=1048576)(hc:c.wt<=1048576):kY n p c=some (Zk n (Ny n.ay n.nodes p c)):=by
 have hp:=aN.fJ hc;have hargs:=aE.dV hp;unfold kY;rw[wo (by omega),aW,aCy,TF c (by omega),a7h c.pat hp,aA,iAl n _ ha,aA,aA];unfold Ny Rp Zk;cases Rq p c n.nodes 0 with
 |some j=>rfl
 |none=>
  dsimp only;rw[mW (by omega) (by decide),aW];by_cases h1:c.kind=1
  ·rw[show((c.kind:Int)==(1:Int))=true by simp[h1],aW,bQ (.inl h1)];simp[P9,hn,show n.nodes.length<=1099511627776 by omega]
   first|done| (unfold dD;rw[gf (tU.i64.2 (by omega))])
  ·rw[show((c.kind:Int)==(1:Int))=false by simp[h1],af];by_cases h2:c.kind=2
   ·rw[show((c.kind:Int)==(2:Int))=true by simp[h2],aW,bQ (.inr h2)];simp[P9,hn,show n.nodes.length<=1099511627776 by omega]
    first|done| (unfold dD;rw[gf (tU.i64.2 (by omega))])
   ·rw[show((c.kind:Int)==(2:Int))=false by simp[h2],af,bG (by omega)]
    first|rw[mW (by omega) (by decide),aW]|rw[aA,mW (by omega) (by decide),aW]|skip
    simp[P9,hn,show n.nodes.length<=1099511627776 by omega]
    first|done| (unfold dD;rw[gf (tU.i64.2 (by omega))])
def IK(s:(b8×az)×Int)(c:aN):(b8×az)×Int:=Ny s.1.1 s.1.2 s.2 c
def KK(z:(b8×az)×bJ)(r:aO):(b8×az)×bJ:=(((gl r).foldl IK (z.1,0)).1,z.2++[((gl r).foldl IK (z.1,0)).2])
def root(tk:ah):Node:=⟨-1,⟨0,⟨[],[]⟩,[],[]⟩, -1,tk⟩
def cg(tk:ah)(rs:au):(b8×az)×bJ:=rs.foldl KK (([],[root tk]),[])
theorem a43(al:b8)(sh:aE):(Xv al sh).1.length<=al.length+1:=by
 unfold Xv;cases Z3 sh al 0<;>simp
theorem a4B(al:b8)(c:aN):(Rp al c).1.length<=al.length+1:=by
 unfold Rp;by_cases h:c.kind=1\/c.kind=2
 ·rw[bQ h];exact a43 _ _
 ·rw[bG h];exact Nat.le_succ _
theorem Sw(al:b8)(ns:az)(p:Int)(c:aN):(Ny al ns p c).1.1.length<=al.length+1/\(Ny al ns p c).1.2.length<=ns.length+1:=by
 unfold Ny;cases Rq p c ns 0 with
 |some i=>exact⟨Nat.le_succ _,Nat.le_succ _⟩
 |none=>exact⟨a4B _ _,by simp⟩
theorem IL:∀(cs:aj) (s:(b8×az)×Int),(cs.foldl IK s).1.1.length<=s.1.1.length+cs.length/\(cs.foldl IK s).1.2.length<=s.1.2.length+cs.length
 | [],s=>⟨bR _,bR _⟩
 |c::cs,s=>by
  have h1:=Sw s.1.1 s.1.2 s.2 c;have h2:=IL cs (IK s c);have h3:(IK s c).1.1.length<=s.1.1.length+1/\(IK s c).1.2.length<=s.1.2.length+1:=h1;rw[e9,aL];omega
theorem aAn(a:au)(i:Nat)(y:aj)(k:Int->Int->au->bJ->b8->az->aP->Option (aF×Bool)):∀(cs:aj) (j:Nat) (v u:Int) (w3:au) (w4:bJ) (al:b8) (ns:az) (w7:aP),(∀c∈cs,c.wt<=1048576)->al.length+cs.length<=1048576->ns.length+cs.length<=1048576->
 gX a i y k cs j v u w3 w4 al ns w7=k (cs.foldl IK ((al,ns),v)).2 u w3 w4 (cs.foldl IK ((al,ns),v)).1.1 (cs.foldl IK ((al,ns),v)).1.2 w7:=by
 intro cs
 induction cs with
 |nil=>intros;rfl
 |cons c cs ih=>
  intro j v u w3 w4 al ns w7 hc ha hn;simp only[aL]at ha hn;have h1:=Sw al ns v c;rw[gX,sCh _ v c (show ns.length<=1048576 by omega) (show al.length<=1048576 by omega) (hc c (by simp)),aA];unfold Zk;dsimp only;rw[ih _ _ _ _ _ _ _ _ (fun x hx=>hc x (by simp[hx])) (by omega) (by omega)];rfl
theorem aA4(a:au)(i:Nat)(y:aj)(k:Int->Int->au->bJ->b8->az->aP->Option aF):∀(cs:aj) (j:Nat) (v u:Int) (w3:au) (w4:bJ) (al:b8) (ns:az) (w7:aP),(∀c∈cs,c.wt<=1048576)->al.length+cs.length<=1048576->ns.length+cs.length<=1048576->
 jZ a i y k cs j v u w3 w4 al ns w7=k (cs.foldl IK ((al,ns),v)).2 u w3 w4 (cs.foldl IK ((al,ns),v)).1.1 (cs.foldl IK ((al,ns),v)).1.2 w7:=by
 intro cs
 induction cs with
 |nil=>intros;rfl
 |cons c cs ih=>
  intro j v u w3 w4 al ns w7 hc ha hn;simp only[aL]at ha hn;have h1:=Sw al ns v c;rw[jZ,iCh _ v c (show ns.length<=1048576 by omega) (show al.length<=1048576 by omega) (hc c (by simp)),aA];unfold Zk;dsimp only;rw[ih _ _ _ _ _ _ _ _ (fun x hx=>hc x (by simp[hx])) (by omega) (by omega)];rfl
theorem SB:∀(ts:aJ) (N:aT) {p:aR},p∈ts.foldl jS N->p∈N\/(p.var∈ts/\lH p.var=true)
 | [],_,_,h=>.inl h
 |t::ts,N,p,h=>by
  rcases SB ts (jS N t) h with h1|h1
  ·unfold jS at h1;cases hv:lH t&& !Hl N t with
   |false=>rw[hv]at h1;exact .inl h1
   |true=>
    rw[hv,aW]at h1;simp only[aY]at hv;rcases ar.1 h1 with h2|h2
    ·exact .inl h2
    ·rw[eC.1 h2];exact .inr ⟨by simp,hv.1⟩
  ·exact .inr ⟨by simp[h1.1],h1.2⟩
theorem NZ{l:aj}{v:Bytes}:v∈FA l↔v∈Ae l/\lH v=true:=by
 unfold FA Ae qu jT;simp only[cD,fo];constructor
 ·rintro⟨c,hc,hm,hv⟩;exact⟨⟨c,hc,hm⟩,hv⟩
 ·rintro⟨⟨c,hc,hm⟩,hv⟩;exact⟨c,hc,hm,hv⟩
theorem Zi{r:aO}(h:ny r=true):(qL r).length<=6:=by
 have h1:((qL r).map aR.var).length<=(fK (FA r.conds)).length:=by
  refine SM _ _ (Dp _ Vm.nil) fun x hx=>?_
  obtain⟨p,hp,rfl⟩:=cI.1 hx;rcases SB _ _ hp with h1|h1
  ·cases h1
  ·exact wV.2 (NZ.2 h1)
 rw[aZ]at h1;exact cS h1 (Zx h)
theorem a2H{r:aO}(h:ny r=true){v:Bytes}(hv:v∈FA r.conds):∃i p,i<6/\(qL r)[i]?=some p/\p.var=v/\F2 (qL r) v=nmB i:=by
 obtain⟨ht,Uw⟩:=NZ.1 hv;obtain⟨p,hp,he⟩:=NK _ [] ht Uw;have hp':p∈qL r:=hp;obtain⟨i,hi,T7,hval,_⟩:=Oi (Et _ Xt.nil) hp';refine⟨i,p,by have:=Zi h;unfold qL at this;omega,T7,he,?_⟩;rw[<-he];exact(Ng (N:=qL r) (Dp (Ae r.conds) Vm.nil) hp').trans hval
theorem Nh{r:aO}(h:ny r=true){x:Bytes}(hx:x.length<=16)(hV:lH x=true->x∈FA r.conds):(F2 (qL r) x).length<=16:=by
 cases hv:lH x with
 |false=>rw[show F2 (qL r) x=x from Qr hv];exact hx
 |true=>
  obtain⟨i,p,hi,_,_,e⟩:=a2H h (hV hv);rw[e];exact YT i hi
theorem Pu:∀(l:aJ),(∀x∈l,x.length<=16)->jy tw l<=17*l.length
 | [],_=>by simp[jy]
 |x::l,h=>by
  have h1:=Pu l fun y hy=>h y (by simp[hy])
  have h2:=h x (by simp);rw[qQ,aL];unfold tw at*;omega
theorem RD{t:Bytes}(h:qN t=true):t.length<=16:=by have:=a07 h;omega
theorem QE{c:aN}(h:sK c=true):c.pat.rel.length<=8/\c.pat.args.length<=3/\(∀x∈c.pat.args,x.length<=16)/\c.left.length<=16/\c.right.length<=16:=by
 by_cases hk:c.kind=1\/c.kind=2
 ·obtain⟨hp,hl,hr⟩:=Z7 h hk;have ht:=Yf hp;unfold yo at hp;simp only[aY,bI]at hp;have:=SK hp.2.1;rw[hl,hr];exact⟨by omega,by omega,fun x hx=>RD (ht x hx),by simp,by simp⟩
 ·obtain⟨_,hz,hl,hr⟩:=WI h (fun e=>hk (.inl e)) (fun e=>hk (.inr e));unfold I9 at hz;simp only[aY,cj,bI]at hz;have h0:c.pat.args=[]:=cc (by omega);rw[hz.1,h0];exact⟨by simp,by simp,fun x hx=>(by cases hx),RD hl,RD hr⟩
theorem Nd{r:aO}(h:ny r=true):∀c∈gl r,c.wt<=1048576:=by
 intro c' hc';obtain⟨c,hc,rfl⟩:=cI.1 hc';obtain⟨h1,h2,h3,h4,h5⟩:=QE (P7 h c hc);have hV:∀x∈c.pat.args++[c.left,c.right],lH x=true->x∈FA r.conds:=fun x hx hv=>NZ.2 ⟨cD.2 ⟨c,hc,hx⟩,hv⟩
 have a1:(F2 (qL r) c.left).length<=16:=Nh h h4 (hV _ (by simp));have a2:(F2 (qL r) c.right).length<=16:=Nh h h5 (hV _ (by simp));have a3:=Pu (c.pat.args.map (F2 (qL r))) (fun x hx=>by
  obtain⟨y,hy,rfl⟩:=cI.1 hx;exact Nh h (h3 y hy) (hV y (by simp[hy])))
 rw[aZ]at a3;unfold R5 aN.wt;dsimp only;unfold tw at*;omega
theorem BP{r:aO}(h:ny r=true):(gl r).length<=4:=by unfold gl;rw[aZ];exact Zw h
theorem Xu{r:aO}{n:Nat}(h:r.wt<=n){a:Action}(ha:a∈r.cu):a.pat.args.length<=n:=by
 have h1:=aO.MJ h;have h2:=iV (w:=Action.wt) ha;have h3:=gh tw a.pat.args;simp only[Action.wt]at h2;omega
theorem a2j(p:aE)(h:p.args.length<=1099511627770):eS p=some p:=by
 unfold eS;rw[a2y p.args (by omega)];rfl
theorem a1o(p:aE)(h:p.args.length<=1099511627770):eF p=some p:=by
 unfold eF;rw[TJ p.args (by omega)];rfl
theorem a8A(r:aO)(h:r.wt<=1048576):vE r=some r:=by
 have h1:=aO.u9 h;have h2:=aO.MJ h;have h3:=gh aN.wt r.conds;have h4:=gh Action.wt r.cu;unfold vE;rw[Fx (c:=aN.c) (b:=80) (f:=jx) (g:=fun x=>x) (L:=pz r _) (k:=_) (by decide) (fun _ _=>rfl) (fun _ _ _ _=>rfl) _ _ _ (fun c hc=>Ti c (by have:=aE.dV (aN.fJ (aO.sA h hc));omega)) (by simp;omega)];rw[Fx (c:=Action.c) (b:=48) (f:=fun a:Action=>(eS a.pat).bind fun y=>some (⟨a.kind,y⟩:Action)) (g:=fun x=>x) (L:=nT r _ _) (k:=_) (by decide) (fun _ _=>rfl) (fun x xs i w=>by rw[nT];cases eS x.pat<;>rfl) _ _ _ (fun a ha=>by rw[a2j a.pat (by have:=Xu h ha;omega)];rfl) (by simp;omega)];simp
theorem VP(l:au)(h:jy aO.wt l<=1048576):qn l=some l:=by
 have h3:=gh aO.wt l;unfold qn;rw[Fx (c:=aO.c) (b:=72) (f:=vE) (g:=fun x=>x) (L:=nS l _) (k:=_) (by decide) (fun _ _=>rfl) (fun _ _ _ _=>rfl) _ _ _ (fun r hr=>a8A r (by have:=iV (w:=aO.wt) hr;omega)) (by simp;omega)];simp
theorem a1n(l:aj)(h:l.length<=1048576)(hw:∀c∈l,c.wt<=1048576):sU l=some l:=by
 unfold sU;rw[Fx (c:=aN.c) (b:=80) (f:=fC) (g:=fun x=>x) (L:=mG l _) (k:=_) (by decide) (fun _ _=>rfl) (fun _ _ _ _=>rfl) _ _ _ (fun c hc=>TF c (by have:=aE.dV (aN.fJ (hw c hc));omega)) (by simp;omega)];simp
theorem a7V(r:aO)(h:r.wt<=1048576):qh r=some r:=by
 have h1:=aO.u9 h;have h2:=aO.MJ h;have h3:=gh aN.wt r.conds;have h4:=gh Action.wt r.cu;unfold qh;rw[a1n r.conds (by omega) (fun c hc=>aO.sA h hc),aA];rw[Fx (c:=Action.c) (b:=48) (f:=fun a:Action=>(eF a.pat).bind fun y=>some (⟨a.kind,y⟩:Action)) (g:=fun x=>x) (L:=kG r _ _) (k:=_) (by decide) (fun _ _=>rfl) (fun x xs i w=>by rw[kG];cases eF x.pat<;>rfl) _ _ _ (fun a ha=>by rw[a1o a.pat (by have:=Xu h ha;omega)];rfl) (by simp;omega)];simp
theorem Uy(l:au)(h:jy aO.wt l<=1048576):pV l=some l:=by
 have h3:=gh aO.wt l;unfold pV;rw[Fx (c:=aO.c) (b:=72) (f:=qh) (g:=fun x=>x) (L:=mI l _) (k:=_) (by decide) (fun _ _=>rfl) (fun _ _ _ _=>rfl) _ _ _ (fun r hr=>a7V r (by have:=iV (w:=aO.wt) hr;omega)) (by simp;omega)];simp
theorem aAm(a:au)(k:Int->au->bJ->b8->az->aP->Option (aF×Bool)):∀(l:au) (i:Nat) (u:Int) (w2:au) (es:bJ) (al:b8) (ns:az) (w6:aP),(∀r∈l,r.wt<=1048576/\ny r=true)->es.length+l.length<=1000->al.length+4*l.length<=1000->ns.length+4*l.length<=1000->
 gW a k l i u w2 es al ns w6=k u w2 (l.foldl KK ((al,ns),es)).2 (l.foldl KK ((al,ns),es)).1.1 (l.foldl KK ((al,ns),es)).1.2 w6:=by
 intro l
 induction l with
 |nil=>intros;rfl
 |cons r l ih=>
  intro i u w2 es al ns w6 hr he ha hn;simp only[aL]at he ha hn;obtain⟨hw,hb⟩:=hr r (by simp);have h4:=BP hb;have hl:=IL (gl r) ((al,ns),0);dsimp only at hl;rw[gW,a89 r hw,aA,wo (by omega),aW,aAn _ _ _ _ _ _ _ _ _ _ _ _ _ (Nd hb) (by omega) (by omega),mW (by omega) (by decide),aW,ih _ _ _ _ _ _ _ (fun x hx=>hr x (by simp[hx])) (by simp;omega) (by omega) (by omega)];rfl
theorem a8B(rs:au)(h:jy aO.wt rs<=1048576):ou rs=some (bif zN rs then(⟨rs,(cg [⟨[],[]⟩] rs).2,(cg [⟨[],[]⟩] rs).1.1,(cg [⟨[],[]⟩] rs).1.2,[],0⟩,true)else(⟨[],[],[],[],[],0⟩,false)):=by
 unfold ou;rw[aDK rs h,aA];cases hb:zN rs with
 |false=>rfl
 |true=>
  have h6:rs.length<=6:=by unfold zN at hb;simp only[aY,bI]at hb;omega
  rw[bP,af,aW,VP rs h,aA,aAm _ _ _ _ _ _ _ _ _ _ (fun r hr=>⟨by have:=iV (w:=aO.wt) hr;omega,u7 hb r hr⟩) (by simp;omega) (by simp;omega) (by simp;omega)];rfl
theorem aA3(a:au)(k:Int->au->bJ->b8->az->aP->Option aF):∀(l:au) (i:Nat) (u:Int) (w2:au) (es:bJ) (al:b8) (ns:az) (w6:aP),(∀r∈l,r.wt<=1048576/\ny r=true)->es.length+l.length<=1000->al.length+4*l.length<=1000->ns.length+4*l.length<=1000->
 jY a k l i u w2 es al ns w6=k u w2 (l.foldl KK ((al,ns),es)).2 (l.foldl KK ((al,ns),es)).1.1 (l.foldl KK ((al,ns),es)).1.2 w6:=by
 intro l
 induction l with
 |nil=>intros;rfl
 |cons r l ih=>
  intro i u w2 es al ns w6 hr he ha hn;simp only[aL]at he ha hn;obtain⟨hw,hb⟩:=hr r (by simp);have h4:=BP hb;have hl:=IL (gl r) ((al,ns),0);dsimp only at hl;rw[jY,a7U r hw,aA,wo (by omega),aW,aA4 _ _ _ _ _ _ _ _ _ _ _ _ _ (Nd hb) (by omega) (by omega),mW (by omega) (by decide),aW,ih _ _ _ _ _ _ _ (fun x hx=>hr x (by simp[hx])) (by simp;omega) (by omega) (by omega)];rfl
theorem aD4(rs:au)(h:jy aO.wt rs<=1048576)(hb:zN rs=true):sZ rs=some ⟨rs,(cg [] rs).2,(cg [] rs).1.1,(cg [] rs).1.2,[],0⟩:=by
 unfold sZ;have h6:rs.length<=6:=by unfold zN at hb;simp only[aY,bI]at hb;omega
 rw[Uy rs h,aA,aA3 _ _ _ _ _ _ _ _ _ _ (fun r hr=>⟨by have:=iV (w:=aO.wt) hr;omega,u7 hb r hr⟩) (by simp;omega) (by simp;omega) (by simp;omega)];rfl
def chR(al:b8)(ns:az)(p:Int)(c:aN):(b8×az)×Int:=match Rq p c ns 1 with
 |some i=>((al,ns),dD i)
 |none=>(((Rp al c).1,ns++[⟨p,c,(Rp al c).2,[]⟩]),dD (ns.length+1))
theorem a13(tk:ah)(al:b8)(ns:az)(p:Int)(c:aN):Ny al (root tk::ns) p c=(((chR al ns p c).1.1,root tk::(chR al ns p c).1.2),(chR al ns p c).2):=by
 unfold Ny chR;rw[Ua,List.drop_succ_cons,G2];cases Rq p c ns 1<;>rfl
def rtC(s:(b8×az)×Int)(c:aN):(b8×az)×Int:=chR s.1.1 s.1.2 s.2 c
def rtR(z:(b8×az)×bJ)(r:aO):(b8×az)×bJ:=(((gl r).foldl rtC (z.1,0)).1,z.2++[((gl r).foldl rtC (z.1,0)).2])
def rtB(rs:au):(b8×az)×bJ:=rs.foldl rtR (([],[]),[])
theorem VV(tk:ah):∀(cs:aj) (al:b8) (ns:az) (v:Int),cs.foldl IK ((al,root tk::ns),v)=(((cs.foldl rtC ((al,ns),v)).1.1,root tk::(cs.foldl rtC ((al,ns),v)).1.2),(cs.foldl rtC ((al,ns),v)).2)
 | [],_,_,_=>rfl
 |c::cs,al,ns,v=>by
  rw[e9,e9];show cs.foldl IK (Ny al (root tk::ns) v c)=_;rw[a13,VV tk cs];rfl
theorem VX(tk:ah):∀(rs:au) (al:b8) (ns:az) (es:bJ),rs.foldl KK ((al,root tk::ns),es)=(((rs.foldl rtR ((al,ns),es)).1.1,root tk::(rs.foldl rtR ((al,ns),es)).1.2),(rs.foldl rtR ((al,ns),es)).2)
 | [],_,_,_=>rfl
 |r::rs,al,ns,es=>by
  rw[e9,e9];have e:KK ((al,root tk::ns),es) r=(((rtR ((al,ns),es) r).1.1,root tk::(rtR ((al,ns),es) r).1.2),(rtR ((al,ns),es) r).2):=by
   unfold KK rtR;dsimp only;rw[VV]
  rw[e,VX tk rs]
theorem zT(tk:ah)(rs:au):cg tk rs=(((rtB rs).1.1,root tk::(rtB rs).1.2),(rtB rs).2):=VX tk rs [] [] []
theorem Dw(tk:ah){rs:au}(h:∀r∈rs,ny r=true)(h6:rs.length<=6):(cg tk rs).1.2.length<=25:=by
 have main:∀(l:au) (z:(b8×az)×bJ),(∀r∈l,ny r=true)->(l.foldl KK z).1.2.length<=z.1.2.length+4*l.length:=by
  intro l
  induction l with
  |nil=>intro z _;exact bR _
  |cons r l ih=>
   intro z hl;have h1:=ih (KK z r) (fun x hx=>hl x (by simp[hx]));have h2:=(IL (gl r) (z.1,0)).2;have h3:=BP (hl r (by simp));have h4:(KK z r).1.2.length=((gl r).foldl IK (z.1,0)).1.2.length:=rfl;rw[e9,aL];dsimp only at h2;omega
 have:=main rs (([],[root tk]),[]) h;unfold cg;simp only[aL,bK]at this;omega
end Go.Cx
namespace Go.Cx
open Go.RowKit Go.Proofs Tryz
def wK(x:Node):Int×aN:=(x.parent,x.cond)
theorem Sa{a b:az}(h:a.map wK=b.map wK):∀(k v:Nat),Rh a k v=Rh b k v
 |0,_=>rfl
 |k+1,v=>by
  have e:(a[v]?).map wK=(b[v]?).map wK:=by rw[<-c8,<-c8,h]
  unfold Rh;cases ha:a[v]? with
  |none=>
   cases hb:b[v]? with
   |none=>rfl
   |some y=>rw[ha,hb]at e;cases e
  |some x=>
   cases hb:b[v]? with
   |none=>rw[ha,hb]at e;cases e
   |some y=>
    rw[ha,hb]at e;have e1:x.parent=y.parent:=(kX (qd e)).1;dsimp only;rw[e1,Sa h k]
theorem Sx{a b:az}(h:a.map wK=b.map wK):Ck a=Ck b:=by
 funext i
 have e:(a[i]?).map wK=(b[i]?).map wK:=by rw[<-c8,<-c8,h]
 unfold Ck;cases ha:a[i]? with
 |none=>
  cases hb:b[i]? with
  |none=>rfl
  |some y=>rw[ha,hb]at e;cases e
 |some x=>
  cases hb:b[i]? with
  |none=>rw[ha,hb]at e;cases e
  |some y=>
   rw[ha,hb]at e;have e2:x.cond=y.cond:=(kX (qd e)).2;show some x.cond=some y.cond;rw[e2]
theorem AD{a b:az}(h:a.map wK=b.map wK)(v:Int):eg a v=eg b v:=by
 have hl:a.length=b.length:=by have:=congrArg List.length h;simpa using this
 unfold eg KE;rw[hl,Sa h,Sx h]
def jR(al:b8)(fs:aP):b8:=al.map fun a=>⟨a.shape,uc a.shape [] fs⟩
def tW(ns:az)(fs:aP):az->Nat->az
 | [],_=>[]
 |x::xs,i=>⟨x.parent,x.cond,x.cP,yP (eg ns (dD i)) fs⟩::tW ns fs xs (i+1)
def gi(ns:az)(fs:aP):az:=tW ns fs ns 0
theorem Lo(ns:az)(fs:aP):∀(l:az) (i:Nat),(tW ns fs l i).map wK=l.map wK
 | [],_=>rfl
 |x::l,i=>by rw[tW,bH,Lo ns fs l];rfl
theorem ZJ(ns:az)(fs:aP)(l:az)(i:Nat):(tW ns fs l i).length=l.length:=by
 have:=congrArg List.length (Lo ns fs l i);simpa using this
theorem setAt{α:Type}(pre l:List α)(x y:α):(pre++x::l).set pre.length y=pre++y::l:=by
 rw[me _ _ (bR _),p8];rfl
structure IA(ns:List Node):Prop where
 len:ns.length<=1048576
 wt:∀x∈ns,x.cond.wt<=1048576
 path:∀i:Nat,(eg ns (dD i)).length<=4
theorem R2{ns:az}{v:Int}{c:aN}(h:c∈eg ns v):∃x∈ns,x.cond=c:=by
 unfold eg at h;split at h
 ·unfold KE at h;obtain⟨i,_,hc⟩:=cE.1 h;unfold Ck at hc;cases hx:ns[i]? with
  |none=>rw[hx]at hc;cases hc
  |some x=>rw[hx]at hc;exact⟨x,aC hx,qd hc⟩
 ·cases h
theorem a1D(n:aF)(fs y:aP)(k:b8->Option (aF×Unit))(hf:FS fs):∀(l pre:b8),(∀x∈l,x.shape.wt<=1048576)->ey n fs y k l pre.length (pre++l)=k (pre++jR l fs):=by
 intro l
 induction l with
 |nil=>intro pre _;rfl
 |cons x l ih=>
  intro pre hw;have hx:(pre++x::l)[pre.length]?=some x:=by simp
  have hlt:decide (pre.length<((pre++x::l).map aQ.c).length)=true:=by simp
  rw[ey,hlt,aW,hx,aA,a9s x.shape [] fs (hw x (by simp)) PB.nil hf,aA,aW,setAt];have:=ih (pre++[⟨x.shape,uc x.shape [] fs⟩]) (fun z hz=>hw z (by simp[hz]));rw[aX,fU,bY]at this;rw[show pre++(⟨x.shape,uc x.shape [] fs⟩:aQ)::l=pre++([⟨x.shape,uc x.shape [] fs⟩]++l)from rfl,this];simp[jR]
theorem a6s(n:aF)(fs y:aP)(q:b8)(k:Option (aF×Unit))(hf:FS fs)(h24:fs.length<=24)(ns:az)(hp:IA ns):∀(l pre:az),(pre++l).map wK=ns.map wK->
 eH n fs y q k l pre.length (pre++l)=some (⟨n.rules,n.ends,q,pre++tW ns fs l pre.length,y,n.cL⟩,()):=by
 intro l
 induction l with
 |nil=>intro pre _;rfl
 |cons x l ih=>
  intro pre he;have hx:(pre++x::l)[pre.length]?=some x:=by simp
  have hlt:decide (pre.length<((pre++x::l).map Node.c).length)=true:=by simp
  have hlen:(pre++x::l).length=ns.length:=by have:=congrArg List.length he;simpa using this
  have hok:NOk ⟨n.rules,n.ends,q,pre++x::l,y,n.cL⟩:=by
   refine⟨by show(pre++x::l).length<=1048576;rw[hlen];exact hp.len,fun z hz=>?_⟩;have hm:wK z∈ns.map wK:=by rw[<-he];exact cI.2 ⟨z,hz,rfl⟩
   obtain⟨w,hw,e⟩:=cI.1 hm;have:w.cond=z.cond:=(kX e).2;rw[<-this];exact hp.wt w hw
  have a9W:eg (pre++x::l) ((pre.length:Nat):Int)=eg ns (dD pre.length):=AD he _;have Wb:∀c∈eg ns (dD pre.length),c.wt<=1048576:=by
   intro c hc;obtain⟨z,hz,e⟩:=R2 hc;rw[<-e];exact hp.wt z hz
  rw[eH,a7d _ _ hok,aA,a9W,aA6 _ fs Wb (hp.path _) hf h24,aA,hlt,aW,hx,aA,setAt];have:=ih (pre++[⟨x.parent,x.cond,x.cP,yP (eg ns (dD pre.length)) fs⟩]) (by
   rw[<-he];simp[wK])
  rw[aX,fU,bY]at this;rw[show pre++(⟨x.parent,x.cond,x.cP,yP (eg ns (dD pre.length)) fs⟩:Node)::l=pre++([⟨x.parent,x.cond,x.cP,yP (eg ns (dD pre.length)) fs⟩]++l)from rfl,this,tW];simp
theorem a5r(n:aF)(fs:aP)(hf:FS fs)(h24:fs.length<=24)(ha:n.ay.length<=1048576)(hs:∀x∈n.ay,x.shape.wt<=1048576)(hp:IA n.nodes):jB n fs=some (⟨n.rules,n.ends,jR n.ay fs,gi n.nodes fs,fs,n.cL⟩,()):=by
 unfold jB;have h1:=a1D n fs fs;have hl:=hp.len;rw[Dl fs hf.1 (fun f hf2=>by have:=aE.dV (hf.2 f hf2);omega),aA,wo (by omega),aW];have e1:=a1D n fs fs (fun(iO:b8)=>(bif decide (n.nodes.length<=maxLen)then(eH n fs fs iO none n.nodes 0 n.nodes)else none)) hf n.ay [] hs;refine e1.trans ?_;rw[cH,wo (by omega),aW];exact a6s n fs fs _ none hf h24 n.nodes hp n.nodes [] rfl
end Go.Cx
namespace Go.Cx
open Go.RowKit Go.Proofs Tryz
theorem Vf(ns:az):∀(k k' v:Nat),1<=v->v<=k->v<=k'->Rh ns k v=Rh ns k' v
 |0,_,v,h1,h2,_=>by omega
 |k+1,0,v,h1,_,h3=>by omega
 |k+1,k'+1,v,h1,h2,h3=>by
  unfold Rh;cases hx:ns[v]? with
  |none=>rfl
  |some x=>
   dsimp only;by_cases hp:1<=x.parent/\x.parent<(v:Int)
   ·rw[bQ hp,bQ hp,Vf ns k k' x.parent.toNat (by omega) (by omega) (by omega)]
   ·rw[bG hp,bG hp]
theorem wM(ns:az):eg ns (dD 0)=[]:=by unfold eg dD;rw[bG (by omega)]
theorem yB{ns:az}{i:Nat}{x:Node}(hx:ns[i]?=some x)(h1:1<=i){p:Nat}(hp:x.parent=dD p)(hpi:p<i):eg ns (dD i)=eg ns (dD p)++[x.cond]:=by
 have hl:=(aH.1 hx).1;unfold dD at hp;have e1:eg ns (dD i)=KE ns i i:=by unfold eg dD;rw[bQ (by omega)];rfl
 obtain⟨k,rfl⟩:∃k,i=k+1:=⟨i-1,by omega⟩
 rw[e1,R1 hx];by_cases h0:1<=p
 ·rw[bQ (by omega)];have e2:eg ns (dD p)=KE ns p p:=by unfold eg dD;rw[bQ (by omega)];rfl
  rw[e2,hp,o6];unfold KE;rw[Vf ns k p p h0 (by omega) (bR _)]
 ·rw[bG (by omega),show p=0 by omega,wM]
def Vw(ns:az):Prop:=∀(i:Nat) x,1<=i->ns[i]?=some x->∃p:Nat,x.parent=dD p/\p<i
theorem OZ{ns:az}(hb:Vw ns)(m:az):∀(n i:Nat),i<=n->i<ns.length->eg (ns++m) (dD i)=eg ns (dD i):=by
 intro n
 induction n with
 |zero=>
  intro i h1 _;rw[show i=0 by omega,wM,wM]
 |succ n ih=>
  intro i h1 h2;by_cases h0:i=0
  ·rw[h0,wM,wM]
  ·have hx:ns[i]?=some ns[i]:=ai h2;have hx':(ns++m)[i]?=some ns[i]:=by rw[bA h2];exact hx
   obtain⟨p,hp,hpi⟩:=hb i _ (by omega) hx;rw[yB hx (by omega) hp hpi,yB hx' (by omega) hp hpi,ih p (by omega) (by omega)]
structure Ex(R:List aN->Prop)(ns:List Node):Prop where
 pos:1<=ns.length
 below:Vw ns
 path:∀i:Nat,1<=i->i<ns.length->R (eg ns (dD i))
theorem Ub{p:Int}{c:aN}:∀ {l:az} {i j:Nat},Rq p c l i=some j->∃x,l[j-i]?=some x/\i<=j/\0<j/\x.parent=p/\x.cond=c
 |x::l,i,j,h=>by
  unfold Rq at h;split at h
  ·rename_i hc;cases h;exact⟨x,by simp,bR _,hc.1,hc.2.1,hc.2.2⟩
  ·obtain⟨y,h1,h2,h3,h4,h5⟩:=Ub h;refine⟨y,?_,by omega,h3,h4,h5⟩;rw[show j-i=(j-(i+1))+1 by omega];exact h1
theorem Ex.step{R:aj->Prop}{al:b8}{ns:az}(h:Ex R ns){a:Nat}(ha:a<ns.length){c:aN}(hR:R (eg ns (dD a)++[c])):
 Ex R (Ny al ns (dD a) c).1.2/\∃b:Nat,(Ny al ns (dD a) c).2=dD b/\b<(Ny al ns (dD a) c).1.2.length/\eg (Ny al ns (dD a) c).1.2 (dD b)=eg ns (dD a)++[c]:=by
 unfold Ny;cases hc:Rq (dD a) c ns 0 with
 |some j=>
  obtain⟨x,h1,h2,h3,h4,h5⟩:=Ub hc;rw[B3]at h1;have hj:=(aH.1 h1).1;obtain⟨p,hp,hpj⟩:=h.below j x (by omega) h1;have:p=a:=by rw[hp]at h4;unfold dD at h4;omega
  subst this;exact⟨h,j,rfl,hj,by rw[yB h1 (by omega) hp hpj,h5]⟩
 |none=>
  dsimp only;have hbel:Vw (ns++[⟨dD a,c,(Rp al c).2,[]⟩]):=by
   intro i x h1 hx;by_cases hi:i<ns.length
   ·rw[bA hi]at hx;exact h.below i x h1 hx
   ·rw[bE (by omega)]at hx;have hi2:i=ns.length:=by
     have:=(aH.1 hx).1;simp at this;omega
    rw[hi2,p8]at hx;cases hx;exact⟨a,rfl,by omega⟩
  have hnew:eg (ns++[⟨dD a,c,(Rp al c).2,[]⟩]) (dD ns.length)=eg ns (dD a)++[c]:=by
   have hx:(ns++[(⟨dD a,c,(Rp al c).2,[]⟩:Node)])[ns.length]?=some ⟨dD a,c,(Rp al c).2,[]⟩:=by simp
   have h1:=h.pos;rw[yB hx (by omega) (p:=a) rfl ha,OZ h.below _ a a (bR _) ha]
  refine⟨⟨by simp,hbel,fun i h1 h2=>?_⟩,ns.length,rfl,by simp,hnew⟩;by_cases hi:i<ns.length
  ·rw[OZ h.below _ i i (bR _) hi];exact h.path i h1 hi
  ·have:i=ns.length:=by simp at h2;omega
   rw[this,hnew];exact hR
theorem Ex.rule{R:aj->Prop}:∀(cs:aj) {al:b8} {ns:az} {a:Nat},Ex R ns->a<ns.length->(∀j:Nat,1<=j->j<=cs.length->R (eg ns (dD a)++cs.take j))->
 Ex R (cs.foldl IK ((al,ns),dD a)).1.2/\∃b:Nat,(cs.foldl IK ((al,ns),dD a)).2=dD b/\b<(cs.foldl IK ((al,ns),dD a)).1.2.length/\eg (cs.foldl IK ((al,ns),dD a)).1.2 (dD b)=eg ns (dD a)++cs
 | [],al,ns,a,h,ha,_=>⟨h,a,rfl,ha,by simp⟩
 |c::cs,al,ns,a,h,ha,hR=>by
  obtain⟨h1,b,h2,h3,h4⟩:=h.step (al:=al) ha (c:=c) (by have:=hR 1 (bR _) (by simp);simpa using this);have e:IK ((al,ns),dD a) c=(((Ny al ns (dD a) c).1.1,(Ny al ns (dD a) c).1.2),dD b):=by
   show Ny al ns (dD a) c=_;rw[<-h2]
  rw[e9,e];obtain⟨k1,d,k2,k3,k4⟩:=Ex.rule cs (al:=(Ny al ns (dD a) c).1.1) h1 h3 (fun j KA hj2=>by
   rw[h4,bY];have:=hR (j+1) (by omega) (by simp;omega);simpa using this)
  exact⟨k1,d,k2,k3,by rw[k4,h4];simp⟩
theorem a4C(al:b8)(ns:az)(p:Int)(c:aN):∃m,(Ny al ns p c).1.2=ns++m:=by
 unfold Ny;cases Rq p c ns 0 with
 |some i=>exact⟨[],by simp⟩
 |none=>exact⟨[⟨p,c,(Rp al c).2,[]⟩],rfl⟩
theorem Ye:∀(cs:aj) (s:(b8×az)×Int),∃m,(cs.foldl IK s).1.2=s.1.2++m
 | [],s=>⟨[],by simp⟩
 |c::cs,s=>by
  obtain⟨m,h⟩:=a4C s.1.1 s.1.2 s.2 c;obtain⟨m2,h2⟩:=Ye cs (IK s c);refine⟨m++m2,?_⟩;rw[e9,h2];show(Ny s.1.1 s.1.2 s.2 c).1.2++m2=_;rw[h,bY]
def Xr(rs:au)(p:aj):Prop:=∃r∈rs,∃j:Nat,1<=j/\j<=(gl r).length/\p=(gl r).take j
theorem VW(all:au):∀(l:au) (al:b8) (ns:az) (es:bJ),(∀r∈l,r∈all)->Ex (Xr all) ns->
 Ex (Xr all) (l.foldl KK ((al,ns),es)).1.2/\(∃m,(l.foldl KK ((al,ns),es)).1.2=ns++m)/\∃fs,(l.foldl KK ((al,ns),es)).2=es++fs/\fs.length=l.length/\
  ∀(i:Nat) r,l[i]?=some r->∃b:Nat,fs[i]?=some (dD b)/\b<(l.foldl KK ((al,ns),es)).1.2.length/\eg (l.foldl KK ((al,ns),es)).1.2 (dD b)=gl r
 | [],al,ns,es,_,h=>⟨h,⟨[],by simp⟩,[],by simp,rfl,fun i r hr=>by simp at hr⟩
 |r::l,al,ns,es,hm,h=>by
  obtain⟨h1,b,h2,h3,h4⟩:=Ex.rule (gl r) (al:=al) h (a:=0) (by have:=h.pos;omega) (fun j KA hj2=>by
   rw[wM,cH];exact⟨r,hm r (by simp),j,KA,hj2,rfl⟩)
  obtain⟨m1,hm1⟩:=Ye (gl r) ((al,ns),dD 0);obtain⟨k1,⟨m2,hm2⟩,fs,k2,k3,k4⟩:=VW all l ((gl r).foldl IK ((al,ns),dD 0)).1.1 ((gl r).foldl IK ((al,ns),dD 0)).1.2 (es++[dD b]) (fun x hx=>hm x (by simp[hx])) h1;have e:KK ((al,ns),es) r=((((gl r).foldl IK ((al,ns),dD 0)).1.1,((gl r).foldl IK ((al,ns),dD 0)).1.2),es++[dD b]):=by
   rw[<-h2];rfl
  rw[e9,e];refine⟨k1,⟨m1++m2,by rw[hm2,hm1,bY]⟩,dD b::fs,by rw[k2];simp,by simp[k3],?_⟩;intro i x hx;cases i with
  |zero=>
   have:r=x:=by simpa using hx
   subst this;refine⟨b,rfl,by rw[hm2];simp;omega,?_⟩;rw[hm2,OZ h1.below _ b b (bR _) h3,h4,wM];rfl
  |succ i=>exact k4 i x (by simpa using hx)
theorem Zv(R:aj->Prop)(tk:ah):Ex R [root tk]:=
 ⟨bR _,fun i x h1 hx=>by
  have:=(aH.1 hx).1;simp at this;omega,fun i h1 h2=>by simp at h2;omega⟩
theorem zS(tk:ah)(rs:au):Ex (Xr rs) (cg tk rs).1.2/\(cg tk rs).2.length=rs.length/\∀(i:Nat) r,rs[i]?=some r->∃b:Nat,(cg tk rs).2[i]?=some (dD b)/\b<(cg tk rs).1.2.length/\eg (cg tk rs).1.2 (dD b)=gl r:=by
 obtain⟨h1,_,fs,h2,h3,h4⟩:=VW rs rs [] [root tk] [] (fun r hr=>hr) (Zv _ tk);rw[cH]at h2;refine⟨h1,?_,?_⟩
 ·show(rs.foldl KK (([],[root tk]),[])).2.length=_;rw[h2,h3]
 ·intro i r hr;obtain⟨b,k1,k2,k3⟩:=h4 i r hr;refine⟨b,?_,k2,k3⟩;show(rs.foldl KK (([],[root tk]),[])).2[i]?=_;rw[h2];exact k1
theorem VL{r:aO}(h:ny r=true):∃c cs,gl r=c::cs/\c.kind=1:=by
 have hb:=Tg h;cases hc:r.conds with
 |nil=>
  unfold ny at h;rw[hc]at h;simp at h
 |cons c cs=>
  refine⟨R5 (qL r) c,cs.map (R5 (qL r)),by unfold gl;rw[hc];rfl,?_⟩;exact(QF (pre:=[]) (i:=0) (c:=c) (rest:=cs) (by rw[cH,<-hc];exact hb)).2.1 rfl
theorem Zy{rs:au}(h:∀r∈rs,ny r=true){p:aj}(hp:Xr rs p):p.length<=4/\∃c cs,p=c::cs/\c.kind=1:=by
 obtain⟨r,hr,j,h1,h2,rfl⟩:=hp;have:=BP (h r hr);refine⟨by rw[cM];omega,?_⟩;obtain⟨c,cs,e,hk⟩:=VL (h r hr);obtain⟨j,rfl⟩:∃k,j=k+1:=⟨j-1,by omega⟩
 exact⟨c,cs.take j,by rw[e];rfl,hk⟩
theorem P3{r:aO}(h:ny r=true):∀c∈gl r,c.pat.rel.length<=8/\c.pat.args.length<=3/\∀x∈c.pat.args,x.length<=16:=by
 intro c' hc';obtain⟨c,hc,rfl⟩:=cI.1 hc';obtain⟨h1,h2,h3,h4,h5⟩:=QE (P7 h c hc);have hV:∀x∈c.pat.args++[c.left,c.right],lH x=true->x∈FA r.conds:=fun x hx hv=>NZ.2 ⟨cD.2 ⟨c,hc,hx⟩,hv⟩
 refine⟨h1,by show(c.pat.args.map _).length<=3;rw[aZ];exact h2,fun x hx=>?_⟩;obtain⟨y,hy,rfl⟩:=cI.1 hx;exact Nh h (h3 y hy) (hV y (by simp[hy]))
theorem a34{p:aE}(h1:p.rel.length<=8)(h2:p.args.length<=3)(h3:∀x∈p.args,x.length<=16):(vW p).wt<=1048576:=by
 have a3:=Pu (p.args.map (F2 (p.args.foldl jS []))) (fun x hx=>by
  obtain⟨y,hy,rfl⟩:=cI.1 hx;exact a84 (by omega) (h3 y hy))
 rw[aZ]at a3;show aE.wt ⟨p.rel,p.args.map (F2 (p.args.foldl jS []))⟩<=1048576;unfold aE.wt;dsimp only;unfold tw at*;omega
def zh(al:b8):Prop:=∀x∈al,x.shape.wt<=1048576/\x.facts=[]
theorem WE{al:b8}{ns:az}{p:Int}{c:aN}(h:zh al)(hc:(vW c.pat).wt<=1048576):zh (Ny al ns p c).1.1:=by
 unfold Ny;cases Rq p c ns 0 with
 |some i=>exact h
 |none=>
  show zh (Rp al c).1;unfold Rp;by_cases hk:c.kind=1\/c.kind=2
  ·rw[bQ hk];unfold Xv;cases Z3 (vW c.pat) al 0 with
   |some i=>exact h
   |none=>
    intro x hx;rcases ar.1 hx with hx|hx
    ·exact h x hx
    ·rw[eC.1 hx];exact⟨hc,rfl⟩
  ·rw[bG hk];exact h
theorem RA:∀(cs:aj) (s:(b8×az)×Int),zh s.1.1->(∀c∈cs,(vW c.pat).wt<=1048576)->zh (cs.foldl IK s).1.1
 | [],_,h,_=>h
 |c::cs,s,h,hc=>RA cs (IK s c) (WE h (hc c (by simp))) (fun x hx=>hc x (by simp[hx]))
theorem Ce(tk:ah){rs:au}(h:∀r∈rs,ny r=true):zh (cg tk rs).1.1:=by
 have main:∀(l:au) (z:(b8×az)×bJ),(∀r∈l,ny r=true)->zh z.1.1->zh (l.foldl KK z).1.1:=by
  intro l
  induction l with
  |nil=>intro z _ hz;exact hz
  |cons r l ih=>
   intro z hl hz;refine ih (KK z r) (fun x hx=>hl x (by simp[hx])) ?_;exact RA (gl r) (z.1,0) hz (fun c hc=>by
    obtain⟨p1,p2,p3⟩:=P3 (hl r (by simp)) c hc;exact a34 p1 p2 p3)
 exact main rs _ h (fun x hx=>by cases hx)
theorem Ps(tk:ah){rs:au}(h:∀r∈rs,ny r=true)(h6:rs.length<=6):IA (cg tk rs).1.2:=by
 have hp:=(zS tk rs).1;have hl:=Dw tk h h6;refine⟨by omega,?_,?_⟩
 ·intro x hx;obtain⟨i,hi⟩:=cm hx;have Vp:=(aH.1 hi).1;by_cases h0:i=0
  ·subst h0;rw[zT]at hi;cases hi;unfold root aN.wt;simp[jy,tw]
  ·obtain⟨p,hpp,hpi⟩:=hp.below i x (by omega) hi;obtain⟨r,hr,j,j1,j2,e⟩:=hp.path i (by omega) Vp;rw[yB hi (by omega) hpp hpi]at e;have hm:x.cond∈gl r:=cG (by rw[<-e];simp:x.cond∈(gl r).take j);exact Nd (h r hr) _ hm
 ·intro i;by_cases hi:1<=i/\i<(cg tk rs).1.2.length
  ·exact(Zy h (hp.path i hi.1 hi.2)).1
  ·unfold eg dD;rw[bG (by omega)];simp
theorem a7T(rs:au)(fs:aP)(t:Int)(hr:jy aO.wt rs<=1048576)(hb:zN rs=true)(hf:FS fs)(h24:fs.length<=24):yX rs fs t=some ⟨rs,(cg [] rs).2,jR (cg [] rs).1.1 fs,gi (cg [] rs).1.2 fs,fs,t⟩:=by
 have h6:rs.length<=6:=by unfold zN at hb;simp only[aY,bI]at hb;omega
 have hv:=u7 hb;have hsh:=Ce [] hv;have hal:(cg [] rs).1.1.length<=1048576:=by
  have main:∀(l:au) (z:(b8×az)×bJ),(∀r∈l,ny r=true)->(l.foldl KK z).1.1.length<=z.1.1.length+4*l.length:=by
   intro l
   induction l with
   |nil=>intro z _;exact bR _
   |cons r l ih=>
    intro z hl;have h1:=ih (KK z r) (fun x hx=>hl x (by simp[hx]));have h2:=(IL (gl r) (z.1,0)).1;have h3:=BP (hl r (by simp));have h4:(KK z r).1.1.length=((gl r).foldl IK (z.1,0)).1.1.length:=rfl;rw[e9,aL];dsimp only at h2;omega
  have:=main rs (([],[root []]),[]) hv;unfold cg;simp only[bK]at this;omega
 unfold yX;rw[aD4 rs hr hb,aA,a5r _ fs hf h24 hal (fun x hx=>(hsh x hx).1) (Ps [] hv h6)];rfl
end Go.Cx
namespace Go.Cx
open Go.RowKit Go.Proofs Tryz
def Lw(rs:au)(fs:aP)(t:Int):aF:=⟨rs,(cg [] rs).2,jR (cg [] rs).1.1 fs,gi (cg [] rs).1.2 fs,fs,t⟩
def isB(n:aF):Bool:=zN n.rules&&(pK n.facts&&(decide (0<=n.cL)&&Rf n (Lw n.rules n.facts 0)))
theorem FS.Dr{fs:aP}(h:jy aE.wt fs<=1048576):FS fs:=⟨by have:=gh aE.wt fs;omega,fun f hf=>by have:=iV (w:=aE.wt) hf;omega⟩
theorem a7Z(n:aF)(hr:jy aO.wt n.rules<=1048576)(hf:jy aE.wt n.facts<=1048576):sP n=some (isB n):=by
 unfold sP isB;rw[aCx _ hr,a5p _ hf,aA,aA];cases h1:zN n.rules with
 |false=>rfl
 |true=>
  cases h2:pK n.facts with
  |false=>rfl
  |true=>
   rw[a7T _ _ _ hr h1 (FS.Dr hf) (um h2),aA,aD2,aA];simp only[aW,fL];by_cases h3:0<=n.cL
   ·rw[bU h3];rfl
   ·rw[b9 h3];rfl
def xB(x:Node):Int×Int×aN:=(x.parent,x.cP,x.cond)
theorem a2M{a b:az}(h:a.map xB=b.map xB):a.map wK=b.map wK:=by
 have:=congrArg (List.map fun t:Int×Int×aN=>(t.1,t.2.2)) h;rw[qt,qt]at this;exact this
def a0D(ns:az)(fs:aP):az->Nat->Bool
 | [],_=>true
 |x::xs,i=>decide (x.tokens=yP (eg ns (dD i)) fs)&&a0D ns fs xs (i+1)
theorem S7(fs:aP):∀(a b:b8),a.map aQ.shape=b.map aQ.shape->((a.all fun x=>decide (x.facts=uc x.shape [] fs))=true↔a=jR b fs)
 | [],[],_=>⟨fun _=>rfl,fun _=>rfl⟩
 | [],_::_,h=>by simp at h
 |_::_,[],h=>by simp at h
 |x::a,y::b,h=>by
  rw[bH,bH]at h;obtain⟨h1,h2⟩:=zY h;have ih:=S7 fs a b h2;rw[dG,aY,bI,ih];show _↔x::a=⟨y.shape,uc y.shape [] fs⟩::jR b fs;constructor
  ·rintro⟨q1,q2⟩;rw[<-h1,<-q1,<-q2]
  ·intro q;obtain⟨q1,q2⟩:=zY q;exact⟨by rw[q1],q2⟩
theorem S9(ns:az)(fs:aP):∀(a b:az) (i:Nat),a.map xB=b.map xB->(a0D ns fs a i=true↔a=tW ns fs b i)
 | [],[],_,_=>⟨fun _=>rfl,fun _=>rfl⟩
 | [],_::_,_,h=>by simp at h
 |_::_,[],_,h=>by simp at h
 |x::a,y::b,i,h=>by
  rw[bH,bH]at h;obtain⟨h1,h2⟩:=zY h;have ih:=S9 ns fs a b (i+1) h2;have e1:x.parent=y.parent:=(kX h1).1;have e2:x.cP=y.cP:=(kX (kX h1).2).1;have e3:x.cond=y.cond:=(kX (kX h1).2).2;unfold a0D tW;rw[aY,bI,ih];constructor
  ·rintro⟨q1,q2⟩;rw[<-e1,<-e2,<-e3,<-q1,<-q2]
  ·intro q;obtain⟨q1,q2⟩:=zY q;exact⟨by rw[q1],q2⟩
theorem a6R(n:aF)(k:Option Bool)(hf:FS n.facts):∀(l:b8) (i:Nat),(∀x∈l,x.shape.wt<=1048576)->jf n k l i=bif l.all (fun x=>decide (x.facts=uc x.shape [] n.facts))then k else some false
 | [],_,_=>rfl
 |x::l,i,h=>by
  rw[jf,a8D x.shape [] n.facts (h x (by simp)) PB.nil hf,aA,Tm,aA,a6R n k hf l _ (fun y hy=>h y (by simp[hy])),dG];cases decide (x.facts=uc x.shape [] n.facts)<;>rfl
theorem a6S(n:aF)(k:Option Bool)(hf:FS n.facts)(h24:n.facts.length<=24)(hp:IA n.nodes):∀(l:az) (i:Nat),jg n k l i=bif a0D n.nodes n.facts l i then k else some false
 | [],_=>rfl
 |x::l,i=>by
  have Wb:∀c∈eg n.nodes ((i:Nat):Int),c.wt<=1048576:=by
   intro c hc;obtain⟨z,hz,e⟩:=R2 hc;rw[<-e];exact hp.wt z hz
  rw[jg,a8K n _ ⟨hp.len,hp.wt⟩,aA,aAo _ n.facts Wb (hp.path i) hf h24,aA,a5H,aA,a6S n k hf h24 hp l,a0D];show(bif !decide (x.tokens=yP (eg n.nodes (dD i)) n.facts)then some false else _)=_;cases decide (x.tokens=yP (eg n.nodes (dD i)) n.facts)<;>rfl
theorem a8E(n:aF)(hr:jy aO.wt n.rules<=1048576)(hf:jy aE.wt n.facts<=1048576):tM n=some (isB n):=by
 unfold tM isB;rw[a8B _ hr,a6M _ hf,aA,aA];cases h1:zN n.rules with
 |false=>rfl
 |true=>
  cases h2:pK n.facts with
  |false=>rfl
  |true=>
   have h6:n.rules.length<=6:=by unfold zN at h1;simp only[aY,bI]at h1;omega
   have hv:=u7 h1;simp only[aW,bP,af,fL];rw[aAb,aA];have hroot:(cg [⟨[],[]⟩] n.rules).1.2.map xB=(cg [] n.rules).1.2.map xB:=by rw[zT,zT];rfl
   have hA:(cg [⟨[],[]⟩] n.rules).1.1=(cg [] n.rules).1.1:=by rw[zT,zT]
   have hE:(cg [⟨[],[]⟩] n.rules).2=(cg [] n.rules).2:=by rw[zT,zT]
   have hmem:Rf n (Lw n.rules n.facts 0)=(decide (n.ends=(cg [] n.rules).2)&&(decide (n.ay=jR (cg [] n.rules).1.1 n.facts)&&decide (n.nodes=gi (cg [] n.rules).1.2 n.facts))):=by
    unfold Rf Lw;simp
   by_cases hform:QR n ⟨n.rules,(cg [⟨[],[]⟩] n.rules).2,(cg [⟨[],[]⟩] n.rules).1.1,(cg [⟨[],[]⟩] n.rules).1.2,[],0⟩=true
   ·rw[hform];unfold QR at hform;simp only[aY,bI]at hform;obtain⟨f1,f2,f3⟩:=hform;have f2':n.nodes.map xB=(cg [] n.rules).1.2.map xB:=by rw[<-hroot];exact f2
    have f1':n.ay.map aQ.shape=(cg [] n.rules).1.1.map aQ.shape:=by rw[<-hA];exact f1
    have f3':n.ends=(cg [] n.rules).2:=by rw[<-hE];exact f3
    have a7C:=Ps [] hv h6;have hfn:=a2M f2';have hok:IA n.nodes:=by
     refine⟨by have:=congrArg List.length f2';rw[aZ,aZ]at this;rw[this];exact a7C.len,fun x hx=>?_,fun i=>by rw[AD hfn];exact a7C.path i⟩;have hm:wK x∈(cg [] n.rules).1.2.map wK:=by rw[<-hfn];exact cI.2 ⟨x,hx,rfl⟩
     obtain⟨w,hw,e⟩:=cI.1 hm;have:w.cond=x.cond:=(kX e).2;rw[<-this];exact a7C.wt w hw
    have hsh:∀x∈n.ay,x.shape.wt<=1048576:=by
     intro x hx;have hm:x.shape∈(cg [] n.rules).1.1.map aQ.shape:=by rw[<-f1'];exact cI.2 ⟨x,hx,rfl⟩
     obtain⟨w,hw,e⟩:=cI.1 hm;rw[<-e];exact(Ce [] hv w hw).1
    have g1:=S7 n.facts n.ay _ f1';have g2:=S9 n.nodes n.facts n.nodes _ 0 f2';have g3:tW n.nodes n.facts (cg [] n.rules).1.2 0=gi (cg [] n.rules).1.2 n.facts:=by
     unfold gi;have:∀(l:az) (i:Nat),tW n.nodes n.facts l i=tW (cg [] n.rules).1.2 n.facts l i:=by
      intro l
      induction l with
      |nil=>intro i;rfl
      |cons x l ih=>intro i;rw[tW,tW,ih,AD hfn]
     exact this _ _
    rw[g3]at g2;rw[hmem,bU f3',fL,a6R n _ (FS.Dr hf) _ _ hsh,a6S n _ (FS.Dr hf) (um h2) hok];have k1:(n.ay.all fun x=>decide (x.facts=uc x.shape [] n.facts))=decide (n.ay=jR (cg [] n.rules).1.1 n.facts):=by rw[bp,g1,bI]
    have k2:a0D n.nodes n.facts n.nodes 0=decide (n.nodes=gi (cg [] n.rules).1.2 n.facts):=by rw[bp,g2,bI]
    rw[k1,k2];by_cases h3:0<=n.cL
    ·rw[bU h3,b9 (by omega)];cases decide (n.ay=jR (cg [] n.rules).1.1 n.facts)<;>cases decide (n.nodes=gi (cg [] n.rules).1.2 n.facts)<;>rfl
    ·rw[b9 h3,bU (by omega)];rfl
   ·have hfalse:QR n ⟨n.rules,(cg [⟨[],[]⟩] n.rules).2,(cg [⟨[],[]⟩] n.rules).1.1,(cg [⟨[],[]⟩] n.rules).1.2,[],0⟩=false:=by
     cases hq:QR n ⟨n.rules,(cg [⟨[],[]⟩] n.rules).2,(cg [⟨[],[]⟩] n.rules).1.1,(cg [⟨[],[]⟩] n.rules).1.2,[],0⟩with
     |true=>exact absurd hq hform
     |false=>rfl
    rw[hfalse];have hm:Rf n (Lw n.rules n.facts 0)=false:=by
     cases hq:Rf n (Lw n.rules n.facts 0)with
     |false=>rfl
     |true=>
      exfalso;rw[hmem]at hq;simp only[aY,bI]at hq;obtain⟨q1,q2,q3⟩:=hq;apply hform;unfold QR;simp only[aY,bI];have r1:n.ay.map aQ.shape=(cg [⟨[],[]⟩] n.rules).1.1.map aQ.shape:=by rw[hA,q2];unfold jR;rw[qt];rfl
      have r2:n.nodes.map xB=(cg [⟨[],[]⟩] n.rules).1.2.map xB:=by
       rw[hroot,q3];have:∀(ns l:az) (i:Nat),(tW ns n.facts l i).map xB=l.map xB:=by
        intro ns l
        induction l with
        |nil=>intro i;rfl
        |cons x l ih=>intro i;rw[tW,bH,ih];rfl
       exact this _ _ _
      exact⟨r1,r2,by rw[hE];exact q1⟩
    rw[hm,yQ];rfl
end Go.Cx
namespace Go.Cx
open Go.RowKit Go.Proofs Tryz
theorem Yg{fs:aP}(hf:FS fs):∀(cs:aj) (l:ah) (n:Nat),(∀c∈cs,c.wt<=1048576)->(∀t∈l,TK n t)->∀t∈cs.foldl (xy fs) l,TK (n+cs.length) t
 | [],l,n,_,hl=>hl
 |c::cs,l,n,hc,hl=>by
  have:=Yg hf cs (xy fs l c) (n+1) (fun x hx=>hc x (by simp[hx])) (TW hl (hc c (by simp)) hf);rw[aL,show n+(cs.length+1)=n+1+cs.length from by omega];exact this
theorem zQ{α:Type}{m:α->Nat}{B:Nat}:∀(l:List α),(∀x∈l,m x<=B)->iE m l<=B*l.length
 | [],_=>by simp[iE]
 |x::l,h=>by
  have h1:=zQ l fun y hy=>h y (by simp[hy])
  have h2:=h x (by simp);rw[uh,aL,Nat.mul_add];omega
theorem SJ{n:Nat}(l:aP)(hl:l.length<=n)(hf:∀f∈l,f.wt<=1048576):iE aE.iN l<=6291462*n:=by
 have:=zQ (m:=aE.iN) (B:=6291462) l fun f hf'=>by have:=aE.nc f;have:=hf f hf';omega
 exact cS this (eN _ hl)
theorem Zg(l:aT)(h:PB l):iE aR.iN l<=2*1048576:=by
 have:=zQ (m:=aR.iN) (B:=2) l fun f _=>by simp[aR.iN]
 exact cS this (eN _ h.1)
theorem TK.iN{t:aI}(h:TK 4 t):t.iN<=100000000:=by
 have h1:=SJ (n:=4) t.facts h.1 h.2.1;have h2:=Zg t.bind h.2.2;unfold aI.iN;omega
end Go.Cx
namespace Go.Cx
open Go.RowKit Go.Proofs Tryz
theorem S8(ns:az)(fs:aP):∀(l:az) (i j:Nat),(tW ns fs l i)[j]?=(l[j]?).map fun x=>⟨x.parent,x.cond,x.cP,yP (eg ns (dD (i+j))) fs⟩
 | [],_,_=>by simp[tW]
 |x::l,i,0=>by simp[tW]
 |x::l,i,j+1=>by
  rw[tW,ed,ed,S8 ns fs l (i+1) j,show i+1+j=i+(j+1)by omega]
end Go.Cx
namespace Go.Cx
open Go.RowKit Go.Proofs Tryz
def findF(f:aE):aP->Nat->Int
 | [],_=> -1
 |x::xs,i=>if x=f then(i:Int)else findF f xs (i+1)
theorem OQ(f:aE):∀(l:aP) (i:Nat),decide (findF f l i>=0)=decide (f∈l)
 | [],i=>by simp[findF]
 |x::xs,i=>by
  rw[findF];by_cases h:x=f
  ·rw[bQ h];subst h;simp
  ·rw[bG h,OQ f xs (i+1)];have:f≠x:=fun e=>h e.symm
   simp[this]
theorem a8C(l:aP)(f:aE):uS l f=some (findF f l 0):=by
 unfold uS;have:∀(r:aP) (i:Nat),kO l f (some (-1)) r i=some (findF f r i):=by
  intro r
  induction r with
  |nil=>intro i;rfl
  |cons x xs ih=>
   intro i;rw[kO,a2u,aA,ih,findF];by_cases h:x=f
   ·rw[bU h,bQ h,aW]
   ·rw[b9 h,bG h,af]
 exact this l 0
theorem a7W(l:aP)(f:aE):uC l f=some (findF f l 0):=by
 unfold uC;have:∀(r:aP) (i:Nat),kA l f (some (-1)) r i=some (findF f r i):=by
  intro r
  induction r with
  |nil=>intro i;rfl
  |cons x xs ih=>
   intro i;rw[kA,a1r,aA,ih,findF];by_cases h:x=f
   ·rw[bU h,bQ h,aW]
   ·rw[b9 h,bG h,af]
 exact this l 0
theorem S0{a b:Bytes}(h:yN a b>0):yN b a<0:=by
 unfold yN at h⊢;by_cases h1:Op.bytesLess a b=true
 ·rw[bQ h1]at h;omega
 ·rw[bG h1]at h;by_cases h2:a=b
  ·rw[bQ h2]at h;omega
  ·have h3:Op.bytesLess b a=true:=by
    cases hb:Op.bytesLess b a with
    |true=>rfl
    |false=>exact absurd (KU (by simpa using h1) hb) h2
   rw[bQ h3];omega
theorem S3{a b:Bytes}(h:yN a b=0):a=b:=jP fun hne=>Y4 hne h
theorem QC{a b:Bytes}(h:yN a b<0):yN b a>0:=by
 unfold yN at h⊢;by_cases h1:Op.bytesLess a b=true
 ·have h3:=ML h1;have h4:¬(Op.bytesLess b a=true):=by rw[h3];simp
  have h5:¬b=a:=fun e=>by subst e;rw[yC]at h1;cases h1
  rw[bG h4,bG h5];omega
 ·rw[bG h1]at h;by_cases h2:a=b
  ·rw[bQ h2]at h;omega
  ·rw[bG h2]at h;omega
theorem Rx(a b:Bytes):(DL a b>0->DL b a<0)/\(DL a b=0->a=b)/\(DL a b<0->DL b a>0):=by
 have num:∀ {s:Bytes} {n:Nat},AB s=some n->Lib.decDigits n=s:=by
  intro s n h;unfold AB at h;split at h
  ·split at h
   ·split at h
    ·rename_i h2;cases h;exact h2
    ·cases h
   ·cases h
  ·cases h
 unfold DL;cases ha:AB a with
 |none=>
  cases hb:AB b with
  |none=>exact⟨S0,S3,QC⟩
  |some y=>simp
 |some x=>
  cases hb:AB b with
  |none=>simp
  |some y=>
   simp only[KV];refine⟨fun h=>?_,fun h=>?_,fun h=>?_⟩
   ·split at h
    ·omega
    ·split at h
     ·rw[bQ (by omega)];omega
     ·omega
   ·split at h
    ·omega
    ·split at h
     ·omega
     ·have:x=y:=by omega
      rw[<-num ha,<-num hb,this]
   ·split at h
    ·rw[bG (by omega),bQ (by omega)];omega
    ·split at h<;>omega
theorem QH{α:Type}{g:α->α->Int}(hg:∀a b,(g a b>0->g b a<0)/\(g a b=0->a=b)/\(g a b<0->g b a>0)):∀(a b:List α),
 (∀z,vc g a b=some z->z≠0/\∃y,vc g b a=some y/\(z>0->y<0)/\(z<0->y>0))/\(vc g a b=none->vc g b a=none/\(a.length=b.length->a=b))
 | [],[]=>⟨fun z h=>(by simp[vc]at h),fun _=>⟨rfl,fun _=>rfl⟩⟩
 | [],y::ys=>⟨fun z h=>(by simp[vc]at h),fun _=>⟨by simp[vc],fun h=>by simp at h⟩⟩
 |x::xs,[]=>⟨fun z h=>(by simp[vc]at h),fun _=>⟨by simp[vc],fun h=>by simp at h⟩⟩
 |x::xs,y::ys=>by
  obtain⟨i1,i2⟩:=QH hg xs ys;obtain⟨g1,g2,g3⟩:=hg x y;by_cases h0:g x y=0
  ·have e:=g2 h0;subst e;simp only[vc,h0,ne_eq,not_true_eq_false,DE];exact⟨i1,fun h=>⟨(i2 h).1,fun hl=>by rw[(i2 h).2 (by simpa using hl)]⟩⟩
  ·have h1:g y x≠0:=by
    intro e;by_cases hp:g x y>0
    ·have:=g1 hp;omega
    ·have:=g3 (by omega);omega
   simp only[vc,ne_eq,h0,h1,not_false_eq_true,s9];refine⟨fun z h=>?_,fun h=>by cases h⟩;cases h;exact⟨h0,_,rfl,g1,g3⟩
theorem Rz{α:Type}{g:α->α->Int}(hg:∀a b,(g a b>0->g b a<0)/\(g a b=0->a=b)/\(g a b<0->g b a>0))(a b:List α):(cmpL g a b>0->cmpL g b a<0)/\(cmpL g a b=0->a=b)/\(cmpL g a b<0->cmpL g b a>0):=by
 obtain⟨h1,h2⟩:=QH hg a b;unfold cmpL;cases hd:vc g a b with
 |some z=>
  obtain⟨hz,y,hy,p,q⟩:=h1 z hd;rw[hy];exact⟨p,fun e=>absurd e hz,q⟩
 |none=>
  obtain⟨h3,h4⟩:=h2 hd;rw[h3];simp only[KV];refine⟨fun h=>?_,fun h=>?_,fun h=>?_⟩
  ·split at h
   ·omega
   ·split at h
    ·rw[bQ (by omega)];omega
    ·omega
  ·split at h
   ·omega
   ·split at h
    ·omega
    ·exact h4 (by omega)
  ·split at h
   ·rw[bG (by omega),bQ (by omega)];omega
   ·split at h<;>omega
theorem BN(a b:aE):(pS a b>0->pS b a<0)/\(pS a b=0->a=b)/\(pS a b<0->pS b a>0):=by
 obtain⟨h1,h2,h3⟩:=Rz Rx a.args b.args;unfold pS;by_cases hr:a.rel=b.rel
 ·rw[bG (by simpa using hr),bG (by simpa using hr.symm)];refine⟨h1,fun h=>?_,h3⟩;cases a;cases b;simp only at hr h2 h;rw[hr,h2 h]
 ·have hr2:b.rel≠a.rel:=fun e=>hr e.symm
  rw[bQ hr,bQ hr2];exact⟨S0,fun h=>absurd (S3 h) hr,QC⟩
def CP(f:aE):aP->aP
 | []=>[f]
 |x::xs=>if pS x f>0 then f::x::xs else x::CP f xs
theorem a1x(f:aE):∀(l:aP) (x:aE),x∈CP f l↔x=f\/x∈l
 | [],x=>by simp[CP]
 |y::ys,x=>by
  rw[CP];split
  ·simp
  ·simp only[bM,a1x f ys x];constructor
   ·rintro(h|h|h)<;>simp[h]
   ·rintro(h|h|h)<;>simp[h]
theorem V0(f:aE):∀(l:aP),(CP f l).length=l.length+1
 | []=>rfl
 |y::ys=>by rw[CP];split<;>simp[V0 f ys]
theorem Rt{f:aE}(hf:tV f=true):∀(l:aP) (p:Option aE),chainB p l=true->f∉l->(∀q,p=some q->pS q f<0)->chainB p (CP f l)=true
 | [],p,_,_,hp=>by
  cases p with
  |none=>simp[CP,chainB,hf]
  |some q=>simp[CP,chainB,hf,hp q rfl]
 |x::xs,p,h,hn,hp=>by
  simp only[bM,KP]at hn;have hx:chainB (some x) xs=true/\tV x=true/\(∀q,p=some q->pS q x<0):=by
   cases p with
   |none=>simp[chainB]at h;exact⟨h.2,h.1,by simp⟩
   |some q=>
    simp only[chainB,aY,bI]at h;exact⟨by first|exact h.2.2|exact h.2,by first|exact h.1.1|exact h.1,fun q' e=>by cases e;first|exact h.1.2|exact h.2.1⟩
  rw[CP];split
  ·rename_i hgt;have h1:=(BN x f).1 hgt;cases p with
   |none=>simp[chainB,hf,hx.2.1,h1,hx.1]
   |some q=>simp[chainB,hf,hx.2.1,h1,hx.1,hp q rfl]
  ·rename_i hle;have hlt:pS x f<0:=by
    have:pS x f≠0:=fun e=>hn.1 ((BN x f).2.1 e).symm
    omega
   have ih:=Rt hf xs (some x) hx.1 hn.2 (fun q e=>by cases e;exact hlt);cases p with
   |none=>simp[chainB,hx.2.1,ih]
   |some q=>simp[chainB,hx.2.1,ih,hx.2.2 q rfl]
theorem a45{f:aE}{l:aP}(hf:tV f=true)(hl:pK l=true)(hn:f∉l)(h24:l.length≠24):pK (CP f l)=true:=by
 unfold pK at hl⊢;simp only[aY,bI]at hl⊢;exact⟨Rt hf l none hl.1 hn (by simp),by rw[V0];omega⟩
theorem aAf(a:aP)(f:aE)(K:Bool->aP->Option aP)(hf:f.args.length<=1099511627776):∀(rest:aP) (i:Nat) (v:Bool) (w:aP),(∀x∈rest,x.args.length<=1099511627776)->w.length+2*rest.length<=1048576->f∉rest->
 (v=true->eG a f K rest i v w=K true (w++rest))/\
 (v=false->(eG a f K rest i v w=K true (w++CP f rest))\/(eG a f K rest i v w=K false (w++rest)/\CP f rest=rest++[f])):=by
 intro rest
 induction rest with
 |nil=>intro i v w _ _ _;exact⟨fun h=>by subst h;simp[eG],fun h=>by subst h;exact .inr ⟨by simp[eG],rfl⟩⟩
 |cons x xs ih=>
  intro i v w hs hl hn;simp only[aL]at hl;simp only[bM,KP]at hn;have hx:=hs x (by simp);have hs':∀y∈xs,y.args.length<=1099511627776:=fun y hy=>hs y (by simp[hy])
  have cx:=Od x hx;have cf:=Od f hf;have nx:=fun w':aP=>fun h:w'.length<1099511627776=>mW (w:=w') (c:=aE.c) (y:=[D.str x.rel,D.sl (x.args.map tx)]) (b:=40) h (by decide)
  have nf:=fun w':aP=>fun h:w'.length<1099511627776=>mW (w:=w') (c:=aE.c) (y:=[D.str f.rel,D.sl (f.args.map tx)]) (b:=40) h (by decide)
  constructor
  ·intro h;subst h;rw[eG,bP,af,cx,aA,nx w (by omega),aW,(ih (i+1) true (w++[x]) hs' (by simp;omega) hn.2).1 rfl];simp
  ·intro h;subst h;rw[eG,cQ,aW,a2g,aA];by_cases hgt:pS x f>0
   ·left
    have e2:room (((w.map aE.c)++[[D.str f.rel,D.sl (f.args.map tx)]]).length+[[D.str x.rel,D.sl (x.args.map tx)]].length) 40=true:=by
     have:=nx (w++[f]) (by simp;omega);rw[bS]at this;exact this
    rw[bU (by omega:pS x f>=0),aW,aA,bU hgt,aW,cf,aA,nf w (by omega),aW,cx,aA,e2,aW];rw[(ih (i+1) true (w++[f]++[x]) hs' (by simp;omega) hn.2).1 rfl,CP,bQ hgt];simp
   ·have hlt:¬pS x f>=0:=by
     have:pS x f≠0:=fun e=>hn.1 ((BN x f).2.1 e).symm
     omega
    rw[b9 hlt,af,cx,aA,nx w (by omega),aW];rw[CP,bG hgt];rcases(ih (i+1) false (w++[x]) hs' (by simp;omega) hn.2).2 rfl with q|⟨q1,q2⟩
    ·left;rw[q];simp
    ·right;rw[q1,q2];simp
theorem aAe(l:aP)(f:aE)(hf:f.args.length<=1099511627776)(hl:∀x∈l,x.args.length<=1099511627776)(hn:l.length<=1000)(hm:f∉l):yf l f=some (CP f l):=by
 unfold yf;rcases(aAf l f _ hf l 0 false [] hl (by simp;omega) hm).2 rfl with q|⟨q1,q2⟩
 ·rw[q];rfl
 ·rw[q1,q2];show(bif !false then _ else _)=_;rw[cQ,aW,Od f hf,aA,cH,mW (w:=l) (c:=aE.c) (y:=[D.str f.rel,D.sl (f.args.map tx)]) (by omega) (by decide),aW]
def PK(l:aP)(f:aE):aP×Bool:=if pK l=true/\tV f=true/\f∉l/\l.length≠24 then(CP f l,true)else(l,false)
theorem aAU(l:aP)(f:aE)(hl:jy aE.wt l<=1048576)(hf:f.wt<=1048576):wG l f=some (PK l f):=by
 have hm:∀x∈l,x.args.length<=1048576:=fun x hx=>by have:=aE.dV (n:=1048576) (p:=x) (by have:=iV (w:=aE.wt) hx;omega);omega
 have hlen:=gh aE.wt l;have cp:=Dv l (by omega) hm;unfold wG PK;rw[a6M l hl,aA];cases h1:pK l with
 |false=>rw[cQ,aW,cp,aA,bG (by simp)]
 |true=>
  rw[bP,af,a2k f hf,aA];cases h2:tV f with
  |false=>rw[cQ,aW,cp,aA,bG (by simp)]
  |true=>
   rw[bP,af,a8C,aA,OQ];by_cases h3:f∈l
   ·rw[bU h3,aW,cp,aA,bG (by simp[h3])]
   ·rw[b9 h3,af,aZ];by_cases h4:l.length=24
    ·have e:(((l.length:Nat):Int)==(24:Int))=true:=by simp[h4]
     rw[e,aW,cp,aA,bG (by simp[h4])]
    ·have e:(((l.length:Nat):Int)==(24:Int))=false:=by simp;omega
     rw[e,af,aAe l f (by have:=aE.dV hf;omega) (fun x hx=>by have:=hm x hx;omega) (by have:=um h1;omega) h3,aA,bQ ⟨rfl,rfl,h3,h4⟩]
theorem QD{a b c:Bytes}(h1:yN a b<0)(h2:yN b c<0):yN a c<0:=by
 have lt:∀ {x y:Bytes},yN x y<0->Op.bytesLess x y=true:=by
  intro x y h;unfold yN at h;split at h
  ·assumption
  ·split at h<;>omega
 have:=DI (lt h1) (lt h2);unfold yN;rw[bQ this];omega
theorem a4F{x y:Int}:KV x y<0↔x<y:=by
 unfold KV;split
 ·omega
 ·split<;>omega
theorem WG{a b c:Bytes}(h1:DL a b<0)(h2:DL b c<0):DL a c<0:=by
 unfold DL at*;cases ha:AB a<;>cases hb:AB b<;>cases hc:AB c<;>simp only[ha,hb,hc]at h1 h2⊢ <;>first|omega|exact QD h1 h2| (rw[a4F]at*;omega)
theorem a4E{α:Type}(g:α->α->Int):cmpL g [] []=0:=rfl
theorem a4D{α:Type}(g:α->α->Int)(y:α)(ys:List α):cmpL g [] (y::ys)= -1:=by
 unfold cmpL vc KV;simp<;>omega
theorem Y3{α:Type}(g:α->α->Int)(x:α)(xs:List α):cmpL g (x::xs) []=1:=by
 unfold cmpL vc KV;simp<;>omega
theorem Y2{α:Type}(g:α->α->Int)(x y:α)(xs ys:List α):cmpL g (x::xs) (y::ys)=if g x y≠0 then g x y else cmpL g xs ys:=by
 unfold cmpL;rw[vc];by_cases h:g x y≠0
 ·rw[bQ h,bQ h]
 ·rw[bG h,bG h,aL,aL];cases vc g xs ys with
  |some z=>rfl
  |none=>
   show KV _ _=KV _ _;unfold KV
   congr 1
   ·rw[zL];omega
   ·congr 1
    rw[zL];omega
theorem QB{α:Type}{g:α->α->Int}(h0:∀a b,g a b=0->a=b)(ht:∀a b c,g a b<0->g b c<0->g a c<0):∀(a b c:List α),cmpL g a b<0->cmpL g b c<0->cmpL g a c<0
 | [],[],c,h1,_=>by rw[a4E]at h1;omega
 |_::_,[],c,h1,_=>by rw[Y3]at h1;omega
 |_,y::ys,[],_,h2=>by rw[Y3]at h2;omega
 | [],y::ys,z::zs,_,_=>by rw[a4D];omega
 |x::xs,y::ys,z::zs,h1,h2=>by
  rw[Y2]at*;by_cases e1:g x y=0
  ·have:=h0 _ _ e1;subst this;rw[bG (by omega)]at h1;by_cases e2:g x z=0
   ·rw[bG (by omega)]at h2⊢;exact QB h0 ht xs ys zs h1 h2
   ·rw[bQ e2]at h2⊢;exact h2
  ·rw[bQ e1]at h1;by_cases e2:g y z=0
   ·have:=h0 _ _ e2;subst this;rw[bQ e1];exact h1
   ·rw[bQ e2]at h2;have:=ht x y z h1 h2;rw[bQ (by omega)];exact this
theorem WH{a b c:aE}(h1:pS a b<0)(h2:pS b c<0):pS a c<0:=by
 unfold pS at*;by_cases e1:a.rel=b.rel
 ·by_cases e2:b.rel=c.rel
  ·rw[bG (by simpa using e1)]at h1;rw[bG (by simpa using e2)]at h2;rw[bG (by simpa using e1.trans e2)];exact QB (fun a b=>(Rx a b).2.1) (fun _ _ _=>WG) _ _ _ h1 h2
  ·rw[bQ e2]at h2;rw[e1,bQ e2];exact h2
 ·rw[bQ e1]at h1;by_cases e2:b.rel=c.rel
  ·rw[<-e2,bQ e1];exact h1
  ·rw[bQ e2]at h2;have:=QD h1 h2;have hne:a.rel≠c.rel:=fun e=>by rw[e,S2]at this;omega
   rw[bQ hne];exact this
theorem Ry(a:aE):¬pS a a<0:=by
 intro h;have:=(BN a a).2.2 h;omega
theorem Z6(a:aE):pS a a=0:=by
 have h1:=Ry a;have h2:=(BN a a).1;omega
theorem ID{a b:aP}:cmpL pS a b=0↔a=b:=by
 constructor
 ·exact(Rz BN a b).2.1
 ·rintro rfl
  induction a with
  |nil=>rfl
  |cons x xs ih=>rw[Y2,bG (by simp[Z6]),ih]
theorem GB{p:Option aE}{x:aE}{xs:aP}(h:chainB p (x::xs)=true):tV x=true/\(∀q,p=some q->pS q x<0)/\chainB (some x) xs=true:=by
 cases p with
 |none=>simp[chainB]at h;exact⟨h.1,by simp,h.2⟩
 |some q=>
  simp only[chainB,aY,bI]at h;exact⟨h.1.1,fun q' e=>by cases e;exact h.1.2,h.2⟩
theorem Rr:∀ {l:aP} {p:aE},chainB (some p) l=true->∀x∈l,pS p x<0
 | [],_,_,_,h=>by cases h
 |y::ys,p,h,x,hx=>by
  obtain⟨_,h2,h3⟩:=GB h;have hp:=h2 p rfl;rcases bM.1 hx with rfl|hx
  ·exact hp
  ·exact WH hp (Rr h3 x hx)
theorem MM:∀ {l:aP} {p:Option aE},chainB p l=true->l.Nodup
 | [],_,_=>List.nodup_nil
 |x::xs,p,h=>by
  obtain⟨_,_,h3⟩:=GB h;rw[fA];exact⟨fun hx=>Ry x (Rr h3 x hx),MM h3⟩
theorem UO{l:aP}(h:pK l=true):l.Nodup:=by
 unfold pK at h;simp only[aY]at h;exact MM h.1
theorem On:∀ {l:aP} {p:Option aE},chainB p l=true->∀x∈l,tV x=true
 | [],_,_,_,h=>by cases h
 |y::ys,p,h,x,hx=>by
  obtain⟨h1,_,h3⟩:=GB h;rcases bM.1 hx with rfl|hx
  ·exact h1
  ·exact On h3 x hx
theorem Ss{l:aP}{f:aE}(h:(PK l f).2=true):pK (PK l f).1=true:=by
 unfold PK at h⊢;split at h
 ·rename_i hc;rw[bQ hc];exact a45 hc.2.1 hc.1 hc.2.2.1 hc.2.2.2
 ·cases h
end Go.Cx
namespace Go.Cx
open Go.RowKit Go.Proofs Tryz
theorem a00{p:aE}(h:yo p=true)(hl:p.args.length<=5):Cov (vW p) p:=by
 have hT:∀t∈p.args,qN t=true:=Yf h;refine⟨a01 h hl,h,rfl,unB (p.args.foldl jS []),?_,fun y hy=>?_⟩
 ·rw[M2,qt];have:p.args.map (unB (p.args.foldl jS [])∘F2 (p.args.foldl jS []))=p.args.map id:=by
   apply mB;intro t ht;exact aAq hl ht (hT t ht)
  rw[this,List.map_id]
 ·refine Og fun q hq e=>?_
  obtain⟨i,hi,_,hpv,_⟩:=Oi (Et p.args Xt.nil) hq;have h5:=CY p.args;have:=BK (TV i (by omega));rw[<-hpv,e,hy]at this;cases this
theorem SH{p f:aE}{b:aT}(hl:p.args.length<=5)(hm:(ug p f b).2=true):(ug (vW p) f []).2=true:=by
 unfold ug at hm;cases hc:(yo p&&(tV f&&(oq b&&(p.rel==f.rel&&decide (p.args.length=f.args.length)))))with
 |false=>rw[hc]at hm;cases hm
 |true=>
  rw[hc,aW]at hm;simp only[aY,bI,cj]at hc;obtain⟨c1,c2,c3,c4,c5⟩:=hc;obtain⟨h,_,h2,h3⟩:=C3 p.args f.args b c5 (fun x hx=>(Ru (UT c3) x hx).1) hm;exact a4H (a00 c1 hl) (Qo.2 ⟨c1,c2,c4,h,h2,h3⟩)
theorem QM{c:aN}(hl:c.pat.args.length<=5)(t:aI):∀fs:aP,(uc (vW c.pat) [] fs).flatMap (ext1 c t)=fs.flatMap (ext1 c t)
 | []=>rfl
 |f::fs=>by
  have ih:=QM hl t fs;unfold uc at*;cases hm:(ug (vW c.pat) f []).2 with
  |true=>rw[sH (by rw[hm]),dK,dK,ih]
  |false=>
   have h0:ext1 c t f=[]:=by
    unfold ext1;cases h2:(ug c.pat f t.bind).2 with
    |false=>rfl
    |true=>rw[SH hl h2]at hm;cases hm
   rw[sG (by simp[hm]),dK,h0,ih];rfl
theorem ZK{p:aE}{b:aT}(hl:p.args.length<=5)(fs:aP):uc p b (uc (vW p) [] fs)=uc p b fs:=by
 unfold uc;rw[xf];apply yR;intro f _;cases h:(ug p f b).2 with
 |false=>rfl
 |true=>rw[SH hl h];rfl
theorem Zl{c:aN}(hl:c.pat.args.length<=5)(fs:aP)(A:ah):xy (uc (vW c.pat) [] fs) A c=xy fs A c:=by
 unfold xy
 congr 1
 funext t
 unfold Nc OU;rw[QM hl,ZK hl]
theorem a2P{c:aN}(h1:c.kind≠1)(h2:c.kind≠2)(fs:aP)(A:ah):xy [] A c=xy fs A c:=by
 unfold xy
 congr 1
 funext t
 unfold Nc OU;rw[b9 h1,b9 h2];rfl
def KD(A:ah):Prop:=A.Pairwise fun t u=>t.facts≠u.facts
theorem Ln{c:aN}{t u:aI}{f:aE}(h:u∈ext1 c t f):u.facts=t.facts++[f]:=by
 unfold ext1 at h;cases hm:(ug c.pat f t.bind).2 with
 |false=>rw[hm]at h;cases h
 |true=>rw[hm,aW]at h;rw[eC.1 h]
theorem Qt{c:aN}{fs:aP}{t u:aI}(h:u∈Nc c fs t):(c.kind=1/\∃f∈fs,u.facts=t.facts++[f])\/(c.kind≠1/\u=t):=by
 unfold Nc at h;by_cases hk:c.kind=1
 ·rw[bU hk,aW]at h;obtain⟨f,hf,hu⟩:=cD.1 h;exact .inl ⟨hk,f,hf,Ln hu⟩
 ·rw[b9 hk,af]at h;cases hh:OU c t.bind fs with
  |false=>rw[hh]at h;cases h
  |true=>rw[hh,aW]at h;exact .inr ⟨hk,eC.1 h⟩
theorem a52{c:aN}{fs:aP}{A:ah}(hf:fs.Nodup)(hA:KD A):KD (xy fs A c):=by
 unfold KD xy;rw[F8];refine⟨fun t _=>?_,?_⟩
 ·unfold Nc;cases decide (c.kind=1)with
  |true=>
   rw[aW,F8];refine⟨fun f _=>?_,?_⟩
   ·unfold ext1;cases(ug c.pat f t.bind).2<;>simp
   ·exact List.Pairwise.imp (fun {f g} hne x hx y hy e=>by
     rw[Ln hx,Ln hy]at e;exact hne (by simpa using e)) hf
  |false=>cases OU c t.bind fs<;>simp
 ·exact List.Pairwise.imp (fun {t u} hne x hx y hy e=>by
   rcases Qt hx with⟨k,f,_,e1⟩|⟨k,e1⟩<;>rcases Qt hy with⟨k',g,_,e2⟩|⟨k',e2⟩
   ·rw[e1,e2]at e;exact hne (List.append_inj' e rfl).1
   ·exact k' k
   ·exact k k'
   ·rw[e1,e2]at e;exact hne e) hA
theorem KD.one(t:aI):KD [t]:=List.pairwise_singleton _ _
theorem YB{fs:aP}(hf:fs.Nodup):∀(cs:aj) {A:ah},KD A->KD (cs.foldl (xy fs) A)
 | [],_,h=>h
 |c::cs,_,h=>YB hf cs (a52 hf h)
theorem a5P{cs:aj}{fs:aP}(hf:fs.Nodup):KD (yP cs fs):=YB hf cs (KD.one _)
def YZ(t:aI)(l:ah):ah:=l.filter fun u=>decide (t.facts=u.facts)
def RZ(l:ah)(t:aI):Bool:=l.any fun u=>decide (u.facts=t.facts)
def NT(now old:ah):Nat:=(now.filter fun t=>RZ old t).length
theorem SP{t:aI}:∀ {l:ah},KD l->(YZ t l).length=(bif RZ l t then 1 else 0)
 | [],_=>rfl
 |u::l,h=>by
  unfold KD at h;rw[k8]at h;have ih:=SP (t:=t) (l:=l) h.2;unfold YZ RZ at*;by_cases e:t.facts=u.facts
  ·rw[sH (by simp[e]),ul,bU e.symm,Bool.true_or,aW,aL,ih];have:(l.any fun u=>decide (u.facts=t.facts))=false:=by
    rw[CR];intro w hw;have:=h.1 w hw;rw[<-e]at this;simp only[bI];exact fun e2=>this e2.symm
   rw[this];rfl
  ·rw[sG (by simp[e]),ul,b9 (fun h=>e h.symm),pJ,ih]
def PA(al:b8)(x:Node):Prop:=(x.cond.kind=1\/x.cond.kind=2->∃a:Nat,x.cP=dD a/\∃y,al[a]?=some y/\y.shape=vW x.cond.pat)/\(¬(x.cond.kind=1\/x.cond.kind=2)->x.cP= -1)
theorem PA.mono{al:b8}{x:Node}(h:PA al x)(m:b8):PA (al++m) x:=⟨fun hk=>by
 obtain⟨a,h1,y,h2,h3⟩:=h.1 hk;exact⟨a,h1,y,by rw[bA (aH.1 h2).1];exact h2,h3⟩,h.2⟩
theorem UM{sh:aE}:∀ {l:b8} {i j:Nat},Z3 sh l i=some j->∃x,l[j-i]?=some x/\i<=j/\x.shape=sh
 |x::l,i,j,h=>by
  unfold Z3 at h;split at h
  ·rename_i hc;cases h;exact⟨x,by simp,bR _,hc⟩
  ·obtain⟨y,h1,h2,h3⟩:=UM h;refine⟨y,?_,by omega,h3⟩;rw[show j-i=(j-(i+1))+1 by omega];exact h1
theorem a6l(al:b8)(sh:aE):(∃m,(Xv al sh).1=al++m)/\∃a:Nat,(Xv al sh).2=dD a/\∃y,(Xv al sh).1[a]?=some y/\y.shape=sh:=by
 unfold Xv;cases h:Z3 sh al 0 with
 |some i=>
  obtain⟨x,h1,_,h3⟩:=UM h;exact⟨⟨[],by simp⟩,i,rfl,x,by simpa using h1,h3⟩
 |none=>exact⟨⟨_,rfl⟩,al.length,rfl,⟨sh,[]⟩,by simp,rfl⟩
theorem a6o(al:b8)(c:aN)(p:Int)(tk:ah):(∃m,(Rp al c).1=al++m)/\PA (Rp al c).1 ⟨p,c,(Rp al c).2,tk⟩:=by
 unfold Rp;by_cases hk:c.kind=1\/c.kind=2
 ·rw[bQ hk];obtain⟨h1,h2⟩:=a6l al (vW c.pat);exact⟨h1,fun _=>h2,fun h=>absurd hk h⟩
 ·rw[bG hk];exact⟨⟨[],by simp⟩,fun h=>absurd h hk,fun _=>rfl⟩
theorem a6p{al:b8}{ns:az}{p:Int}{c:aN}(h:∀x∈ns,PA al x):∀x∈(Ny al ns p c).1.2,PA (Ny al ns p c).1.1 x:=by
 unfold Ny;cases Rq p c ns 0 with
 |some i=>exact h
 |none=>
  obtain⟨⟨m,hm⟩,h2⟩:=a6o al c p [];intro x hx;rcases ar.1 hx with hx|hx
  ·show PA (Rp al c).1 x;rw[hm];exact(h x hx).mono m
  ·rw[eC.1 hx];exact h2
theorem a38:∀(cs:aj) (s:(b8×az)×Int),(∀x∈s.1.2,PA s.1.1 x)->∀x∈(cs.foldl IK s).1.2,PA (cs.foldl IK s).1.1 x
 | [],_,h=>h
 |c::cs,s,h=>a38 cs (IK s c) (a6p h)
theorem a39:∀(l:au) (z:(b8×az)×bJ),(∀x∈z.1.2,PA z.1.1 x)->∀x∈(l.foldl KK z).1.2,PA (l.foldl KK z).1.1 x
 | [],_,h=>h
 |r::l,z,h=>a39 l (KK z r) (a38 (gl r) (z.1,0) h)
theorem a5M(tk:ah)(rs:au):∀x∈(cg tk rs).1.2,PA (cg tk rs).1.1 x:=
 a39 rs (([],[root tk]),[]) (fun x hx=>by
  rw[eC.1 hx];exact⟨fun h=>by simp[root]at h,fun _=>rfl⟩)
theorem a3E{tk:ah}{rs:au}{i:Nat}{x:Node}(h1:1<=i)(hx:(cg tk rs).1.2[i]?=some x):∃r∈rs,x.cond∈gl r:=by
 have hp:=(zS tk rs).1;obtain⟨p,hpp,hpi⟩:=hp.below i x h1 hx;obtain⟨r,hr,j,j1,j2,e⟩:=hp.path i h1 (aH.1 hx).1;rw[yB hx h1 hpp hpi]at e;exact⟨r,hr,cG (by rw[<-e];simp:x.cond∈(gl r).take j)⟩
theorem a3K{ns:az}{i p:Nat}{x:Node}(h1:1<=i)(hx:ns[i]?=some x)(hp:x.parent=dD p)(hpi:p<i)(fs:aP):yP (eg ns (dD i)) fs=xy fs (yP (eg ns (dD p)) fs) x.cond:=by
 rw[yB hx h1 hp hpi];unfold yP;rw[List.foldl_append];rfl
end Go.Cx
namespace Go.Cx
open Go.RowKit Go.Proofs Tryz
theorem a9y(a:aP)(f:aE)(K:Bool->aP->Option aP)(hf:f.args.length<=1099511627776):∀(rest:aP) (i:Nat) (v:Bool) (w:aP),(∀x∈rest,x.args.length<=1099511627776)->w.length+2*rest.length<=1048576->
 (v=true->dL a f K rest i v w=K true (w++rest))/\
 (v=false->(dL a f K rest i v w=K true (w++CP f rest))\/(dL a f K rest i v w=K false (w++rest)/\CP f rest=rest++[f])):=by
 intro rest
 induction rest with
 |nil=>intro i v w _ _;exact⟨fun h=>by subst h;simp[dL],fun h=>by subst h;exact .inr ⟨by simp[dL],rfl⟩⟩
 |cons x xs ih=>
  intro i v w hs hl;simp only[aL]at hl;have hx:=hs x (by simp);have hs':∀y∈xs,y.args.length<=1099511627776:=fun y hy=>hs y (by simp[hy])
  have cx:=OX x hx;have cf:=OX f hf;have nx:=fun w':aP=>fun h:w'.length<1099511627776=>mW (w:=w') (c:=aE.c) (y:=[D.str x.rel,D.sl (x.args.map tx)]) (b:=40) h (by decide)
  have nf:=fun w':aP=>fun h:w'.length<1099511627776=>mW (w:=w') (c:=aE.c) (y:=[D.str f.rel,D.sl (f.args.map tx)]) (b:=40) h (by decide)
  constructor
  ·intro h;subst h;rw[dL,bP,af,cx,aA,nx w (by omega),aW,(ih (i+1) true (w++[x]) hs' (by simp;omega)).1 rfl];simp
  ·intro h;subst h;rw[dL,cQ,aW,a1k,aA];by_cases hgt:pS x f>0
   ·left
    have e2:room (((w.map aE.c)++[[D.str f.rel,D.sl (f.args.map tx)]]).length+[[D.str x.rel,D.sl (x.args.map tx)]].length) 40=true:=by
     have:=nx (w++[f]) (by simp;omega);rw[bS]at this;exact this
    rw[bU hgt,aW,cf,aA,nf w (by omega),aW,cx,aA,e2,aW];rw[(ih (i+1) true (w++[f]++[x]) hs' (by simp;omega)).1 rfl,CP,bQ hgt];simp
   ·rw[b9 hgt,af,cx,aA,nx w (by omega),aW];rw[CP,bG hgt];rcases(ih (i+1) false (w++[x]) hs' (by simp;omega)).2 rfl with q|⟨q1,q2⟩
    ·left;rw[q];simp
    ·right;rw[q1,q2];simp
theorem a9x(l:aP)(f:aE)(hf:f.args.length<=1099511627776)(hl:∀x∈l,x.args.length<=1099511627776)(hn:l.length<=1000):vr l f=some (CP f l):=by
 unfold vr;rcases(a9y l f _ hf l 0 false [] hl (by simp;omega)).2 rfl with q|⟨q1,q2⟩
 ·rw[q];rfl
 ·rw[q1,q2];show(bif !false then _ else _)=_;rw[cQ,aW,OX f hf,aA,cH,mW (w:=l) (c:=aE.c) (y:=[D.str f.rel,D.sl (f.args.map tx)]) (by omega) (by decide),aW]
theorem a9n(l:aP)(f:aE)(hl:jy aE.wt l<=1048576)(hf:f.wt<=1048576):vm l f=some (PK l f):=by
 have hm:∀x∈l,x.args.length<=1048576:=fun x hx=>by have:=aE.dV (n:=1048576) (p:=x) (by have:=iV (w:=aE.wt) hx;omega);omega
 have hlen:=gh aE.wt l;have cp:=Dl l (by omega) hm;unfold vm PK;rw[a5p l hl,aA];cases h1:pK l with
 |false=>rw[cQ,aW,cp,aA,bG (by simp)]
 |true=>
  have h24:=um h1;rw[bP,af,a1p f hf,aA];cases h2:tV f with
  |false=>rw[cQ,aW,cp,aA,bG (by simp)]
  |true=>
   rw[bP,af,a7W,aA,OQ];by_cases h3:f∈l
   ·rw[bU h3,aW,cp,aA,bG (by simp[h3])]
   ·rw[b9 h3,af,aZ];by_cases h4:l.length=24
    ·rw[bU (by omega),aW,cp,aA,bG (by simp[h4])]
    ·rw[b9 (by omega),af,a9x l f (by have:=aE.dV hf;omega) (fun x hx=>by have:=hm x hx;omega) (by omega),aA,bQ ⟨rfl,rfl,h3,h4⟩]
end Go.Cx
namespace Go.Cx
open Go.RowKit Go.Proofs Tryz
structure G7(n:aF):Prop where
 rules:jy aO.wt n.rules<=1048576
 facts:jy aE.wt n.facts<=1048576
 ends:n.ends.length<=1048576
 ay:n.ay.length<=1048576
 cP:∀a∈n.ay,a.shape.wt<=1048576/\FS a.facts
 nodes:n.nodes.length<=1048576
 node:∀x∈n.nodes,x.cond.wt<=1048576/\x.tokens.length<=1048576/\∀t∈x.tokens,TK 1048576 t
theorem FS.args{fs:aP}(h:FS fs):∀f∈fs,f.args.length<=1048576:=fun f hf=>aE.dV (h.2 f hf)
theorem G7.Dr{n:aF}(h:n.wt<=1048576):G7 n:=by
 have h0:=h;unfold aF.wt at h0;have a1:=gh zw n.ends;have a2:=gh aQ.wt n.ay;have a3:=gh Node.wt n.nodes;refine⟨by omega,by omega,by omega,by omega,fun a ha=>?_,by omega,fun x hx=>?_⟩
 ·have h1:a.wt<=1048576:=by have:=iV (w:=aQ.wt) ha;omega
  unfold aQ.wt at h1;exact⟨by unfold aE.wt;omega,FS.Dr (by omega)⟩
 ·have h1:x.wt<=1048576:=by have:=iV (w:=Node.wt) hx;omega
  unfold Node.wt at h1;have h2:=gh aI.wt x.tokens;refine⟨by unfold aN.wt;omega,by omega,fun t ht=>?_⟩;have h3:t.wt<=1048576:=by have:=iV (w:=aI.wt) ht;omega
  unfold aI.wt at h3;have h4:=gh aE.wt t.facts;have h5:=gh aR.wt t.bind;refine⟨by omega,fun f hf=>by have:=iV (w:=aE.wt) hf;omega,by omega,fun p hp=>?_⟩;have h6:p.wt<=1048576:=by have:=iV (w:=aR.wt) hp;omega
  unfold aR.wt tw at h6;omega
theorem a5A(l:ah)(hl:l.length<=1048576)(h:∀t∈l,TK 1048576 t):jk l=some l:=by
 unfold jk;rw[Fx (c:=aI.c) (b:=48) (f:=rZ) (g:=fun x=>x) (L:=jO l _) (k:=_) (by decide) (fun _ _=>rfl) (fun _ _ _ _=>rfl) _ _ _ (fun t ht=>a2i t (h t ht)) (by simp;omega)];simp
theorem a4Z(l:ah)(hl:l.length<=1048576)(h:∀t∈l,TK 1048576 t):lT l=some l:=by
 unfold lT;rw[Fx (c:=aI.c) (b:=48) (f:=fun t:aI=>(cy t.facts).bind fun y=>(jH t.bind).bind fun z=>some (⟨y,z⟩:aI)) (g:=fun x=>x) (L:=ia l _) (k:=_) (by decide) (fun _ _=>rfl) (fun x xs i w=>by
  rw[ia];cases cy x.facts with
  |none=>rfl
  |some a=>cases jH x.bind<;>rfl) _ _ _ (fun t ht=>by
  have hk:=h t ht;rw[Dl t.facts hk.1 (fun f hf=>aE.dV (hk.2.1 f hf)),aA,Wp t.bind (by have:=hk.2.2.1;omega)];rfl) (by simp;omega)]
 simp
theorem aAg(l:bJ)(h:l.length<=1048576):xT l=some l:=by
 unfold xT;rw[KH (by simp;omega) (by decide),aW,cH]
theorem a9z(l:bJ)(h:l.length<=1048576):uF l=some l:=by
 unfold uF;rw[KH (by simp;omega) (by decide),aW,cH]
theorem XI(n:aF)(h:G7 n):rp n=some n:=by
 have hF:=FS.Dr h.facts;have h1:=h.ay;have h2:=h.nodes;unfold rp;rw[VP n.rules h.rules,aA,aAg n.ends h.ends,aA,Dv n.facts hF.1 hF.args,aA];rw[Fx (c:=aQ.c) (b:=64) (f:=fun a:aQ=>(eS a.shape).bind fun y=>(dP a.facts).bind fun z=>some (⟨y,z⟩:aQ)) (g:=fun x=>x) (L:=nW n _ _ _ _) (k:=_) (by decide) (fun _ _=>rfl) (fun x xs i w=>by
  rw[nW];cases eS x.shape with
  |none=>rfl
  |some a=>cases dP x.facts<;>rfl) _ _ _ (fun a ha=>by
  obtain⟨g1,g2⟩:=h.cP a ha;rw[a2j a.shape (by have:=aE.dV g1;omega),aA,Dv a.facts g2.1 g2.args];rfl) (by simp;omega)]
 rw[Fx (c:=Node.c) (b:=120) (f:=fun x:Node=>(jx x.cond).bind fun y=>(jk x.tokens).bind fun z=>some (⟨x.parent,y,x.cP,z⟩:Node)) (g:=fun x=>x) (L:=nX n _ _ _ _ _) (k:=_) (by decide) (fun _ _=>rfl) (fun x xs i w=>by
  rw[nX];cases jx x.cond with
  |none=>rfl
  |some a=>cases jk x.tokens<;>rfl) _ _ _ (fun x hx=>by
  obtain⟨g1,g2,g3⟩:=h.node x hx;rw[Ti x.cond (by have:=aE.dV (aN.fJ g1);omega),aA,a5A x.tokens g2 g3];rfl) (by simp;omega)]
 simp
theorem Wo(n:aF)(h:G7 n):kF n=some n:=by
 have hF:=FS.Dr h.facts;have h1:=h.ay;have h2:=h.nodes;unfold kF;rw[Uy n.rules h.rules,aA,a9z n.ends h.ends,aA,Dl n.facts hF.1 hF.args,aA];rw[Fx (c:=aQ.c) (b:=64) (f:=fun a:aQ=>(eF a.shape).bind fun y=>(cy a.facts).bind fun z=>some (⟨y,z⟩:aQ)) (g:=fun x=>x) (L:=iG n _ _ _ _) (k:=_) (by decide) (fun _ _=>rfl) (fun x xs i w=>by
  rw[iG];cases eF x.shape with
  |none=>rfl
  |some a=>cases cy x.facts<;>rfl) _ _ _ (fun a ha=>by
  obtain⟨g1,g2⟩:=h.cP a ha;rw[a1o a.shape (by have:=aE.dV g1;omega),aA,Dl a.facts g2.1 g2.args];rfl) (by simp;omega)]
 rw[Fx (c:=Node.c) (b:=120) (f:=fun x:Node=>(fC x.cond).bind fun y=>(lT x.tokens).bind fun z=>some (⟨x.parent,y,x.cP,z⟩:Node)) (g:=fun x=>x) (L:=iH n _ _ _ _ _) (k:=_) (by decide) (fun _ _=>rfl) (fun x xs i w=>by
  rw[iH];cases fC x.cond with
  |none=>rfl
  |some a=>cases lT x.tokens<;>rfl) _ _ _ (fun x hx=>by
  obtain⟨g1,g2,g3⟩:=h.node x hx;rw[TF x.cond (by have:=aE.dV (aN.fJ g1);omega),aA,a4Z x.tokens g2 g3];rfl) (by simp;omega)]
 simp
theorem Wq{n:aF}(h:isB n=true):zN n.rules=true/\pK n.facts=true/\0<=n.cL/\n=Lw n.rules n.facts n.cL:=by
 unfold isB Rf Lw at h;simp only[aY,bI]at h;obtain⟨b1,b2,b0,_,b3,_,b5,b4⟩:=h;refine⟨b1,b2,b0,?_⟩;unfold Lw;cases n;simp only at b3 b4 b5⊢;rw[<-b3,<-b4,<-b5]
theorem Uj{f:aE}(h:tV f=true):f.wt<=100:=by
 unfold tV at h;simp only[aY,bI,bB]at h;obtain⟨h1,h2,h3⟩:=h;have a1:=SK h2;have a2:=Pu f.args (fun x hx=>by have:=IC (h1 x hx);omega);unfold aE.wt tw;unfold tw at a2;omega
theorem Q7{fs:aP}(h:pK fs=true):∀f∈fs,tV f=true:=by
 unfold pK at h;simp only[aY]at h;exact On h.1
theorem Sd{α:Type}{w:α->Nat}{B:Nat}:∀(l:List α),(∀x∈l,w x<=B)->jy w l<=(B+1)*l.length
 | [],_=>by simp[jy]
 |x::l,h=>by
  have h1:=Sd l fun y hy=>h y (by simp[hy])
  have h2:=h x (by simp);rw[qQ,aL,Nat.mul_add];omega
theorem DG{fs:aP}(h:pK fs=true):jy aE.wt fs<=2424:=by
 have h1:=Sd (w:=aE.wt) (B:=100) fs fun f hf=>Uj (Q7 h f hf)
 have h2:=um h;have:(100+1)*fs.length<=(100+1)*24:=eN _ h2;omega
theorem yJ(ns:az)(fs:aP)(i:Nat):(gi ns fs)[i]?=(ns[i]?).map fun x=>⟨x.parent,x.cond,x.cP,yP (eg ns (dD i)) fs⟩:=by
 unfold gi;rw[S8,cq]
theorem Dj(ns:az)(fs:aP):(gi ns fs).length=ns.length:=ZJ ns fs ns 0
theorem Bb{rs:au}(h:zN rs=true):rs.length<=6:=by unfold zN at h;simp only[aY,bI]at h;omega
theorem RC{rs:au}(tk:ah)(h:zN rs=true):(cg tk rs).1.1.length<=24:=by
 have h6:=Bb h;have main:∀(l:au) (z:(b8×az)×bJ),(∀r∈l,ny r=true)->(l.foldl KK z).1.1.length<=z.1.1.length+4*l.length:=by
  intro l
  induction l with
  |nil=>intro z _;exact bR _
  |cons r l ih=>
   intro z hl;have h1:=ih (KK z r) (fun x hx=>hl x (by simp[hx]));have h2:=(IL (gl r) (z.1,0)).1;have h3:=BP (hl r (by simp));have h4:(KK z r).1.1.length=((gl r).foldl IK (z.1,0)).1.1.length:=rfl;rw[e9,aL];dsimp only at h2;omega
 have:=main rs (([],[root tk]),[]) (u7 h);unfold cg;simp only[bK]at this;omega
theorem Hw{rs:au}{fs:aP}(h1:zN rs=true)(h2:pK fs=true){i:Nat}{x:Node}(hx:(gi (cg [] rs).1.2 fs)[i]?=some x):x.cond.wt<=1048576/\x.tokens.length<=390625/\(∀t∈x.tokens,TK 4 t)/\KD x.tokens:=by
 have hv:=u7 h1;have hok:=Ps [] hv (Bb h1);rw[yJ]at hx;obtain⟨y,hy,rfl⟩:=E5.1 hx;have hFS:=FS.Dr (by have:=DG h2;omega:jy aE.wt fs<=1048576);have Wb:∀c∈eg (cg [] rs).1.2 (dD i),c.wt<=1048576:=by
  intro c hc;obtain⟨z,hz,e⟩:=R2 hc;rw[<-e];exact hok.wt z hz
 refine⟨hok.wt y (aC hy),a3J (hok.path i) (um h2),fun t ht=>?_,a5P (UO h2)⟩;exact(Yg hFS _ [⟨[],[]⟩] 0 Wb X8 t ht).le (by have:=hok.path i;omega)
theorem X5{rs:au}{fs:aP}(t:Int)(h1:zN rs=true)(h2:pK fs=true)(hr:jy aO.wt rs<=1048576):G7 (Lw rs fs t):=by
 have hv:=u7 h1;have h6:=Bb h1;have hw:=DG h2;have hl:=Dw [] hv h6;refine⟨hr,by show jy aE.wt fs<=1048576;omega,?_,?_,?_,?_,?_⟩
 ·show(cg [] rs).2.length<=1048576;rw[(zS [] rs).2.1];omega
 ·show(jR (cg [] rs).1.1 fs).length<=1048576;unfold jR;rw[aZ];have:=RC [] h1;omega
 ·intro a ha;obtain⟨y,hy,rfl⟩:=cI.1 (show a∈(cg [] rs).1.1.map _ from ha);refine⟨(Ce [] hv y hy).1,?_,fun f hf=>?_⟩
  ·have:=qR (fun f=>(ug y.shape f []).2) fs;have:=um h2;show(uc y.shape [] fs).length<=1048576;unfold uc;omega
  ·have:=Uj (Q7 h2 f (fo.1 hf).1);omega
 ·show(gi (cg [] rs).1.2 fs).length<=1048576;rw[Dj];omega
 ·intro x hx;obtain⟨i,hi⟩:=cm (show x∈gi (cg [] rs).1.2 fs from hx);obtain⟨g1,g2,g3,_⟩:=Hw h1 h2 hi;exact⟨g1,by omega,fun t ht=>(g3 t ht).le (by omega)⟩
def adT(now old:ah):Nat:=now.length-NT now old
theorem V2(now old:ah):NT now old<=now.length:=qR _ _
theorem Qe(t:aI)(l old:ah):NT (t::l) old=(bif RZ old t then 1 else 0)+NT l old:=by
 unfold NT;cases h:RZ old t with
 |true=>rw[sH (by rw[h]),aL,aW];omega
 |false=>rw[sG (by simp[h]),af];omega
def stepT(al:b8)(f:aE)(x:Node)(now old:ah)(t:Int):Int:=
 if x.cP<0 then IntKind.i64.wrap (t+((adT now old:Nat):Int))else match mC al x.cP with
  |none=>t
  |some y=>bif (ug y.shape f []).2 then IntKind.i64.wrap (IntKind.i64.wrap (t+IntKind.i64.wrap (((adT now old:Nat):Int)*((y.facts.length:Nat):Int)))+((NT now old:Nat):Int))else IntKind.i64.wrap (t+IntKind.i64.wrap (((adT now old:Nat):Int)*((y.facts.length:Nat):Int)))
def KM(ns:az)(p:Int):ah:=match mC ns p with|some x=>x.tokens|none=>[]
def trN(N0 N1:az)(al:b8)(f:aE):az->Int->Int
 | [],t=>t
 |x::xs,t=>trN N0 N1 al f xs (stepT al f x (KM N1 x.parent) (KM N0 x.parent) t)
theorem YY(a b:ah)(i1:Nat)(x:aI)(k:Int->Option (Int×Int)):∀(l:ah) (i v:Nat),v+l.length<=1099511627000->lF a b i1 x k l i (v:Int)=k ((v+(YZ x l).length:Nat):Int)
 | [],i,v,_=>rfl
 |y::l,i,v,h=>by
  simp only[aL]at h;have ih:=YY a b i1 x k l (i+1);unfold YZ at*;rw[lF,aAW,aA];by_cases e:x.facts=y.facts
  ·rw[show((cmpL pS x.facts y.facts:Int)==0)=true by simp[ID.2 e],aW,Nq (by omega),ih (v+1) (by omega),sH (by simp[e]),aL]
   congr 2;omega
  ·rw[show((cmpL pS x.facts y.facts:Int)==0)=false by
    have:cmpL pS x.facts y.facts≠0:=fun h=>e (ID.1 h)
    simp[this],af,ih v (by omega),sG (by simp[e])]
theorem Tj(a b:ah)(k:Int->Option (Int×Int))(hK:KD b)(hb:b.length<=1048576):∀(l:ah) (i v:Nat),v+l.length<=1099500000000->nZ a b k l i (v:Int)=k ((v+NT l b:Nat):Int)
 | [],i,v,_=>rfl
 |x::l,i,v,h=>by
  simp only[aL]at h;have hx:=SP (t:=x) hK;rw[nZ,wo (by omega),aW,YY a b i x _ b 0 v (by omega),hx,Qe];cases RZ b x with
  |true=>rw[aW,Tj a b k hK hb l (i+1) (v+1) (by omega)];congr 2;omega
  |false=>rw[af,Tj a b k hK hb l (i+1) (v+0) (by omega)];congr 2;omega
theorem aAh(now old:ah)(hK:KD old)(h1:now.length<=1048576)(h2:old.length<=1048576):xU now old=some (((NT now old:Nat):Int),((adT now old:Nat):Int)):=by
 have hle:=V2 now old;unfold xU;have:=Tj now old (fun(zW:Int)=>(some (zW,IntKind.i64.wrap (((now.map aI.c).length:Int)-zW)))) hK h2 now 0 0 (by omega);rw[show(0:Int)=((0:Nat):Int)from rfl,this,cq,aZ,gf (tU.i64.2 (by omega))];unfold adT
 congr 2
 omega
theorem a9u(l:ah)(t:aI):uG l t=some (RZ l t):=by
 unfold uG;have:∀(r:ah) (i:Nat),kH l t (some false) r i=some (RZ r t):=by
  intro r
  induction r with
  |nil=>intro i;rfl
  |cons x r ih=>
   intro i;rw[kH,a9p,aA,ih];unfold RZ;rw[ul];by_cases e:x.facts=t.facts
   ·rw[show((cmpL pS x.facts t.facts:Int)==0)=true by simp[ID.2 e],aW,bU e,Bool.true_or]
   ·rw[show((cmpL pS x.facts t.facts:Int)==0)=false by
     have:cmpL pS x.facts t.facts≠0:=fun h=>e (ID.1 h)
     simp[this],af,b9 e,pJ]
 exact this l 0
theorem a1j(n:aF)(f:aE)(y3:aF×Unit)(u:Int)(i1:Nat)(x xx y:Node)(k:Int->Int->Option aF)(hy:mC n.nodes x.parent=some y):∀(l:ah) (i a b:Nat),a+l.length<=1099511627000->b+l.length<=1099511627000->
 jo n f y3 u i1 x xx k l i (a:Int) (b:Int)=k ((a+NT l y.tokens:Nat):Int) ((b+adT l y.tokens:Nat):Int)
 | [],i,a,b,_,_=>rfl
 |t::l,i,a,b,h1,h2=>by
  simp only[aL]at h1 h2;have ih:=a1j n f y3 u i1 x xx y k hy l (i+1);have hle:=V2 l y.tokens;rw[jo,hy,aA,a9u,aA];unfold adT at*;rw[Qe,aL];cases RZ y.tokens t with
  |true=>
   rw[aW,aW,Nq (by omega),ih (a+1) b (by omega) (by omega)]
   congr 2<;>omega
  |false=>
   rw[af,af,Nq (by omega),ih a (b+1) (by omega) (by omega)]
   congr 2<;>omega
def aBc(N0 N1:az)(al:b8)(x:Node):Prop:=(∃p0 p1,mC N0 x.parent=some p0/\mC N1 x.parent=some p1/\p1.tokens.length<=1048576)/\(x.cP<0\/∃y,mC al x.cP=some y/\y.shape.wt<=1048576)
theorem a1i(n:aF)(f:aE)(y3:aF×Unit)(k:Int->Option aF)(hf:f.wt<=1048576):∀(l:az) (i:Nat) (u:Int),1<=i->(∀x∈l,aBc n.nodes y3.1.nodes y3.1.ay x)->fG n f y3 k l i u=k (trN n.nodes y3.1.nodes y3.1.ay f l u)
 | [],_,_,_,_=>rfl
 |x::l,i,u,hi,hU=>by
  have ih:=a1i n f y3 k hf l (i+1);have hU':=fun z (hz:z∈l)=>hU z (by simp[hz])
  obtain⟨⟨p0,p1,e0,e1,hl⟩,ha⟩:=hU x (by simp);rw[fG,show(((i:Nat):Int)==0)=false by simp;omega,af,e1,aA,wo (by omega),aW];rw[show(0:Int)=((0:Nat):Int)from rfl,a1j n f y3 u i x p1 p0 _ e0 p1.tokens 0 0 0 (by omega) (by omega),cq,cq,trN];unfold stepT;rw[show KM y3.1.nodes x.parent=p1.tokens by unfold KM;rw[e1],show KM n.nodes x.parent=p0.tokens by unfold KM;rw[e0]];by_cases hal:x.cP<0
  ·rw[bU (by simpa using hal),aW,bQ hal,ih _ (by omega) hU']
  ·rw[b9 (by simpa using hal),af,bG hal];rcases ha with ha|⟨y,hy,hyw⟩
   ·exact absurd ha hal
   ·rw[hy,aA,a7a y.shape f [] hyw hf PB.nil,aA,aZ];dsimp only;cases(ug y.shape f []).2 with
    |true=>rw[aW,aW,ih _ (by omega) hU']
    |false=>rw[af,af,ih _ (by omega) hU']
theorem B8{α:Type}(l:List α)(i:Nat):mC l (dD i)=l[i]?:=by
 unfold mC dD;rw[bU (by omega),aW];rfl
theorem a2I{rs:au}{fs0 fs:aP}(h1:zN rs=true)(h0:pK fs0=true)(h2:pK fs=true){i:Nat}(hi:1<=i){x:Node}(hx:(cg [] rs).1.2[i]?=some x):
 ∃(p:Nat) (q:Node),p<i/\x.parent=dD p/\(cg [] rs).1.2[p]?=some q/\(gi (cg [] rs).1.2 fs0)[p]?=some ⟨q.parent,q.cond,q.cP,yP (eg (cg [] rs).1.2 (dD p)) fs0⟩/\(gi (cg [] rs).1.2 fs)[p]?=some ⟨q.parent,q.cond,q.cP,yP (eg (cg [] rs).1.2 (dD p)) fs⟩/\
  x.cond.pat.args.length<=3/\x.cond.wt<=1048576/\((x.cP<0/\x.cond.kind≠1/\x.cond.kind≠2)\/∃(a:Nat) (y:aQ),x.cP=dD a/\(cg [] rs).1.1[a]?=some y/\y.shape=vW x.cond.pat/\y.shape.wt<=1048576):=by
 have hv:=u7 h1;obtain⟨p,hp,hpi⟩:=(zS [] rs).1.below i x hi hx;have Vp:=(aH.1 hx).1;have hq:=ai (show p<(cg [] rs).1.2.length by omega);obtain⟨r,hr,hc⟩:=a3E hi hx;have hal:=a5M [] rs x (aC hx);refine⟨p,_,hpi,hp,hq,by rw[yJ,hq];rfl,by rw[yJ,hq];rfl,(P3 (hv r hr) _ hc).2.1,Nd (hv r hr) _ hc,?_⟩;by_cases hk:x.cond.kind=1\/x.cond.kind=2
 ·obtain⟨a,e1,y,e2,e3⟩:=hal.1 hk;exact .inr ⟨a,y,e1,e2,e3,(Ce [] hv y (aC e2)).1⟩
 ·exact .inl ⟨by rw[hal.2 hk];decide,fun e=>hk (.inl e),fun e=>hk (.inr e)⟩
def a14(n:aF)(fs:aP)(f:aE):aF:=Lw n.rules fs (trN n.nodes (gi (cg [] n.rules).1.2 fs) (jR (cg [] n.rules).1.1 fs) f ((gi (cg [] n.rules).1.2 fs).drop 1) n.cL)
theorem aCz(n:aF)(fs:aP)(f:aE)(hn:isB n=true)(hr:jy aO.wt n.rules<=1048576)(h2:pK fs=true)(hf:f.wt<=1048576):vq n fs f=some (a14 n fs f):=by
 obtain⟨h1,h0,ht,e⟩:=Wq hn;have hv:=u7 h1;have h6:=Bb h1;have hFS:=FS.Dr (by have:=DG h2;omega:jy aE.wt fs<=1048576);have hok:G7 n:=by rw[e];exact X5 _ h1 h0 hr
 have hN:n.nodes=gi (cg [] n.rules).1.2 n.facts:=congrArg aF.nodes e;have hA:n.ay=jR (cg [] n.rules).1.1 n.facts:=congrArg aF.ay e;have hE:n.ends=(cg [] n.rules).2:=congrArg aF.ends e;have hform:n.nodes.map wK=(cg [] n.rules).1.2.map wK:=by rw[hN];exact Lo _ _ _ _
 have hp0:=Ps [] hv h6;have a7F:IA n.nodes:=by
  refine⟨hok.nodes,fun x hx=>(hok.node x hx).1,fun i=>?_⟩;rw[AD hform];exact hp0.path i
 have hfA:jR n.ay fs=jR (cg [] n.rules).1.1 fs:=by
  rw[hA];unfold jR;rw[qt];rfl
 have hfN:gi n.nodes fs=gi (cg [] n.rules).1.2 fs:=by
  have key:∀(l m:az) (i:Nat),l.map xB=m.map xB->tW n.nodes fs l i=tW (cg [] n.rules).1.2 fs m i:=by
   intro l
   induction l with
   |nil=>intro m i hm;cases m with
    |nil=>rfl
    |cons y m=>simp at hm
   |cons x l ih=>intro m i hm;cases m with
    |nil=>simp at hm
    |cons y m=>
     rw[bH,bH]at hm;obtain⟨q1,q2⟩:=zY hm;have e1:x.parent=y.parent:=(kX q1).1;have e2:x.cP=y.cP:=(kX (kX q1).2).1;have e3:x.cond=y.cond:=(kX (kX q1).2).2;rw[tW,tW,ih m (i+1) q2,AD hform,e1,e2,e3]
  refine key _ _ 0 ?_;rw[hN];have:∀(ns l:az) (i:Nat),(tW ns n.facts l i).map xB=l.map xB:=by
   intro ns l
   induction l with
   |nil=>intro i;rfl
   |cons x l ih=>intro i;rw[tW,bH,ih];rfl
  exact this _ _ _
 unfold vq;rw[Wo n hok,aA,a5r n fs hFS (um h2) hok.ay (fun x hx=>(hok.cP x hx).1) a7F,aA,hfA,hfN];have hlen:=Dj (cg [] n.rules).1.2 fs;have aEr:=Dw [] hv h6;dsimp only;rw[wo (by omega),aW];have tR:gi (cg [] n.rules).1.2 fs=(gi (cg [] n.rules).1.2 fs).take 1++(gi (cg [] n.rules).1.2 fs).drop 1:=(cC 1 _).symm;cases hns:gi (cg [] n.rules).1.2 fs with
 |nil=>
  have:=(zS [] n.rules).1.pos;rw[hns]at hlen;simp at hlen;omega
 |cons x0 l=>
  rw[fG,show(((0:Nat):Int)==0)=true from rfl,aW,a1i n f _ _ hf l 1 _ (bR _) (fun x hx=>?_)]
  ·unfold a14 Lw;rw[hns,hE];rfl
  ·obtain⟨i,hi⟩:=cm hx;have hi2:(gi (cg [] n.rules).1.2 fs)[i+1]?=some x:=by rw[hns];exact hi
   rw[yJ]at hi2;obtain⟨z,hz,rfl⟩:=E5.1 hi2;obtain⟨p,q,_,e1,_,e3,e4,_,_,e7⟩:=a2I h1 h0 h2 (i:=i+1) (by omega) hz;have g4:=(Hw h1 h2 e4).2.1;have u3:=(show mC n.nodes z.parent=(gi (cg [] n.rules).1.2 n.facts)[p]? by rw[e1,B8,hN]).trans e3;have u4:=(show mC (x0::l) z.parent=(gi (cg [] n.rules).1.2 fs)[p]? by rw[e1,B8,hns]).trans e4;refine⟨⟨_,_,u3,u4,by omega⟩,?_⟩
   ·rcases e7 with⟨e7,_⟩|⟨a,y,e7,e8,_,e10⟩
    ·exact .inl e7
    ·refine .inr ⟨⟨y.shape,uc y.shape [] fs⟩,?_,e10⟩;show mC (jR (cg [] n.rules).1.1 fs) z.cP=_;rw[e7,B8];unfold jR;rw[c8,e8];rfl
end Go.Cx
namespace Go.Cx
open Go.RowKit Go.Proofs Tryz
structure Ren(h:Bytes->Bytes)(V:Bytes->Prop):Prop where
 var:∀v,V v->lH v=true
 aDq:∀t,lH t=false->h t=t
 aFM:∀v,V v->lH (h v)=true
 inj:∀u v,V u->V v->h u=h v->u=v
structure RB(h:Bytes->Bytes)(V:Bytes->Prop)(b b':List aR):Prop where
 len:b'.length=b.length
 get:∀v,V v->lJ (h v) b'=lJ v b
 ok:oq b=true
 ok':oq b'=true
structure RT(h:Bytes->Bytes)(V:Bytes->Prop)(t t':aI):Prop where
 facts:t'.facts=t.facts
 bind:RB h V t.bind t'.bind
inductive RL(R:aI->aI->Prop):List aI->List aI->Prop
 |nil:RL R [] []
 |cons {a b:aI} {l m:ah}:R a b->RL R l m->RL R (a::l) (b::m)
end Go.Cx
namespace Go.Cx
open Go.RowKit Go.Proofs Tryz
def K9(f:aE)(A:b8):List Bool:=A.map fun a=>(ug a.shape f []).2
theorem Di(A:b8)(fs:aP):(jR A fs).length=A.length:=by unfold jR;rw[aZ]
theorem WV(A:b8)(x:aQ)(fs:aP):jR (A++[x]) fs=jR A fs++[⟨x.shape,uc x.shape [] fs⟩]:=by unfold jR;rw[bS];rfl
theorem a6N(n:aF)(fs:aP)(f:aE)(y1:aF)(y3:aP)(K:List Bool->b8->Option aF)(hFS:FS fs)(hf:f.wt<=1048576)(A:b8)(hA:∀a∈A,a.shape.wt<=1048576)(hl:A.length<=1048576):∀(rest pre:b8) (fu:Nat),A=pre++rest->rest.length<fu->
 j6 n fs f y1 y3 K fu (pre.length:Int) (K9 f pre) (jR pre fs++rest)=K (K9 f A) (jR A fs)
 | [],pre,fu,e,hu=>by
  obtain⟨fu,rfl⟩:∃m,fu=m+1:=⟨fu-1,by simp at hu;omega⟩
  rw[cN]at e;rw[j6,cN,aZ,Di,b9 (by omega),af,e]
 |x::rest,pre,fu,e,hu=>by
  obtain⟨fu,rfl⟩:∃m,fu=m+1:=⟨fu-1,by simp at hu;omega⟩
  simp only[aL]at hu;have hlen:A.length=pre.length+(rest.length+1):=by rw[e];simp
  have hx:=hA x (by rw[e];simp);have ih:=a6N n fs f y1 y3 K hFS hf A hA hl rest (pre++[x]) fu (by rw[e];simp) (by omega);have hat:mC (jR pre fs++x::rest) (pre.length:Int)=some x:=by
   have:=zZ (a:=jR pre fs++x::rest) (pre:=jR pre fs) (xs:=rest) (x:=x) rfl;rw[Di]at this;exact this
  have qZ:(jR pre fs++x::rest).set (pre.length:Int).toNat ⟨x.shape,uc x.shape [] fs⟩=jR (pre++[x]) fs++rest:=by
   have:=setAt (jR pre fs) rest x ⟨x.shape,uc x.shape [] fs⟩;rw[Di]at this;rw[o6,this,WV,bY];rfl
  have hh:K9 f pre++[(ug x.shape f []).2]=K9 f (pre++[x]):=by unfold K9;rw[bS];rfl
  have hpl:(K9 f pre).length=pre.length:=by unfold K9;rw[aZ]
  rw[j6,aZ,aX,Di,aL,bU (by omega),aW,hat,aA,a8F x.shape f [] hx hf PB.nil,aA,KH (by simp;omega) (by decide),aW,a8D x.shape [] fs hx PB.nil hFS,aA,Nq (by omega),qZ,hh];rw[aX,fU]at ih;exact ih
theorem YR{N0 N1:az}{v:Nat}(hl:N0.length=N1.length)(hv:v<=N1.length)(j:Nat):(N1.take v++N0.drop v)[j]?=if j<v then N1[j]? else N0[j]?:=by
 have h1:(N1.take v).length=v:=by rw[cM];omega
 by_cases h:j<v
 ·rw[bQ h,bA (by omega),cJ,bQ h]
 ·rw[bG h,bE (by omega),h1,eA]
  congr 1;omega
theorem a4v{N0 N1:az}{v:Nat}(hl:N0.length=N1.length)(hv:v<N1.length){y:Node}(hy:N1[v]?=some y):(N1.take v++N0.drop v).set v y=N1.take (v+1)++N0.drop (v+1):=by
 have h1:(N1.take v).length=v:=by rw[cM];omega
 rw[mY (by omega:v<N0.length)];have:=setAt (N1.take v) (N0.drop (v+1)) (N0[v]'(by omega)) y;rw[h1]at this;rw[this,List.take_add_one,hy];simp
theorem Zd(S:az)(a b:aP):(gi S b).take 1++(gi S a).drop 1=gi S a:=by
 have h:(gi S b).take 1=(gi S a).take 1:=by
  apply o7;intro i;rw[cJ,cJ];by_cases hi:i<1
  ·rw[bQ hi,bQ hi,show i=0 by omega,yJ,yJ,wM];rfl
  ·rw[bG hi,bG hi]
 rw[h,cC]
theorem aAV(n:aF)(fs:aP)(f:aE)(y1:aF)(y3:aP)(K:Int->az->Option aF)(h1:zN n.rules=true)(h0:pK n.facts=true)(h2:pK fs=true)(hN:n.nodes=gi (cg [] n.rules).1.2 n.facts)(hA:n.ay=jR (cg [] n.rules).1.1 n.facts):
 ∀(d v fu:Nat) (u:Int),v+d=(cg [] n.rules).1.2.length->1<=v->d<fu->
  eZ n y1 y3 (K9 f n.ay) (jR (cg [] n.rules).1.1 fs) K fu (v:Int) u ((gi (cg [] n.rules).1.2 fs).take v++n.nodes.drop v)=
   K (trN n.nodes (gi (cg [] n.rules).1.2 fs) (jR (cg [] n.rules).1.1 fs) f ((gi (cg [] n.rules).1.2 fs).drop v) u) (gi (cg [] n.rules).1.2 fs):=by
 have hl0:n.nodes.length=(cg [] n.rules).1.2.length:=by rw[hN,Dj]
 have hl1:=Dj (cg [] n.rules).1.2 fs;have Vq:n.nodes.length=(gi (cg [] n.rules).1.2 fs).length:=by omega
 have hFS:=FS.Dr (by have:=DG h2;omega:jy aE.wt fs<=1048576);intro d
 induction d with
 |zero=>
  intro v fu u hv _ hfu;obtain⟨fu,rfl⟩:∃m,fu=m+1:=⟨fu-1,by omega⟩
  have e1:(gi (cg [] n.rules).1.2 fs).take v++n.nodes.drop v=gi (cg [] n.rules).1.2 fs:=by
   rw[p6 (by omega),cN,p7 (by omega)]
  rw[eZ,e1,aZ,b9 (by omega),af,p6 (by omega)];rfl
 |succ d ih=>
  intro v fu u hv hv1 hfu;obtain⟨fu,rfl⟩:∃m,fu=m+1:=⟨fu-1,by omega⟩
  have hvl:v<(cg [] n.rules).1.2.length:=by omega
  have hx:=ai hvl;generalize hxx:(cg [] n.rules).1.2[v]=x at hx;obtain⟨p,q,hpv,e1,_,e3,e4,e5,e6,e7⟩:=a2I h1 h0 h2 hv1 hx;have hx0:n.nodes[v]?=some ⟨x.parent,x.cond,x.cP,yP (eg (cg [] n.rules).1.2 (dD v)) n.facts⟩:=by rw[hN,yJ,hx];rfl
  have hx1:(gi (cg [] n.rules).1.2 fs)[v]?=some ⟨x.parent,x.cond,x.cP,yP (eg (cg [] n.rules).1.2 (dD v)) fs⟩:=by rw[yJ,hx];rfl
  have hb1:=Dw [] (u7 h1) (Bb h1);have m1:mC ((gi (cg [] n.rules).1.2 fs).take v++n.nodes.drop v) (v:Int)=some ⟨x.parent,x.cond,x.cP,yP (eg (cg [] n.rules).1.2 (dD v)) n.facts⟩:=by
   rw[show(v:Int)=dD v from rfl,B8,YR Vq (by omega),bG (by omega),hx0]
  have m2:mC ((gi (cg [] n.rules).1.2 fs).take v++n.nodes.drop v) x.parent=some ⟨q.parent,q.cond,q.cP,yP (eg (cg [] n.rules).1.2 (dD p)) fs⟩:=by
   rw[e1,B8,YR Vq (by omega),bQ hpv,e4]
  have m3:mC n.nodes x.parent=some ⟨q.parent,q.cond,q.cP,yP (eg (cg [] n.rules).1.2 (dD p)) n.facts⟩:=by rw[e1,B8,hN,e3]
  have m4:mC (gi (cg [] n.rules).1.2 fs) x.parent=some ⟨q.parent,q.cond,q.cP,yP (eg (cg [] n.rules).1.2 (dD p)) fs⟩:=by rw[e1,B8,e4]
  obtain⟨_,k2,k3,_⟩:=Hw h1 h2 e4;obtain⟨_,j2,_,j4⟩:=Hw h1 h0 e3;dsimp only at k2 k3 j2 j4;have hstep:=a3K hv1 hx e1 hpv fs;have hlen:((gi (cg [] n.rules).1.2 fs).take v++n.nodes.drop v).length=(cg [] n.rules).1.2.length:=by
   rw[aX,cM,wT];omega
  have Up:(gi (cg [] n.rules).1.2 fs).drop v=⟨x.parent,x.cond,x.cP,yP (eg (cg [] n.rules).1.2 (dD v)) fs⟩::(gi (cg [] n.rules).1.2 fs).drop (v+1):=by
   rw[mY (by omega)]
   congr 1
   exact qd ((ai (by omega)).symm.trans hx1)
  have qZ:=a4v Vq (by omega) hx1;have t4:KM (gi (cg [] n.rules).1.2 fs) x.parent=yP (eg (cg [] n.rules).1.2 (dD p)) fs:=by unfold KM;rw[m4]
  have t3:KM n.nodes x.parent=yP (eg (cg [] n.rules).1.2 (dD p)) n.facts:=by unfold KM;rw[m3]
  rw[eZ,aZ,hlen,bU (by omega),aW,m1,aA];dsimp only;rw[m2,aA,m3,aA];dsimp only;rw[aAh _ _ j4 (by omega) (by omega),aA,Up,trN,t4,t3,Nq (by omega)];unfold stepT;dsimp only;rcases e7 with⟨g1,g2,g3⟩|⟨a,y,g1,g2,g3,g4⟩
  ·rw[bU (by simpa using g1),aW,a2o _ x.cond [] e6 ⟨by simp,fun f hf=>by cases hf⟩ (fun t ht=>(k3 t ht).le (by omega)) (by simp;omega),aA,a2P g2 g3 fs,<-hstep,o6,qZ,ih (v+1) fu _ (by omega) (by omega) (by omega),bQ g1]
  ·have ha0:¬x.cP<0:=by rw[g1];unfold dD;omega
   have n1:mC (jR (cg [] n.rules).1.1 fs) x.cP=some ⟨y.shape,uc y.shape [] fs⟩:=by
    rw[g1,B8];unfold jR;rw[c8,g2];rfl
   have n2:mC (K9 f n.ay) x.cP=some (ug y.shape f []).2:=by
    rw[g1,B8,hA];unfold K9 jR;rw[qt,c8,g2];rfl
   have hfl:(uc y.shape [] fs).length<=24:=by
    unfold uc;exact cS (qR _ _) (um h2)
   have aC9:FS (uc y.shape [] fs):=⟨by omega,fun f hf=>hFS.2 f (fo.1 hf).1⟩
   have hnx:xy (uc y.shape [] fs) (yP (eg (cg [] n.rules).1.2 (dD p)) fs) x.cond=yP (eg (cg [] n.rules).1.2 (dD v)) fs:=by
    rw[g3,Zl (by omega),hstep]
   rw[b9 (by simpa using ha0),af,n1,aA];dsimp only;rw[a2o _ x.cond _ e6 aC9 (fun t ht=>(k3 t ht).le (by omega)) (by
    have:(yP (eg (cg [] n.rules).1.2 (dD p)) fs).length*((uc y.shape [] fs).length+1)<=390625*25:=G4 k2 (by omega);omega),aA,hnx,n2,aA,o6,qZ,bG ha0,aZ]
   cases(ug y.shape f []).2 with
   |true=>rw[aW,aW,ih (v+1) fu _ (by omega) (by omega) (by omega)]
   |false=>rw[af,af,ih (v+1) fu _ (by omega) (by omega) (by omega)]
theorem aDM(n:aF)(fs:aP)(f:aE)(hn:isB n=true)(hr:jy aO.wt n.rules<=1048576)(h2:pK fs=true)(hf:f.wt<=1048576):ua n fs f=some (a14 n fs f):=by
 obtain⟨h1,h0,ht,e⟩:=Wq hn;have hFS:=FS.Dr (by have:=DG h2;omega:jy aE.wt fs<=1048576);have hok:G7 n:=by rw[e];exact X5 _ h1 h0 hr
 have hN:n.nodes=gi (cg [] n.rules).1.2 n.facts:=congrArg aF.nodes e;have hA:n.ay=jR (cg [] n.rules).1.1 n.facts:=congrArg aF.ay e;have hE:n.ends=(cg [] n.rules).2:=congrArg aF.ends e;have hfA:jR n.ay fs=jR (cg [] n.rules).1.1 fs:=by
  rw[hA];unfold jR;rw[qt];rfl
 have hb1:=Dw [] (u7 h1) (Bb h1);have hpos:=(zS [] n.rules).1.pos;have hal:=hok.ay;unfold ua;rw[XI n hok,aA,Dv fs hFS.1 hFS.args,aA];have a1:=a6N n fs f n fs (fun(iO:List Bool) (wN:b8)=>(eZ n n fs iO wN (fun(og:Int) (vV:az)=>(some (⟨n.rules,n.ends,wN,vV,fs,og⟩:aF))) fuel 1 n.cL n.nodes)) hFS hf n.ay (fun a ha=>(hok.cP a ha).1) hok.ay n.ay [] fuel rfl (by unfold fuel;omega);refine a1.trans ?_;rw[hfA];have a2:=aAV n fs f n fs (fun(og:Int) (vV:az)=>(some (⟨n.rules,n.ends,jR (cg [] n.rules).1.1 fs,vV,fs,og⟩:aF))) h1 h0 h2 hN hA ((cg [] n.rules).1.2.length -1) 1 fuel n.cL (by omega) (bR _) (by unfold fuel;omega);have a3:(gi (cg [] n.rules).1.2 fs).take 1++n.nodes.drop 1=n.nodes:=by rw[hN];exact Zd _ _ _
 rw[a3]at a2;refine a2.trans ?_;unfold a14 Lw;rw[hE]
def Zq(n:aF)(f:aE):aF×Bool:=bif isB n&&(PK n.facts f).2 then(a14 n (PK n.facts f).1 f,true)else(n,false)
def a6i(n m:aF):Prop:=m=n\/∃fs t,zN m.rules=true/\m.rules=n.rules/\pK fs=true/\m=Lw m.rules fs t
theorem Zr(n:aF)(f:aE):a6i n (Zq n f).1:=by
 unfold Zq;cases hb:isB n&&(PK n.facts f).2 with
 |false=>exact .inl rfl
 |true=>
  rw[aY]at hb;exact .inr ⟨_,_,(Wq hb.1).1,rfl,Ss hb.2,rfl⟩
theorem a4x{rs:au}{fs:aP}(t:Int)(h1:zN rs=true)(h2:pK fs=true)(hr:jy aO.wt rs<=1048576):aF.Aa (Lw rs fs t)<=4611686018427387000:=by
 have hok:=X5 t h1 h2 hr;have hv:=u7 h1;have h6:=Bb h1;have h24:=um h2;have hl:=Dw [] hv h6;have a1:=pF aO.iN aO.wt rs (fun y=>aO.nc y);have a2:=zQ (m:=fun _:Int=>1) (B:=1) (cg [] rs).2 (fun _ _=>bR _);rw[(zS [] rs).2.1]at a2;have a3:=zQ (m:=aQ.iN) (B:=6291468+6291462*24) (jR (cg [] rs).1.1 fs) (fun a ha=>by
  obtain⟨g1,g2⟩:=hok.cP a ha;have b1:=aE.nc a.shape;have b3:a.facts.length<=24:=by
   obtain⟨y,_,rfl⟩:=cI.1 ha;exact cS (qR _ _) h24
  have b2:=SJ (n:=24) a.facts b3 g2.2;unfold aQ.iN;unfold aE.iN at b1;omega)
 have a4:=zQ (m:=Node.iN) (B:=6291468+100000000*390625) (gi (cg [] rs).1.2 fs) (fun x hx=>by
  obtain⟨i,hi⟩:=cm hx;obtain⟨g1,g2,g3,_⟩:=Hw h1 h2 hi;have b1:=aE.nc x.cond.pat;have b0:=aN.fJ g1;have b2:=zQ (m:=aI.iN) (B:=100000000) x.tokens (fun u hu=>(g3 u hu).iN);have b3:100000000*x.tokens.length<=100000000*390625:=eN _ g2;unfold Node.iN;unfold aE.iN at b1;omega)
 have a5:=pF aE.iN aE.wt fs (fun y=>aE.nc y);have a6:=DG h2;have a7:=RC [] h1;rw[Di]at a3;rw[Dj]at a4;have c3:(6291468+6291462*24)*(cg [] rs).1.1.length<=(6291468+6291462*24)*24:=eN _ a7;have c4:(6291468+100000000*390625)*(cg [] rs).1.2.length<=(6291468+100000000*390625)*25:=eN _ hl;unfold aF.Aa Lw;dsimp only;omega
theorem a6i.iN{n m:aF}(h:a6i n m)(hw:n.wt<=1048576):(aF.Aa m:Int)<=4611686018427387000:=by
 rcases h with rfl|⟨fs,t,h1,h2,h3,h4⟩
 ·have:=aF.Pp m;omega
 ·rw[h4];have:=a4x t h1 h3 (by rw[h2];exact(G7.Dr hw).rules);omega
theorem aAj(n:aF)(f:aE)(h:G7 n)(hf:f.wt<=1048576):mQ n f=some (Zq n f):=by
 unfold mQ Zq;rw[aAU n.facts f h.facts hf,aA,a8E n h.rules h.facts,aA];cases hb:isB n with
 |false=>rw[cQ,aW,XI n h];rfl
 |true=>
  rw[bP,af];cases ha:(PK n.facts f).2 with
  |false=>rw[cQ,aW,XI n h];rfl
  |true=>rw[bP,af,aDM n _ f hb h.rules (Ss ha) hf];rfl
theorem aA0(n:aF)(f:aE)(h:G7 n)(hf:f.wt<=1048576):jW n f=some (Zq n f):=by
 unfold jW EL Zq;rw[a7Z n h.rules h.facts,aA];cases hb:isB n with
 |false=>rw[cQ,aW,Wo n h];rfl
 |true=>
  rw[bP,af,a9n n.facts f h.facts hf,aA];cases ha:(PK n.facts f).2 with
  |false=>rw[cQ,aW,Wo n h];rfl
  |true=>rw[bP,af,aCz n _ f hb h.rules (Ss ha) hf];rfl
end Go.Cx
namespace Go.Cx
open Go.RowKit Go.Proofs Tryz
set_option maxRecDepth 100000
variable{Γ:vY}{N:Nat->St->Prop}
def lX(aB:aF)(aV:aE):Option Bool:=((tF aB 1048576).bind fun y1=>(bif decide ((y1:Int)<0)then(some true)else((rS aV y1).bind fun y4=>(bif decide ((y4:Int)<0)then(some true)else((kw aB).bind fun y7=>((lK aV).bind fun y9=>((mQ y7 y9).bind fun Pv=>((kw aB).bind fun s8=>((lK aV).bind fun Vu=>((jW s8 Vu).bind fun KN=>((kq KN.1 Pv.1).bind fun y19=>(bif !(y19)then(some false)else(bif (KN.2:Bool) != Pv.2 then(some false)else((kw aB).bind fun y23=>((kq s8 y23).bind fun Xn=>(bif !(Xn)then(some false)else((lK aV).bind fun y28=>((rQ Vu y28).bind fun y30=>(bif !(y30)then(some false)else((kL s8 1).bind fun BR=>((qj Vu BR.2).bind fun y35=>(bif decide ((y35.2:Int)<0)then(some false)else((kq KN.1 Pv.1).bind fun Nz=>(bif !(Nz)then(some false)else((kL KN.1 1).bind fun o4=>((kK (⟨o4.1.rules,o4.1.ends,o4.1.ay,o4.1.nodes,o4.1.facts,KN.1.cL⟩:aF) 1).bind fun F4=>(bif decide ((F4:Int)<0)then(some false)else(bif (F4:Int) != o4.2 then(some false)else((kw aB).bind fun y47=>((lK aV).bind fun K1=>((jW y47 K1).bind fun y51=>((kq y51.1 Pv.1).bind fun y53=>(bif !(y53)then(some false)else(bif (y51.2:Bool) != Pv.2 then(some false)else((kK (⟨o4.1.rules,o4.1.ends,o4.1.ay,o4.1.nodes,o4.1.facts,KN.1.cL⟩:aF) 1).bind fun y57=>(bif decide ((y57:Int)<0)then(some false)else(bif (y57:Int) != o4.2 then(some false)else(some true))))))))))))))))))))))))))))))))))))))
theorem ym{aB:aF}{aV:aE}{r:Bool}(h:lX aB aV=some r):Good prog 10 [D.agg (aF.c aB),D.agg (aE.c aV)] (D.bool r):=by
 refine gd func10 [[none]] 119 fun hr Γ hΓ=>?_
 rw[lX]at h;obtain⟨y1,h2,h⟩:=aD h;obtain⟨h3,h⟩|⟨h3,h⟩:=aK h
 ·have h:=aG h;subst h;exact(((aU.a [.dc (D.int .i64 y1)]).w (zE h2)).b h3).ret hΓ
 ·obtain⟨y4,h5,h⟩:=aD h;have k7:=(((((aU.a [.dc (D.int .i64 y1)]).w (zE h2)).b h3).a [.dc (D.int .i64 y4)]).w (Br h5))
  obtain⟨h6,h⟩|⟨h6,h⟩:=aK h
  ·have h:=aG h;subst h;exact(k7.b h6).ret hΓ
  ·obtain⟨y7,h8,h⟩:=aD h;obtain⟨y9,h10,h⟩:=aD h;obtain⟨Pv,h12,h⟩:=aD h;obtain⟨s8,h14,h⟩:=aD h;obtain⟨Vu,h16,h⟩:=aD h;obtain⟨KN,h18,h⟩:=aD h;obtain⟨y19,h20,h⟩:=aD h;have dH:=(((((((((((((k7.b h6).a [.n 10]).gs (qV h8)).gs (qG h10)).g (Cr h12)).a [.dc (D.agg [D.fr 105 4 (s8.rules.map aO.c),D.fr 3 1 (s8.ends.map di),D.fr 111 3 (s8.ay.map aQ.c),D.fr 118 8 (s8.nodes.map Node.c),D.fr 53 2 (s8.facts.map aE.c),D.int .i64 s8.cL])]).w (qV h14)).a [.dc (D.agg [D.str Vu.rel,D.fr 9 1 (Vu.args.map tx)])]).w (qG h16)).a [.dc (D.iF [D.agg [D.fr 105 4 (KN.1.rules.map aO.c),D.fr 3 1 (KN.1.ends.map di),D.fr 111 3 (KN.1.ay.map aQ.c),D.fr 118 8 (KN.1.nodes.map Node.c),D.fr 53 2 (KN.1.facts.map aE.c),D.int .i64 KN.1.cL],D.bool KN.2])]).w (xL h18)).a [.dc (D.bool y19)]).w (qT h20))
   obtain⟨h21,h⟩|⟨h21,h⟩:=aK h
   ·have h:=aG h;subst h;exact((dH.r 4 h21).T 1).ret hΓ
   ·have jU:=(dH.r 4 h21)
    obtain⟨h22,h⟩|⟨h22,h⟩:=aK h
    ·have h:=aG h;subst h;exact(jU.b h22).ret hΓ
    ·obtain⟨y23,h24,h⟩:=aD h;obtain⟨Xn,h26,h⟩:=aD h;have iU:=(((((jU.b h22).a [.n 3]).g (qV h24)).a [.dc (D.bool Xn)]).w (qT h26))
     obtain⟨h27,h⟩|⟨h27,h⟩:=aK h
     ·have h:=aG h;subst h;exact(iU.b h27).ret hΓ
     ·obtain⟨y28,h29,h⟩:=aD h;obtain⟨y30,h31,h⟩:=aD h;have tX:=(((((iU.b h27).a [.n 3]).g (qG h29)).a [.dc (D.bool y30)]).w (Bq h31))
      obtain⟨h32,h⟩|⟨h32,h⟩:=aK h
      ·have h:=aG h;subst h;exact(tX.b h32).ret hΓ
      ·obtain⟨BR,h34,h⟩:=aD h;obtain⟨y35,h36,h⟩:=aD h;have wL:=((((tX.b h32).w (yE h34)).w (Gu h36)).a [.gv [8,9,10,11,12] [(4,BR.1.rules.map aO.c),(1,BR.1.ends.map di),(3,BR.1.ay.map aQ.c),(8,BR.1.nodes.map Node.c),(2,BR.1.facts.map aE.c)] (D.int .i64 BR.2),.gv [14] [(1,y35.1.args.map tx)] (D.int .i64 y35.2)])
       obtain⟨h37,h⟩|⟨h37,h⟩:=aK h
       ·have h:=aG h;subst h;exact((wL.r 5 h37).T 5).ret hΓ
       ·obtain⟨Nz,h39,h⟩:=aD h;have AM:=((((wL.r 3 h37).a [.dc (D.bool Nz)]).w (qT h39)).r 2 h37)
        obtain⟨h40,h⟩|⟨h40,h⟩:=aK h
        ·have h:=aG h;subst h;exact((AM.r 4 h40).T 1).ret hΓ
        ·obtain⟨o4,h42,h⟩:=aD h;obtain⟨F4,h44,h⟩:=aD h;have D7:=(((((AM.r 4 h40).b h22).w (yE h42)).a [.gv [16,17,18,19,20] [(4,o4.1.rules.map aO.c),(1,o4.1.ends.map di),(3,o4.1.ay.map aQ.c),(8,o4.1.nodes.map Node.c),(2,o4.1.facts.map aE.c)] (D.int .i64 o4.2),.dc (D.int .i64 F4)]).w (show Good prog 21 [D.agg [D.sl (o4.1.rules.map aO.c),D.sl (o4.1.ends.map di),D.sl (o4.1.ay.map aQ.c),D.sl (o4.1.nodes.map Node.c),D.sl (o4.1.facts.map aE.c),D.int .i64 KN.1.cL],D.int .i64 1] (D.int .i64 F4)from by first| (simpa only[bS,bH,bX,dl,dR]using iQ h44)|exact iQ h44| (have t:=iQ h44;simp only[bS,dl,dR,aF.c]at t;exact t)))
         obtain⟨h45,h⟩|⟨h45,h⟩:=aK h
         ·have h:=aG h;subst h;exact(D7.b h45).ret hΓ
         ·obtain⟨h46,h⟩|⟨h46,h⟩:=aK h
          ·have h:=aG h;subst h;exact((D7.b h45).b h46).ret hΓ
          ·obtain⟨y47,h48,h⟩:=aD h;obtain⟨K1,h50,h⟩:=aD h;obtain⟨y51,h52,h⟩:=aD h;obtain⟨y53,h54,h⟩:=aD h;have Hz:=((((((((D7.b h45).b h46).a [.n 10]).gs (qV h48)).gs (qG h50)).g (xL h52)).a [.dc (D.bool y53)]).w (qT h54))
           obtain⟨h55,h⟩|⟨h55,h⟩:=aK h
           ·have h:=aG h;subst h;exact((Hz.r 4 h55).T 1).ret hΓ
           ·have yj:=(Hz.r 4 h55)
            obtain⟨h56,h⟩|⟨h56,h⟩:=aK h
            ·have h:=aG h;subst h;exact(yj.b h56).ret hΓ
            ·obtain⟨y57,h58,h⟩:=aD h;have D1:=(((yj.b h56).a [.dc (D.int .i64 y57)]).w (show Good prog 21 [D.agg [D.sl (o4.1.rules.map aO.c),D.sl (o4.1.ends.map di),D.sl (o4.1.ay.map aQ.c),D.sl (o4.1.nodes.map Node.c),D.sl (o4.1.facts.map aE.c),D.int .i64 KN.1.cL],D.int .i64 1] (D.int .i64 y57)from by first| (simpa only[bS,bH,bX,dl,dR]using iQ h58)|exact iQ h58| (have t:=iQ h58;simp only[bS,dl,dR,aF.c]at t;exact t)))
             obtain⟨h59,h⟩|⟨h59,h⟩:=aK h
             ·have h:=aG h;subst h;exact(D1.b h59).ret hΓ
             ·obtain⟨h60,h⟩|⟨h60,h⟩:=aK h
              ·have h:=aG h;subst h;exact((D1.b h59).b h60).ret hΓ
              ·have h:=aG h;subst h;exact((D1.b h59).b h60).ret hΓ
end Go.Cx
namespace Go.Cx
open Go.RowKit Go.Proofs Tryz
namespace LawPutInNetwork
theorem both(n:aF)(f:aE)(h:n.wt+f.wt<=1048576):∃s,mQ n f=some s/\jW n f=some s/\(aF.Aa s.1:Int)<=4611686018427387000:=by
 have hok:=G7.Dr (n:=n) (by omega);exact⟨_,aAj n f hok (by omega),aA0 n f hok (by omega),(Zr n f).iN (by omega)⟩
theorem a7q(n:aF)(f:aE)(hn:xG (aF.c n))(hf:xG (aE.c f)):lX n f=some true:=by
 unfold lX;obtain⟨r0,e0,l0,w0⟩:=Ts n hn 1048576 (by omega) (by omega);rw[e0,aA];by_cases c0:r0<0
 ·simp[c0]
 have n0:decide ((r0:Int)<0)=false:=b9 c0;rw[n0,af];have w0:=w0 (by omega);obtain⟨r1,e1,l1,w1⟩:=SU f hf r0 (by omega) (by omega);rw[e1,aA];by_cases c1:r1<0
 ·simp[c1]
 have n1:decide ((r1:Int)<0)=false:=b9 c1;rw[n1,af];have w1:=w1 (by omega);have hw:aF.wt n+aE.wt f<=1048576:=by omega
 obtain⟨s,es,ei,hm⟩:=both n f (by omega);have b0:=aF.Pp n;obtain⟨x0,m0,_⟩:=TT n 1 (by omega) (by omega);have b1:=aE.Pp f;obtain⟨x1,m1,_⟩:=Ze f (1+((aF.Aa n:Nat):Int)) (by omega) (by omega);obtain⟨g0,p0,q0,z0⟩:=KB s.1 1 (by omega) (by omega);have aDC:decide (((1+((aF.Aa n:Nat):Int)+((aE.Aa f:Nat):Int)):Int)<0)=false:=b9 (by omega);have aDD:decide (((1+((aF.Aa s.1:Nat):Int)):Int)<0)=false:=b9 (by omega);simp only[es,ei,Tw n (by omega),T0,SX f (by omega),S5,m0,m1,z0,p0,q0,aDC,aDD,aA,CT,bP,cQ,af,aW,gF,cw]
theorem a25(n:aF)(f:aE):Good prog 10 [.agg (aF.c n),.agg (aE.c f)] (.bool true):=
 Good.a7v ⟨_,func10,rfl,by decide⟩ fun h=>ym (a7q n f (dU.agg (h _ (by simp))) (dU.agg (h _ (by simp))))
end LawPutInNetwork
end Go.Cx
namespace Go.Cx
open Go.RowKit
inductive Sh where
 |int (k:IntKind)
 |str
 |bool
 |sl (row:List Sh)
mutual
inductive RQ:Sh->D->Prop
 |int (k:IntKind) (n:Int):RQ (.int k) (.int k n)
 |str (s:Bytes):RQ .str (.str s)
 |bool (b:Bool):RQ .bool (.bool b)
 |sl (row:List Sh) (rows:List aS):(∀r∈rows,oo row r)->RQ (.sl row) (.sl rows)
inductive oo:List Sh->List D->Prop
 |nil:oo [] []
 |cons (s:Sh) (ss:List Sh) (d:D) (ds:aS):RQ s d->oo ss ds->oo (s::ss) (d::ds)
end
theorem oo.app{s1 s2:List Sh}{d1 d2:aS}(h1:oo s1 d1)(h2:oo s2 d2):oo (s1++s2) (d1++d2):=by
 induction s1 generalizing d1 with
 |nil=>cases h1;exact h2
 |cons s s1 ih=>cases h1 with|cons _ _ d ds h h'=>exact .cons _ _ _ _ h (ih h')
theorem oo.length{s:List Sh}{d:aS}(h:oo s d):d.length=s.length:=by
 induction s generalizing d with
 |nil=>cases h;rfl
 |cons s ss ih=>cases h with|cons _ _ d ds h h'=>simp[ih h']
def TX(P:Program):Nat->List Field->List (List Sh)->Bool
 |_,[],[]=>true
 |off,f::fs,r::rs=>(f.offset==off)&&(r.length==P.cellsOf f.type)&&TX P (off+r.length) fs rs
 |_,_,_=>false
def CX(P:Program):Nat->TypeId->Option (List Sh)
 |0,_=>none
 |n+1,t=>match P.underlying t with
  |some .bool=>some [.bool]
  |some (.int k)=>some [.int k]
  |some .string=>some [.str]
  |some (.slice e)=>(CX P n e).bind fun r=>if r.length=P.cellsOf e/\0<r.length then some [.sl r]else none
  |some (.struct fs)=>(fs.toList.mapM fun f=>CX P n f.type).bind fun rs=>if TX P 0 fs.toList rs=true/\rs.flatten.length=P.cellsOf t then some rs.flatten else none
  |_=>none
theorem VA{α β:Type}{f:α->Option β}:∀ {l:List α} {ys:List β},l.mapM f=some ys->ys.length=l.length/\∀(i:Nat) x,l[i]?=some x->∃y,ys[i]?=some y/\f x=some y:=by
 intro l
 induction l with
 |nil=>intro ys h;simp at h;subst h;simp
 |cons a l ih=>
  intro ys h;simp only[G3,Option.bind_eq_bind,Option.pure_def]at h;cases ha:f a with
  |none=>simp[ha]at h
  |some b=>
   cases hl:l.mapM f with
   |none=>simp[ha,hl]at h
   |some bs=>
    simp[ha,hl]at h;subst h;obtain⟨h1,h2⟩:=ih hl;refine⟨by simp[h1],fun i x hx=>?_⟩;cases i with
    |zero=>simp at hx;subst hx;exact⟨b,by simp,ha⟩
    |succ i=>simp at hx;obtain⟨y,k1,k2⟩:=h2 i x hx;exact⟨y,by simpa using k1,k2⟩
section
variable{P:Program}{w:World}{H:Type}{enc:TypeId×Value->H}{base:Nat}{sp:Nat->Bool}{held:Bool}
theorem QA{a:Addr}{n:Nat}{cs:br}(h:w.cells? base a n=some cs):cs.length=n/\∀(j:Nat) c,cs[j]?=some c->w.cell? (a.add j)=some c:=by
 unfold World.cells? at h;split at h
 ·obtain⟨h1,h2⟩:=VA h;refine⟨by simpa using h1,fun j c hj=>?_⟩;have hlt:j<n:=by have:=(aH.1 hj).1;rw[h1]at this;simpa using this
  obtain⟨y,k1,k2⟩:=h2 j j (by simp[hlt]);rw[hj]at k1;cases k1;exact k2
 ·cases h
theorem a7r{k:IntKind}{n:Int}(h:(Lit.int k n).wf=true):tU k n:=by
 simpa[Lit.wf,tU]using h
theorem Yj:∀(fuel:Nat) {t:TypeId} {cs:br} {d:DataW H} {ps:List MemPlace} {n:Nat} {shs:List Sh},
 DataW.trod enc P w base sp held fuel t cs=some (d,ps)->CX P n t=some shs->∃ds bs,mS w cs ds bs/\oo shs ds:=by
 intro fuel
 induction fuel with
 |zero=>intro t cs d ps n shs h;simp[DataW.trod]at h
 |succ fuel ih=>
  intro t cs d ps n shs h hf;cases n with
  |zero=>simp[CX]at hf
  |succ n=>
   simp only[CX]at hf;simp only[DataW.trod]at h;split at hf
   ·rename_i hu;cases hf;simp only[hu]at h;split at h<;>rename_i h1<;>try(simp at h1;done)
    all_goals try(cases h;done)
    all_goals simp at h1
    exact⟨[.bool _],[],.cons _ _ _ _ [] [] rfl (.bool _) .nil,.cons _ _ _ _ (.bool _) .nil⟩
   ·rename_i k hu;cases hf;simp only[hu]at h;split at h<;>rename_i h1<;>try(simp at h1;done)
    all_goals try(cases h;done)
    all_goals simp at h1
    rename_i k1 k2 m _;subst h1;split at h
    ·rename_i hc;obtain⟨rfl,hwf⟩:=hc;exact⟨[.int _ _],[],.cons _ _ _ _ [] [] rfl (.int _ _ (a7r hwf)) .nil,.cons _ _ _ _ (.int _ _) .nil⟩
    ·cases h
   ·rename_i hu;cases hf;simp only[hu]at h;split at h<;>rename_i h1<;>try(simp at h1;done)
    all_goals try(cases h;done)
    all_goals simp at h1
    split at h
    ·rename_i hc;exact⟨[.str _],[],.cons _ _ _ _ [] [] rfl (.str _ hc) .nil,.cons _ _ _ _ (.str _) .nil⟩
    ·cases h
   ·rename_i e hu;cases hr:CX P n e with
    |none=>simp[hr]at hf
    |some r=>
     simp only[hr,aA]at hf;split at hf
     ·rename_i hsz;cases hf;simp only[hu]at h;split at h<;>rename_i h1<;>try(simp at h1;done)
      all_goals try(cases h;done)
      all_goals simp at h1
      ·exact⟨[.sl []],[],.cons _ _ _ _ [] [] rfl .B1 .nil,.cons _ _ _ _ (.sl _ _ (by simp)) .nil⟩
      ·rename_i a len cap
       try subst h1
       split at h
       ·rename_i hc;cases hm:(List.range len).mapM (fun i=>(w.cells? base (a.add (i*P.cellsOf e)) (P.cellsOf e)).bind (DataW.trod enc P w base sp held fuel e))with
        |none=>simp[hm]at h
        |some elems=>
         obtain⟨_,hall⟩:=VA hm;have hel:∀i,i<len->∃cs ds bs,w.cells? base (a.add (i*P.cellsOf e)) (P.cellsOf e)=some cs/\mS w cs ds bs/\oo r ds:=by
          intro i hi;obtain⟨y,_,hy⟩:=hall i i (by simp[hi]);obtain⟨cs,hcs,hy⟩:=o8.1 hy;obtain⟨ds,bs,k1,k2⟩:=ih (d:=y.1) (ps:=y.2) hy hr;exact⟨cs,ds,bs,hcs,k1,k2⟩
         by_cases hl0:len=0
         ·subst hl0;exact⟨[.sl []],[],.cons _ _ _ _ [] [] rfl (.pH a cap hc.2.2) .nil,.cons _ _ _ _ (.sl _ _ (by simp)) .nil⟩
         ·
          obtain⟨cs0,ds0,bs0,a1I,hr0,aEd⟩:=hel 0 (by omega);obtain⟨hl1,hat⟩:=QA a1I;have hpos:0<cs0.length:=by rw[hl1];omega
          have hc0:=hat 0 cs0[0] (ai hpos);have ha0:(a.add (0*P.cellsOf e)).add 0=a:=by simp[Addr.add]
          rw[ha0]at hc0;obtain⟨b,off,spot⟩:=a;have a9f:spot=none:=by
           cases spot with
           |none=>rfl
           |some x=>
            unfold World.cell? at hc0;split at hc0
            ·simp at hc0
            ·cases hc0
          subst a9f;have hb:b<w.heap.size:=World.block_lt_of_cell? w _ hc0;have build:∀m,m<=len->∃(rows:List aS) (cs:br) (bs:aa),rows.length=m/\cs.length=m*P.cellsOf e/\(∀(j:Nat) c,cs[j]?=some c->w.cell? ⟨b,off+j,none⟩=some c)/\
           mS w cs rows.flatten bs/\∀x∈rows,oo r x:=by
           intro m
           induction m with
           |zero=>intro _;exact⟨[],[],[],rfl,by simp,by simp,.nil,by simp⟩
           |succ m ihm=>
            intro hm1;obtain⟨rows,cs,bs,q1,q2,q3,q4,q5⟩:=ihm (by omega);obtain⟨cs',ds',bs',g1,g2,g3⟩:=hel m (by omega);obtain⟨g4,g5⟩:=QA g1;refine⟨rows++[ds'],cs++cs',bs++bs',by simp[q1],by simp[q2,g4,kW],?_,?_,?_⟩
            ·intro j c hj;by_cases hlt:j<cs.length
             ·rw[bA hlt]at hj;exact q3 j c hj
             ·rw[bE (by omega)]at hj;have:=g5 _ c hj;rw[Addr.add_lit,Addr.add_lit,q2]at this;have e1:off+m*P.cellsOf e+(j-m*P.cellsOf e)=off+j:=by omega
              rw[e1]at this;exact this
            ·rw[lz];have:=q4.app g2;simpa using this
            ·intro x hx;rcases ar.1 hx with hx|hx
             ·exact q5 x hx
             ·simp at hx;subst hx;exact g3
          obtain⟨rows,cs,bs,q1,q2,q3,q4,q5⟩:=build len (bR _);subst q1;refine⟨[.sl rows],b::bs,?_,.cons _ _ _ _ (.sl _ _ q5) .nil⟩;have:=mS.cons (w:=w) _ [] _ [] _ [] rfl (Rd.sl b off cap r.length rows cs bs hb hc.2.1 hc.2.2 (fun x hx=>(q5 x hx).length) q3 q4) .nil;simpa using this
       ·cases h
     ·cases hf
   ·rename_i fs hu;cases hr:fs.toList.mapM (fun f=>CX P n f.type)with
    |none=>simp[hr]at hf
    |some rs=>
     simp only[hr,aA]at hf;split at hf
     ·rename_i hok;cases hf;simp only[hu]at h;split at h
      ·rename_i hlen;cases hm:fs.toList.mapM (fun f=>DataW.trod enc P w base sp held fuel f.type ((cs.drop f.offset).take (P.cellsOf f.type)))with
       |none=>simp[hm]at h
       |some xs=>
        have go:∀(fl:List Field) (rl:List (List Sh)) (xl:List (DataW H×List MemPlace)) (off:Nat),fl.mapM (fun f=>CX P n f.type)=some rl->
         fl.mapM (fun f=>DataW.trod enc P w base sp held fuel f.type ((cs.drop f.offset).take (P.cellsOf f.type)))=some xl->TX P off fl rl=true->
         ∃ds bs,mS w ((cs.drop off).take rl.flatten.length) ds bs/\oo rl.flatten ds:=by
         intro fl
         induction fl with
         |nil=>
          intro rl xl off h1 _ _;simp at h1;subst h1;exact⟨[],[],by simpa using mS.nil,.nil⟩
         |cons f fl ihf=>
          intro rl xl off h1 h2 h3;simp only[G3,Option.bind_eq_bind,Option.pure_def]at h1 h2;cases a1:CX P n f.type with
          |none=>simp[a1]at h1
          |some r1=>
           cases a2:fl.mapM (fun f=>CX P n f.type)with
           |none=>simp[a1,a2]at h1
           |some rl'=>
            simp[a1,a2]at h1;subst h1;cases b1:DataW.trod enc P w base sp held fuel f.type ((cs.drop f.offset).take (P.cellsOf f.type))with
            |none=>simp[b1]at h2
            |some x1=>
             cases b2:fl.mapM (fun f=>DataW.trod enc P w base sp held fuel f.type ((cs.drop f.offset).take (P.cellsOf f.type)))with
             |none=>simp[b1,b2]at h2
             |some xl'=>
              simp only[TX,aY,cj]at h3;obtain⟨⟨o1,o2⟩,o3⟩:=h3;obtain⟨ds1,bs1,k1,k2⟩:=ih (d:=x1.1) (ps:=x1.2) b1 a1;obtain⟨ds2,bs2,k3,k4⟩:=ihf rl' xl' (off+r1.length) a2 b2 o3;refine⟨ds1++ds2,bs1++bs2,?_,by simpa using k2.app k4⟩;have e1:(cs.drop off).take (r1::rl').flatten.length=(cs.drop f.offset).take (P.cellsOf f.type)++(cs.drop (off+r1.length)).take rl'.flatten.length:=by
               rw[o1,<-o2,eT,aX,<-gj,List.take_add]
              rw[e1];exact k1.app k3
        obtain⟨ds,bs,k1,k2⟩:=go fs.toList rs xs 0 hr hm hok.1;rw[G2,hok.2,<-hlen,List.take_length]at k1;exact⟨ds,bs,k1,k2⟩
      ·cases h
     ·cases hf
   ·cases hf
def Yy(P:Program)(n:Nat)(t:TypeId)(d:D):Prop:=
 (C9 P t=some true/\∃shs cells,CX P n t=some shs/\d=.agg cells/\oo shs cells)\/(C9 P t=some false/\∃sh,CX P n t=some [sh]/\RQ sh d)
inductive Rm(P:Program)(n:Nat):List TypeId->List D->Prop
 |nil:Rm P n [] []
 |cons (t:TypeId) (ts:List TypeId) (d:D) (ds:aS):Yy P n t d->Rm P n ts ds->Rm P n (t::ts) (d::ds)
def UQ(P:Program)(n:Nat)(t:TypeId):Bool:=
 match C9 P t,CX P n t with
 |some true,some _=>(match P.underlying t with|some (.struct _)=>true|_=>false)
 |some false,some [_]=>true
 |_,_=>false
theorem a2Q{n:Nat}{t:TypeId}{v:Value}{d:DataW H}{ps:List MemPlace}(hok:UQ P n t=true)(hval:Value.okWide P w .any base t v)(h:DataW.Trod enc P w 0 sp held t v d ps):
 ∃x bs,Rd w v x bs/\Yy P n t x:=by
 obtain⟨fuel,h⟩:=h;unfold UQ at hok;split at hok
 ·rename_i shs ht hf;split at hok
  ·rename_i fs hu;unfold Value.okWide at hval;simp only[hu]at hval;obtain⟨cs,rfl,_⟩:=hval;obtain⟨ds,bs,k1,k2⟩:=Yj fuel h hf;refine⟨.agg ds,bs,?_,.inl ⟨ht,shs,ds,hf,rfl,k2⟩⟩;have:=Rd.agg (w:=w) cs.toList ds bs k1;simpa using this
  ·cases hok
 ·rename_i sh ht hf;have hone:v.oneCell'=true:=by
   unfold C9 at ht;split at ht<;>first
    | (cases ht;done)
    |skip
   rename_i dsc h1 h2 hu;unfold Value.okWide at hval;rw[hu]at hval;cases v with
   |agg cs=>
    cases dsc<;>first
     | (exfalso;exact h1 _ rfl)
     | (exfalso;exact h2 _ _ rfl)
     | (simp[Cell.okWide,Cell.ok,hu]at hval)
   |tuple vs=>
    cases dsc<;>first
     | (exfalso;exact h1 _ rfl)
     | (exfalso;exact h2 _ _ rfl)
     | (simp[Cell.okWide,Cell.ok,hu]at hval)
   |_=>rfl
  rw[SN hone]at h;obtain⟨ds,bs,k1,k2⟩:=Yj fuel h hf;cases k2 with
  |cons _ _ x ds' hx hn=>
   cases hn;cases k1 with
   |cons _ _ _ _ b1 b2 _ hrd hn=>exact⟨x,b1,hrd,.inr ⟨ht,sh,hf,hx⟩⟩
 ·cases hok
theorem Zm{n:Nat}:∀ {ts:List TypeId} {vs:br} {ds:List (DataW H)} {ps:List MemPlace},(∀t∈ts,UQ P n t=true)->
 (∀(j:Nat) t v,ts[j]?=some t->vs[j]?=some v->Value.okWide P w .any base t v)->DataW.TrodAll enc P w 0 sp held ts vs ds ps->
 ∃xs bs,Xq w vs xs bs/\Rm P n ts xs/\ds.length=ts.length:=by
 intro ts
 induction ts with
 |nil=>
  intro vs ds ps _ _ h;cases vs with
  |nil=>cases ds with
   |nil=>exact⟨[],[],.nil,.nil,rfl⟩
   |cons=>cases h
  |cons=>cases ds<;>cases h
 |cons t ts ih=>
  intro vs ds ps hok hval h;cases vs with
  |nil=>cases h
  |cons v vs=>
   cases ds with
   |nil=>cases h
   |cons d ds=>
    obtain⟨p,q,h1,h2,rfl⟩:=h;obtain⟨x,b1,k1,k2⟩:=a2Q (hok t (by simp)) (hval 0 t v rfl rfl) h1;obtain⟨xs,b2,k3,k4,k5⟩:=ih (fun u hu=>hok u (by simp[hu])) (fun j u y hj hv=>hval (j+1) u y (by simpa using hj) (by simpa using hv)) h2;exact⟨x::xs,b1++b2,.cons _ _ _ _ _ _ k1 k3,.cons _ _ _ _ k2 k4,by simp[k5]⟩
theorem Rg{W W':World}(hl:laidOutB P=true)(hb:Below W.heap.size W W')(spn:Nat->Bool):∀ {ts:List TypeId} {vs:br} {ds:List (DataW H)} {ps:List MemPlace},
 (∀t∈ts,P.readableRec t=true/\t<P.types.size)->DataW.TrodAll enc P W 0 (fun _=>true) true ts vs ds ps->(∀x∈ps,x.block<W.heap.size)->(∀x∈ps,spn x.block=true)->
 DataW.TrodAll enc P W' 0 spn true ts vs ds ps:=by
 intro ts
 induction ts with
 |nil=>intro vs ds ps _ h _ _;cases vs<;>cases ds<;>first|exact h|cases h
 |cons t ts ih=>
  intro vs ds ps ht h hlt hsp;cases vs with
  |nil=>cases h
  |cons v vs=>
   cases ds with
   |nil=>cases h
   |cons d ds=>
    obtain⟨p,q,h1,h2,rfl⟩:=h;refine⟨p,q,?_,ih (fun u hu=>ht u (by simp[hu])) h2 (fun x hx=>hlt x (by simp[hx])) (fun x hx=>hsp x (by simp[hx])),rfl⟩;exact WideElems.Trod_stays hl (ht t (by simp)).1 (ht t (by simp)).2 h1 (fun x hx=>hb.same (hlt x (by simp[hx]))) (fun x hx=>hsp x (by simp[hx]))
theorem E9.yW{w:World}{v:Value}{b:Bool}{bs ts us:aa}(h:E9 w v (.bool b) bs ts us):v=.bool b:=by
 cases h with|v h=>cases h with|cell h=>cases h with|pure h=>cases h;rfl
theorem TM{f:FuncId}{fn:Func}{s:ChangeSpec}{n rt:Nat}{W:World}{args:Array Value}{ds gs:List (DataW H)}{before:List MemPlace}
 (hl:laidOutB P=true) (YH:∀t∈fn.params.toList,UQ P n t=true/\P.readableRec t=true/\t<P.types.size) (hres:fn.resultTypes= #[rt]) (hrt:P.underlying rt=some .bool)
 (hv:s.vars=[]) (hfn:∀ds:List (DataW H),ds.length=fn.params.toList.length->s.fn H ds= {results:=[.lit (.bool true)],args:=ds})
 (hvs:Sp W fun _=>False) (pP:∀xs,Rm P n fn.params.toList xs->Good P f xs (.bool true))
 (hval:∀(j:Nat) t v,fn.params[j]?=some t->args[j]?=some v->Value.okWide P W .any base t v)
 (hW:DataW.Whole enc P fn.params.toList s.vars false W args.toList ds gs before):
 Calls P f args W fun e W'=>∃v,e=.returned v/\s.post enc P fn false true false false W args v W':=by
 have hW':=hW;obtain⟨p,q,hA,hV,hpq,hz,_⟩:=hW;have hgs:gs=[]/\q=[]:=by
  rw[hv]at hV;cases gs with
  |nil=>exact⟨rfl,hV⟩
  |cons=>cases hV
 obtain⟨rfl,rfl⟩:=hgs;rw[cN]at hpq;subst hpq;obtain⟨xs,bs,k1,k2,k3⟩:=Zm (fun t ht=>(YH t ht).1) (fun j t v hj hv=>hval j t v (by simpa using hj) (by simpa using hv)) hA;have hc:=(pP xs k2).2 W (fun _=>0) args.toList bs hvs k1 (fun _ _=>rfl) (fun b hb=>absurd rfl hb) (fun _=>G5 _);rw[kV]at hc;refine hc.mono ?_;rintro e W' ⟨v,bs',ts,us,rfl,hb,hr,_⟩;refine⟨v,rfl,?_⟩;obtain rfl:=hr.yW;have hlt:=hW'.lt;have hfd:=hfn ds k3;have a1W:∀(b:Nat) (sp:Nat->Bool) (hd:Bool),DataW.TrodAll enc P W' b sp hd fn.resultTypes.toList ((Value.bool true).resultList fn.resultTypes.size) [.lit (.bool true)] []:=by
  intro b sp hd;rw[hres];exact⟨[],[],⟨1,by simp[DataW.trod,hrt,Value.cells]⟩,rfl,rfl⟩
 have hargs:∀spn:Nat->Bool,(∀x∈before,spn x.block=true)->DataW.TrodAll enc P W' 0 spn true fn.params.toList args.toList ds before:=
  fun spn hsp=>Rg hl hb spn (fun t ht=>(YH t ht).2) hA hlt hsp
 have hvars:∀spn:Nat->Bool,DataW.TrodVars enc P W' spn s.vars [] []:=fun spn=>by rw[hv];rfl
 unfold ChangeSpec.post;refine⟨ds,[],before,[],before,[],hW',?_,?_,?_,hb.frame _,fun h=>by cases h⟩
 ·rw[cN,hfd];exact a1W _ _ _
 ·rw[cN,hfd];exact hargs _ (fun x hx=>by simpa using hlt x hx)
 ·rw[cN,hfd];exact hvars _
end
end Go.Cx
namespace Go.Cx
open Go.RowKit
abbrev qc:=List Sh
theorem ZC{α:Type}{c:α->aS}{row:qc}(hc:∀r,oo row r->∃x,r=c x):∀ {rows:List aS},(∀r∈rows,oo row r)->∃l:List α,rows=l.map c:=by
 intro rows
 induction rows with
 |nil=>intro _;exact⟨[],rfl⟩
 |cons r rows ih=>
  intro h;obtain⟨x,rfl⟩:=hc r (h r (by simp));obtain⟨l,rfl⟩:=ih (fun s hs=>h s (by simp[hs]));exact⟨x::l,rfl⟩
theorem sB{α:Type}{c:α->aS}{row:qc}(hc:∀r,oo row r->∃x,r=c x){d:D}(h:RQ (.sl row) d):∃l:List α,d=.sl (l.map c):=by
 cases h with
 |sl _ rows hr=>
  obtain⟨l,rfl⟩:=ZC hc hr;exact⟨l,rfl⟩
theorem sL{d:D}(h:RQ .str d):∃s,d=.str s:=by cases h;exact⟨_,rfl⟩
theorem zj{k:IntKind}{d:D}(h:RQ (.int k) d):∃n,d=.int k n:=by cases h;exact⟨_,rfl⟩
theorem cX{s:Sh}{ss:qc}{ds:aS}(h:oo (s::ss) ds):∃d r,ds=d::r/\RQ s d/\oo ss r:=by
 cases h with|cons _ _ d r h1 h2=>exact⟨d,r,rfl,h1,h2⟩
theorem sM{ds:aS}(h:oo [] ds):ds=[]:=by cases h;rfl
theorem MN(r:aS)(h:oo [.str] r):∃s,r=tx s:=by
 obtain⟨_,_,rfl,h1,h⟩:=cX h;cases sM h;obtain⟨s,rfl⟩:=sL h1;exact⟨s,rfl⟩
theorem a4G(r:aS)(h:oo [.int .i64] r):∃s,r=di s:=by
 obtain⟨_,_,rfl,h1,h⟩:=cX h;cases sM h;obtain⟨s,rfl⟩:=zj h1;exact⟨s,rfl⟩
abbrev To:List Sh:=[.str,.sl [.str]]
theorem IE(r:aS)(h:oo To r):∃x:aE,r=x.c:=by
 obtain⟨_,_,rfl,h1,h⟩:=cX h;obtain⟨_,_,rfl,h2,h⟩:=cX h;cases sM h;obtain⟨a,rfl⟩:=sL h1;obtain⟨b,rfl⟩:=sB MN h2;exact⟨⟨a,b⟩,rfl⟩
abbrev a32:List Sh:=[.str,.str]
theorem ZA(r:aS)(h:oo a32 r):∃x:aR,r=x.c:=by
 obtain⟨_,_,rfl,h1,h⟩:=cX h;obtain⟨_,_,rfl,h2,h⟩:=cX h;cases sM h;obtain⟨a,rfl⟩:=sL h1;obtain⟨b,rfl⟩:=sL h2;exact⟨⟨a,b⟩,rfl⟩
abbrev a2z:List Sh:=[.int .i64,.str,.sl [.str],.str,.str]
theorem Z8(r:aS)(h:oo a2z r):∃x:aN,r=x.c:=by
 obtain⟨_,_,rfl,h1,h⟩:=cX h;obtain⟨_,_,rfl,h2,h⟩:=cX h;obtain⟨_,_,rfl,h3,h⟩:=cX h;obtain⟨_,_,rfl,h4,h⟩:=cX h;obtain⟨_,_,rfl,h5,h⟩:=cX h;cases sM h;obtain⟨a,rfl⟩:=zj h1;obtain⟨b,rfl⟩:=sL h2;obtain⟨c,rfl⟩:=sB MN h3;obtain⟨d,rfl⟩:=sL h4;obtain⟨e,rfl⟩:=sL h5;exact⟨⟨a,⟨b,c⟩,d,e⟩,rfl⟩
abbrev VT:List Sh:=[.int .i64,.str,.sl [.str]]
theorem Uc(r:aS)(h:oo VT r):∃x:Action,r=x.c:=by
 obtain⟨_,_,rfl,h1,h⟩:=cX h;obtain⟨_,_,rfl,h2,h⟩:=cX h;obtain⟨_,_,rfl,h3,h⟩:=cX h;cases sM h;obtain⟨a,rfl⟩:=zj h1;obtain⟨b,rfl⟩:=sL h2;obtain⟨c,rfl⟩:=sB MN h3;exact⟨⟨a,⟨b,c⟩⟩,rfl⟩
abbrev a33:List Sh:=[.str,.int .i64,.sl a2z,.sl VT]
theorem ZB(r:aS)(h:oo a33 r):∃x:aO,r=x.c:=by
 obtain⟨_,_,rfl,h1,h⟩:=cX h;obtain⟨_,_,rfl,h2,h⟩:=cX h;obtain⟨_,_,rfl,h3,h⟩:=cX h;obtain⟨_,_,rfl,h4,h⟩:=cX h;cases sM h;obtain⟨a,rfl⟩:=sL h1;obtain⟨b,rfl⟩:=zj h2;obtain⟨c,rfl⟩:=sB Z8 h3;obtain⟨d,rfl⟩:=sB Uc h4;exact⟨⟨a,b,c,d⟩,rfl⟩
abbrev Yc:List Sh:=[.sl To,.sl a32]
theorem WK(r:aS)(h:oo Yc r):∃x:aI,r=x.c:=by
 obtain⟨_,_,rfl,h2,h⟩:=cX h;obtain⟨_,_,rfl,h3,h⟩:=cX h;cases sM h;obtain⟨b,rfl⟩:=sB IE h2;obtain⟨c,rfl⟩:=sB ZA h3;exact⟨⟨b,c⟩,rfl⟩
abbrev Yb:List Sh:=[.str,.sl [.str],.sl To]
theorem WJ(r:aS)(h:oo Yb r):∃x:aQ,r=x.c:=by
 obtain⟨_,_,rfl,h1,h⟩:=cX h;obtain⟨_,_,rfl,h2,h⟩:=cX h;obtain⟨_,_,rfl,h3,h⟩:=cX h;cases sM h;obtain⟨v0,rfl⟩:=sL h1;obtain⟨v1,rfl⟩:=sB MN h2;obtain⟨v2,rfl⟩:=sB IE h3;exact⟨⟨⟨v0,v1⟩,v2⟩,rfl⟩
abbrev a30:List Sh:=[.int .i64,.int .i64,.str,.sl [.str],.str,.str,.int .i64,.sl Yc]
theorem Z9(r:aS)(h:oo a30 r):∃x:Node,r=x.c:=by
 obtain⟨_,_,rfl,h1,h⟩:=cX h;obtain⟨_,_,rfl,h2,h⟩:=cX h;obtain⟨_,_,rfl,h3,h⟩:=cX h;obtain⟨_,_,rfl,h4,h⟩:=cX h;obtain⟨_,_,rfl,h5,h⟩:=cX h;obtain⟨_,_,rfl,h6,h⟩:=cX h;obtain⟨_,_,rfl,h7,h⟩:=cX h;obtain⟨_,_,rfl,h8,h⟩:=cX h;cases sM h;obtain⟨v0,rfl⟩:=zj h1;obtain⟨v1,rfl⟩:=zj h2;obtain⟨v2,rfl⟩:=sL h3;obtain⟨v3,rfl⟩:=sB MN h4;obtain⟨v4,rfl⟩:=sL h5;obtain⟨v5,rfl⟩:=sL h6;obtain⟨v6,rfl⟩:=zj h7;obtain⟨v7,rfl⟩:=sB WK h8;exact⟨⟨v0,⟨v1,⟨v2,v3⟩,v4,v5⟩,v6,v7⟩,rfl⟩
abbrev Zz:List Sh:=[.sl a33,.sl [.int .i64],.sl Yb,.sl a30,.sl To,.int .i64]
theorem Sy(r:aS)(h:oo Zz r):∃x:aF,r=x.c:=by
 obtain⟨_,_,rfl,h1,h⟩:=cX h;obtain⟨_,_,rfl,h2,h⟩:=cX h;obtain⟨_,_,rfl,h3,h⟩:=cX h;obtain⟨_,_,rfl,h4,h⟩:=cX h;obtain⟨_,_,rfl,h5,h⟩:=cX h;obtain⟨_,_,rfl,h6,h⟩:=cX h;cases sM h;obtain⟨v0,rfl⟩:=sB ZB h1;obtain⟨v1,rfl⟩:=sB a4G h2;obtain⟨v2,rfl⟩:=sB WJ h3;obtain⟨v3,rfl⟩:=sB Z9 h4;obtain⟨v4,rfl⟩:=sB IE h5;obtain⟨v5,rfl⟩:=zj h6;exact⟨⟨v0,v1,v2,v3,v4,v5⟩,rfl⟩
section
variable{P:Program}{n:Nat}{t:TypeId}{d:D}
theorem Yy.struct{α:Type}{c:α->aS}{shs:qc}(hc:∀r,oo shs r->∃x,r=c x)(ha:C9 P t=some true)(hf:CX P n t=some shs)(h:Yy P n t d):∃x,d=.agg (c x):=by
 rcases h with⟨_,aFL,cells,h1,rfl,h2⟩|⟨h1,_⟩
 ·rw[hf]at h1;cases h1;obtain⟨x,rfl⟩:=hc _ h2;exact⟨x,rfl⟩
 ·rw[ha]at h1;cases h1
end
end Go.Cx
namespace Go.Cx
open Go.ChangeShapes Go.WideShapes Go.ChangeAt Go.RowKit
def jp0(P:Program)(f:FuncId)(fn:Func)(s:ChangeSpec)(c:OpenClaim):Bool:=(c.wf (OpenSpec.ofChange s)&&laidOutB P&&mapsRowed P)
def jp1(P:Program)(f:FuncId)(fn:Func)(s:ChangeSpec)(c:OpenClaim):Bool:=(fn.params.all (P.readableRec ·)&&namedTie P c.named s.vars)&&((c.stops==[])&&(P.stops==[])&&(c.knobs==[])&&(P.stopKnobs==[]))&&((c.maps==(fn.params.toList++s.plain.varTypes P).any (P.mapsRec ·))&&(c.ifaces==(fn.params.toList++s.plain.varTypes P).any (P.ifacesRec ·))&&(c.mapsOut==P.mapsAmong fn.resultTypes.toList))&&((c.loops==(fn.params.toList++s.plain.varTypes P).any (P.loopsFrom ·))&&(c.wideKeys==(fn.params.toList++s.plain.varTypes P++fn.resultTypes.toList).any (P.wideKeysFrom ·)))&&(s.vars.all (P.varReadable ·)&&fn.resultTypes.all (fun t=>P.readableRec t&&decide (t<P.types.size))&&(c.ifacesOut==fn.resultTypes.toList.any (P.ifacesRec ·))&&(c.loopsOut==fn.resultTypes.toList.any (P.loopsFrom ·)))&&((c.kinds==(if c.domain.isEmpty then []else fn.params.toList.map fun t=>match P.underlying t with|some (.int k)=>some k|_=>none))&&(c.pinned==c.pinnedBy))&&((c.veiled==(fn.params.toList++s.plain.varTypes P++fn.resultTypes.toList).any (P.veiledRec ·))&&c.veiledFits P fn.params.toList (fn.params.toList++s.plain.varTypes P++fn.resultTypes.toList))
def jp2(P:Program)(f:FuncId)(fn:Func)(s:ChangeSpec)(c:OpenClaim):Bool:=(c.inPlace==P.inPlace f)&&(c.unfollowed==P.unfollowed f)&&(c.recurses==P.recurses f)&&(c.named==P.varsNamed f)
def jp3(P:Program)(f:FuncId)(fn:Func)(s:ChangeSpec)(c:OpenClaim):Bool:=(c.plainKeys==P.plainKeys)&&(c.shortTexts.isNone&&P.stopsHeard)&&P.mayEnter&&(c.lifted==P.liftsFinal)&&(P.make==some c.make)
theorem ZV{P:Program}{f:FuncId}{fn:Func}{s:ChangeSpec}{c:OpenClaim}(h0:jp0 P f fn s c=true)(h1:jp1 P f fn s c=true)(h2:jp2 P f fn s c=true)(h3:jp3 P f fn s c=true):joinedFacts P f fn s c=true:=by
 unfold jp0 at h0;unfold jp1 at h1;unfold jp2 at h2;unfold jp3 at h3;unfold joinedFacts;simp only[aY]at h0 h1 h2 h3⊢;obtain⟨⟨aFN,aFO⟩,aFP⟩:=h0;obtain⟨⟨⟨⟨⟨⟨⟨aFQ,aFR⟩,⟨⟨⟨aFS,aFT⟩,aFU⟩,aFV⟩⟩,⟨⟨aFa,aFb⟩,aFc⟩⟩,⟨aFd,aFe⟩⟩,⟨⟨⟨aFf,aFg⟩,aFh⟩,aFi⟩⟩,⟨aE5,aE6⟩⟩,⟨aE7,aE8⟩⟩:=h1;obtain⟨⟨⟨aFW,aFX⟩,aFY⟩,aFZ⟩:=h2;obtain⟨⟨⟨⟨aDz,⟨aE0,aE1⟩⟩,aE2⟩,aE3⟩,aE4⟩:=h3
 and_intros<;>assumption
end Go.Cx

/- The structure of a network in plain words. No condition but bounds. -/
import Derived.Test.YtbeaohmbmfjabaaGreatDoorPFeedNetworkG7
import Derived.Test.YtbeaohmbmfjabaaGreatDoorPFeedNetworkG3
import Derived.Test.YtbeaohmbmfjabaaGreatDoorPFeedNetworkG4
import Derived.ProofKit
set_option linter.unusedVariables false
set_option linter.unusedSimpArgs false
namespace Go.Cx
open Go.RowKit Go.Proofs Tryz
def ZG(sh:aE):b7->Nat->Option Nat
 | [],_=>none
 |x::xs,i=>if x.shape=sh then some i else ZG sh xs (i+1)
def Y8(al:b7)(sh:aE):b7×Int:=match ZG sh al 0 with
 |some i=>(al,dG i)
 |none=>(al++[⟨sh,[]⟩],dG al.length)
theorem PN{n:Nat}(h:n<=1099511627776):IntKind.i64.wrap (((n+1:Nat):Int)-1)=dG n:=by
 unfold dG;rw[gr (th.i64.2 (by omega))];omega
theorem aDW(n:aF)(sh:aE)(k:Option (aF×Int)):∀(l:b7) (i:Nat),mC n sh k l i=match ZG sh l i with|some j=>some (n,dG j)|none=>k:=by
 intro l
 induction l with
 |nil=>intro i;rfl
 |cons x l ih=>
  intro i;rw[mC,XX,aA,ih,ZG];by_cases h:x.shape=sh
  ·rw[bU h,aW,bR h];rfl
  ·rw[b9 h,aa,bG h]
theorem sAl(n:aF)(sh:aE)(h:n.av.length<=1048576):tY n sh=some (⟨n.rules,n.ends,(Y8 n.av sh).1,n.nodes,n.facts,n.bz⟩,(Y8 n.av sh).2):=by
 unfold tY;rw[xA (by omega),aW,aDW,mh (by omega) (by decide),aW];unfold Y8;cases ZG sh n.av 0 with
 |some j=>rfl
 |none=>
  dsimp only;rw[show((n.av.map aP.c)++[[D.str sh.rel,D.sl (sh.args.map tx),D.sl []]]).length=n.av.length+1 by simp,PN (by omega)]
theorem aD9(n:aF)(sh:aE)(k:Option (aF×Int)):∀(l:b7) (i:Nat),eX n sh k l i=match ZG sh l i with|some j=>some (n,dG j)|none=>k:=by
 intro l
 induction l with
 |nil=>intro i;rfl
 |cons x l ih=>
  intro i;rw[eX,Qo,aA,ih,ZG];by_cases h:x.shape=sh
  ·rw[bU h,aW,bR h];rfl
  ·rw[b9 h,aa,bG h]
theorem iAl(n:aF)(sh:aE)(h:n.av.length<=1048576):iV n sh=some (⟨n.rules,n.ends,(Y8 n.av sh).1,n.nodes,n.facts,n.bz⟩,(Y8 n.av sh).2):=by
 unfold iV;rw[xA (by omega),aW,aD9,mh (by omega) (by decide),aW];unfold Y8;cases ZG sh n.av 0 with
 |some j=>rfl
 |none=>
  dsimp only;rw[show((n.av.map aP.c)++[[D.str sh.rel,D.sl (sh.args.map tx),D.sl []]]).length=n.av.length+1 by simp,PN (by omega)]
def S6(p:Int)(c:aQ):ay->Nat->Option Nat
 | [],_=>none
 |x::xs,i=>if 0<i/\x.parent=p/\x.cond=c then some i else S6 p c xs (i+1)
def S5(al:b7)(c:aQ):b7×Int:=if c.kind=1\/c.kind=2 then Y8 al (vl c.pat)else(al, -1)
def O9(al:b7)(ns:ay)(p:Int)(c:aQ):(b7×ay)×Int:=match S6 p c ns 0 with
 |some i=>((al,ns),dG i)
 |none=>(((S5 al c).1,ns++[⟨p,c,(S5 al c).2,[]⟩]),dG ns.length)
theorem Uq(p:Int)(c:aQ)(ns:ay):S6 p c ns 0=S6 p c (ns.drop 1) 1:=by
 cases ns with
 |nil=>rfl
 |cons x ns=>rw[S6,bG (fun h=>by omega)];rfl
def Zx(n:aF)(z:(b7×ay)×Int):aF×Int:=(⟨n.rules,n.ends,z.1.1,z.1.2,n.facts,n.bz⟩,z.2)
theorem aDY(n:aF)(p:Int)(c:aQ)(k:Option (aF×Int))(hn:n.nodes.length<=1048576):∀(d v fu:Nat),v+d=n.nodes.length+1->1<=v->d<fu->gM n p c k fu (v:Int)=match S6 p c (n.nodes.drop v) v with|some j=>some (n,dG j)|none=>k:=by
 intro d
 induction d with
 |zero=>
  intro v fu hv h1 hf;obtain⟨fu,rfl⟩:∃m,fu=m+1:=⟨fu-1,by omega⟩
  rw[gM,aZ,b9 (by omega),aa,pP (by omega)];rfl
 |succ d ih=>
  intro v fu hv h1 hf;obtain⟨fu,rfl⟩:∃m,fu=m+1:=⟨fu-1,by omega⟩
  by_cases hl:v<n.nodes.length
  ·have hx:n.nodes[v]?=some n.nodes[v]:=ai hl;have e3:mJ n.nodes (v:Int)=some n.nodes[v]:=by unfold mJ;rw[bU (by omega),aW];exact hx
   rw[mm hl,S6,gM,aZ,bU (by omega),aW,e3,aA,II (by omega),ih (v+1) fu (by omega) (by omega) (by omega),a38,aA];generalize n.nodes[v]=x;by_cases hp:x.parent=p
   ·rw[show((x.parent:Int)==p)=true by simp[hp],aW];by_cases hc:x.cond=c
    ·rw[bU hc,aW,bR ⟨by omega,hp,hc⟩];rfl
    ·rw[b9 hc,aa,bG (fun h=>hc h.2.2)]
   ·rw[show((x.parent:Int)==p)=false by simp[hp],aa,bG (fun h=>hp h.2.1)]
  ·rw[gM,aZ,b9 (by omega),aa,pP (by omega)];rfl
theorem sCh(n:aF)(p:Int)(c:aQ)(hn:n.nodes.length<=1048576)(ha:n.av.length<=1048576)(hc:c.wt<=1048576):wV n p c=some (Zx n (O9 n.av n.nodes p c)):=by
 have hp:=aQ.fK hc;have hargs:=aE.dY hp;unfold wV;have e:=aDY n p c;rw[show(1:Int)=((1:Nat):Int)from rfl,e _ hn n.nodes.length 1 fuel (by omega) (bS _) (by unfold fuel;omega),<-Uq,Tv c (by omega),aA,a8a c.pat hp,aA,sAl n _ ha,aA];unfold O9 S5 Zx;cases S6 p c n.nodes 0 with
 |some j=>rfl
 |none=>
  dsimp only;rw[mh (by omega) (by decide),aW];by_cases h1:c.kind=1
  ·rw[show((c.kind:Int)==((1:Nat):Int))=true by simp[h1],aW,bR (.inl h1)];simp[PN,hn,show n.nodes.length<=1099511627776 by omega]
   first|done| (unfold dG;rw[gr (th.i64.2 (by omega))])
  ·rw[show((c.kind:Int)==((1:Nat):Int))=false by simp[h1],aa];by_cases h2:c.kind=2
   ·rw[show((c.kind:Int)==(2:Int))=true by simp[h2],aW,bR (.inr h2)];simp[PN,hn,show n.nodes.length<=1099511627776 by omega]
    first|done| (unfold dG;rw[gr (th.i64.2 (by omega))])
   ·rw[show((c.kind:Int)==(2:Int))=false by simp[h2],aa,bG (by omega)]
    first|rw[mh (by omega) (by decide),aW]|rw[aA,mh (by omega) (by decide),aW]|skip
    simp[PN,hn,show n.nodes.length<=1099511627776 by omega]
    first|done| (unfold dG;rw[gr (th.i64.2 (by omega))])
theorem aDB(n:aF)(p:Int)(c:aQ)(k:Option (aF×Int)):∀(l:ay) (i:Nat),dD n p c k l i=match S6 p c l i with|some j=>some (n,dG j)|none=>k:=by
 intro l
 induction l with
 |nil=>intro i;rfl
 |cons x l ih=>
  intro i;rw[dD,S6,ih,TU,aA];by_cases hi:0<i
  ·rw[bU (by omega),aW];by_cases hp:x.parent=p
   ·rw[show((x.parent:Int)==p)=true by simp[hp],aW];by_cases hc:x.cond=c
    ·rw[bU hc,aW,bR ⟨hi,hp,hc⟩];rfl
    ·rw[b9 hc,aa,bG (fun h=>hc h.2.2)]
   ·rw[show((x.parent:Int)==p)=false by simp[hp],aa,bG (fun h=>hp h.2.1)]
  ·rw[b9 (by omega),aa,bG (fun h=>hi h.1)]
theorem iCh(n:aF)(p:Int)(c:aQ)(hn:n.nodes.length<=1048576)(ha:n.av.length<=1048576)(hc:c.wt<=1048576):kn n p c=some (Zx n (O9 n.av n.nodes p c)):=by
 have hp:=aQ.fK hc;have hargs:=aE.dY hp;unfold kn;rw[xA (by omega),aW,aDB,TR c (by omega),a7s c.pat hp,aA,iAl n _ ha,aA,aA];unfold O9 S5 Zx;cases S6 p c n.nodes 0 with
 |some j=>rfl
 |none=>
  dsimp only;rw[mh (by omega) (by decide),aW];by_cases h1:c.kind=1
  ·rw[show((c.kind:Int)==(1:Int))=true by simp[h1],aW,bR (.inl h1)];simp[PN,hn,show n.nodes.length<=1099511627776 by omega]
   first|done| (unfold dG;rw[gr (th.i64.2 (by omega))])
  ·rw[show((c.kind:Int)==(1:Int))=false by simp[h1],aa];by_cases h2:c.kind=2
   ·rw[show((c.kind:Int)==(2:Int))=true by simp[h2],aW,bR (.inr h2)];simp[PN,hn,show n.nodes.length<=1099511627776 by omega]
    first|done| (unfold dG;rw[gr (th.i64.2 (by omega))])
   ·rw[show((c.kind:Int)==(2:Int))=false by simp[h2],aa,bG (by omega)]
    first|rw[mh (by omega) (by decide),aW]|rw[aA,mh (by omega) (by decide),aW]|skip
    simp[PN,hn,show n.nodes.length<=1099511627776 by omega]
    first|done| (unfold dG;rw[gr (th.i64.2 (by omega))])
def IX(s:(b7×ay)×Int)(c:aQ):(b7×ay)×Int:=O9 s.1.1 s.1.2 s.2 c
def KX(z:(b7×ay)×bI)(r:aO):(b7×ay)×bI:=(((gy r).foldl IX (z.1,0)).1,z.2++[((gy r).foldl IX (z.1,0)).2])
def root(tk:ah):Node:=⟨-1,⟨0,⟨[],[]⟩,[],[]⟩, -1,tk⟩
def cg(tk:ah)(rs:ar):(b7×ay)×bI:=rs.foldl KX (([],[root tk]),[])
theorem a4G(al:b7)(sh:aE):(Y8 al sh).1.length<=al.length+1:=by
 unfold Y8;cases ZG sh al 0<;>simp
theorem a4M(al:b7)(c:aQ):(S5 al c).1.length<=al.length+1:=by
 unfold S5;by_cases h:c.kind=1\/c.kind=2
 ·rw[bR h];exact a4G _ _
 ·rw[bG h];exact Nat.le_succ _
theorem T9(al:b7)(ns:ay)(p:Int)(c:aQ):(O9 al ns p c).1.1.length<=al.length+1/\(O9 al ns p c).1.2.length<=ns.length+1:=by
 unfold O9;cases S6 p c ns 0 with
 |some i=>exact⟨Nat.le_succ _,Nat.le_succ _⟩
 |none=>exact⟨a4M _ _,by simp⟩
theorem IY:∀(cs:aq) (s:(b7×ay)×Int),(cs.foldl IX s).1.1.length<=s.1.1.length+cs.length/\(cs.foldl IX s).1.2.length<=s.1.2.length+cs.length
 | [],s=>⟨bS _,bS _⟩
 |c::cs,s=>by
  have h1:=T9 s.1.1 s.1.2 s.2 c;have h2:=IY cs (IX s c);have h3:(IX s c).1.1.length<=s.1.1.length+1/\(IX s c).1.2.length<=s.1.2.length+1:=h1;rw[eA,aM];omega
theorem aB1(a:ar)(i:Nat)(y:aq)(k:Int->Int->ar->bI->b7->ay->aK->Option (aF×Bool)):∀(cs:aq) (j:Nat) (v u:Int) (w3:ar) (w4:bI) (al:b7) (ns:ay) (w7:aK),(∀c∈cs,c.wt<=1048576)->al.length+cs.length<=1048576->ns.length+cs.length<=1048576->
 gi a i y k cs j v u w3 w4 al ns w7=k (cs.foldl IX ((al,ns),v)).2 u w3 w4 (cs.foldl IX ((al,ns),v)).1.1 (cs.foldl IX ((al,ns),v)).1.2 w7:=by
 intro cs
 induction cs with
 |nil=>intros;rfl
 |cons c cs ih=>
  intro j v u w3 w4 al ns w7 hc ha hn;simp only[aM]at ha hn;have h1:=T9 al ns v c;rw[gi,sCh _ v c (show ns.length<=1048576 by omega) (show al.length<=1048576 by omega) (hc c (by simp)),aA];unfold Zx;dsimp only;rw[ih _ _ _ _ _ _ _ _ (fun x hx=>hc x (by simp[hx])) (by omega) (by omega)];rfl
theorem aAH(a:ar)(i:Nat)(y:aq)(k:Int->Int->ar->bI->b7->ay->aK->Option aF):∀(cs:aq) (j:Nat) (v u:Int) (w3:ar) (w4:bI) (al:b7) (ns:ay) (w7:aK),(∀c∈cs,c.wt<=1048576)->al.length+cs.length<=1048576->ns.length+cs.length<=1048576->
 je a i y k cs j v u w3 w4 al ns w7=k (cs.foldl IX ((al,ns),v)).2 u w3 w4 (cs.foldl IX ((al,ns),v)).1.1 (cs.foldl IX ((al,ns),v)).1.2 w7:=by
 intro cs
 induction cs with
 |nil=>intros;rfl
 |cons c cs ih=>
  intro j v u w3 w4 al ns w7 hc ha hn;simp only[aM]at ha hn;have h1:=T9 al ns v c;rw[je,iCh _ v c (show ns.length<=1048576 by omega) (show al.length<=1048576 by omega) (hc c (by simp)),aA];unfold Zx;dsimp only;rw[ih _ _ _ _ _ _ _ _ (fun x hx=>hc x (by simp[hx])) (by omega) (by omega)];rfl
theorem SO:∀(ts:aJ) (N:aT) {p:aS},p∈ts.foldl jY N->p∈N\/(p.var∈ts/\lR p.var=true)
 | [],_,_,h=>.inl h
 |t::ts,N,p,h=>by
  rcases SO ts (jY N t) h with h1|h1
  ·unfold jY at h1;cases hv:lR t&& !Hy N t with
   |false=>rw[hv]at h1;exact .inl h1
   |true=>
    rw[hv,aW]at h1;simp only[aY]at hv;rcases au.1 h1 with h2|h2
    ·exact .inl h2
    ·rw[eD.1 h2];exact .inr ⟨by simp,hv.1⟩
  ·exact .inr ⟨by simp[h1.1],h1.2⟩
theorem Nn{l:aq}{v:Bytes}:v∈FL l↔v∈Al l/\lR v=true:=by
 unfold FL Al rF jZ;simp only[cE,fy];constructor
 ·rintro⟨c,hc,hm,hv⟩;exact⟨⟨c,hc,hm⟩,hv⟩
 ·rintro⟨⟨c,hc,hm⟩,hv⟩;exact⟨c,hc,hm,hv⟩
theorem Zv{r:aO}(h:oD r=true):(qW r).length<=6:=by
 have h1:((qW r).map aS.var).length<=(fL (FL r.conds)).length:=by
  refine Sb _ _ (Du _ WA.nil) fun x hx=>?_
  obtain⟨p,hp,rfl⟩:=cJ.1 hx;rcases SO _ _ hp with h1|h1
  ·cases h1
  ·exact wk.2 (Nn.2 h1)
 rw[aZ]at h1;exact cT h1 (a08 h)
theorem a2U{r:aO}(h:oD r=true){v:Bytes}(hv:v∈FL r.conds):∃i p,i<6/\(qW r)[i]?=some p/\p.var=v/\FD (qW r) v=nmB i:=by
 obtain⟨ht,VC⟩:=Nn.1 hv;obtain⟨p,hp,he⟩:=NW _ [] ht VC;have hp':p∈qW r:=hp;obtain⟨i,hi,TI,hval,_⟩:=Oy (F4 _ Y6.nil) hp';refine⟨i,p,by have:=Zv h;unfold qW at this;omega,TI,he,?_⟩;rw[<-he];exact(Nu (N:=qW r) (Du (Al r.conds) WA.nil) hp').trans hval
theorem Nv{r:aO}(h:oD r=true){x:Bytes}(hx:x.length<=16)(hV:lR x=true->x∈FL r.conds):(FD (qW r) x).length<=16:=by
 cases hv:lR x with
 |false=>rw[show FD (qW r) x=x from R5 hv];exact hx
 |true=>
  obtain⟨i,p,hi,_,_,e⟩:=a2U h (hV hv);rw[e];exact Yh i hi
theorem Q7:∀(l:aJ),(∀x∈l,x.length<=16)->k8 tw l<=17*l.length
 | [],_=>by simp[k8]
 |x::l,h=>by
  have h1:=Q7 l fun y hy=>h y (by simp[hy])
  have h2:=h x (by simp);rw[qe,aM];unfold tw at*;omega
theorem RU{t:Bytes}(h:qZ t=true):t.length<=16:=by have:=a0J h;omega
theorem QS{c:aQ}(h:sU c=true):c.pat.rel.length<=8/\c.pat.args.length<=3/\(∀x∈c.pat.args,x.length<=16)/\c.left.length<=16/\c.right.length<=16:=by
 by_cases hk:c.kind=1\/c.kind=2
 ·obtain⟨hp,hl,hr⟩:=ZK h hk;have ht:=Yt hp;unfold yx at hp;simp only[aY,bJ]at hp;have:=SZ hp.2.1;rw[hl,hr];exact⟨by omega,by omega,fun x hx=>RU (ht x hx),by simp,by simp⟩
 ·obtain⟨_,hz,hl,hr⟩:=WZ h (fun e=>hk (.inl e)) (fun e=>hk (.inr e));unfold IM at hz;simp only[aY,cj,bJ]at hz;have h0:c.pat.args=[]:=cc (by omega);rw[hz.1,h0];exact⟨by simp,by simp,fun x hx=>(by cases hx),RU hl,RU hr⟩
theorem Ns{r:aO}(h:oD r=true):∀c∈gy r,c.wt<=1048576:=by
 intro c' hc';obtain⟨c,hc,rfl⟩:=cJ.1 hc';obtain⟨h1,h2,h3,h4,h5⟩:=QS (PL h c hc);have hV:∀x∈c.pat.args++[c.left,c.right],lR x=true->x∈FL r.conds:=fun x hx hv=>Nn.2 ⟨cE.2 ⟨c,hc,hx⟩,hv⟩
 have a1:(FD (qW r) c.left).length<=16:=Nv h h4 (hV _ (by simp));have a2:(FD (qW r) c.right).length<=16:=Nv h h5 (hV _ (by simp));have a3:=Q7 (c.pat.args.map (FD (qW r))) (fun x hx=>by
  obtain⟨y,hy,rfl⟩:=cJ.1 hx;exact Nv h (h3 y hy) (hV y (by simp[hy])))
 rw[aZ]at a3;unfold RJ aQ.wt;dsimp only;unfold tw at*;omega
theorem BX{r:aO}(h:oD r=true):(gy r).length<=4:=by unfold gy;rw[aZ];exact a07 h
theorem Y7{r:aO}{n:Nat}(h:r.wt<=n){a:Action}(ha:a∈r.cu):a.pat.args.length<=n:=by
 have h1:=aO.MV h;have h2:=iZ (w:=Action.wt) ha;have h3:=gu tw a.pat.args;simp only[Action.wt]at h2;omega
theorem a2w(p:aE)(h:p.args.length<=1099511627770):eU p=some p:=by
 unfold eU;rw[a3D p.args (by omega)];rfl
theorem a23(p:aE)(h:p.args.length<=1099511627770):eG p=some p:=by
 unfold eG;rw[TW p.args (by omega)];rfl
theorem a8L(r:aO)(h:r.wt<=1048576):vR r=some r:=by
 have h1:=aO.uJ h;have h2:=aO.MV h;have h3:=gu aQ.wt r.conds;have h4:=gu Action.wt r.cu;unfold vR;rw[GA (c:=aQ.c) (b:=80) (f:=k9) (g:=fun x=>x) (L:=qM r _) (k:=_) (by decide) (fun _ _=>rfl) (fun _ _ _ _=>rfl) _ _ _ (fun c hc=>Tv c (by have:=aE.dY (aQ.fK (aO.sM h hc));omega)) (by simp;omega)];rw[GA (c:=Action.c) (b:=48) (f:=fun a:Action=>(eU a.pat).bind fun y=>some (⟨a.kind,y⟩:Action)) (g:=fun x=>x) (L:=ng r _ _) (k:=_) (by decide) (fun _ _=>rfl) (fun x xs i w=>by rw[ng];cases eU x.pat<;>rfl) _ _ _ (fun a ha=>by rw[a2w a.pat (by have:=Y7 h ha;omega)];rfl) (by simp;omega)];simp
theorem Vf(l:ar)(h:k8 aO.wt l<=1048576):rB l=some l:=by
 have h3:=gu aO.wt l;unfold rB;rw[GA (c:=aO.c) (b:=72) (f:=vR) (g:=fun x=>x) (L:=nc l _) (k:=_) (by decide) (fun _ _=>rfl) (fun _ _ _ _=>rfl) _ _ _ (fun r hr=>a8L r (by have:=iZ (w:=aO.wt) hr;omega)) (by simp;omega)];simp
theorem a22(l:aq)(h:l.length<=1048576)(hw:∀c∈l,c.wt<=1048576):sr l=some l:=by
 unfold sr;rw[GA (c:=aQ.c) (b:=80) (f:=fE) (g:=fun x=>x) (L:=mN l _) (k:=_) (by decide) (fun _ _=>rfl) (fun _ _ _ _=>rfl) _ _ _ (fun c hc=>TR c (by have:=aE.dY (aQ.fK (hw c hc));omega)) (by simp;omega)];simp
theorem a7f(r:aO)(h:r.wt<=1048576):qx r=some r:=by
 have h1:=aO.uJ h;have h2:=aO.MV h;have h3:=gu aQ.wt r.conds;have h4:=gu Action.wt r.cu;unfold qx;rw[a22 r.conds (by omega) (fun c hc=>aO.sM h hc),aA];rw[GA (c:=Action.c) (b:=48) (f:=fun a:Action=>(eG a.pat).bind fun y=>some (⟨a.kind,y⟩:Action)) (g:=fun x=>x) (L:=kL r _ _) (k:=_) (by decide) (fun _ _=>rfl) (fun x xs i w=>by rw[kL];cases eG x.pat<;>rfl) _ _ _ (fun a ha=>by rw[a23 a.pat (by have:=Y7 h ha;omega)];rfl) (by simp;omega)];simp
theorem VE(l:ar)(h:k8 aO.wt l<=1048576):qD l=some l:=by
 have h3:=gu aO.wt l;unfold qD;rw[GA (c:=aO.c) (b:=72) (f:=qx) (g:=fun x=>x) (L:=mP l _) (k:=_) (by decide) (fun _ _=>rfl) (fun _ _ _ _=>rfl) _ _ _ (fun r hr=>a7f r (by have:=iZ (w:=aO.wt) hr;omega)) (by simp;omega)];simp
theorem aB0(a:ar)(k:Int->ar->bI->b7->ay->aK->Option (aF×Bool)):∀(l:ar) (i:Nat) (u:Int) (w2:ar) (es:bI) (al:b7) (ns:ay) (w6:aK),(∀r∈l,r.wt<=1048576/\oD r=true)->es.length+l.length<=1000->al.length+4*l.length<=1000->ns.length+4*l.length<=1000->
 gh a k l i u w2 es al ns w6=k u w2 (l.foldl KX ((al,ns),es)).2 (l.foldl KX ((al,ns),es)).1.1 (l.foldl KX ((al,ns),es)).1.2 w6:=by
 intro l
 induction l with
 |nil=>intros;rfl
 |cons r l ih=>
  intro i u w2 es al ns w6 hr he ha hn;simp only[aM]at he ha hn;obtain⟨hw,hb⟩:=hr r (by simp);have h4:=BX hb;have hl:=IY (gy r) ((al,ns),0);dsimp only at hl;rw[gh,a8K r hw,aA,xA (by omega),aW,aB1 _ _ _ _ _ _ _ _ _ _ _ _ _ (Ns hb) (by omega) (by omega),mh (by omega) (by decide),aW,ih _ _ _ _ _ _ _ (fun x hx=>hr x (by simp[hx])) (by simp;omega) (by omega) (by omega)];rfl
theorem a8M(rs:ar)(h:k8 aO.wt rs<=1048576):pL rs=some (bif zT rs then(⟨rs,(cg [⟨[],[]⟩] rs).2,(cg [⟨[],[]⟩] rs).1.1,(cg [⟨[],[]⟩] rs).1.2,[],0⟩,true)else(⟨[],[],[],[],[],0⟩,false)):=by
 unfold pL;rw[aDX rs h,aA];cases hb:zT rs with
 |false=>rfl
 |true=>
  have h6:rs.length<=6:=by unfold zT at hb;simp only[aY,bJ]at hb;omega
  rw[bQ,aa,aW,Vf rs h,aA,aB0 _ _ _ _ _ _ _ _ _ _ (fun r hr=>⟨by have:=iZ (w:=aO.wt) hr;omega,uI hb r hr⟩) (by simp;omega) (by simp;omega) (by simp;omega)];rfl
theorem aAG(a:ar)(k:Int->ar->bI->b7->ay->aK->Option aF):∀(l:ar) (i:Nat) (u:Int) (w2:ar) (es:bI) (al:b7) (ns:ay) (w6:aK),(∀r∈l,r.wt<=1048576/\oD r=true)->es.length+l.length<=1000->al.length+4*l.length<=1000->ns.length+4*l.length<=1000->
 jd a k l i u w2 es al ns w6=k u w2 (l.foldl KX ((al,ns),es)).2 (l.foldl KX ((al,ns),es)).1.1 (l.foldl KX ((al,ns),es)).1.2 w6:=by
 intro l
 induction l with
 |nil=>intros;rfl
 |cons r l ih=>
  intro i u w2 es al ns w6 hr he ha hn;simp only[aM]at he ha hn;obtain⟨hw,hb⟩:=hr r (by simp);have h4:=BX hb;have hl:=IY (gy r) ((al,ns),0);dsimp only at hl;rw[jd,a7e r hw,aA,xA (by omega),aW,aAH _ _ _ _ _ _ _ _ _ _ _ _ _ (Ns hb) (by omega) (by omega),mh (by omega) (by decide),aW,ih _ _ _ _ _ _ _ (fun x hx=>hr x (by simp[hx])) (by simp;omega) (by omega) (by omega)];rfl
theorem aDH(rs:ar)(h:k8 aO.wt rs<=1048576)(hb:zT rs=true):sx rs=some ⟨rs,(cg [] rs).2,(cg [] rs).1.1,(cg [] rs).1.2,[],0⟩:=by
 unfold sx;have h6:rs.length<=6:=by unfold zT at hb;simp only[aY,bJ]at hb;omega
 rw[VE rs h,aA,aAG _ _ _ _ _ _ _ _ _ _ (fun r hr=>⟨by have:=iZ (w:=aO.wt) hr;omega,uI hb r hr⟩) (by simp;omega) (by simp;omega) (by simp;omega)];rfl
def chR(al:b7)(ns:ay)(p:Int)(c:aQ):(b7×ay)×Int:=match S6 p c ns 1 with
 |some i=>((al,ns),dG i)
 |none=>(((S5 al c).1,ns++[⟨p,c,(S5 al c).2,[]⟩]),dG (ns.length+1))
theorem a1G(tk:ah)(al:b7)(ns:ay)(p:Int)(c:aQ):O9 al (root tk::ns) p c=(((chR al ns p c).1.1,root tk::(chR al ns p c).1.2),(chR al ns p c).2):=by
 unfold O9 chR;rw[Uq,List.drop_succ_cons,GG];cases S6 p c ns 1<;>rfl
def rtC(s:(b7×ay)×Int)(c:aQ):(b7×ay)×Int:=chR s.1.1 s.1.2 s.2 c
def rtR(z:(b7×ay)×bI)(r:aO):(b7×ay)×bI:=(((gy r).foldl rtC (z.1,0)).1,z.2++[((gy r).foldl rtC (z.1,0)).2])
def rtB(rs:ar):(b7×ay)×bI:=rs.foldl rtR (([],[]),[])
theorem Vl(tk:ah):∀(cs:aq) (al:b7) (ns:ay) (v:Int),cs.foldl IX ((al,root tk::ns),v)=(((cs.foldl rtC ((al,ns),v)).1.1,root tk::(cs.foldl rtC ((al,ns),v)).1.2),(cs.foldl rtC ((al,ns),v)).2)
 | [],_,_,_=>rfl
 |c::cs,al,ns,v=>by
  rw[eA,eA];show cs.foldl IX (O9 al (root tk::ns) v c)=_;rw[a1G,Vl tk cs];rfl
theorem Vn(tk:ah):∀(rs:ar) (al:b7) (ns:ay) (es:bI),rs.foldl KX ((al,root tk::ns),es)=(((rs.foldl rtR ((al,ns),es)).1.1,root tk::(rs.foldl rtR ((al,ns),es)).1.2),(rs.foldl rtR ((al,ns),es)).2)
 | [],_,_,_=>rfl
 |r::rs,al,ns,es=>by
  rw[eA,eA];have e:KX ((al,root tk::ns),es) r=(((rtR ((al,ns),es) r).1.1,root tk::(rtR ((al,ns),es) r).1.2),(rtR ((al,ns),es) r).2):=by
   unfold KX rtR;dsimp only;rw[Vl]
  rw[e,Vn tk rs]
theorem za(tk:ah)(rs:ar):cg tk rs=(((rtB rs).1.1,root tk::(rtB rs).1.2),(rtB rs).2):=Vn tk rs [] [] []
theorem E1(tk:ah){rs:ar}(h:∀r∈rs,oD r=true)(h6:rs.length<=6):(cg tk rs).1.2.length<=25:=by
 have main:∀(l:ar) (z:(b7×ay)×bI),(∀r∈l,oD r=true)->(l.foldl KX z).1.2.length<=z.1.2.length+4*l.length:=by
  intro l
  induction l with
  |nil=>intro z _;exact bS _
  |cons r l ih=>
   intro z hl;have h1:=ih (KX z r) (fun x hx=>hl x (by simp[hx]));have h2:=(IY (gy r) (z.1,0)).2;have h3:=BX (hl r (by simp));have h4:(KX z r).1.2.length=((gy r).foldl IX (z.1,0)).1.2.length:=rfl;rw[eA,aM];dsimp only at h2;omega
 have:=main rs (([],[root tk]),[]) h;unfold cg;simp only[aM,bK]at this;omega
end Go.Cx
namespace Go.Cx
open Go.RowKit Go.Proofs Tryz
def wW(x:Node):Int×aQ:=(x.parent,x.cond)
theorem Sm{a b:ay}(h:a.map wW=b.map wW):∀(k v:Nat),Rv a k v=Rv b k v
 |0,_=>rfl
 |k+1,v=>by
  have e:(a[v]?).map wW=(b[v]?).map wW:=by rw[<-cA,<-cA,h]
  unfold Rv;cases ha:a[v]? with
  |none=>
   cases hb:b[v]? with
   |none=>rfl
   |some y=>rw[ha,hb]at e;cases e
  |some x=>
   cases hb:b[v]? with
   |none=>rw[ha,hb]at e;cases e
   |some y=>
    rw[ha,hb]at e;have e1:x.parent=y.parent:=(kj (qt e)).1;dsimp only;rw[e1,Sm h k]
theorem TA{a b:ay}(h:a.map wW=b.map wW):Cs a=Cs b:=by
 funext i
 have e:(a[i]?).map wW=(b[i]?).map wW:=by rw[<-cA,<-cA,h]
 unfold Cs;cases ha:a[i]? with
 |none=>
  cases hb:b[i]? with
  |none=>rfl
  |some y=>rw[ha,hb]at e;cases e
 |some x=>
  cases hb:b[i]? with
  |none=>rw[ha,hb]at e;cases e
  |some y=>
   rw[ha,hb]at e;have e2:x.cond=y.cond:=(kj (qt e)).2;show some x.cond=some y.cond;rw[e2]
theorem AL{a b:ay}(h:a.map wW=b.map wW)(v:Int):er a v=er b v:=by
 have hl:a.length=b.length:=by have:=congrArg List.length h;simpa using this
 unfold er KR;rw[hl,Sm h,TA h]
def jX(al:b7)(fs:aK):b7:=al.map fun a=>⟨a.shape,uo a.shape [] fs⟩
def tq(ns:ay)(fs:aK):ay->Nat->ay
 | [],_=>[]
 |x::xs,i=>⟨x.parent,x.cond,x.cP,yV (er ns (dG i)) fs⟩::tq ns fs xs (i+1)
def gw(ns:ay)(fs:aK):ay:=tq ns fs ns 0
theorem M4(ns:ay)(fs:aK):∀(l:ay) (i:Nat),(tq ns fs l i).map wW=l.map wW
 | [],_=>rfl
 |x::l,i=>by rw[tq,bH,M4 ns fs l];rfl
theorem ZX(ns:ay)(fs:aK)(l:ay)(i:Nat):(tq ns fs l i).length=l.length:=by
 have:=congrArg List.length (M4 ns fs l i);simpa using this
theorem setAt{α:Type}(pre l:List α)(x y:α):(pre++x::l).set pre.length y=pre++y::l:=by
 rw[mw _ _ (bS _),pR];rfl
structure IN(ns:List Node):Prop where
 len:ns.length<=1048576
 wt:∀x∈ns,x.cond.wt<=1048576
 path:∀i:Nat,(er ns (dG i)).length<=4
theorem RG{ns:ay}{v:Int}{c:aQ}(h:c∈er ns v):∃x∈ns,x.cond=c:=by
 unfold er at h;split at h
 ·unfold KR at h;obtain⟨i,_,hc⟩:=cF.1 h;unfold Cs at hc;cases hx:ns[i]? with
  |none=>rw[hx]at hc;cases hc
  |some x=>rw[hx]at hc;exact⟨x,aC hx,qt hc⟩
 ·cases h
theorem a1Q(n:aF)(fs y:aK)(k:b7->Option (aF×Unit))(hf:FS fs):∀(l pre:b7),(∀x∈l,x.shape.wt<=1048576)->fA n fs y k l pre.length (pre++l)=k (pre++jX l fs):=by
 intro l
 induction l with
 |nil=>intro pre _;rfl
 |cons x l ih=>
  intro pre hw;have hx:(pre++x::l)[pre.length]?=some x:=by simp
  have hlt:decide (pre.length<((pre++x::l).map aP.c).length)=true:=by simp
  rw[fA,hlt,aW,hx,aA,aA5 x.shape [] fs (hw x (by simp)) PB.nil hf,aA,aW,setAt];have:=ih (pre++[⟨x.shape,uo x.shape [] fs⟩]) (fun z hz=>hw z (by simp[hz]));rw[aX,fW,bY]at this;rw[show pre++(⟨x.shape,uo x.shape [] fs⟩:aP)::l=pre++([⟨x.shape,uo x.shape [] fs⟩]++l)from rfl,this];simp[jX]
theorem a74(n:aF)(fs y:aK)(q:b7)(k:Option (aF×Unit))(hf:FS fs)(h24:fs.length<=24)(ns:ay)(hp:IN ns):∀(l pre:ay),(pre++l).map wW=ns.map wW->
 eL n fs y q k l pre.length (pre++l)=some (⟨n.rules,n.ends,q,pre++tq ns fs l pre.length,y,n.bz⟩,()):=by
 intro l
 induction l with
 |nil=>intro pre _;rfl
 |cons x l ih=>
  intro pre he;have hx:(pre++x::l)[pre.length]?=some x:=by simp
  have hlt:decide (pre.length<((pre++x::l).map Node.c).length)=true:=by simp
  have hlen:(pre++x::l).length=ns.length:=by have:=congrArg List.length he;simpa using this
  have hok:NOk ⟨n.rules,n.ends,q,pre++x::l,y,n.bz⟩:=by
   refine⟨by show(pre++x::l).length<=1048576;rw[hlen];exact hp.len,fun z hz=>?_⟩;have hm:wW z∈ns.map wW:=by rw[<-he];exact cJ.2 ⟨z,hz,rfl⟩
   obtain⟨w,hw,e⟩:=cJ.1 hm;have:w.cond=z.cond:=(kj e).2;rw[<-this];exact hp.wt w hw
  have a9i:er (pre++x::l) ((pre.length:Nat):Int)=er ns (dG pre.length):=AL he _;have Wt:∀c∈er ns (dG pre.length),c.wt<=1048576:=by
   intro c hc;obtain⟨z,hz,e⟩:=RG hc;rw[<-e];exact hp.wt z hz
  rw[eL,a7o _ _ hok,aA,a9i,aAJ _ fs Wt (hp.path _) hf h24,aA,hlt,aW,hx,aA,setAt];have:=ih (pre++[⟨x.parent,x.cond,x.cP,yV (er ns (dG pre.length)) fs⟩]) (by
   rw[<-he];simp[wW])
  rw[aX,fW,bY]at this;rw[show pre++(⟨x.parent,x.cond,x.cP,yV (er ns (dG pre.length)) fs⟩:Node)::l=pre++([⟨x.parent,x.cond,x.cP,yV (er ns (dG pre.length)) fs⟩]++l)from rfl,this,tq];simp
theorem a62(n:aF)(fs:aK)(hf:FS fs)(h24:fs.length<=24)(ha:n.av.length<=1048576)(hs:∀x∈n.av,x.shape.wt<=1048576)(hp:IN n.nodes):jH n fs=some (⟨n.rules,n.ends,jX n.av fs,gw n.nodes fs,fs,n.bz⟩,()):=by
 unfold jH;have h1:=a1Q n fs fs;have hl:=hp.len;rw[Dr fs hf.1 (fun f hf2=>by have:=aE.dY (hf.2 f hf2);omega),aA,xA (by omega),aW];have e1:=a1Q n fs fs (fun(fU:b7)=>(bif decide (n.nodes.length<=maxLen)then(eL n fs fs fU none n.nodes 0 n.nodes)else none)) hf n.av [] hs;refine e1.trans ?_;rw[cI,xA (by omega),aW];exact a74 n fs fs _ none hf h24 n.nodes hp n.nodes [] rfl
end Go.Cx
namespace Go.Cx
open Go.RowKit Go.Proofs Tryz
theorem Vv(ns:ay):∀(k k' v:Nat),1<=v->v<=k->v<=k'->Rv ns k v=Rv ns k' v
 |0,_,v,h1,h2,_=>by omega
 |k+1,0,v,h1,_,h3=>by omega
 |k+1,k'+1,v,h1,h2,h3=>by
  unfold Rv;cases hx:ns[v]? with
  |none=>rfl
  |some x=>
   dsimp only;by_cases hp:1<=x.parent/\x.parent<(v:Int)
   ·rw[bR hp,bR hp,Vv ns k k' x.parent.toNat (by omega) (by omega) (by omega)]
   ·rw[bG hp,bG hp]
theorem wY(ns:ay):er ns (dG 0)=[]:=by unfold er dG;rw[bG (by omega)]
theorem yH{ns:ay}{i:Nat}{x:Node}(hx:ns[i]?=some x)(h1:1<=i){p:Nat}(hp:x.parent=dG p)(hpi:p<i):er ns (dG i)=er ns (dG p)++[x.cond]:=by
 have hl:=(aH.1 hx).1;unfold dG at hp;have e1:er ns (dG i)=KR ns i i:=by unfold er dG;rw[bR (by omega)];rfl
 obtain⟨k,rfl⟩:∃k,i=k+1:=⟨i-1,by omega⟩
 rw[e1,RF hx];by_cases h0:1<=p
 ·rw[bR (by omega)];have e2:er ns (dG p)=KR ns p p:=by unfold er dG;rw[bR (by omega)];rfl
  rw[e2,hp,oH];unfold KR;rw[Vv ns k p p h0 (by omega) (bS _)]
 ·rw[bG (by omega),show p=0 by omega,wY]
def WL(ns:ay):Prop:=∀(i:Nat) x,1<=i->ns[i]?=some x->∃p:Nat,x.parent=dG p/\p<i
theorem Om{ns:ay}(hb:WL ns)(m:ay):∀(n i:Nat),i<=n->i<ns.length->er (ns++m) (dG i)=er ns (dG i):=by
 intro n
 induction n with
 |zero=>
  intro i h1 _;rw[show i=0 by omega,wY,wY]
 |succ n ih=>
  intro i h1 h2;by_cases h0:i=0
  ·rw[h0,wY,wY]
  ·have hx:ns[i]?=some ns[i]:=ai h2;have hx':(ns++m)[i]?=some ns[i]:=by rw[bA h2];exact hx
   obtain⟨p,hp,hpi⟩:=hb i _ (by omega) hx;rw[yH hx (by omega) hp hpi,yH hx' (by omega) hp hpi,ih p (by omega) (by omega)]
structure F8(R:List aQ->Prop)(ns:List Node):Prop where
 pos:1<=ns.length
 below:WL ns
 path:∀i:Nat,1<=i->i<ns.length->R (er ns (dG i))
theorem Ur{p:Int}{c:aQ}:∀ {l:ay} {i j:Nat},S6 p c l i=some j->∃x,l[j-i]?=some x/\i<=j/\0<j/\x.parent=p/\x.cond=c
 |x::l,i,j,h=>by
  unfold S6 at h;split at h
  ·rename_i hc;cases h;exact⟨x,by simp,bS _,hc.1,hc.2.1,hc.2.2⟩
  ·obtain⟨y,h1,h2,h3,h4,h5⟩:=Ur h;refine⟨y,?_,by omega,h3,h4,h5⟩;rw[show j-i=(j-(i+1))+1 by omega];exact h1
theorem F8.step{R:aq->Prop}{al:b7}{ns:ay}(h:F8 R ns){a:Nat}(ha:a<ns.length){c:aQ}(hR:R (er ns (dG a)++[c])):
 F8 R (O9 al ns (dG a) c).1.2/\∃b:Nat,(O9 al ns (dG a) c).2=dG b/\b<(O9 al ns (dG a) c).1.2.length/\er (O9 al ns (dG a) c).1.2 (dG b)=er ns (dG a)++[c]:=by
 unfold O9;cases hc:S6 (dG a) c ns 0 with
 |some j=>
  obtain⟨x,h1,h2,h3,h4,h5⟩:=Ur hc;rw[BA]at h1;have hj:=(aH.1 h1).1;obtain⟨p,hp,hpj⟩:=h.below j x (by omega) h1;have:p=a:=by rw[hp]at h4;unfold dG at h4;omega
  subst this;exact⟨h,j,rfl,hj,by rw[yH h1 (by omega) hp hpj,h5]⟩
 |none=>
  dsimp only;have hbel:WL (ns++[⟨dG a,c,(S5 al c).2,[]⟩]):=by
   intro i x h1 hx;by_cases hi:i<ns.length
   ·rw[bA hi]at hx;exact h.below i x h1 hx
   ·rw[bE (by omega)]at hx;have hi2:i=ns.length:=by
     have:=(aH.1 hx).1;simp at this;omega
    rw[hi2,pR]at hx;cases hx;exact⟨a,rfl,by omega⟩
  have hnew:er (ns++[⟨dG a,c,(S5 al c).2,[]⟩]) (dG ns.length)=er ns (dG a)++[c]:=by
   have hx:(ns++[(⟨dG a,c,(S5 al c).2,[]⟩:Node)])[ns.length]?=some ⟨dG a,c,(S5 al c).2,[]⟩:=by simp
   have h1:=h.pos;rw[yH hx (by omega) (p:=a) rfl ha,Om h.below _ a a (bS _) ha]
  refine⟨⟨by simp,hbel,fun i h1 h2=>?_⟩,ns.length,rfl,by simp,hnew⟩;by_cases hi:i<ns.length
  ·rw[Om h.below _ i i (bS _) hi];exact h.path i h1 hi
  ·have:i=ns.length:=by simp at h2;omega
   rw[this,hnew];exact hR
theorem F8.rule{R:aq->Prop}:∀(cs:aq) {al:b7} {ns:ay} {a:Nat},F8 R ns->a<ns.length->(∀j:Nat,1<=j->j<=cs.length->R (er ns (dG a)++cs.take j))->
 F8 R (cs.foldl IX ((al,ns),dG a)).1.2/\∃b:Nat,(cs.foldl IX ((al,ns),dG a)).2=dG b/\b<(cs.foldl IX ((al,ns),dG a)).1.2.length/\er (cs.foldl IX ((al,ns),dG a)).1.2 (dG b)=er ns (dG a)++cs
 | [],al,ns,a,h,ha,_=>⟨h,a,rfl,ha,by simp⟩
 |c::cs,al,ns,a,h,ha,hR=>by
  obtain⟨h1,b,h2,h3,h4⟩:=h.step (al:=al) ha (c:=c) (by have:=hR 1 (bS _) (by simp);simpa using this);have e:IX ((al,ns),dG a) c=(((O9 al ns (dG a) c).1.1,(O9 al ns (dG a) c).1.2),dG b):=by
   show O9 al ns (dG a) c=_;rw[<-h2]
  rw[eA,e];obtain⟨k1,d,k2,k3,k4⟩:=F8.rule cs (al:=(O9 al ns (dG a) c).1.1) h1 h3 (fun j KN hj2=>by
   rw[h4,bY];have:=hR (j+1) (by omega) (by simp;omega);simpa using this)
  exact⟨k1,d,k2,k3,by rw[k4,h4];simp⟩
theorem a4N(al:b7)(ns:ay)(p:Int)(c:aQ):∃m,(O9 al ns p c).1.2=ns++m:=by
 unfold O9;cases S6 p c ns 0 with
 |some i=>exact⟨[],by simp⟩
 |none=>exact⟨[⟨p,c,(S5 al c).2,[]⟩],rfl⟩
theorem Ys:∀(cs:aq) (s:(b7×ay)×Int),∃m,(cs.foldl IX s).1.2=s.1.2++m
 | [],s=>⟨[],by simp⟩
 |c::cs,s=>by
  obtain⟨m,h⟩:=a4N s.1.1 s.1.2 s.2 c;obtain⟨m2,h2⟩:=Ys cs (IX s c);refine⟨m++m2,?_⟩;rw[eA,h2];show(O9 s.1.1 s.1.2 s.2 c).1.2++m2=_;rw[h,bY]
def Y4(rs:ar)(p:aq):Prop:=∃r∈rs,∃j:Nat,1<=j/\j<=(gy r).length/\p=(gy r).take j
theorem Vm(all:ar):∀(l:ar) (al:b7) (ns:ay) (es:bI),(∀r∈l,r∈all)->F8 (Y4 all) ns->
 F8 (Y4 all) (l.foldl KX ((al,ns),es)).1.2/\(∃m,(l.foldl KX ((al,ns),es)).1.2=ns++m)/\∃fs,(l.foldl KX ((al,ns),es)).2=es++fs/\fs.length=l.length/\
  ∀(i:Nat) r,l[i]?=some r->∃b:Nat,fs[i]?=some (dG b)/\b<(l.foldl KX ((al,ns),es)).1.2.length/\er (l.foldl KX ((al,ns),es)).1.2 (dG b)=gy r
 | [],al,ns,es,_,h=>⟨h,⟨[],by simp⟩,[],by simp,rfl,fun i r hr=>by simp at hr⟩
 |r::l,al,ns,es,hm,h=>by
  obtain⟨h1,b,h2,h3,h4⟩:=F8.rule (gy r) (al:=al) h (a:=0) (by have:=h.pos;omega) (fun j KN hj2=>by
   rw[wY,cI];exact⟨r,hm r (by simp),j,KN,hj2,rfl⟩)
  obtain⟨m1,hm1⟩:=Ys (gy r) ((al,ns),dG 0);obtain⟨k1,⟨m2,hm2⟩,fs,k2,k3,k4⟩:=Vm all l ((gy r).foldl IX ((al,ns),dG 0)).1.1 ((gy r).foldl IX ((al,ns),dG 0)).1.2 (es++[dG b]) (fun x hx=>hm x (by simp[hx])) h1;have e:KX ((al,ns),es) r=((((gy r).foldl IX ((al,ns),dG 0)).1.1,((gy r).foldl IX ((al,ns),dG 0)).1.2),es++[dG b]):=by
   rw[<-h2];rfl
  rw[eA,e];refine⟨k1,⟨m1++m2,by rw[hm2,hm1,bY]⟩,dG b::fs,by rw[k2];simp,by simp[k3],?_⟩;intro i x hx;cases i with
  |zero=>
   have:r=x:=by simpa using hx
   subst this;refine⟨b,rfl,by rw[hm2];simp;omega,?_⟩;rw[hm2,Om h1.below _ b b (bS _) h3,h4,wY];rfl
  |succ i=>exact k4 i x (by simpa using hx)
theorem a06(R:aq->Prop)(tk:ah):F8 R [root tk]:=
 ⟨bS _,fun i x h1 hx=>by
  have:=(aH.1 hx).1;simp at this;omega,fun i h1 h2=>by simp at h2;omega⟩
theorem zZ(tk:ah)(rs:ar):F8 (Y4 rs) (cg tk rs).1.2/\(cg tk rs).2.length=rs.length/\∀(i:Nat) r,rs[i]?=some r->∃b:Nat,(cg tk rs).2[i]?=some (dG b)/\b<(cg tk rs).1.2.length/\er (cg tk rs).1.2 (dG b)=gy r:=by
 obtain⟨h1,_,fs,h2,h3,h4⟩:=Vm rs rs [] [root tk] [] (fun r hr=>hr) (a06 _ tk);rw[cI]at h2;refine⟨h1,?_,?_⟩
 ·show(rs.foldl KX (([],[root tk]),[])).2.length=_;rw[h2,h3]
 ·intro i r hr;obtain⟨b,k1,k2,k3⟩:=h4 i r hr;refine⟨b,?_,k2,k3⟩;show(rs.foldl KX (([],[root tk]),[])).2[i]?=_;rw[h2];exact k1
theorem Vb{r:aO}(h:oD r=true):∃c cs,gy r=c::cs/\c.kind=1:=by
 have hb:=Tt h;cases hc:r.conds with
 |nil=>
  unfold oD at h;rw[hc]at h;simp at h
 |cons c cs=>
  refine⟨RJ (qW r) c,cs.map (RJ (qW r)),by unfold gy;rw[hc];rfl,?_⟩;exact(QT (pre:=[]) (i:=0) (c:=c) (rest:=cs) (by rw[cI,<-hc];exact hb)).2.1 rfl
theorem a09{rs:ar}(h:∀r∈rs,oD r=true){p:aq}(hp:Y4 rs p):p.length<=4/\∃c cs,p=c::cs/\c.kind=1:=by
 obtain⟨r,hr,j,h1,h2,rfl⟩:=hp;have:=BX (h r hr);refine⟨by rw[cM];omega,?_⟩;obtain⟨c,cs,e,hk⟩:=Vb (h r hr);obtain⟨j,rfl⟩:∃k,j=k+1:=⟨j-1,by omega⟩
 exact⟨c,cs.take j,by rw[e];rfl,hk⟩
theorem PG{r:aO}(h:oD r=true):∀c∈gy r,c.pat.rel.length<=8/\c.pat.args.length<=3/\∀x∈c.pat.args,x.length<=16:=by
 intro c' hc';obtain⟨c,hc,rfl⟩:=cJ.1 hc';obtain⟨h1,h2,h3,h4,h5⟩:=QS (PL h c hc);have hV:∀x∈c.pat.args++[c.left,c.right],lR x=true->x∈FL r.conds:=fun x hx hv=>Nn.2 ⟨cE.2 ⟨c,hc,hx⟩,hv⟩
 refine⟨h1,by show(c.pat.args.map _).length<=3;rw[aZ];exact h2,fun x hx=>?_⟩;obtain⟨y,hy,rfl⟩:=cJ.1 hx;exact Nv h (h3 y hy) (hV y (by simp[hy]))
theorem a3I{p:aE}(h1:p.rel.length<=8)(h2:p.args.length<=3)(h3:∀x∈p.args,x.length<=16):(vl p).wt<=1048576:=by
 have a3:=Q7 (p.args.map (FD (p.args.foldl jY []))) (fun x hx=>by
  obtain⟨y,hy,rfl⟩:=cJ.1 hx;exact a8H (by omega) (h3 y hy))
 rw[aZ]at a3;show aE.wt ⟨p.rel,p.args.map (FD (p.args.foldl jY []))⟩<=1048576;unfold aE.wt;dsimp only;unfold tw at*;omega
def zq(al:b7):Prop:=∀x∈al,x.shape.wt<=1048576/\x.facts=[]
theorem WW{al:b7}{ns:ay}{p:Int}{c:aQ}(h:zq al)(hc:(vl c.pat).wt<=1048576):zq (O9 al ns p c).1.1:=by
 unfold O9;cases S6 p c ns 0 with
 |some i=>exact h
 |none=>
  show zq (S5 al c).1;unfold S5;by_cases hk:c.kind=1\/c.kind=2
  ·rw[bR hk];unfold Y8;cases ZG (vl c.pat) al 0 with
   |some i=>exact h
   |none=>
    intro x hx;rcases au.1 hx with hx|hx
    ·exact h x hx
    ·rw[eD.1 hx];exact⟨hc,rfl⟩
  ·rw[bG hk];exact h
theorem RR:∀(cs:aq) (s:(b7×ay)×Int),zq s.1.1->(∀c∈cs,(vl c.pat).wt<=1048576)->zq (cs.foldl IX s).1.1
 | [],_,h,_=>h
 |c::cs,s,h,hc=>RR cs (IX s c) (WW h (hc c (by simp))) (fun x hx=>hc x (by simp[hx]))
theorem Cl(tk:ah){rs:ar}(h:∀r∈rs,oD r=true):zq (cg tk rs).1.1:=by
 have main:∀(l:ar) (z:(b7×ay)×bI),(∀r∈l,oD r=true)->zq z.1.1->zq (l.foldl KX z).1.1:=by
  intro l
  induction l with
  |nil=>intro z _ hz;exact hz
  |cons r l ih=>
   intro z hl hz;refine ih (KX z r) (fun x hx=>hl x (by simp[hx])) ?_;exact RR (gy r) (z.1,0) hz (fun c hc=>by
    obtain⟨p1,p2,p3⟩:=PG (hl r (by simp)) c hc;exact a3I p1 p2 p3)
 exact main rs _ h (fun x hx=>by cases hx)
theorem Q5(tk:ah){rs:ar}(h:∀r∈rs,oD r=true)(h6:rs.length<=6):IN (cg tk rs).1.2:=by
 have hp:=(zZ tk rs).1;have hl:=E1 tk h h6;refine⟨by omega,?_,?_⟩
 ·intro x hx;obtain⟨i,hi⟩:=cm hx;have WE:=(aH.1 hi).1;by_cases h0:i=0
  ·subst h0;rw[za]at hi;cases hi;unfold root aQ.wt;simp[k8,tw]
  ·obtain⟨p,hpp,hpi⟩:=hp.below i x (by omega) hi;obtain⟨r,hr,j,j1,j2,e⟩:=hp.path i (by omega) WE;rw[yH hi (by omega) hpp hpi]at e;have hm:x.cond∈gy r:=cH (by rw[<-e];simp:x.cond∈(gy r).take j);exact Ns (h r hr) _ hm
 ·intro i;by_cases hi:1<=i/\i<(cg tk rs).1.2.length
  ·exact(a09 h (hp.path i hi.1 hi.2)).1
  ·unfold er dG;rw[bG (by omega)];simp
theorem a7d(rs:ar)(fs:aK)(t:Int)(hr:k8 aO.wt rs<=1048576)(hb:zT rs=true)(hf:FS fs)(h24:fs.length<=24):yd rs fs t=some ⟨rs,(cg [] rs).2,jX (cg [] rs).1.1 fs,gw (cg [] rs).1.2 fs,fs,t⟩:=by
 have h6:rs.length<=6:=by unfold zT at hb;simp only[aY,bJ]at hb;omega
 have hv:=uI hb;have hsh:=Cl [] hv;have hal:(cg [] rs).1.1.length<=1048576:=by
  have main:∀(l:ar) (z:(b7×ay)×bI),(∀r∈l,oD r=true)->(l.foldl KX z).1.1.length<=z.1.1.length+4*l.length:=by
   intro l
   induction l with
   |nil=>intro z _;exact bS _
   |cons r l ih=>
    intro z hl;have h1:=ih (KX z r) (fun x hx=>hl x (by simp[hx]));have h2:=(IY (gy r) (z.1,0)).1;have h3:=BX (hl r (by simp));have h4:(KX z r).1.1.length=((gy r).foldl IX (z.1,0)).1.1.length:=rfl;rw[eA,aM];dsimp only at h2;omega
  have:=main rs (([],[root []]),[]) hv;unfold cg;simp only[bK]at this;omega
 unfold yd;rw[aDH rs hr hb,aA,a62 _ fs hf h24 hal (fun x hx=>(hsh x hx).1) (Q5 [] hv h6)];rfl
end Go.Cx
namespace Go.Cx
open Go.RowKit Go.Proofs Tryz
def MA(rs:ar)(fs:aK)(t:Int):aF:=⟨rs,(cg [] rs).2,jX (cg [] rs).1.1 fs,gw (cg [] rs).1.2 fs,fs,t⟩
def isB(n:aF):Bool:=zT n.rules&&(pY n.facts&&(decide (0<=n.bz)&&Rt n (MA n.rules n.facts 0)))
theorem FS.Ch{fs:aK}(h:k8 aE.wt fs<=1048576):FS fs:=⟨by have:=gu aE.wt fs;omega,fun f hf=>by have:=iZ (w:=aE.wt) hf;omega⟩
theorem a7k(n:aF)(hr:k8 aO.wt n.rules<=1048576)(hf:k8 aE.wt n.facts<=1048576):sZ n=some (isB n):=by
 unfold sZ isB;rw[aDA _ hr,a60 _ hf,aA,aA];cases h1:zT n.rules with
 |false=>rfl
 |true=>
  cases h2:pY n.facts with
  |false=>rfl
  |true=>
   rw[a7d _ _ _ hr h1 (FS.Ch hf) (vC h2),aA,aDF,aA];simp only[aW,fN];by_cases h3:0<=n.bz
   ·rw[bU h3];rfl
   ·rw[b9 h3];rfl
def xJ(x:Node):Int×Int×aQ:=(x.parent,x.cP,x.cond)
theorem a2Z{a b:ay}(h:a.map xJ=b.map xJ):a.map wW=b.map wW:=by
 have:=congrArg (List.map fun t:Int×Int×aQ=>(t.1,t.2.2)) h;rw[rE,rE]at this;exact this
def a0Q(ns:ay)(fs:aK):ay->Nat->Bool
 | [],_=>true
 |x::xs,i=>decide (x.tokens=yV (er ns (dG i)) fs)&&a0Q ns fs xs (i+1)
theorem SK(fs:aK):∀(a b:b7),a.map aP.shape=b.map aP.shape->((a.all fun x=>decide (x.facts=uo x.shape [] fs))=true↔a=jX b fs)
 | [],[],_=>⟨fun _=>rfl,fun _=>rfl⟩
 | [],_::_,h=>by simp at h
 |_::_,[],h=>by simp at h
 |x::a,y::b,h=>by
  rw[bH,bH]at h;obtain⟨h1,h2⟩:=zg h;have ih:=SK fs a b h2;rw[dK,aY,bJ,ih];show _↔x::a=⟨y.shape,uo y.shape [] fs⟩::jX b fs;constructor
  ·rintro⟨q1,q2⟩;rw[<-h1,<-q1,<-q2]
  ·intro q;obtain⟨q1,q2⟩:=zg q;exact⟨by rw[q1],q2⟩
theorem SM(ns:ay)(fs:aK):∀(a b:ay) (i:Nat),a.map xJ=b.map xJ->(a0Q ns fs a i=true↔a=tq ns fs b i)
 | [],[],_,_=>⟨fun _=>rfl,fun _=>rfl⟩
 | [],_::_,_,h=>by simp at h
 |_::_,[],_,h=>by simp at h
 |x::a,y::b,i,h=>by
  rw[bH,bH]at h;obtain⟨h1,h2⟩:=zg h;have ih:=SM ns fs a b (i+1) h2;have e1:x.parent=y.parent:=(kj h1).1;have e2:x.cP=y.cP:=(kj (kj h1).2).1;have e3:x.cond=y.cond:=(kj (kj h1).2).2;unfold a0Q tq;rw[aY,bJ,ih];constructor
  ·rintro⟨q1,q2⟩;rw[<-e1,<-e2,<-e3,<-q1,<-q2]
  ·intro q;obtain⟨q1,q2⟩:=zg q;exact⟨by rw[q1],q2⟩
theorem a6c(n:aF)(k:Option Bool)(hf:FS n.facts):∀(l:b7) (i:Nat),(∀x∈l,x.shape.wt<=1048576)->jl n k l i=bif l.all (fun x=>decide (x.facts=uo x.shape [] n.facts))then k else some false
 | [],_,_=>rfl
 |x::l,i,h=>by
  rw[jl,a8P x.shape [] n.facts (h x (by simp)) PB.nil hf,aA,U0,aA,a6c n k hf l _ (fun y hy=>h y (by simp[hy])),dK];cases decide (x.facts=uo x.shape [] n.facts)<;>rfl
theorem a6d(n:aF)(k:Option Bool)(hf:FS n.facts)(h24:n.facts.length<=24)(hp:IN n.nodes):∀(l:ay) (i:Nat),jm n k l i=bif a0Q n.nodes n.facts l i then k else some false
 | [],_=>rfl
 |x::l,i=>by
  have Wt:∀c∈er n.nodes ((i:Nat):Int),c.wt<=1048576:=by
   intro c hc;obtain⟨z,hz,e⟩:=RG hc;rw[<-e];exact hp.wt z hz
  rw[jm,a8W n _ ⟨hp.len,hp.wt⟩,aA,aB2 _ n.facts Wt (hp.path i) hf h24,aA,a5S,aA,a6d n k hf h24 hp l,a0Q];show(bif !decide (x.tokens=yV (er n.nodes (dG i)) n.facts)then some false else _)=_;cases decide (x.tokens=yV (er n.nodes (dG i)) n.facts)<;>rfl
theorem a8Q(n:aF)(hr:k8 aO.wt n.rules<=1048576)(hf:k8 aE.wt n.facts<=1048576):tU n=some (isB n):=by
 unfold tU isB;rw[a8M _ hr,a6X _ hf,aA,aA];cases h1:zT n.rules with
 |false=>rfl
 |true=>
  cases h2:pY n.facts with
  |false=>rfl
  |true=>
   have h6:n.rules.length<=6:=by unfold zT at h1;simp only[aY,bJ]at h1;omega
   have hv:=uI h1;simp only[aW,bQ,aa,fN];rw[aAp,aA];have hroot:(cg [⟨[],[]⟩] n.rules).1.2.map xJ=(cg [] n.rules).1.2.map xJ:=by rw[za,za];rfl
   have hA:(cg [⟨[],[]⟩] n.rules).1.1=(cg [] n.rules).1.1:=by rw[za,za]
   have hE:(cg [⟨[],[]⟩] n.rules).2=(cg [] n.rules).2:=by rw[za,za]
   have hmem:Rt n (MA n.rules n.facts 0)=(decide (n.ends=(cg [] n.rules).2)&&(decide (n.av=jX (cg [] n.rules).1.1 n.facts)&&decide (n.nodes=gw (cg [] n.rules).1.2 n.facts))):=by
    unfold Rt MA;simp
   by_cases hform:Qe n ⟨n.rules,(cg [⟨[],[]⟩] n.rules).2,(cg [⟨[],[]⟩] n.rules).1.1,(cg [⟨[],[]⟩] n.rules).1.2,[],0⟩=true
   ·rw[hform];unfold Qe at hform;simp only[aY,bJ]at hform;obtain⟨f1,f2,f3⟩:=hform;have f2':n.nodes.map xJ=(cg [] n.rules).1.2.map xJ:=by rw[<-hroot];exact f2
    have f1':n.av.map aP.shape=(cg [] n.rules).1.1.map aP.shape:=by rw[<-hA];exact f1
    have f3':n.ends=(cg [] n.rules).2:=by rw[<-hE];exact f3
    have a7M:=Q5 [] hv h6;have hfn:=a2Z f2';have hok:IN n.nodes:=by
     refine⟨by have:=congrArg List.length f2';rw[aZ,aZ]at this;rw[this];exact a7M.len,fun x hx=>?_,fun i=>by rw[AL hfn];exact a7M.path i⟩;have hm:wW x∈(cg [] n.rules).1.2.map wW:=by rw[<-hfn];exact cJ.2 ⟨x,hx,rfl⟩
     obtain⟨w,hw,e⟩:=cJ.1 hm;have:w.cond=x.cond:=(kj e).2;rw[<-this];exact a7M.wt w hw
    have hsh:∀x∈n.av,x.shape.wt<=1048576:=by
     intro x hx;have hm:x.shape∈(cg [] n.rules).1.1.map aP.shape:=by rw[<-f1'];exact cJ.2 ⟨x,hx,rfl⟩
     obtain⟨w,hw,e⟩:=cJ.1 hm;rw[<-e];exact(Cl [] hv w hw).1
    have g1:=SK n.facts n.av _ f1';have g2:=SM n.nodes n.facts n.nodes _ 0 f2';have g3:tq n.nodes n.facts (cg [] n.rules).1.2 0=gw (cg [] n.rules).1.2 n.facts:=by
     unfold gw;have:∀(l:ay) (i:Nat),tq n.nodes n.facts l i=tq (cg [] n.rules).1.2 n.facts l i:=by
      intro l
      induction l with
      |nil=>intro i;rfl
      |cons x l ih=>intro i;rw[tq,tq,ih,AL hfn]
     exact this _ _
    rw[g3]at g2;rw[hmem,bU f3',fN,a6c n _ (FS.Ch hf) _ _ hsh,a6d n _ (FS.Ch hf) (vC h2) hok];have k1:(n.av.all fun x=>decide (x.facts=uo x.shape [] n.facts))=decide (n.av=jX (cg [] n.rules).1.1 n.facts):=by rw[bp,g1,bJ]
    have k2:a0Q n.nodes n.facts n.nodes 0=decide (n.nodes=gw (cg [] n.rules).1.2 n.facts):=by rw[bp,g2,bJ]
    rw[k1,k2];by_cases h3:0<=n.bz
    ·rw[bU h3,b9 (by omega)];cases decide (n.av=jX (cg [] n.rules).1.1 n.facts)<;>cases decide (n.nodes=gw (cg [] n.rules).1.2 n.facts)<;>rfl
    ·rw[b9 h3,bU (by omega)];rfl
   ·have hfalse:Qe n ⟨n.rules,(cg [⟨[],[]⟩] n.rules).2,(cg [⟨[],[]⟩] n.rules).1.1,(cg [⟨[],[]⟩] n.rules).1.2,[],0⟩=false:=by
     cases hq:Qe n ⟨n.rules,(cg [⟨[],[]⟩] n.rules).2,(cg [⟨[],[]⟩] n.rules).1.1,(cg [⟨[],[]⟩] n.rules).1.2,[],0⟩with
     |true=>exact absurd hq hform
     |false=>rfl
    rw[hfalse];have hm:Rt n (MA n.rules n.facts 0)=false:=by
     cases hq:Rt n (MA n.rules n.facts 0)with
     |false=>rfl
     |true=>
      exfalso;rw[hmem]at hq;simp only[aY,bJ]at hq;obtain⟨q1,q2,q3⟩:=hq;apply hform;unfold Qe;simp only[aY,bJ];have r1:n.av.map aP.shape=(cg [⟨[],[]⟩] n.rules).1.1.map aP.shape:=by rw[hA,q2];unfold jX;rw[rE];rfl
      have r2:n.nodes.map xJ=(cg [⟨[],[]⟩] n.rules).1.2.map xJ:=by
       rw[hroot,q3];have:∀(ns l:ay) (i:Nat),(tq ns n.facts l i).map xJ=l.map xJ:=by
        intro ns l
        induction l with
        |nil=>intro i;rfl
        |cons x l ih=>intro i;rw[tq,bH,ih];rfl
       exact this _ _ _
      exact⟨r1,r2,by rw[hE];exact q1⟩
    rw[hm,yW];rfl
end Go.Cx
namespace Go.Cx
open Go.RowKit Go.Proofs Tryz
theorem Yu{fs:aK}(hf:FS fs):∀(cs:aq) (l:ah) (n:Nat),(∀c∈cs,c.wt<=1048576)->(∀t∈l,TK n t)->∀t∈cs.foldl (yE fs) l,TK (n+cs.length) t
 | [],l,n,_,hl=>hl
 |c::cs,l,n,hc,hl=>by
  have:=Yu hf cs (yE fs l c) (n+1) (fun x hx=>hc x (by simp[hx])) (Tk hl (hc c (by simp)) hf);rw[aM,show n+(cs.length+1)=n+1+cs.length from by omega];exact this
theorem zX{α:Type}{m:α->Nat}{B:Nat}:∀(l:List α),(∀x∈l,m x<=B)->iK m l<=B*l.length
 | [],_=>by simp[iK]
 |x::l,h=>by
  have h1:=zX l fun y hy=>h y (by simp[hy])
  have h2:=h x (by simp);rw[uz,aM,Nat.mul_add];omega
theorem SY{n:Nat}(l:aK)(hl:l.length<=n)(hf:∀f∈l,f.wt<=1048576):iK aE.iQ l<=6291462*n:=by
 have:=zX (m:=aE.iQ) (B:=6291462) l fun f hf'=>by have:=aE.mi f;have:=hf f hf';omega
 exact cT this (eP _ hl)
theorem Zt(l:aT)(h:PB l):iK aS.iQ l<=2*1048576:=by
 have:=zX (m:=aS.iQ) (B:=2) l fun f _=>by simp[aS.iQ]
 exact cT this (eP _ h.1)
theorem TK.iQ{t:aI}(h:TK 4 t):t.iQ<=100000000:=by
 have h1:=SY (n:=4) t.facts h.1 h.2.1;have h2:=Zt t.bind h.2.2;unfold aI.iQ;omega
end Go.Cx
namespace Go.Cx
open Go.RowKit Go.Proofs Tryz
theorem SL(ns:ay)(fs:aK):∀(l:ay) (i j:Nat),(tq ns fs l i)[j]?=(l[j]?).map fun x=>⟨x.parent,x.cond,x.cP,yV (er ns (dG (i+j))) fs⟩
 | [],_,_=>by simp[tq]
 |x::l,i,0=>by simp[tq]
 |x::l,i,j+1=>by
  rw[tq,eo,eo,SL ns fs l (i+1) j,show i+1+j=i+(j+1)by omega]
end Go.Cx
namespace Go.Cx
open Go.RowKit Go.Proofs Tryz
def findF(f:aE):aK->Nat->Int
 | [],_=> -1
 |x::xs,i=>if x=f then(i:Int)else findF f xs (i+1)
theorem Oc(f:aE):∀(l:aK) (i:Nat),decide (findF f l i>=0)=decide (f∈l)
 | [],i=>by simp[findF]
 |x::xs,i=>by
  rw[findF];by_cases h:x=f
  ·rw[bR h];subst h;simp
  ·rw[bG h,Oc f xs (i+1)];have:f≠x:=fun e=>h e.symm
   simp[this]
theorem a8O(l:aK)(f:aE):ud l f=some (findF f l 0):=by
 unfold ud;have:∀(r:aK) (i:Nat),kU l f (some (-1)) r i=some (findF f r i):=by
  intro r
  induction r with
  |nil=>intro i;rfl
  |cons x xs ih=>
   intro i;rw[kU,a39,aA,ih,findF];by_cases h:x=f
   ·rw[bU h,bR h,aW]
   ·rw[b9 h,bG h,aa]
 exact this l 0
theorem a7h(l:aK)(f:aE):uM l f=some (findF f l 0):=by
 unfold uM;have:∀(r:aK) (i:Nat),kG l f (some (-1)) r i=some (findF f r i):=by
  intro r
  induction r with
  |nil=>intro i;rfl
  |cons x xs ih=>
   intro i;rw[kG,a27,aA,ih,findF];by_cases h:x=f
   ·rw[bU h,bR h,aW]
   ·rw[b9 h,bG h,aa]
 exact this l 0
theorem SF{a b:Bytes}(h:yU a b>0):yU b a<0:=by
 unfold yU at h⊢;by_cases h1:Op.bytesLess a b=true
 ·rw[bR h1]at h;omega
 ·rw[bG h1]at h;by_cases h2:a=b
  ·rw[bR h2]at h;omega
  ·have h3:Op.bytesLess b a=true:=by
    cases hb:Op.bytesLess b a with
    |true=>rfl
    |false=>exact absurd (Kh (by simpa using h1) hb) h2
   rw[bR h3];omega
theorem SH{a b:Bytes}(h:yU a b=0):a=b:=jV fun hne=>YH hne h
theorem QO{a b:Bytes}(h:yU a b<0):yU b a>0:=by
 unfold yU at h⊢;by_cases h1:Op.bytesLess a b=true
 ·have h3:=MX h1;have h4:¬(Op.bytesLess b a=true):=by rw[h3];simp
  have h5:¬b=a:=fun e=>by subst e;rw[yI]at h1;cases h1
  rw[bG h4,bG h5];omega
 ·rw[bG h1]at h;by_cases h2:a=b
  ·rw[bR h2]at h;omega
  ·rw[bG h2]at h;omega
theorem SC(a b:Bytes):(DP a b>0->DP b a<0)/\(DP a b=0->a=b)/\(DP a b<0->DP b a>0):=by
 have num:∀ {s:Bytes} {n:Nat},AK s=some n->Lib.decDigits n=s:=by
  intro s n h;unfold AK at h;split at h
  ·split at h
   ·split at h
    ·rename_i h2;cases h;exact h2
    ·cases h
   ·cases h
  ·cases h
 unfold DP;cases ha:AK a with
 |none=>
  cases hb:AK b with
  |none=>exact⟨SF,SH,QO⟩
  |some y=>simp
 |some x=>
  cases hb:AK b with
  |none=>simp
  |some y=>
   simp only[Ki];refine⟨fun h=>?_,fun h=>?_,fun h=>?_⟩
   ·split at h
    ·omega
    ·split at h
     ·rw[bR (by omega)];omega
     ·omega
   ·split at h
    ·omega
    ·split at h
     ·omega
     ·have:x=y:=by omega
      rw[<-num ha,<-num hb,this]
   ·split at h
    ·rw[bG (by omega),bR (by omega)];omega
    ·split at h<;>omega
theorem QV{α:Type}{g:α->α->Int}(hg:∀a b,(g a b>0->g b a<0)/\(g a b=0->a=b)/\(g a b<0->g b a>0)):∀(a b:List α),
 (∀z,vq g a b=some z->z≠0/\∃y,vq g b a=some y/\(z>0->y<0)/\(z<0->y>0))/\(vq g a b=none->vq g b a=none/\(a.length=b.length->a=b))
 | [],[]=>⟨fun z h=>(by simp[vq]at h),fun _=>⟨rfl,fun _=>rfl⟩⟩
 | [],y::ys=>⟨fun z h=>(by simp[vq]at h),fun _=>⟨by simp[vq],fun h=>by simp at h⟩⟩
 |x::xs,[]=>⟨fun z h=>(by simp[vq]at h),fun _=>⟨by simp[vq],fun h=>by simp at h⟩⟩
 |x::xs,y::ys=>by
  obtain⟨i1,i2⟩:=QV hg xs ys;obtain⟨g1,g2,g3⟩:=hg x y;by_cases h0:g x y=0
  ·have e:=g2 h0;subst e;simp only[vq,h0,ne_eq,not_true_eq_false,DI];exact⟨i1,fun h=>⟨(i2 h).1,fun hl=>by rw[(i2 h).2 (by simpa using hl)]⟩⟩
  ·have h1:g y x≠0:=by
    intro e;by_cases hp:g x y>0
    ·have:=g1 hp;omega
    ·have:=g3 (by omega);omega
   simp only[vq,ne_eq,h0,h1,not_false_eq_true,sL];refine⟨fun z h=>?_,fun h=>by cases h⟩;cases h;exact⟨h0,_,rfl,g1,g3⟩
theorem SE{α:Type}{g:α->α->Int}(hg:∀a b,(g a b>0->g b a<0)/\(g a b=0->a=b)/\(g a b<0->g b a>0))(a b:List α):(cmpL g a b>0->cmpL g b a<0)/\(cmpL g a b=0->a=b)/\(cmpL g a b<0->cmpL g b a>0):=by
 obtain⟨h1,h2⟩:=QV hg a b;unfold cmpL;cases hd:vq g a b with
 |some z=>
  obtain⟨hz,y,hy,p,q⟩:=h1 z hd;rw[hy];exact⟨p,fun e=>absurd e hz,q⟩
 |none=>
  obtain⟨h3,h4⟩:=h2 hd;rw[h3];simp only[Ki];refine⟨fun h=>?_,fun h=>?_,fun h=>?_⟩
  ·split at h
   ·omega
   ·split at h
    ·rw[bR (by omega)];omega
    ·omega
  ·split at h
   ·omega
   ·split at h
    ·omega
    ·exact h4 (by omega)
  ·split at h
   ·rw[bG (by omega),bR (by omega)];omega
   ·split at h<;>omega
theorem BV(a b:aE):(qA a b>0->qA b a<0)/\(qA a b=0->a=b)/\(qA a b<0->qA b a>0):=by
 obtain⟨h1,h2,h3⟩:=SE SC a.args b.args;unfold qA;by_cases hr:a.rel=b.rel
 ·rw[bG (by simpa using hr),bG (by simpa using hr.symm)];refine⟨h1,fun h=>?_,h3⟩;cases a;cases b;simp only at hr h2 h;rw[hr,h2 h]
 ·have hr2:b.rel≠a.rel:=fun e=>hr e.symm
  rw[bR hr,bR hr2];exact⟨SF,fun h=>absurd (SH h) hr,QO⟩
def CW(f:aE):aK->aK
 | []=>[f]
 |x::xs=>if qA x f>0 then f::x::xs else x::CW f xs
theorem a2E(f:aE):∀(l:aK) (x:aE),x∈CW f l↔x=f\/x∈l
 | [],x=>by simp[CW]
 |y::ys,x=>by
  rw[CW];split
  ·simp
  ·simp only[bM,a2E f ys x];constructor
   ·rintro(h|h|h)<;>simp[h]
   ·rintro(h|h|h)<;>simp[h]
theorem VG(f:aE):∀(l:aK),(CW f l).length=l.length+1
 | []=>rfl
 |y::ys=>by rw[CW];split<;>simp[VG f ys]
theorem S9{f:aE}(hf:tj f=true):∀(l:aK) (p:Option aE),chainB p l=true->f∉l->(∀q,p=some q->qA q f<0)->chainB p (CW f l)=true
 | [],p,_,_,hp=>by
  cases p with
  |none=>simp[CW,chainB,hf]
  |some q=>simp[CW,chainB,hf,hp q rfl]
 |x::xs,p,h,hn,hp=>by
  simp only[bM,Kc]at hn;have hx:chainB (some x) xs=true/\tj x=true/\(∀q,p=some q->qA q x<0):=by
   cases p with
   |none=>simp[chainB]at h;exact⟨h.2,h.1,by simp⟩
   |some q=>
    simp only[chainB,aY,bJ]at h;exact⟨by first|exact h.2.2|exact h.2,by first|exact h.1.1|exact h.1,fun q' e=>by cases e;first|exact h.1.2|exact h.2.1⟩
  rw[CW];split
  ·rename_i hgt;have h1:=(BV x f).1 hgt;cases p with
   |none=>simp[chainB,hf,hx.2.1,h1,hx.1]
   |some q=>simp[chainB,hf,hx.2.1,h1,hx.1,hp q rfl]
  ·rename_i hle;have hlt:qA x f<0:=by
    have:qA x f≠0:=fun e=>hn.1 ((BV x f).2.1 e).symm
    omega
   have ih:=S9 hf xs (some x) hx.1 hn.2 (fun q e=>by cases e;exact hlt);cases p with
   |none=>simp[chainB,hx.2.1,ih]
   |some q=>simp[chainB,hx.2.1,ih,hx.2.2 q rfl]
theorem a4I{f:aE}{l:aK}(hf:tj f=true)(hl:pY l=true)(hn:f∉l)(h24:l.length≠24):pY (CW f l)=true:=by
 unfold pY at hl⊢;simp only[aY,bJ]at hl⊢;exact⟨S9 hf l none hl.1 hn (by simp),by rw[VG];omega⟩
theorem aAt(a:aK)(f:aE)(K:Bool->aK->Option aK)(hf:f.args.length<=1099511627776):∀(rest:aK) (i:Nat) (v:Bool) (w:aK),(∀x∈rest,x.args.length<=1099511627776)->w.length+2*rest.length<=1048576->f∉rest->
 (v=true->eH a f K rest i v w=K true (w++rest))/\
 (v=false->(eH a f K rest i v w=K true (w++CW f rest))\/(eH a f K rest i v w=K false (w++rest)/\CW f rest=rest++[f])):=by
 intro rest
 induction rest with
 |nil=>intro i v w _ _ _;exact⟨fun h=>by subst h;simp[eH],fun h=>by subst h;exact .inr ⟨by simp[eH],rfl⟩⟩
 |cons x xs ih=>
  intro i v w hs hl hn;simp only[aM]at hl;simp only[bM,Kc]at hn;have hx:=hs x (by simp);have hs':∀y∈xs,y.args.length<=1099511627776:=fun y hy=>hs y (by simp[hy])
  have cx:=Ot x hx;have cf:=Ot f hf;have nx:=fun w':aK=>fun h:w'.length<1099511627776=>mh (w:=w') (c:=aE.c) (y:=[D.str x.rel,D.sl (x.args.map tx)]) (b:=40) h (by decide)
  have nf:=fun w':aK=>fun h:w'.length<1099511627776=>mh (w:=w') (c:=aE.c) (y:=[D.str f.rel,D.sl (f.args.map tx)]) (b:=40) h (by decide)
  constructor
  ·intro h;subst h;rw[eH,bQ,aa,cx,aA,nx w (by omega),aW,(ih (i+1) true (w++[x]) hs' (by simp;omega) hn.2).1 rfl];simp
  ·intro h;subst h;rw[eH,cQ,aW,a2t,aA];by_cases hgt:qA x f>0
   ·left
    have e2:room (((w.map aE.c)++[[D.str f.rel,D.sl (f.args.map tx)]]).length+[[D.str x.rel,D.sl (x.args.map tx)]].length) 40=true:=by
     have:=nx (w++[f]) (by simp;omega);rw[bN]at this;exact this
    rw[bU (by omega:qA x f>=0),aW,aA,bU hgt,aW,cf,aA,nf w (by omega),aW,cx,aA,e2,aW];rw[(ih (i+1) true (w++[f]++[x]) hs' (by simp;omega) hn.2).1 rfl,CW,bR hgt];simp
   ·have hlt:¬qA x f>=0:=by
     have:qA x f≠0:=fun e=>hn.1 ((BV x f).2.1 e).symm
     omega
    rw[b9 hlt,aa,cx,aA,nx w (by omega),aW];rw[CW,bG hgt];rcases(ih (i+1) false (w++[x]) hs' (by simp;omega) hn.2).2 rfl with q|⟨q1,q2⟩
    ·left;rw[q];simp
    ·right;rw[q1,q2];simp
theorem aAs(l:aK)(f:aE)(hf:f.args.length<=1099511627776)(hl:∀x∈l,x.args.length<=1099511627776)(hn:l.length<=1000)(hm:f∉l):yo l f=some (CW f l):=by
 unfold yo;rcases(aAt l f _ hf l 0 false [] hl (by simp;omega) hm).2 rfl with q|⟨q1,q2⟩
 ·rw[q];rfl
 ·rw[q1,q2];show(bif !false then _ else _)=_;rw[cQ,aW,Ot f hf,aA,cI,mh (w:=l) (c:=aE.c) (y:=[D.str f.rel,D.sl (f.args.map tx)]) (by omega) (by decide),aW]
def PX(l:aK)(f:aE):aK×Bool:=if pY l=true/\tj f=true/\f∉l/\l.length≠24 then(CW f l,true)else(l,false)
theorem aAh(l:aK)(f:aE)(hl:k8 aE.wt l<=1048576)(hf:f.wt<=1048576):wS l f=some (PX l f):=by
 have hm:∀x∈l,x.args.length<=1048576:=fun x hx=>by have:=aE.dY (n:=1048576) (p:=x) (by have:=iZ (w:=aE.wt) hx;omega);omega
 have hlen:=gu aE.wt l;have cp:=E0 l (by omega) hm;unfold wS PX;rw[a6X l hl,aA];cases h1:pY l with
 |false=>rw[cQ,aW,cp,aA,bG (by simp)]
 |true=>
  rw[bQ,aa,a2x f hf,aA];cases h2:tj f with
  |false=>rw[cQ,aW,cp,aA,bG (by simp)]
  |true=>
   rw[bQ,aa,a8O,aA,Oc];by_cases h3:f∈l
   ·rw[bU h3,aW,cp,aA,bG (by simp[h3])]
   ·rw[b9 h3,aa,aZ];by_cases h4:l.length=24
    ·have e:(((l.length:Nat):Int)==(24:Int))=true:=by simp[h4]
     rw[e,aW,cp,aA,bG (by simp[h4])]
    ·have e:(((l.length:Nat):Int)==(24:Int))=false:=by simp;omega
     rw[e,aa,aAs l f (by have:=aE.dY hf;omega) (fun x hx=>by have:=hm x hx;omega) (by have:=vC h1;omega) h3,aA,bR ⟨rfl,rfl,h3,h4⟩]
theorem QR{a b c:Bytes}(h1:yU a b<0)(h2:yU b c<0):yU a c<0:=by
 have lt:∀ {x y:Bytes},yU x y<0->Op.bytesLess x y=true:=by
  intro x y h;unfold yU at h;split at h
  ·assumption
  ·split at h<;>omega
 have:=DM (lt h1) (lt h2);unfold yU;rw[bR this];omega
theorem a4Q{x y:Int}:Ki x y<0↔x<y:=by
 unfold Ki;split
 ·omega
 ·split<;>omega
theorem WX{a b c:Bytes}(h1:DP a b<0)(h2:DP b c<0):DP a c<0:=by
 unfold DP at*;cases ha:AK a<;>cases hb:AK b<;>cases hc:AK c<;>simp only[ha,hb,hc]at h1 h2⊢ <;>first|omega|exact QR h1 h2| (rw[a4Q]at*;omega)
theorem a4P{α:Type}(g:α->α->Int):cmpL g [] []=0:=rfl
theorem a4O{α:Type}(g:α->α->Int)(y:α)(ys:List α):cmpL g [] (y::ys)= -1:=by
 unfold cmpL vq Ki;simp<;>omega
theorem YG{α:Type}(g:α->α->Int)(x:α)(xs:List α):cmpL g (x::xs) []=1:=by
 unfold cmpL vq Ki;simp<;>omega
theorem YF{α:Type}(g:α->α->Int)(x y:α)(xs ys:List α):cmpL g (x::xs) (y::ys)=if g x y≠0 then g x y else cmpL g xs ys:=by
 unfold cmpL;rw[vq];by_cases h:g x y≠0
 ·rw[bR h,bR h]
 ·rw[bG h,bG h,aM,aM];cases vq g xs ys with
  |some z=>rfl
  |none=>
   show Ki _ _=Ki _ _;unfold Ki
   congr 1
   ·rw[zR];omega
   ·congr 1
    rw[zR];omega
theorem QN{α:Type}{g:α->α->Int}(h0:∀a b,g a b=0->a=b)(ht:∀a b c,g a b<0->g b c<0->g a c<0):∀(a b c:List α),cmpL g a b<0->cmpL g b c<0->cmpL g a c<0
 | [],[],c,h1,_=>by rw[a4P]at h1;omega
 |_::_,[],c,h1,_=>by rw[YG]at h1;omega
 |_,y::ys,[],_,h2=>by rw[YG]at h2;omega
 | [],y::ys,z::zs,_,_=>by rw[a4O];omega
 |x::xs,y::ys,z::zs,h1,h2=>by
  rw[YF]at*;by_cases e1:g x y=0
  ·have:=h0 _ _ e1;subst this;rw[bG (by omega)]at h1;by_cases e2:g x z=0
   ·rw[bG (by omega)]at h2⊢;exact QN h0 ht xs ys zs h1 h2
   ·rw[bR e2]at h2⊢;exact h2
  ·rw[bR e1]at h1;by_cases e2:g y z=0
   ·have:=h0 _ _ e2;subst this;rw[bR e1];exact h1
   ·rw[bR e2]at h2;have:=ht x y z h1 h2;rw[bR (by omega)];exact this
theorem WY{a b c:aE}(h1:qA a b<0)(h2:qA b c<0):qA a c<0:=by
 unfold qA at*;by_cases e1:a.rel=b.rel
 ·by_cases e2:b.rel=c.rel
  ·rw[bG (by simpa using e1)]at h1;rw[bG (by simpa using e2)]at h2;rw[bG (by simpa using e1.trans e2)];exact QN (fun a b=>(SC a b).2.1) (fun _ _ _=>WX) _ _ _ h1 h2
  ·rw[bR e2]at h2;rw[e1,bR e2];exact h2
 ·rw[bR e1]at h1;by_cases e2:b.rel=c.rel
  ·rw[<-e2,bR e1];exact h1
  ·rw[bR e2]at h2;have:=QR h1 h2;have hne:a.rel≠c.rel:=fun e=>by rw[e,SG]at this;omega
   rw[bR hne];exact this
theorem SD(a:aE):¬qA a a<0:=by
 intro h;have:=(BV a a).2.2 h;omega
theorem ZJ(a:aE):qA a a=0:=by
 have h1:=SD a;have h2:=(BV a a).1;omega
theorem IR{a b:aK}:cmpL qA a b=0↔a=b:=by
 constructor
 ·exact(SE BV a b).2.1
 ·rintro rfl
  induction a with
  |nil=>rfl
  |cons x xs ih=>rw[YF,bG (by simp[ZJ]),ih]
theorem GO{p:Option aE}{x:aE}{xs:aK}(h:chainB p (x::xs)=true):tj x=true/\(∀q,p=some q->qA q x<0)/\chainB (some x) xs=true:=by
 cases p with
 |none=>simp[chainB]at h;exact⟨h.1,by simp,h.2⟩
 |some q=>
  simp only[chainB,aY,bJ]at h;exact⟨h.1.1,fun q' e=>by cases e;exact h.1.2,h.2⟩
theorem S7:∀ {l:aK} {p:aE},chainB (some p) l=true->∀x∈l,qA p x<0
 | [],_,_,_,h=>by cases h
 |y::ys,p,h,x,hx=>by
  obtain⟨_,h2,h3⟩:=GO h;have hp:=h2 p rfl;rcases bM.1 hx with rfl|hx
  ·exact hp
  ·exact WY hp (S7 h3 x hx)
theorem MY:∀ {l:aK} {p:Option aE},chainB p l=true->l.Nodup
 | [],_,_=>List.nodup_nil
 |x::xs,p,h=>by
  obtain⟨_,_,h3⟩:=GO h;rw[fC];exact⟨fun hx=>SD x (S7 h3 x hx),MY h3⟩
theorem Uf{l:aK}(h:pY l=true):l.Nodup:=by
 unfold pY at h;simp only[aY]at h;exact MY h.1
theorem P4:∀ {l:aK} {p:Option aE},chainB p l=true->∀x∈l,tj x=true
 | [],_,_,_,h=>by cases h
 |y::ys,p,h,x,hx=>by
  obtain⟨h1,_,h3⟩:=GO h;rcases bM.1 hx with rfl|hx
  ·exact h1
  ·exact P4 h3 x hx
theorem T6{l:aK}{f:aE}(h:(PX l f).2=true):pY (PX l f).1=true:=by
 unfold PX at h⊢;split at h
 ·rename_i hc;rw[bR hc];exact a4I hc.2.1 hc.1 hc.2.2.1 hc.2.2.2
 ·cases h
end Go.Cx
namespace Go.Cx
open Go.RowKit Go.Proofs Tryz
theorem a0B{p:aE}(h:yx p=true)(hl:p.args.length<=5):Cov (vl p) p:=by
 have hT:∀t∈p.args,qZ t=true:=Yt h;refine⟨a0C h hl,h,rfl,unB (p.args.foldl jY []),?_,fun y hy=>?_⟩
 ·rw[MF,rE];have:p.args.map (unB (p.args.foldl jY [])∘FD (p.args.foldl jY []))=p.args.map id:=by
   apply mI;intro t ht;exact aB4 hl ht (hT t ht)
  rw[this,List.map_id]
 ·refine Ow fun q hq e=>?_
  obtain⟨i,hi,_,hpv,_⟩:=Oy (F4 p.args Y6.nil) hq;have h5:=Ce p.args;have:=BS (Tj i (by omega));rw[<-hpv,e,hy]at this;cases this
theorem SW{p f:aE}{b:aT}(hl:p.args.length<=5)(hm:(uy p f b).2=true):(uy (vl p) f []).2=true:=by
 unfold uy at hm;cases hc:(yx p&&(tj f&&(pF b&&(p.rel==f.rel&&decide (p.args.length=f.args.length)))))with
 |false=>rw[hc]at hm;cases hm
 |true=>
  rw[hc,aW]at hm;simp only[aY,bJ,cj]at hc;obtain⟨c1,c2,c3,c4,c5⟩:=hc;obtain⟨h,_,h2,h3⟩:=CA p.args f.args b c5 (fun x hx=>(SA (Uk c3) x hx).1) hm;exact a4S (a0B c1 hl) (R2.2 ⟨c1,c2,c4,h,h2,h3⟩)
theorem Qa{c:aQ}(hl:c.pat.args.length<=5)(t:aI):∀fs:aK,(uo (vl c.pat) [] fs).flatMap (ext1 c t)=fs.flatMap (ext1 c t)
 | []=>rfl
 |f::fs=>by
  have ih:=Qa hl t fs;unfold uo at*;cases hm:(uy (vl c.pat) f []).2 with
  |true=>rw[sQ (by rw[hm]),dN,dN,ih]
  |false=>
   have h0:ext1 c t f=[]:=by
    unfold ext1;cases h2:(uy c.pat f t.bind).2 with
    |false=>rfl
    |true=>rw[SW hl h2]at hm;cases hm
   rw[sP (by simp[hm]),dN,h0,ih];rfl
theorem ZY{p:aE}{b:aT}(hl:p.args.length<=5)(fs:aK):uo p b (uo (vl p) [] fs)=uo p b fs:=by
 unfold uo;rw[xo];apply yX;intro f _;cases h:(uy p f b).2 with
 |false=>rfl
 |true=>rw[SW hl h];rfl
theorem Zy{c:aQ}(hl:c.pat.args.length<=5)(fs:aK)(A:ah):yE (uo (vl c.pat) [] fs) A c=yE fs A c:=by
 unfold yE
 congr 1
 funext t
 unfold Nr Og;rw[Qa hl,ZY hl]
theorem a2c{c:aQ}(h1:c.kind≠1)(h2:c.kind≠2)(fs:aK)(A:ah):yE [] A c=yE fs A c:=by
 unfold yE
 congr 1
 funext t
 unfold Nr Og;rw[b9 h1,b9 h2];rfl
def KD(A:ah):Prop:=A.Pairwise fun t u=>t.facts≠u.facts
theorem M3{c:aQ}{t u:aI}{f:aE}(h:u∈ext1 c t f):u.facts=t.facts++[f]:=by
 unfold ext1 at h;cases hm:(uy c.pat f t.bind).2 with
 |false=>rw[hm]at h;cases h
 |true=>rw[hm,aW]at h;rw[eD.1 h]
theorem R7{c:aQ}{fs:aK}{t u:aI}(h:u∈Nr c fs t):(c.kind=1/\∃f∈fs,u.facts=t.facts++[f])\/(c.kind≠1/\u=t):=by
 unfold Nr at h;by_cases hk:c.kind=1
 ·rw[bU hk,aW]at h;obtain⟨f,hf,hu⟩:=cE.1 h;exact .inl ⟨hk,f,hf,M3 hu⟩
 ·rw[b9 hk,aa]at h;cases hh:Og c t.bind fs with
  |false=>rw[hh]at h;cases h
  |true=>rw[hh,aW]at h;exact .inr ⟨hk,eD.1 h⟩
theorem a5F{c:aQ}{fs:aK}{A:ah}(hf:fs.Nodup)(hA:KD A):KD (yE fs A c):=by
 unfold KD yE;rw[FJ];refine⟨fun t _=>?_,?_⟩
 ·unfold Nr;cases decide (c.kind=1)with
  |true=>
   rw[aW,FJ];refine⟨fun f _=>?_,?_⟩
   ·unfold ext1;cases(uy c.pat f t.bind).2<;>simp
   ·exact List.Pairwise.imp (fun {f g} hne x hx y hy e=>by
     rw[M3 hx,M3 hy]at e;exact hne (by simpa using e)) hf
  |false=>cases Og c t.bind fs<;>simp
 ·exact List.Pairwise.imp (fun {t u} hne x hx y hy e=>by
   rcases R7 hx with⟨k,f,_,e1⟩|⟨k,e1⟩<;>rcases R7 hy with⟨k',g,_,e2⟩|⟨k',e2⟩
   ·rw[e1,e2]at e;exact hne (List.append_inj' e rfl).1
   ·exact k' k
   ·exact k k'
   ·rw[e1,e2]at e;exact hne e) hA
theorem KD.one(t:aI):KD [t]:=List.pairwise_singleton _ _
theorem YO{fs:aK}(hf:fs.Nodup):∀(cs:aq) {A:ah},KD A->KD (cs.foldl (yE fs) A)
 | [],_,h=>h
 |c::cs,_,h=>YO hf cs (a5F hf h)
theorem a5a{cs:aq}{fs:aK}(hf:fs.Nodup):KD (yV cs fs):=YO hf cs (KD.one _)
def Yn(t:aI)(l:ah):ah:=l.filter fun u=>decide (t.facts=u.facts)
def Ro(l:ah)(t:aI):Bool:=l.any fun u=>decide (u.facts=t.facts)
def Ng(now old:ah):Nat:=(now.filter fun t=>Ro old t).length
theorem Se{t:aI}:∀ {l:ah},KD l->(Yn t l).length=(bif Ro l t then 1 else 0)
 | [],_=>rfl
 |u::l,h=>by
  unfold KD at h;rw[kD]at h;have ih:=Se (t:=t) (l:=l) h.2;unfold Yn Ro at*;by_cases e:t.facts=u.facts
  ·rw[sQ (by simp[e]),vB,bU e.symm,Bool.true_or,aW,aM,ih];have:(l.any fun u=>decide (u.facts=t.facts))=false:=by
    rw[CY];intro w hw;have:=h.1 w hw;rw[<-e]at this;simp only[bJ];exact fun e2=>this e2.symm
   rw[this];rfl
  ·rw[sP (by simp[e]),vB,b9 (fun h=>e h.symm),pX,ih]
def PO(al:b7)(x:Node):Prop:=(x.cond.kind=1\/x.cond.kind=2->∃a:Nat,x.cP=dG a/\∃y,al[a]?=some y/\y.shape=vl x.cond.pat)/\(¬(x.cond.kind=1\/x.cond.kind=2)->x.cP= -1)
theorem PO.mono{al:b7}{x:Node}(h:PO al x)(m:b7):PO (al++m) x:=⟨fun hk=>by
 obtain⟨a,h1,y,h2,h3⟩:=h.1 hk;exact⟨a,h1,y,by rw[bA (aH.1 h2).1];exact h2,h3⟩,h.2⟩
theorem Ud{sh:aE}:∀ {l:b7} {i j:Nat},ZG sh l i=some j->∃x,l[j-i]?=some x/\i<=j/\x.shape=sh
 |x::l,i,j,h=>by
  unfold ZG at h;split at h
  ·rename_i hc;cases h;exact⟨x,by simp,bS _,hc⟩
  ·obtain⟨y,h1,h2,h3⟩:=Ud h;refine⟨y,?_,by omega,h3⟩;rw[show j-i=(j-(i+1))+1 by omega];exact h1
theorem a6v(al:b7)(sh:aE):(∃m,(Y8 al sh).1=al++m)/\∃a:Nat,(Y8 al sh).2=dG a/\∃y,(Y8 al sh).1[a]?=some y/\y.shape=sh:=by
 unfold Y8;cases h:ZG sh al 0 with
 |some i=>
  obtain⟨x,h1,_,h3⟩:=Ud h;exact⟨⟨[],by simp⟩,i,rfl,x,by simpa using h1,h3⟩
 |none=>exact⟨⟨_,rfl⟩,al.length,rfl,⟨sh,[]⟩,by simp,rfl⟩
theorem a6y(al:b7)(c:aQ)(p:Int)(tk:ah):(∃m,(S5 al c).1=al++m)/\PO (S5 al c).1 ⟨p,c,(S5 al c).2,tk⟩:=by
 unfold S5;by_cases hk:c.kind=1\/c.kind=2
 ·rw[bR hk];obtain⟨h1,h2⟩:=a6v al (vl c.pat);exact⟨h1,fun _=>h2,fun h=>absurd hk h⟩
 ·rw[bG hk];exact⟨⟨[],by simp⟩,fun h=>absurd h hk,fun _=>rfl⟩
theorem a6z{al:b7}{ns:ay}{p:Int}{c:aQ}(h:∀x∈ns,PO al x):∀x∈(O9 al ns p c).1.2,PO (O9 al ns p c).1.1 x:=by
 unfold O9;cases S6 p c ns 0 with
 |some i=>exact h
 |none=>
  obtain⟨⟨m,hm⟩,h2⟩:=a6y al c p [];intro x hx;rcases au.1 hx with hx|hx
  ·show PO (S5 al c).1 x;rw[hm];exact(h x hx).mono m
  ·rw[eD.1 hx];exact h2
theorem a3L:∀(cs:aq) (s:(b7×ay)×Int),(∀x∈s.1.2,PO s.1.1 x)->∀x∈(cs.foldl IX s).1.2,PO (cs.foldl IX s).1.1 x
 | [],_,h=>h
 |c::cs,s,h=>a3L cs (IX s c) (a6z h)
theorem a3M:∀(l:ar) (z:(b7×ay)×bI),(∀x∈z.1.2,PO z.1.1 x)->∀x∈(l.foldl KX z).1.2,PO (l.foldl KX z).1.1 x
 | [],_,h=>h
 |r::l,z,h=>a3M l (KX z r) (a3L (gy r) (z.1,0) h)
theorem a5X(tk:ah)(rs:ar):∀x∈(cg tk rs).1.2,PO (cg tk rs).1.1 x:=
 a3M rs (([],[root tk]),[]) (fun x hx=>by
  rw[eD.1 hx];exact⟨fun h=>by simp[root]at h,fun _=>rfl⟩)
theorem a3R{tk:ah}{rs:ar}{i:Nat}{x:Node}(h1:1<=i)(hx:(cg tk rs).1.2[i]?=some x):∃r∈rs,x.cond∈gy r:=by
 have hp:=(zZ tk rs).1;obtain⟨p,hpp,hpi⟩:=hp.below i x h1 hx;obtain⟨r,hr,j,j1,j2,e⟩:=hp.path i h1 (aH.1 hx).1;rw[yH hx h1 hpp hpi]at e;exact⟨r,hr,cH (by rw[<-e];simp:x.cond∈(gy r).take j)⟩
theorem a3X{ns:ay}{i p:Nat}{x:Node}(h1:1<=i)(hx:ns[i]?=some x)(hp:x.parent=dG p)(hpi:p<i)(fs:aK):yV (er ns (dG i)) fs=yE fs (yV (er ns (dG p)) fs) x.cond:=by
 rw[yH hx h1 hp hpi];unfold yV;rw[List.foldl_append];rfl
end Go.Cx
namespace Go.Cx
open Go.RowKit Go.Proofs Tryz
theorem aAB(a:aK)(f:aE)(K:Bool->aK->Option aK)(hf:f.args.length<=1099511627776):∀(rest:aK) (i:Nat) (v:Bool) (w:aK),(∀x∈rest,x.args.length<=1099511627776)->w.length+2*rest.length<=1048576->
 (v=true->dO a f K rest i v w=K true (w++rest))/\
 (v=false->(dO a f K rest i v w=K true (w++CW f rest))\/(dO a f K rest i v w=K false (w++rest)/\CW f rest=rest++[f])):=by
 intro rest
 induction rest with
 |nil=>intro i v w _ _;exact⟨fun h=>by subst h;simp[dO],fun h=>by subst h;exact .inr ⟨by simp[dO],rfl⟩⟩
 |cons x xs ih=>
  intro i v w hs hl;simp only[aM]at hl;have hx:=hs x (by simp);have hs':∀y∈xs,y.args.length<=1099511627776:=fun y hy=>hs y (by simp[hy])
  have cx:=Oj x hx;have cf:=Oj f hf;have nx:=fun w':aK=>fun h:w'.length<1099511627776=>mh (w:=w') (c:=aE.c) (y:=[D.str x.rel,D.sl (x.args.map tx)]) (b:=40) h (by decide)
  have nf:=fun w':aK=>fun h:w'.length<1099511627776=>mh (w:=w') (c:=aE.c) (y:=[D.str f.rel,D.sl (f.args.map tx)]) (b:=40) h (by decide)
  constructor
  ·intro h;subst h;rw[dO,bQ,aa,cx,aA,nx w (by omega),aW,(ih (i+1) true (w++[x]) hs' (by simp;omega)).1 rfl];simp
  ·intro h;subst h;rw[dO,cQ,aW,a1x,aA];by_cases hgt:qA x f>0
   ·left
    have e2:room (((w.map aE.c)++[[D.str f.rel,D.sl (f.args.map tx)]]).length+[[D.str x.rel,D.sl (x.args.map tx)]].length) 40=true:=by
     have:=nx (w++[f]) (by simp;omega);rw[bN]at this;exact this
    rw[bU hgt,aW,cf,aA,nf w (by omega),aW,cx,aA,e2,aW];rw[(ih (i+1) true (w++[f]++[x]) hs' (by simp;omega)).1 rfl,CW,bR hgt];simp
   ·rw[b9 hgt,aa,cx,aA,nx w (by omega),aW];rw[CW,bG hgt];rcases(ih (i+1) false (w++[x]) hs' (by simp;omega)).2 rfl with q|⟨q1,q2⟩
    ·left;rw[q];simp
    ·right;rw[q1,q2];simp
theorem aAA(l:aK)(f:aE)(hf:f.args.length<=1099511627776)(hl:∀x∈l,x.args.length<=1099511627776)(hn:l.length<=1000):wF l f=some (CW f l):=by
 unfold wF;rcases(aAB l f _ hf l 0 false [] hl (by simp;omega)).2 rfl with q|⟨q1,q2⟩
 ·rw[q];rfl
 ·rw[q1,q2];show(bif !false then _ else _)=_;rw[cQ,aW,Oj f hf,aA,cI,mh (w:=l) (c:=aE.c) (y:=[D.str f.rel,D.sl (f.args.map tx)]) (by omega) (by decide),aW]
theorem a9z(l:aK)(f:aE)(hl:k8 aE.wt l<=1048576)(hf:f.wt<=1048576):wA l f=some (PX l f):=by
 have hm:∀x∈l,x.args.length<=1048576:=fun x hx=>by have:=aE.dY (n:=1048576) (p:=x) (by have:=iZ (w:=aE.wt) hx;omega);omega
 have hlen:=gu aE.wt l;have cp:=Dr l (by omega) hm;unfold wA PX;rw[a60 l hl,aA];cases h1:pY l with
 |false=>rw[cQ,aW,cp,aA,bG (by simp)]
 |true=>
  have h24:=vC h1;rw[bQ,aa,a25 f hf,aA];cases h2:tj f with
  |false=>rw[cQ,aW,cp,aA,bG (by simp)]
  |true=>
   rw[bQ,aa,a7h,aA,Oc];by_cases h3:f∈l
   ·rw[bU h3,aW,cp,aA,bG (by simp[h3])]
   ·rw[b9 h3,aa,aZ];by_cases h4:l.length=24
    ·rw[bU (by omega),aW,cp,aA,bG (by simp[h4])]
    ·rw[b9 (by omega),aa,aAA l f (by have:=aE.dY hf;omega) (fun x hx=>by have:=hm x hx;omega) (by omega),aA,bR ⟨rfl,rfl,h3,h4⟩]
end Go.Cx
namespace Go.Cx
open Go.RowKit Go.Proofs Tryz
structure zo(n:aF):Prop where
 rules:k8 aO.wt n.rules<=1048576
 facts:k8 aE.wt n.facts<=1048576
 ends:n.ends.length<=1048576
 av:n.av.length<=1048576
 cP:∀a∈n.av,a.shape.wt<=1048576/\FS a.facts
 nodes:n.nodes.length<=1048576
 node:∀x∈n.nodes,x.cond.wt<=1048576/\x.tokens.length<=1048576/\∀t∈x.tokens,TK 1048576 t
theorem FS.args{fs:aK}(h:FS fs):∀f∈fs,f.args.length<=1048576:=fun f hf=>aE.dY (h.2 f hf)
theorem zo.Ch{n:aF}(h:n.wt<=1048576):zo n:=by
 have h0:=h;unfold aF.wt at h0;have a1:=gu zw n.ends;have a2:=gu aP.wt n.av;have a3:=gu Node.wt n.nodes;refine⟨by omega,by omega,by omega,by omega,fun a ha=>?_,by omega,fun x hx=>?_⟩
 ·have h1:a.wt<=1048576:=by have:=iZ (w:=aP.wt) ha;omega
  unfold aP.wt at h1;exact⟨by unfold aE.wt;omega,FS.Ch (by omega)⟩
 ·have h1:x.wt<=1048576:=by have:=iZ (w:=Node.wt) hx;omega
  unfold Node.wt at h1;have h2:=gu aI.wt x.tokens;refine⟨by unfold aQ.wt;omega,by omega,fun t ht=>?_⟩;have h3:t.wt<=1048576:=by have:=iZ (w:=aI.wt) ht;omega
  unfold aI.wt at h3;have h4:=gu aE.wt t.facts;have h5:=gu aS.wt t.bind;refine⟨by omega,fun f hf=>by have:=iZ (w:=aE.wt) hf;omega,by omega,fun p hp=>?_⟩;have h6:p.wt<=1048576:=by have:=iZ (w:=aS.wt) hp;omega
  unfold aS.wt tw at h6;omega
theorem a5L(l:ah)(hl:l.length<=1048576)(h:∀t∈l,TK 1048576 t):js l=some l:=by
 unfold js;rw[GA (c:=aI.c) (b:=48) (f:=sF) (g:=fun x=>x) (L:=jU l _) (k:=_) (by decide) (fun _ _=>rfl) (fun _ _ _ _=>rfl) _ _ _ (fun t ht=>a2v t (h t ht)) (by simp;omega)];simp
theorem a4k(l:ah)(hl:l.length<=1048576)(h:∀t∈l,TK 1048576 t):ld l=some l:=by
 unfold ld;rw[GA (c:=aI.c) (b:=48) (f:=fun t:aI=>(cy t.facts).bind fun y=>(jN t.bind).bind fun z=>some (⟨y,z⟩:aI)) (g:=fun x=>x) (L:=ir l _) (k:=_) (by decide) (fun _ _=>rfl) (fun x xs i w=>by
  rw[ir];cases cy x.facts with
  |none=>rfl
  |some a=>cases jN x.bind<;>rfl) _ _ _ (fun t ht=>by
  have hk:=h t ht;rw[Dr t.facts hk.1 (fun f hf=>aE.dY (hk.2.1 f hf)),aA,X5 t.bind (by have:=hk.2.2.1;omega)];rfl) (by simp;omega)]
 simp
theorem aAu(l:bI)(h:l.length<=1048576):xY l=some l:=by
 unfold xY;rw[KU (by simp;omega) (by decide),aW,cI]
theorem aAC(l:bI)(h:l.length<=1048576):uP l=some l:=by
 unfold uP;rw[KU (by simp;omega) (by decide),aW,cI]
theorem Tw(n:aF)(h:zo n):pq n=some n:=by
 have hF:=FS.Ch h.facts;have h1:=h.av;have h2:=h.nodes;unfold pq;rw[Vf n.rules h.rules,aA,aAu n.ends h.ends,aA,E0 n.facts hF.1 hF.args,aA];rw[GA (c:=aP.c) (b:=64) (f:=fun a:aP=>(eU a.shape).bind fun y=>(dU a.facts).bind fun z=>some (⟨y,z⟩:aP)) (g:=fun x=>x) (L:=nj n _ _ _ _) (k:=_) (by decide) (fun _ _=>rfl) (fun x xs i w=>by
  rw[nj];cases eU x.shape with
  |none=>rfl
  |some a=>cases dU x.facts<;>rfl) _ _ _ (fun a ha=>by
  obtain⟨g1,g2⟩:=h.cP a ha;rw[a2w a.shape (by have:=aE.dY g1;omega),aA,E0 a.facts g2.1 g2.args];rfl) (by simp;omega)]
 rw[GA (c:=Node.c) (b:=120) (f:=fun x:Node=>(k9 x.cond).bind fun y=>(js x.tokens).bind fun z=>some (⟨x.parent,y,x.cP,z⟩:Node)) (g:=fun x=>x) (L:=nk n _ _ _ _ _) (k:=_) (by decide) (fun _ _=>rfl) (fun x xs i w=>by
  rw[nk];cases k9 x.cond with
  |none=>rfl
  |some a=>cases js x.tokens<;>rfl) _ _ _ (fun x hx=>by
  obtain⟨g1,g2,g3⟩:=h.node x hx;rw[Tv x.cond (by have:=aE.dY (aQ.fK g1);omega),aA,a5L x.tokens g2 g3];rfl) (by simp;omega)]
 simp
theorem TS(n:aF)(h:zo n):iq n=some n:=by
 have hF:=FS.Ch h.facts;have h1:=h.av;have h2:=h.nodes;unfold iq;rw[VE n.rules h.rules,aA,aAC n.ends h.ends,aA,Dr n.facts hF.1 hF.args,aA];rw[GA (c:=aP.c) (b:=64) (f:=fun a:aP=>(eG a.shape).bind fun y=>(cy a.facts).bind fun z=>some (⟨y,z⟩:aP)) (g:=fun x=>x) (L:=iL n _ _ _ _) (k:=_) (by decide) (fun _ _=>rfl) (fun x xs i w=>by
  rw[iL];cases eG x.shape with
  |none=>rfl
  |some a=>cases cy x.facts<;>rfl) _ _ _ (fun a ha=>by
  obtain⟨g1,g2⟩:=h.cP a ha;rw[a23 a.shape (by have:=aE.dY g1;omega),aA,Dr a.facts g2.1 g2.args];rfl) (by simp;omega)]
 rw[GA (c:=Node.c) (b:=120) (f:=fun x:Node=>(fE x.cond).bind fun y=>(ld x.tokens).bind fun z=>some (⟨x.parent,y,x.cP,z⟩:Node)) (g:=fun x=>x) (L:=iM n _ _ _ _ _) (k:=_) (by decide) (fun _ _=>rfl) (fun x xs i w=>by
  rw[iM];cases fE x.cond with
  |none=>rfl
  |some a=>cases ld x.tokens<;>rfl) _ _ _ (fun x hx=>by
  obtain⟨g1,g2,g3⟩:=h.node x hx;rw[TR x.cond (by have:=aE.dY (aQ.fK g1);omega),aA,a4k x.tokens g2 g3];rfl) (by simp;omega)]
 simp
theorem X6{n:aF}(h:isB n=true):zT n.rules=true/\pY n.facts=true/\0<=n.bz/\n=MA n.rules n.facts n.bz:=by
 unfold isB Rt MA at h;simp only[aY,bJ]at h;obtain⟨b1,b2,b0,_,b3,_,b5,b4⟩:=h;refine⟨b1,b2,b0,?_⟩;unfold MA;cases n;simp only at b3 b4 b5⊢;rw[<-b3,<-b4,<-b5]
theorem Uz{f:aE}(h:tj f=true):f.wt<=100:=by
 unfold tj at h;simp only[aY,bJ,bB]at h;obtain⟨h1,h2,h3⟩:=h;have a1:=SZ h2;have a2:=Q7 f.args (fun x hx=>by have:=IQ (h1 x hx);omega);unfold aE.wt tw;unfold tw at a2;omega
theorem QJ{fs:aK}(h:pY fs=true):∀f∈fs,tj f=true:=by
 unfold pY at h;simp only[aY]at h;exact P4 h.1
theorem Sq{α:Type}{w:α->Nat}{B:Nat}:∀(l:List α),(∀x∈l,w x<=B)->k8 w l<=(B+1)*l.length
 | [],_=>by simp[k8]
 |x::l,h=>by
  have h1:=Sq l fun y hy=>h y (by simp[hy])
  have h2:=h x (by simp);rw[qe,aM,Nat.mul_add];omega
theorem DK{fs:aK}(h:pY fs=true):k8 aE.wt fs<=2424:=by
 have h1:=Sq (w:=aE.wt) (B:=100) fs fun f hf=>Uz (QJ h f hf)
 have h2:=vC h;have:(100+1)*fs.length<=(100+1)*24:=eP _ h2;omega
theorem yQ(ns:ay)(fs:aK)(i:Nat):(gw ns fs)[i]?=(ns[i]?).map fun x=>⟨x.parent,x.cond,x.cP,yV (er ns (dG i)) fs⟩:=by
 unfold gw;rw[SL,cq]
theorem Dp(ns:ay)(fs:aK):(gw ns fs).length=ns.length:=ZX ns fs ns 0
theorem Bj{rs:ar}(h:zT rs=true):rs.length<=6:=by unfold zT at h;simp only[aY,bJ]at h;omega
theorem RS{rs:ar}(tk:ah)(h:zT rs=true):(cg tk rs).1.1.length<=24:=by
 have h6:=Bj h;have main:∀(l:ar) (z:(b7×ay)×bI),(∀r∈l,oD r=true)->(l.foldl KX z).1.1.length<=z.1.1.length+4*l.length:=by
  intro l
  induction l with
  |nil=>intro z _;exact bS _
  |cons r l ih=>
   intro z hl;have h1:=ih (KX z r) (fun x hx=>hl x (by simp[hx]));have h2:=(IY (gy r) (z.1,0)).1;have h3:=BX (hl r (by simp));have h4:(KX z r).1.1.length=((gy r).foldl IX (z.1,0)).1.1.length:=rfl;rw[eA,aM];dsimp only at h2;omega
 have:=main rs (([],[root tk]),[]) (uI h);unfold cg;simp only[bK]at this;omega
theorem I7{rs:ar}{fs:aK}(h1:zT rs=true)(h2:pY fs=true){i:Nat}{x:Node}(hx:(gw (cg [] rs).1.2 fs)[i]?=some x):x.cond.wt<=1048576/\x.tokens.length<=390625/\(∀t∈x.tokens,TK 4 t)/\KD x.tokens:=by
 have hv:=uI h1;have hok:=Q5 [] hv (Bj h1);rw[yQ]at hx;obtain⟨y,hy,rfl⟩:=EA.1 hx;have hFS:=FS.Ch (by have:=DK h2;omega:k8 aE.wt fs<=1048576);have Wt:∀c∈er (cg [] rs).1.2 (dG i),c.wt<=1048576:=by
  intro c hc;obtain⟨z,hz,e⟩:=RG hc;rw[<-e];exact hok.wt z hz
 refine⟨hok.wt y (aC hy),a3W (hok.path i) (vC h2),fun t ht=>?_,a5a (Uf h2)⟩;exact(Yu hFS _ [⟨[],[]⟩] 0 Wt XL t ht).le (by have:=hok.path i;omega)
theorem Ti{rs:ar}{fs:aK}(t:Int)(h1:zT rs=true)(h2:pY fs=true)(hr:k8 aO.wt rs<=1048576):zo (MA rs fs t):=by
 have hv:=uI h1;have h6:=Bj h1;have hw:=DK h2;have hl:=E1 [] hv h6;refine⟨hr,by show k8 aE.wt fs<=1048576;omega,?_,?_,?_,?_,?_⟩
 ·show(cg [] rs).2.length<=1048576;rw[(zZ [] rs).2.1];omega
 ·show(jX (cg [] rs).1.1 fs).length<=1048576;unfold jX;rw[aZ];have:=RS [] h1;omega
 ·intro a ha;obtain⟨y,hy,rfl⟩:=cJ.1 (show a∈(cg [] rs).1.1.map _ from ha);refine⟨(Cl [] hv y hy).1,?_,fun f hf=>?_⟩
  ·have:=qf (fun f=>(uy y.shape f []).2) fs;have:=vC h2;show(uo y.shape [] fs).length<=1048576;unfold uo;omega
  ·have:=Uz (QJ h2 f (fy.1 hf).1);omega
 ·show(gw (cg [] rs).1.2 fs).length<=1048576;rw[Dp];omega
 ·intro x hx;obtain⟨i,hi⟩:=cm (show x∈gw (cg [] rs).1.2 fs from hx);obtain⟨g1,g2,g3,_⟩:=I7 h1 h2 hi;exact⟨g1,by omega,fun t ht=>(g3 t ht).le (by omega)⟩
def adT(now old:ah):Nat:=now.length-Ng now old
theorem VI(now old:ah):Ng now old<=now.length:=qf _ _
theorem Qr(t:aI)(l old:ah):Ng (t::l) old=(bif Ro old t then 1 else 0)+Ng l old:=by
 unfold Ng;cases h:Ro old t with
 |true=>rw[sQ (by rw[h]),aM,aW];omega
 |false=>rw[sP (by simp[h]),aa];omega
def stepT(al:b7)(f:aE)(x:Node)(now old:ah)(t:Int):Int:=
 if x.cP<0 then IntKind.i64.wrap (t+((adT now old:Nat):Int))else match mJ al x.cP with
  |none=>t
  |some y=>bif (uy y.shape f []).2 then IntKind.i64.wrap (IntKind.i64.wrap (t+IntKind.i64.wrap (((adT now old:Nat):Int)*((y.facts.length:Nat):Int)))+((Ng now old:Nat):Int))else IntKind.i64.wrap (t+IntKind.i64.wrap (((adT now old:Nat):Int)*((y.facts.length:Nat):Int)))
def KZ(ns:ay)(p:Int):ah:=match mJ ns p with|some x=>x.tokens|none=>[]
def trN(N0 N1:ay)(al:b7)(f:aE):ay->Int->Int
 | [],t=>t
 |x::xs,t=>trN N0 N1 al f xs (stepT al f x (KZ N1 x.parent) (KZ N0 x.parent) t)
theorem Ym(a b:ah)(i1:Nat)(x:aI)(k:Int->Option (Int×Int)):∀(l:ah) (i v:Nat),v+l.length<=1099511627000->lN a b i1 x k l i (v:Int)=k ((v+(Yn x l).length:Nat):Int)
 | [],i,v,_=>rfl
 |y::l,i,v,h=>by
  simp only[aM]at h;have ih:=Ym a b i1 x k l (i+1);unfold Yn at*;rw[lN,aAj,aA];by_cases e:x.facts=y.facts
  ·rw[show((cmpL qA x.facts y.facts:Int)==0)=true by simp[IR.2 e],aW,II (by omega),ih (v+1) (by omega),sQ (by simp[e]),aM]
   congr 2;omega
  ·rw[show((cmpL qA x.facts y.facts:Int)==0)=false by
    have:cmpL qA x.facts y.facts≠0:=fun h=>e (IR.1 h)
    simp[this],aa,ih v (by omega),sP (by simp[e])]
theorem Tx(a b:ah)(k:Int->Option (Int×Int))(hK:KD b)(hb:b.length<=1048576):∀(l:ah) (i v:Nat),v+l.length<=1099500000000->nr a b k l i (v:Int)=k ((v+Ng l b:Nat):Int)
 | [],i,v,_=>rfl
 |x::l,i,v,h=>by
  simp only[aM]at h;have hx:=Se (t:=x) hK;rw[nr,xA (by omega),aW,Ym a b i x _ b 0 v (by omega),hx,Qr];cases Ro b x with
  |true=>rw[aW,Tx a b k hK hb l (i+1) (v+1) (by omega)];congr 2;omega
  |false=>rw[aa,Tx a b k hK hb l (i+1) (v+0) (by omega)];congr 2;omega
theorem aAv(now old:ah)(hK:KD old)(h1:now.length<=1048576)(h2:old.length<=1048576):xZ now old=some (((Ng now old:Nat):Int),((adT now old:Nat):Int)):=by
 have hle:=VI now old;unfold xZ;have:=Tx now old (fun(ze:Int)=>(some (ze,IntKind.i64.wrap (((now.map aI.c).length:Int)-ze)))) hK h2 now 0 0 (by omega);rw[show(0:Int)=((0:Nat):Int)from rfl,this,cq,aZ,gr (th.i64.2 (by omega))];unfold adT
 congr 2
 omega
theorem aA7(l:ah)(t:aI):uQ l t=some (Ro l t):=by
 unfold uQ;have:∀(r:ah) (i:Nat),kM l t (some false) r i=some (Ro r t):=by
  intro r
  induction r with
  |nil=>intro i;rfl
  |cons x r ih=>
   intro i;rw[kM,aA1,aA,ih];unfold Ro;rw[vB];by_cases e:x.facts=t.facts
   ·rw[show((cmpL qA x.facts t.facts:Int)==0)=true by simp[IR.2 e],aW,bU e,Bool.true_or]
   ·rw[show((cmpL qA x.facts t.facts:Int)==0)=false by
     have:cmpL qA x.facts t.facts≠0:=fun h=>e (IR.1 h)
     simp[this],aa,b9 e,pX]
 exact this l 0
theorem a1w(n:aF)(f:aE)(y3:aF×Unit)(u:Int)(i1:Nat)(x xx y:Node)(k:Int->Int->Option aF)(hy:mJ n.nodes x.parent=some y):∀(l:ah) (i a b:Nat),a+l.length<=1099511627000->b+l.length<=1099511627000->
 jv n f y3 u i1 x xx k l i (a:Int) (b:Int)=k ((a+Ng l y.tokens:Nat):Int) ((b+adT l y.tokens:Nat):Int)
 | [],i,a,b,_,_=>rfl
 |t::l,i,a,b,h1,h2=>by
  simp only[aM]at h1 h2;have ih:=a1w n f y3 u i1 x xx y k hy l (i+1);have hle:=VI l y.tokens;rw[jv,hy,aA,aA7,aA];unfold adT at*;rw[Qr,aM];cases Ro y.tokens t with
  |true=>
   rw[aW,aW,II (by omega),ih (a+1) b (by omega) (by omega)]
   congr 2<;>omega
  |false=>
   rw[aa,aa,II (by omega),ih a (b+1) (by omega) (by omega)]
   congr 2<;>omega
def aBp(N0 N1:ay)(al:b7)(x:Node):Prop:=(∃p0 p1,mJ N0 x.parent=some p0/\mJ N1 x.parent=some p1/\p1.tokens.length<=1048576)/\(x.cP<0\/∃y,mJ al x.cP=some y/\y.shape.wt<=1048576)
theorem a1v(n:aF)(f:aE)(y3:aF×Unit)(k:Int->Option aF)(hf:f.wt<=1048576):∀(l:ay) (i:Nat) (u:Int),1<=i->(∀x∈l,aBp n.nodes y3.1.nodes y3.1.av x)->fH n f y3 k l i u=k (trN n.nodes y3.1.nodes y3.1.av f l u)
 | [],_,_,_,_=>rfl
 |x::l,i,u,hi,hU=>by
  have ih:=a1v n f y3 k hf l (i+1);have hU':=fun z (hz:z∈l)=>hU z (by simp[hz])
  obtain⟨⟨p0,p1,e0,e1,hl⟩,ha⟩:=hU x (by simp);rw[fH,show(((i:Nat):Int)==0)=false by simp;omega,aa,e1,aA,xA (by omega),aW];rw[show(0:Int)=((0:Nat):Int)from rfl,a1w n f y3 u i x p1 p0 _ e0 p1.tokens 0 0 0 (by omega) (by omega),cq,cq,trN];unfold stepT;rw[show KZ y3.1.nodes x.parent=p1.tokens by unfold KZ;rw[e1],show KZ n.nodes x.parent=p0.tokens by unfold KZ;rw[e0]];by_cases hal:x.cP<0
  ·rw[bU (by simpa using hal),aW,bR hal,ih _ (by omega) hU']
  ·rw[b9 (by simpa using hal),aa,bG hal];rcases ha with ha|⟨y,hy,hyw⟩
   ·exact absurd ha hal
   ·rw[hy,aA,a7l y.shape f [] hyw hf PB.nil,aA,aZ];dsimp only;cases(uy y.shape f []).2 with
    |true=>rw[aW,aW,ih _ (by omega) hU']
    |false=>rw[aa,aa,ih _ (by omega) hU']
theorem BF{α:Type}(l:List α)(i:Nat):mJ l (dG i)=l[i]?:=by
 unfold mJ dG;rw[bU (by omega),aW];rfl
theorem a2V{rs:ar}{fs0 fs:aK}(h1:zT rs=true)(h0:pY fs0=true)(h2:pY fs=true){i:Nat}(hi:1<=i){x:Node}(hx:(cg [] rs).1.2[i]?=some x):
 ∃(p:Nat) (q:Node),p<i/\x.parent=dG p/\(cg [] rs).1.2[p]?=some q/\(gw (cg [] rs).1.2 fs0)[p]?=some ⟨q.parent,q.cond,q.cP,yV (er (cg [] rs).1.2 (dG p)) fs0⟩/\(gw (cg [] rs).1.2 fs)[p]?=some ⟨q.parent,q.cond,q.cP,yV (er (cg [] rs).1.2 (dG p)) fs⟩/\
  x.cond.pat.args.length<=3/\x.cond.wt<=1048576/\((x.cP<0/\x.cond.kind≠1/\x.cond.kind≠2)\/∃(a:Nat) (y:aP),x.cP=dG a/\(cg [] rs).1.1[a]?=some y/\y.shape=vl x.cond.pat/\y.shape.wt<=1048576):=by
 have hv:=uI h1;obtain⟨p,hp,hpi⟩:=(zZ [] rs).1.below i x hi hx;have WE:=(aH.1 hx).1;have hq:=ai (show p<(cg [] rs).1.2.length by omega);obtain⟨r,hr,hc⟩:=a3R hi hx;have hal:=a5X [] rs x (aC hx);refine⟨p,_,hpi,hp,hq,by rw[yQ,hq];rfl,by rw[yQ,hq];rfl,(PG (hv r hr) _ hc).2.1,Ns (hv r hr) _ hc,?_⟩;by_cases hk:x.cond.kind=1\/x.cond.kind=2
 ·obtain⟨a,e1,y,e2,e3⟩:=hal.1 hk;exact .inr ⟨a,y,e1,e2,e3,(Cl [] hv y (aC e2)).1⟩
 ·exact .inl ⟨by rw[hal.2 hk];decide,fun e=>hk (.inl e),fun e=>hk (.inr e)⟩
def a1H(n:aF)(fs:aK)(f:aE):aF:=MA n.rules fs (trN n.nodes (gw (cg [] n.rules).1.2 fs) (jX (cg [] n.rules).1.1 fs) f ((gw (cg [] n.rules).1.2 fs).drop 1) n.bz)
theorem aDC(n:aF)(fs:aK)(f:aE)(hn:isB n=true)(hr:k8 aO.wt n.rules<=1048576)(h2:pY fs=true)(hf:f.wt<=1048576):wE n fs f=some (a1H n fs f):=by
 obtain⟨h1,h0,ht,e⟩:=X6 hn;have hv:=uI h1;have h6:=Bj h1;have hFS:=FS.Ch (by have:=DK h2;omega:k8 aE.wt fs<=1048576);have hok:zo n:=by rw[e];exact Ti _ h1 h0 hr
 have hN:n.nodes=gw (cg [] n.rules).1.2 n.facts:=congrArg aF.nodes e;have hA:n.av=jX (cg [] n.rules).1.1 n.facts:=congrArg aF.av e;have hE:n.ends=(cg [] n.rules).2:=congrArg aF.ends e;have hform:n.nodes.map wW=(cg [] n.rules).1.2.map wW:=by rw[hN];exact M4 _ _ _ _
 have hp0:=Q5 [] hv h6;have a7P:IN n.nodes:=by
  refine⟨hok.nodes,fun x hx=>(hok.node x hx).1,fun i=>?_⟩;rw[AL hform];exact hp0.path i
 have hfA:jX n.av fs=jX (cg [] n.rules).1.1 fs:=by
  rw[hA];unfold jX;rw[rE];rfl
 have hfN:gw n.nodes fs=gw (cg [] n.rules).1.2 fs:=by
  have key:∀(l m:ay) (i:Nat),l.map xJ=m.map xJ->tq n.nodes fs l i=tq (cg [] n.rules).1.2 fs m i:=by
   intro l
   induction l with
   |nil=>intro m i hm;cases m with
    |nil=>rfl
    |cons y m=>simp at hm
   |cons x l ih=>intro m i hm;cases m with
    |nil=>simp at hm
    |cons y m=>
     rw[bH,bH]at hm;obtain⟨q1,q2⟩:=zg hm;have e1:x.parent=y.parent:=(kj q1).1;have e2:x.cP=y.cP:=(kj (kj q1).2).1;have e3:x.cond=y.cond:=(kj (kj q1).2).2;rw[tq,tq,ih m (i+1) q2,AL hform,e1,e2,e3]
  refine key _ _ 0 ?_;rw[hN];have:∀(ns l:ay) (i:Nat),(tq ns n.facts l i).map xJ=l.map xJ:=by
   intro ns l
   induction l with
   |nil=>intro i;rfl
   |cons x l ih=>intro i;rw[tq,bH,ih];rfl
  exact this _ _ _
 unfold wE;rw[TS n hok,aA,a62 n fs hFS (vC h2) hok.av (fun x hx=>(hok.cP x hx).1) a7P,aA,hfA,hfN];have hlen:=Dp (cg [] n.rules).1.2 fs;have aF4:=E1 [] hv h6;dsimp only;rw[xA (by omega),aW];have tZ:gw (cg [] n.rules).1.2 fs=(gw (cg [] n.rules).1.2 fs).take 1++(gw (cg [] n.rules).1.2 fs).drop 1:=(cD 1 _).symm;cases hns:gw (cg [] n.rules).1.2 fs with
 |nil=>
  have:=(zZ [] n.rules).1.pos;rw[hns]at hlen;simp at hlen;omega
 |cons x0 l=>
  rw[fH,show(((0:Nat):Int)==0)=true from rfl,aW,a1v n f _ _ hf l 1 _ (bS _) (fun x hx=>?_)]
  ·unfold a1H MA;rw[hns,hE];rfl
  ·obtain⟨i,hi⟩:=cm hx;have hi2:(gw (cg [] n.rules).1.2 fs)[i+1]?=some x:=by rw[hns];exact hi
   rw[yQ]at hi2;obtain⟨z,hz,rfl⟩:=EA.1 hi2;obtain⟨p,q,_,e1,_,e3,e4,_,_,e7⟩:=a2V h1 h0 h2 (i:=i+1) (by omega) hz;have g4:=(I7 h1 h2 e4).2.1;have u3:=(show mJ n.nodes z.parent=(gw (cg [] n.rules).1.2 n.facts)[p]? by rw[e1,BF,hN]).trans e3;have u4:=(show mJ (x0::l) z.parent=(gw (cg [] n.rules).1.2 fs)[p]? by rw[e1,BF,hns]).trans e4;refine⟨⟨_,_,u3,u4,by omega⟩,?_⟩
   ·rcases e7 with⟨e7,_⟩|⟨a,y,e7,e8,_,e10⟩
    ·exact .inl e7
    ·refine .inr ⟨⟨y.shape,uo y.shape [] fs⟩,?_,e10⟩;show mJ (jX (cg [] n.rules).1.1 fs) z.cP=_;rw[e7,BF];unfold jX;rw[cA,e8];rfl
end Go.Cx
namespace Go.Cx
open Go.RowKit Go.Proofs Tryz
structure Ren(h:Bytes->Bytes)(V:Bytes->Prop):Prop where
 var:∀v,V v->lR v=true
 aE3:∀t,lR t=false->h t=t
 aFZ:∀v,V v->lR (h v)=true
 inj:∀u v,V u->V v->h u=h v->u=v
structure RB(h:Bytes->Bytes)(V:Bytes->Prop)(b b':List aS):Prop where
 len:b'.length=b.length
 get:∀v,V v->lT (h v) b'=lT v b
 ok:pF b=true
 ok':pF b'=true
structure RT(h:Bytes->Bytes)(V:Bytes->Prop)(t t':aI):Prop where
 facts:t'.facts=t.facts
 bind:RB h V t.bind t'.bind
inductive RL(R:aI->aI->Prop):List aI->List aI->Prop
 |nil:RL R [] []
 |cons {a b:aI} {l m:ah}:R a b->RL R l m->RL R (a::l) (b::m)
end Go.Cx
namespace Go.Cx
open Go.RowKit Go.Proofs Tryz
def KM(f:aE)(A:b7):List Bool:=A.map fun a=>(uy a.shape f []).2
theorem Dn(A:b7)(fs:aK):(jX A fs).length=A.length:=by unfold jX;rw[aZ]
theorem Wm(A:b7)(x:aP)(fs:aK):jX (A++[x]) fs=jX A fs++[⟨x.shape,uo x.shape [] fs⟩]:=by unfold jX;rw[bN];rfl
theorem a6Y(n:aF)(fs:aK)(f:aE)(y1:aF)(y3:aK)(K:List Bool->b7->Option aF)(hFS:FS fs)(hf:f.wt<=1048576)(A:b7)(hA:∀a∈A,a.shape.wt<=1048576)(hl:A.length<=1048576):∀(rest pre:b7) (fu:Nat),A=pre++rest->rest.length<fu->
 jC n fs f y1 y3 K fu (pre.length:Int) (KM f pre) (jX pre fs++rest)=K (KM f A) (jX A fs)
 | [],pre,fu,e,hu=>by
  obtain⟨fu,rfl⟩:∃m,fu=m+1:=⟨fu-1,by simp at hu;omega⟩
  rw[cN]at e;rw[jC,cN,aZ,Dn,b9 (by omega),aa,e]
 |x::rest,pre,fu,e,hu=>by
  obtain⟨fu,rfl⟩:∃m,fu=m+1:=⟨fu-1,by simp at hu;omega⟩
  simp only[aM]at hu;have hlen:A.length=pre.length+(rest.length+1):=by rw[e];simp
  have hx:=hA x (by rw[e];simp);have ih:=a6Y n fs f y1 y3 K hFS hf A hA hl rest (pre++[x]) fu (by rw[e];simp) (by omega);have hat:mJ (jX pre fs++x::rest) (pre.length:Int)=some x:=by
   have:=zh (a:=jX pre fs++x::rest) (pre:=jX pre fs) (xs:=rest) (x:=x) rfl;rw[Dn]at this;exact this
  have qo:(jX pre fs++x::rest).set (pre.length:Int).toNat ⟨x.shape,uo x.shape [] fs⟩=jX (pre++[x]) fs++rest:=by
   have:=setAt (jX pre fs) rest x ⟨x.shape,uo x.shape [] fs⟩;rw[Dn]at this;rw[oH,this,Wm,bY];rfl
  have hh:KM f pre++[(uy x.shape f []).2]=KM f (pre++[x]):=by unfold KM;rw[bN];rfl
  have hpl:(KM f pre).length=pre.length:=by unfold KM;rw[aZ]
  rw[jC,aZ,aX,Dn,aM,bU (by omega),aW,hat,aA,a8R x.shape f [] hx hf PB.nil,aA,KU (by simp;omega) (by decide),aW,a8P x.shape [] fs hx PB.nil hFS,aA,II (by omega),qo,hh];rw[aX,fW]at ih;exact ih
theorem Ye{N0 N1:ay}{v:Nat}(hl:N0.length=N1.length)(hv:v<=N1.length)(j:Nat):(N1.take v++N0.drop v)[j]?=if j<v then N1[j]? else N0[j]?:=by
 have h1:(N1.take v).length=v:=by rw[cM];omega
 by_cases h:j<v
 ·rw[bR h,bA (by omega),cK,bR h]
 ·rw[bG h,bE (by omega),h1,eC]
  congr 1;omega
theorem a58{N0 N1:ay}{v:Nat}(hl:N0.length=N1.length)(hv:v<N1.length){y:Node}(hy:N1[v]?=some y):(N1.take v++N0.drop v).set v y=N1.take (v+1)++N0.drop (v+1):=by
 have h1:(N1.take v).length=v:=by rw[cM];omega
 rw[mm (by omega:v<N0.length)];have:=setAt (N1.take v) (N0.drop (v+1)) (N0[v]'(by omega)) y;rw[h1]at this;rw[this,List.take_add_one,hy];simp
theorem Zr(S:ay)(a b:aK):(gw S b).take 1++(gw S a).drop 1=gw S a:=by
 have h:(gw S b).take 1=(gw S a).take 1:=by
  apply oI;intro i;rw[cK,cK];by_cases hi:i<1
  ·rw[bR hi,bR hi,show i=0 by omega,yQ,yQ,wY];rfl
  ·rw[bG hi,bG hi]
 rw[h,cD]
theorem aAi(n:aF)(fs:aK)(f:aE)(y1:aF)(y3:aK)(K:Int->ay->Option aF)(h1:zT n.rules=true)(h0:pY n.facts=true)(h2:pY fs=true)(hN:n.nodes=gw (cg [] n.rules).1.2 n.facts)(hA:n.av=jX (cg [] n.rules).1.1 n.facts):
 ∀(d v fu:Nat) (u:Int),v+d=(cg [] n.rules).1.2.length->1<=v->d<fu->
  ec n y1 y3 (KM f n.av) (jX (cg [] n.rules).1.1 fs) K fu (v:Int) u ((gw (cg [] n.rules).1.2 fs).take v++n.nodes.drop v)=
   K (trN n.nodes (gw (cg [] n.rules).1.2 fs) (jX (cg [] n.rules).1.1 fs) f ((gw (cg [] n.rules).1.2 fs).drop v) u) (gw (cg [] n.rules).1.2 fs):=by
 have hl0:n.nodes.length=(cg [] n.rules).1.2.length:=by rw[hN,Dp]
 have hl1:=Dp (cg [] n.rules).1.2 fs;have WG:n.nodes.length=(gw (cg [] n.rules).1.2 fs).length:=by omega
 have hFS:=FS.Ch (by have:=DK h2;omega:k8 aE.wt fs<=1048576);intro d
 induction d with
 |zero=>
  intro v fu u hv _ hfu;obtain⟨fu,rfl⟩:∃m,fu=m+1:=⟨fu-1,by omega⟩
  have e1:(gw (cg [] n.rules).1.2 fs).take v++n.nodes.drop v=gw (cg [] n.rules).1.2 fs:=by
   rw[pP (by omega),cN,pQ (by omega)]
  rw[ec,e1,aZ,b9 (by omega),aa,pP (by omega)];rfl
 |succ d ih=>
  intro v fu u hv hv1 hfu;obtain⟨fu,rfl⟩:∃m,fu=m+1:=⟨fu-1,by omega⟩
  have hvl:v<(cg [] n.rules).1.2.length:=by omega
  have hx:=ai hvl;generalize hxx:(cg [] n.rules).1.2[v]=x at hx;obtain⟨p,q,hpv,e1,_,e3,e4,e5,e6,e7⟩:=a2V h1 h0 h2 hv1 hx;have hx0:n.nodes[v]?=some ⟨x.parent,x.cond,x.cP,yV (er (cg [] n.rules).1.2 (dG v)) n.facts⟩:=by rw[hN,yQ,hx];rfl
  have hx1:(gw (cg [] n.rules).1.2 fs)[v]?=some ⟨x.parent,x.cond,x.cP,yV (er (cg [] n.rules).1.2 (dG v)) fs⟩:=by rw[yQ,hx];rfl
  have hb1:=E1 [] (uI h1) (Bj h1);have m1:mJ ((gw (cg [] n.rules).1.2 fs).take v++n.nodes.drop v) (v:Int)=some ⟨x.parent,x.cond,x.cP,yV (er (cg [] n.rules).1.2 (dG v)) n.facts⟩:=by
   rw[show(v:Int)=dG v from rfl,BF,Ye WG (by omega),bG (by omega),hx0]
  have m2:mJ ((gw (cg [] n.rules).1.2 fs).take v++n.nodes.drop v) x.parent=some ⟨q.parent,q.cond,q.cP,yV (er (cg [] n.rules).1.2 (dG p)) fs⟩:=by
   rw[e1,BF,Ye WG (by omega),bR hpv,e4]
  have m3:mJ n.nodes x.parent=some ⟨q.parent,q.cond,q.cP,yV (er (cg [] n.rules).1.2 (dG p)) n.facts⟩:=by rw[e1,BF,hN,e3]
  have m4:mJ (gw (cg [] n.rules).1.2 fs) x.parent=some ⟨q.parent,q.cond,q.cP,yV (er (cg [] n.rules).1.2 (dG p)) fs⟩:=by rw[e1,BF,e4]
  obtain⟨_,k2,k3,_⟩:=I7 h1 h2 e4;obtain⟨_,j2,_,j4⟩:=I7 h1 h0 e3;dsimp only at k2 k3 j2 j4;have hstep:=a3X hv1 hx e1 hpv fs;have hlen:((gw (cg [] n.rules).1.2 fs).take v++n.nodes.drop v).length=(cg [] n.rules).1.2.length:=by
   rw[aX,cM,wi];omega
  have V5:(gw (cg [] n.rules).1.2 fs).drop v=⟨x.parent,x.cond,x.cP,yV (er (cg [] n.rules).1.2 (dG v)) fs⟩::(gw (cg [] n.rules).1.2 fs).drop (v+1):=by
   rw[mm (by omega)]
   congr 1
   exact qt ((ai (by omega)).symm.trans hx1)
  have qo:=a58 WG (by omega) hx1;have t4:KZ (gw (cg [] n.rules).1.2 fs) x.parent=yV (er (cg [] n.rules).1.2 (dG p)) fs:=by unfold KZ;rw[m4]
  have t3:KZ n.nodes x.parent=yV (er (cg [] n.rules).1.2 (dG p)) n.facts:=by unfold KZ;rw[m3]
  rw[ec,aZ,hlen,bU (by omega),aW,m1,aA];dsimp only;rw[m2,aA,m3,aA];dsimp only;rw[aAv _ _ j4 (by omega) (by omega),aA,V5,trN,t4,t3,II (by omega)];unfold stepT;dsimp only;rcases e7 with⟨g1,g2,g3⟩|⟨a,y,g1,g2,g3,g4⟩
  ·rw[bU (by simpa using g1),aW,a32 _ x.cond [] e6 ⟨by simp,fun f hf=>by cases hf⟩ (fun t ht=>(k3 t ht).le (by omega)) (by simp;omega),aA,a2c g2 g3 fs,<-hstep,oH,qo,ih (v+1) fu _ (by omega) (by omega) (by omega),bR g1]
  ·have ha0:¬x.cP<0:=by rw[g1];unfold dG;omega
   have n1:mJ (jX (cg [] n.rules).1.1 fs) x.cP=some ⟨y.shape,uo y.shape [] fs⟩:=by
    rw[g1,BF];unfold jX;rw[cA,g2];rfl
   have n2:mJ (KM f n.av) x.cP=some (uy y.shape f []).2:=by
    rw[g1,BF,hA];unfold KM jX;rw[rE,cA,g2];rfl
   have hfl:(uo y.shape [] fs).length<=24:=by
    unfold uo;exact cT (qf _ _) (vC h2)
   have aCM:FS (uo y.shape [] fs):=⟨by omega,fun f hf=>hFS.2 f (fy.1 hf).1⟩
   have hnx:yE (uo y.shape [] fs) (yV (er (cg [] n.rules).1.2 (dG p)) fs) x.cond=yV (er (cg [] n.rules).1.2 (dG v)) fs:=by
    rw[g3,Zy (by omega),hstep]
   rw[b9 (by simpa using ha0),aa,n1,aA];dsimp only;rw[a32 _ x.cond _ e6 aCM (fun t ht=>(k3 t ht).le (by omega)) (by
    have:(yV (er (cg [] n.rules).1.2 (dG p)) fs).length*((uo y.shape [] fs).length+1)<=390625*25:=GI k2 (by omega);omega),aA,hnx,n2,aA,oH,qo,bG ha0,aZ]
   cases(uy y.shape f []).2 with
   |true=>rw[aW,aW,ih (v+1) fu _ (by omega) (by omega) (by omega)]
   |false=>rw[aa,aa,ih (v+1) fu _ (by omega) (by omega) (by omega)]
theorem aDZ(n:aF)(fs:aK)(f:aE)(hn:isB n=true)(hr:k8 aO.wt n.rules<=1048576)(h2:pY fs=true)(hf:f.wt<=1048576):um n fs f=some (a1H n fs f):=by
 obtain⟨h1,h0,ht,e⟩:=X6 hn;have hFS:=FS.Ch (by have:=DK h2;omega:k8 aE.wt fs<=1048576);have hok:zo n:=by rw[e];exact Ti _ h1 h0 hr
 have hN:n.nodes=gw (cg [] n.rules).1.2 n.facts:=congrArg aF.nodes e;have hA:n.av=jX (cg [] n.rules).1.1 n.facts:=congrArg aF.av e;have hE:n.ends=(cg [] n.rules).2:=congrArg aF.ends e;have hfA:jX n.av fs=jX (cg [] n.rules).1.1 fs:=by
  rw[hA];unfold jX;rw[rE];rfl
 have hb1:=E1 [] (uI h1) (Bj h1);have hpos:=(zZ [] n.rules).1.pos;have hal:=hok.av;unfold um;rw[Tw n hok,aA,E0 fs hFS.1 hFS.args,aA];have a1:=a6Y n fs f n fs (fun(fU:List Bool) (qX:b7)=>(ec n n fs fU qX (fun(p7:Int) (vi:ay)=>(some (⟨n.rules,n.ends,qX,vi,fs,p7⟩:aF))) fuel 1 n.bz n.nodes)) hFS hf n.av (fun a ha=>(hok.cP a ha).1) hok.av n.av [] fuel rfl (by unfold fuel;omega);refine a1.trans ?_;rw[hfA];have a2:=aAi n fs f n fs (fun(p7:Int) (vi:ay)=>(some (⟨n.rules,n.ends,jX (cg [] n.rules).1.1 fs,vi,fs,p7⟩:aF))) h1 h0 h2 hN hA ((cg [] n.rules).1.2.length -1) 1 fuel n.bz (by omega) (bS _) (by unfold fuel;omega);have a3:(gw (cg [] n.rules).1.2 fs).take 1++n.nodes.drop 1=n.nodes:=by rw[hN];exact Zr _ _ _
 rw[a3]at a2;refine a2.trans ?_;unfold a1H MA;rw[hE]
def RI(n:aF)(f:aE):aF×Bool:=bif isB n&&(PX n.facts f).2 then(a1H n (PX n.facts f).1 f,true)else(n,false)
def Rg(n m:aF):Prop:=m=n\/∃fs t,zT m.rules=true/\m.rules=n.rules/\pY fs=true/\m=MA m.rules fs t
theorem On(n:aF)(f:aE):Rg n (RI n f).1:=by
 unfold RI;cases hb:isB n&&(PX n.facts f).2 with
 |false=>exact .inl rfl
 |true=>
  rw[aY]at hb;exact .inr ⟨_,_,(X6 hb.1).1,rfl,T6 hb.2,rfl⟩
theorem Rg.trans{a b c:aF}(h:Rg a b)(k:Rg b c):Rg a c:=by
 rcases k with rfl|⟨fs,t,k1,k2,k3,k4⟩
 ·exact h
 ·rcases h with rfl|⟨_,_,_,h2,_,_⟩
  ·exact .inr ⟨fs,t,k1,k2,k3,k4⟩
  ·exact .inr ⟨fs,t,k1,k2.trans h2,k3,k4⟩
theorem Rg.ok{n m:aF}(h:Rg n m)(hn:zo n):zo m:=by
 rcases h with rfl|⟨fs,t,h1,h2,h3,h4⟩
 ·exact hn
 ·rw[h4];exact Ti t h1 h3 (by rw[h2];exact hn.rules)
theorem a5B{rs:ar}{fs:aK}(t:Int)(h1:zT rs=true)(h2:pY fs=true)(hr:k8 aO.wt rs<=1048576):aF.Np (MA rs fs t)<=4611686018427387000:=by
 have hok:=Ti t h1 h2 hr;have hv:=uI h1;have h6:=Bj h1;have h24:=vC h2;have hl:=E1 [] hv h6;have a1:=pU aO.iQ aO.wt rs (fun y=>aO.mi y);have a2:=zX (m:=fun _:Int=>1) (B:=1) (cg [] rs).2 (fun _ _=>bS _);rw[(zZ [] rs).2.1]at a2;have a3:=zX (m:=aP.iQ) (B:=6291468+6291462*24) (jX (cg [] rs).1.1 fs) (fun a ha=>by
  obtain⟨g1,g2⟩:=hok.cP a ha;have b1:=aE.mi a.shape;have b3:a.facts.length<=24:=by
   obtain⟨y,_,rfl⟩:=cJ.1 ha;exact cT (qf _ _) h24
  have b2:=SY (n:=24) a.facts b3 g2.2;unfold aP.iQ;unfold aE.iQ at b1;omega)
 have a4:=zX (m:=Node.iQ) (B:=6291468+100000000*390625) (gw (cg [] rs).1.2 fs) (fun x hx=>by
  obtain⟨i,hi⟩:=cm hx;obtain⟨g1,g2,g3,_⟩:=I7 h1 h2 hi;have b1:=aE.mi x.cond.pat;have b0:=aQ.fK g1;have b2:=zX (m:=aI.iQ) (B:=100000000) x.tokens (fun u hu=>(g3 u hu).iQ);have b3:100000000*x.tokens.length<=100000000*390625:=eP _ g2;unfold Node.iQ;unfold aE.iQ at b1;omega)
 have a5:=pU aE.iQ aE.wt fs (fun y=>aE.mi y);have a6:=DK h2;have a7:=RS [] h1;rw[Dn]at a3;rw[Dp]at a4;have c3:(6291468+6291462*24)*(cg [] rs).1.1.length<=(6291468+6291462*24)*24:=eP _ a7;have c4:(6291468+100000000*390625)*(cg [] rs).1.2.length<=(6291468+100000000*390625)*25:=eP _ hl;unfold aF.Np MA;dsimp only;omega
theorem Rg.iQ{n m:aF}(h:Rg n m)(hw:n.wt<=1048576):(aF.Np m:Int)<=4611686018427387000:=by
 rcases h with rfl|⟨fs,t,h1,h2,h3,h4⟩
 ·have:=aF.Yf m;omega
 ·rw[h4];have:=a5B t h1 h3 (by rw[h2];exact(zo.Ch hw).rules);omega
theorem aAx(n:aF)(f:aE)(h:zo n)(hf:f.wt<=1048576):pM n f=some (RI n f):=by
 unfold pM RI;rw[aAh n.facts f h.facts hf,aA,a8Q n h.rules h.facts,aA];cases hb:isB n with
 |false=>rw[cQ,aW,Tw n h];rfl
 |true=>
  rw[bQ,aa];cases ha:(PX n.facts f).2 with
  |false=>rw[cQ,aW,Tw n h];rfl
  |true=>rw[bQ,aa,aDZ n _ f hb h.rules (T6 ha) hf];rfl
theorem aAD(n:aF)(f:aE)(h:zo n)(hf:f.wt<=1048576):pG n f=some (RI n f):=by
 unfold pG ER RI;rw[a7k n h.rules h.facts,aA];cases hb:isB n with
 |false=>rw[cQ,aW,TS n h];rfl
 |true=>
  rw[bQ,aa,a9z n.facts f h.facts hf,aA];cases ha:(PX n.facts f).2 with
  |false=>rw[cQ,aW,TS n h];rfl
  |true=>rw[bQ,aa,aDC n _ f hb h.rules (T6 ha) hf];rfl
def Pu:aK->aF->Nat->aF×Nat
 | [],n,c=>(n,c)
 |f::l,n,c=>bif (RI n f).2 then Pu l (RI n f).1 (c+1)else Pu l n c
theorem Qb:∀(l:aK) (n:aF) (c:Nat),Rg n (Pu l n c).1
 | [],_,_=>.inl rfl
 |f::l,n,c=>by
  rw[Pu];cases(RI n f).2 with
  |true=>exact(On n f).trans (Qb l _ _)
  |false=>exact Qb l n c
theorem a8N(a:aK)(K:Int->Int->ar->bI->b7->ay->aK->Option (aF×Int)):∀(l:aK) (i:Nat) (n:aF) (c:Nat),zo n->(∀f∈l,f.wt<=1048576)->c+l.length<=1099511627000->
 ff a K l i (c:Int) n.bz n.rules n.ends n.av n.nodes n.facts=K (((Pu l n c).2:Nat):Int) (Pu l n c).1.bz (Pu l n c).1.rules (Pu l n c).1.ends (Pu l n c).1.av (Pu l n c).1.nodes (Pu l n c).1.facts
 | [],i,n,c,_,_,_=>rfl
 |f::l,i,n,c,hn,hf,hc=>by
  simp only[aM]at hc;rw[ff,show(⟨n.rules,n.ends,n.av,n.nodes,n.facts,n.bz⟩:aF)=n from rfl,aAx n f hn (hf f (by simp)),aA,Pu];cases(RI n f).2 with
  |true=>rw[aW,aW,II (by omega),a8N a K l (i+1) _ (c+1) ((On n f).ok hn) (fun x hx=>hf x (by simp[hx])) (by omega)]
  |false=>rw[aa,aa,a8N a K l (i+1) n c hn (fun x hx=>hf x (by simp[hx])) (by omega)]
theorem aAl(n:aF)(l:aK)(hn:zo n)(hl:FS l):nT n l=some ((Pu l n 0).1,(((Pu l n 0).2:Nat):Int)):=by
 have h1:=hl.1;unfold nT;rw[Tw n hn,aA];exact a8N l _ l 0 n 0 hn hl.2 (by omega)
theorem a7g(a:aK)(K:Int->Int->ar->bI->b7->ay->aK->Option (aF×Int)):∀(l:aK) (i:Nat) (n:aF) (c:Nat),zo n->(∀f∈l,f.wt<=1048576)->c+l.length<=1099511627000->
 fX a K l i (c:Int) n.bz n.rules n.ends n.av n.nodes n.facts=K (((Pu l n c).2:Nat):Int) (Pu l n c).1.bz (Pu l n c).1.rules (Pu l n c).1.ends (Pu l n c).1.av (Pu l n c).1.nodes (Pu l n c).1.facts
 | [],i,n,c,_,_,_=>rfl
 |f::l,i,n,c,hn,hf,hc=>by
  simp only[aM]at hc;rw[fX,show(⟨n.rules,n.ends,n.av,n.nodes,n.facts,n.bz⟩:aF)=n from rfl,aAD n f hn (hf f (by simp)),aA,Pu];cases(RI n f).2 with
  |true=>rw[aW,aW,II (by omega),a7g a K l (i+1) _ (c+1) ((On n f).ok hn) (fun x hx=>hf x (by simp[hx])) (by omega)]
  |false=>rw[aa,aa,a7g a K l (i+1) n c hn (fun x hx=>hf x (by simp[hx])) (by omega)]
theorem aA3(n:aF)(l:aK)(hn:zo n)(hl:FS l):kF n l=some ((Pu l n 0).1,(((Pu l n 0).2:Nat):Int)):=by
 have h1:=hl.1;unfold kF;rw[TS n hn,aA];exact a7g l _ l 0 n 0 hn hl.2 (by omega)
end Go.Cx
namespace Go.Cx
open Go.RowKit Go.Proofs Tryz
set_option maxRecDepth 100000
variable{Γ:vn}{N:Nat->St->Prop}
def mq(aB:aF)(aV:aK):Option Bool:=((tN aB 1048576).bind fun y1=>(bif decide ((y1:Int)<0)then(some true)else((o9 aV y1).bind fun y4=>(bif decide ((y4:Int)<0)then(some true)else((lC aB).bind fun y7=>((j3 aV).bind fun y9=>((nT y7 y9).bind fun MI=>((lC aB).bind fun sJ=>((j3 aV).bind fun Xz=>((kF sJ Xz).bind fun Ka=>((l6 Ka.1 MI.1).bind fun y19=>(bif !(y19)then(some false)else(bif (Ka.2:Int) != MI.2 then(some false)else((lC aB).bind fun y23=>((l6 sJ y23).bind fun Y0=>(bif !(Y0)then(some false)else((j3 aV).bind fun y28=>((o8 Xz y28).bind fun y30=>(bif !(y30)then(some false)else((kQ sJ 1).bind fun BZ=>((l9 Xz BZ.2).bind fun xg=>(bif decide ((xg.2:Int)<0)then(some false)else((l6 Ka.1 MI.1).bind fun OA=>(bif !(OA)then(some false)else((kQ Ka.1 1).bind fun oF=>((kP (⟨oF.1.rules,oF.1.ends,oF.1.av,oF.1.nodes,oF.1.facts,Ka.1.bz⟩:aF) 1).bind fun FF=>(bif decide ((FF:Int)<0)then(some false)else(bif (FF:Int) != oF.2 then(some false)else((lC aB).bind fun W8=>((j3 aV).bind fun Ia=>((kF W8 Ia).bind fun UO=>((l6 UO.1 MI.1).bind fun y53=>(bif !(y53)then(some false)else(bif (UO.2:Int) != MI.2 then(some false)else((kP (⟨oF.1.rules,oF.1.ends,oF.1.av,oF.1.nodes,oF.1.facts,Ka.1.bz⟩:aF) 1).bind fun y57=>(bif decide ((y57:Int)<0)then(some false)else(bif (y57:Int) != oF.2 then(some false)else(some true))))))))))))))))))))))))))))))))))))))
theorem zV{aB:aF}{aV:aK}{r:Bool}(h:mq aB aV=some r):Good prog 3 [D.agg (aF.c aB),D.sl (aV.map aE.c)] (D.bool r):=by
 refine gd func3 [[none]] 119 fun hr Γ hΓ=>?_
 rw[mq]at h;obtain⟨y1,h2,h⟩:=aD h;obtain⟨h3,h⟩|⟨h3,h⟩:=aL h
 ·have h:=aG h;subst h;exact(((aU.a [.dc (D.int .i64 y1)]).w (zK h2)).b h3).ret hΓ
 ·obtain⟨y4,h5,h⟩:=aD h;have kC:=(((((aU.a [.dc (D.int .i64 y1)]).w (zK h2)).b h3).a [.dc (D.int .i64 y4)]).w (pK h5))
  obtain⟨h6,h⟩|⟨h6,h⟩:=aL h
  ·have h:=aG h;subst h;exact(kC.b h6).ret hΓ
  ·obtain⟨y7,h8,h⟩:=aD h;obtain⟨y9,h10,h⟩:=aD h;obtain⟨MI,h12,h⟩:=aD h;obtain⟨sJ,h14,h⟩:=aD h;obtain⟨Xz,h16,h⟩:=aD h;obtain⟨Ka,h18,h⟩:=aD h;obtain⟨y19,h20,h⟩:=aD h;have dJ:=(((((((((((((((kC.b h6).a [.dc (D.agg [D.fr 105 4 (y7.rules.map aO.c),D.fr 3 1 (y7.ends.map dL),D.fr 111 3 (y7.av.map aP.c),D.fr 118 8 (y7.nodes.map Node.c),D.fr 53 2 (y7.facts.map aE.c),D.int .i64 y7.bz])]).w (qk h8)).a [.dc (D.fr 53 2 (y9.map aE.c))]).w (jg h10)).a [.dc (D.gN [D.agg [D.fr 105 4 (MI.1.rules.map aO.c),D.fr 3 1 (MI.1.ends.map dL),D.fr 111 3 (MI.1.av.map aP.c),D.fr 118 8 (MI.1.nodes.map Node.c),D.fr 53 2 (MI.1.facts.map aE.c),D.int .i64 MI.1.bz],D.int .i64 MI.2])]).w (Db h12)).a [.dc (D.agg [D.fr 105 4 (sJ.rules.map aO.c),D.fr 3 1 (sJ.ends.map dL),D.fr 111 3 (sJ.av.map aP.c),D.fr 118 8 (sJ.nodes.map Node.c),D.fr 53 2 (sJ.facts.map aE.c),D.int .i64 sJ.bz])]).w (qk h14)).a [.dc (D.fr 53 2 (Xz.map aE.c))]).w (jg h16)).a [.dc (D.gN [D.agg [D.fr 105 4 (Ka.1.rules.map aO.c),D.fr 3 1 (Ka.1.ends.map dL),D.fr 111 3 (Ka.1.av.map aP.c),D.fr 118 8 (Ka.1.nodes.map Node.c),D.fr 53 2 (Ka.1.facts.map aE.c),D.int .i64 Ka.1.bz],D.int .i64 Ka.2])]).w (yJ h18)).a [.dc (D.bool y19)]).w (qh h20))
   obtain⟨h21,h⟩|⟨h21,h⟩:=aL h
   ·have h:=aG h;subst h;exact((dJ.r 4 h21).T 1).ret hΓ
   ·have ja:=(dJ.r 4 h21)
    obtain⟨h22,h⟩|⟨h22,h⟩:=aL h
    ·have h:=aG h;subst h;exact(ja.b h22).ret hΓ
    ·obtain⟨y23,h24,h⟩:=aD h;obtain⟨Y0,h26,h⟩:=aD h;have iY:=(((((ja.b h22).a [.n 3]).g (qk h24)).a [.dc (D.bool Y0)]).w (qh h26))
     obtain⟨h27,h⟩|⟨h27,h⟩:=aL h
     ·have h:=aG h;subst h;exact(iY.b h27).ret hΓ
     ·obtain⟨y28,h29,h⟩:=aD h;obtain⟨y30,h31,h⟩:=aD h;have tr:=(((((iY.b h27).a [.dc (D.fr 53 2 (y28.map aE.c))]).w (jg h29)).a [.dc (D.bool y30)]).w (pJ h31))
      obtain⟨h32,h⟩|⟨h32,h⟩:=aL h
      ·have h:=aG h;subst h;exact(tr.b h32).ret hΓ
      ·obtain⟨BZ,h34,h⟩:=aD h;obtain⟨xg,h36,h⟩:=aD h;have wX:=((((tr.b h32).w (yL h34)).w (qj h36)).a [.gv [13,14,15,16,17] [(4,BZ.1.rules.map aO.c),(1,BZ.1.ends.map dL),(3,BZ.1.av.map aP.c),(8,BZ.1.nodes.map Node.c),(2,BZ.1.facts.map aE.c)] (D.int .i64 BZ.2),.gv [19] [(2,xg.1.map aE.c)] (D.int .i64 xg.2)])
       obtain⟨h37,h⟩|⟨h37,h⟩:=aL h
       ·have h:=aG h;subst h;exact((wX.r 5 h37).T 5).ret hΓ
       ·obtain⟨OA,h39,h⟩:=aD h;have AV:=((((wX.r 3 h37).a [.dc (D.bool OA)]).w (qh h39)).r 2 h37)
        obtain⟨h40,h⟩|⟨h40,h⟩:=aL h
        ·have h:=aG h;subst h;exact((AV.r 4 h40).T 1).ret hΓ
        ·obtain⟨oF,h42,h⟩:=aD h;obtain⟨FF,h44,h⟩:=aD h;have DC:=(((((AV.r 4 h40).b h22).w (yL h42)).a [.gv [20,21,22,23,24] [(4,oF.1.rules.map aO.c),(1,oF.1.ends.map dL),(3,oF.1.av.map aP.c),(8,oF.1.nodes.map Node.c),(2,oF.1.facts.map aE.c)] (D.int .i64 oF.2),.dc (D.int .i64 FF)]).w (show Good prog 21 [D.agg [D.sl (oF.1.rules.map aO.c),D.sl (oF.1.ends.map dL),D.sl (oF.1.av.map aP.c),D.sl (oF.1.nodes.map Node.c),D.sl (oF.1.facts.map aE.c),D.int .i64 Ka.1.bz],D.int .i64 1] (D.int .i64 FF)from by first| (simpa only[bN,bH,bX,dB,dA]using iW h44)|exact iW h44| (have t:=iW h44;simp only[bN,dB,dA,aF.c]at t;exact t)))
         obtain⟨h45,h⟩|⟨h45,h⟩:=aL h
         ·have h:=aG h;subst h;exact(DC.b h45).ret hΓ
         ·obtain⟨h46,h⟩|⟨h46,h⟩:=aL h
          ·have h:=aG h;subst h;exact((DC.b h45).b h46).ret hΓ
          ·obtain⟨W8,h48,h⟩:=aD h;obtain⟨Ia,h50,h⟩:=aD h;obtain⟨UO,h52,h⟩:=aD h;obtain⟨y53,h54,h⟩:=aD h;have IA:=((((((((((DC.b h45).b h46).a [.dc (D.agg [D.fr 105 4 (W8.rules.map aO.c),D.fr 3 1 (W8.ends.map dL),D.fr 111 3 (W8.av.map aP.c),D.fr 118 8 (W8.nodes.map Node.c),D.fr 53 2 (W8.facts.map aE.c),D.int .i64 W8.bz])]).w (qk h48)).a [.dc (D.fr 53 2 (Ia.map aE.c))]).w (jg h50)).a [.dc (D.gN [D.agg [D.fr 105 4 (UO.1.rules.map aO.c),D.fr 3 1 (UO.1.ends.map dL),D.fr 111 3 (UO.1.av.map aP.c),D.fr 118 8 (UO.1.nodes.map Node.c),D.fr 53 2 (UO.1.facts.map aE.c),D.int .i64 UO.1.bz],D.int .i64 UO.2])]).w (yJ h52)).a [.dc (D.bool y53)]).w (qh h54))
           obtain⟨h55,h⟩|⟨h55,h⟩:=aL h
           ·have h:=aG h;subst h;exact((IA.r 4 h55).T 1).ret hΓ
           ·have yu:=(IA.r 4 h55)
            obtain⟨h56,h⟩|⟨h56,h⟩:=aL h
            ·have h:=aG h;subst h;exact(yu.b h56).ret hΓ
            ·obtain⟨y57,h58,h⟩:=aD h;have D7:=(((yu.b h56).a [.dc (D.int .i64 y57)]).w (show Good prog 21 [D.agg [D.sl (oF.1.rules.map aO.c),D.sl (oF.1.ends.map dL),D.sl (oF.1.av.map aP.c),D.sl (oF.1.nodes.map Node.c),D.sl (oF.1.facts.map aE.c),D.int .i64 Ka.1.bz],D.int .i64 1] (D.int .i64 y57)from by first| (simpa only[bN,bH,bX,dB,dA]using iW h58)|exact iW h58| (have t:=iW h58;simp only[bN,dB,dA,aF.c]at t;exact t)))
             obtain⟨h59,h⟩|⟨h59,h⟩:=aL h
             ·have h:=aG h;subst h;exact(D7.b h59).ret hΓ
             ·obtain⟨h60,h⟩|⟨h60,h⟩:=aL h
              ·have h:=aG h;subst h;exact((D7.b h59).b h60).ret hΓ
              ·have h:=aG h;subst h;exact((D7.b h59).b h60).ret hΓ
end Go.Cx
namespace Go.Cx
open Go.RowKit Go.Proofs Tryz
namespace LawFeedNetwork
theorem both(n:aF)(l:aK)(h:n.wt+k8 aE.wt l<=1048576):∃s,nT n l=some s/\kF n l=some s/\(aF.Np s.1:Int)<=4611686018427387000:=by
 have hok:=zo.Ch (n:=n) (by omega);have hl:=FS.Ch (fs:=l) (by omega);exact⟨_,aAl n l hok hl,aA3 n l hok hl,(Qb l n 0).iQ (by omega)⟩
theorem a82(n:aF)(l:aK)(hn:xq (aF.c n))(hl:dW (.sl (l.map aE.c))):mq n l=some true:=by
 unfold mq;obtain⟨r0,e0,l0,w0⟩:=U6 n hn 1048576 (by omega) (by omega);rw[e0,aA];by_cases c0:r0<0
 ·simp[c0]
 have n0:decide ((r0:Int)<0)=false:=b9 c0;rw[n0,aa];have w0:=w0 (by omega);obtain⟨r1,e1,l1,w1⟩:=F0 l hl r0 (by omega) (by omega);rw[e1,aA];by_cases c1:r1<0
 ·simp[c1]
 have n1:decide ((r1:Int)<0)=false:=b9 c1;rw[n1,aa];have w1:=w1 (by omega);have hw:aF.wt n+k8 aE.wt l<=1048576:=by omega
 obtain⟨s,es,ei,hm⟩:=both n l (by omega);have b0:=aF.Yf n;obtain⟨x0,m0,_⟩:=Tg n 1 (by omega) (by omega);have b1:=pU aE.iQ aE.wt l (fun y=>aE.mi y);obtain⟨x1,m1,_⟩:=Ev l (1+((aF.Np n:Nat):Int)) (by omega) (by omega);obtain⟨g0,p0,q0,z0⟩:=KO s.1 1 (by omega) (by omega);have aDP:decide (((1+((aF.Np n:Nat):Int)+((iK aE.iQ l:Nat):Int)):Int)<0)=false:=b9 (by omega);have aDQ:decide (((1+((aF.Np s.1:Nat):Int)):Int)<0)=false:=b9 (by omega);simp only[es,ei,UA n (by omega),TD,F2 l (by omega),En,m0,m1,z0,p0,q0,aDP,aDQ,aA,Ca,bQ,cQ,aa,aW,gK,cw]
theorem a2J(n:aF)(l:aK):Good prog 3 [.agg (aF.c n),.sl (l.map aE.c)] (.bool true):=
 Good.a89 ⟨_,func3,rfl,by decide⟩ fun h=>zV (a82 n l (dW.agg (h _ (by simp))) (h _ (by simp)))
end LawFeedNetwork
end Go.Cx
namespace Go.Cx
open Go.RowKit
inductive Sh where
 |int (k:IntKind)
 |str
 |bool
 |sl (row:List Sh)
mutual
inductive QB:Sh->D->Prop
 |int (k:IntKind) (n:Int):QB (.int k) (.int k n)
 |str (s:Bytes):QB .str (.str s)
 |bool (b:Bool):QB .bool (.bool b)
 |sl (row:List Sh) (rows:List aR):(∀r∈rows,pE row r)->QB (.sl row) (.sl rows)
inductive pE:List Sh->List D->Prop
 |nil:pE [] []
 |cons (s:Sh) (ss:List Sh) (d:D) (ds:aR):QB s d->pE ss ds->pE (s::ss) (d::ds)
end
theorem pE.app{s1 s2:List Sh}{d1 d2:aR}(h1:pE s1 d1)(h2:pE s2 d2):pE (s1++s2) (d1++d2):=by
 induction s1 generalizing d1 with
 |nil=>cases h1;exact h2
 |cons s s1 ih=>cases h1 with|cons _ _ d ds h h'=>exact .cons _ _ _ _ h (ih h')
theorem pE.length{s:List Sh}{d:aR}(h:pE s d):d.length=s.length:=by
 induction s generalizing d with
 |nil=>cases h;rfl
 |cons s ss ih=>cases h with|cons _ _ d ds h h'=>simp[ih h']
def Tl(P:Program):Nat->List Field->List (List Sh)->Bool
 |_,[],[]=>true
 |off,f::fs,r::rs=>(f.offset==off)&&(r.length==P.cellsOf f.type)&&Tl P (off+r.length) fs rs
 |_,_,_=>false
def C7(P:Program):Nat->TypeId->Option (List Sh)
 |0,_=>none
 |n+1,t=>match P.underlying t with
  |some .bool=>some [.bool]
  |some (.int k)=>some [.int k]
  |some .string=>some [.str]
  |some (.slice e)=>(C7 P n e).bind fun r=>if r.length=P.cellsOf e/\0<r.length then some [.sl r]else none
  |some (.struct fs)=>(fs.toList.mapM fun f=>C7 P n f.type).bind fun rs=>if Tl P 0 fs.toList rs=true/\rs.flatten.length=P.cellsOf t then some rs.flatten else none
  |_=>none
theorem VQ{α β:Type}{f:α->Option β}:∀ {l:List α} {ys:List β},l.mapM f=some ys->ys.length=l.length/\∀(i:Nat) x,l[i]?=some x->∃y,ys[i]?=some y/\f x=some y:=by
 intro l
 induction l with
 |nil=>intro ys h;simp at h;subst h;simp
 |cons a l ih=>
  intro ys h;simp only[GH,Option.bind_eq_bind,Option.pure_def]at h;cases ha:f a with
  |none=>simp[ha]at h
  |some b=>
   cases hl:l.mapM f with
   |none=>simp[ha,hl]at h
   |some bs=>
    simp[ha,hl]at h;subst h;obtain⟨h1,h2⟩:=ih hl;refine⟨by simp[h1],fun i x hx=>?_⟩;cases i with
    |zero=>simp at hx;subst hx;exact⟨b,by simp,ha⟩
    |succ i=>simp at hx;obtain⟨y,k1,k2⟩:=h2 i x hx;exact⟨y,by simpa using k1,k2⟩
section
variable{P:Program}{w:World}{H:Type}{enc:TypeId×Value->H}{base:Nat}{sp:Nat->Bool}{held:Bool}
theorem QM{a:Addr}{n:Nat}{cs:br}(h:w.cells? base a n=some cs):cs.length=n/\∀(j:Nat) c,cs[j]?=some c->w.cell? (a.add j)=some c:=by
 unfold World.cells? at h;split at h
 ·obtain⟨h1,h2⟩:=VQ h;refine⟨by simpa using h1,fun j c hj=>?_⟩;have hlt:j<n:=by have:=(aH.1 hj).1;rw[h1]at this;simpa using this
  obtain⟨y,k1,k2⟩:=h2 j j (by simp[hlt]);rw[hj]at k1;cases k1;exact k2
 ·cases h
theorem a83{k:IntKind}{n:Int}(h:(Lit.int k n).wf=true):th k n:=by
 simpa[Lit.wf,th]using h
theorem Yx:∀(fuel:Nat) {t:TypeId} {cs:br} {d:DataW H} {ps:List MemPlace} {n:Nat} {shs:List Sh},
 DataW.trod enc P w base sp held fuel t cs=some (d,ps)->C7 P n t=some shs->∃ds bs,mY w cs ds bs/\pE shs ds:=by
 intro fuel
 induction fuel with
 |zero=>intro t cs d ps n shs h;simp[DataW.trod]at h
 |succ fuel ih=>
  intro t cs d ps n shs h hf;cases n with
  |zero=>simp[C7]at hf
  |succ n=>
   simp only[C7]at hf;simp only[DataW.trod]at h;split at hf
   ·rename_i hu;cases hf;simp only[hu]at h;split at h<;>rename_i h1<;>try(simp at h1;done)
    all_goals try(cases h;done)
    all_goals simp at h1
    exact⟨[.bool _],[],.cons _ _ _ _ [] [] rfl (.bool _) .nil,.cons _ _ _ _ (.bool _) .nil⟩
   ·rename_i k hu;cases hf;simp only[hu]at h;split at h<;>rename_i h1<;>try(simp at h1;done)
    all_goals try(cases h;done)
    all_goals simp at h1
    rename_i k1 k2 m _;subst h1;split at h
    ·rename_i hc;obtain⟨rfl,hwf⟩:=hc;exact⟨[.int _ _],[],.cons _ _ _ _ [] [] rfl (.int _ _ (a83 hwf)) .nil,.cons _ _ _ _ (.int _ _) .nil⟩
    ·cases h
   ·rename_i hu;cases hf;simp only[hu]at h;split at h<;>rename_i h1<;>try(simp at h1;done)
    all_goals try(cases h;done)
    all_goals simp at h1
    split at h
    ·rename_i hc;exact⟨[.str _],[],.cons _ _ _ _ [] [] rfl (.str _ hc) .nil,.cons _ _ _ _ (.str _) .nil⟩
    ·cases h
   ·rename_i e hu;cases hr:C7 P n e with
    |none=>simp[hr]at hf
    |some r=>
     simp only[hr,aA]at hf;split at hf
     ·rename_i hsz;cases hf;simp only[hu]at h;split at h<;>rename_i h1<;>try(simp at h1;done)
      all_goals try(cases h;done)
      all_goals simp at h1
      ·exact⟨[.sl []],[],.cons _ _ _ _ [] [] rfl .B8 .nil,.cons _ _ _ _ (.sl _ _ (by simp)) .nil⟩
      ·rename_i a len cap
       try subst h1
       split at h
       ·rename_i hc;cases hm:(List.range len).mapM (fun i=>(w.cells? base (a.add (i*P.cellsOf e)) (P.cellsOf e)).bind (DataW.trod enc P w base sp held fuel e))with
        |none=>simp[hm]at h
        |some elems=>
         obtain⟨_,hall⟩:=VQ hm;have hel:∀i,i<len->∃cs ds bs,w.cells? base (a.add (i*P.cellsOf e)) (P.cellsOf e)=some cs/\mY w cs ds bs/\pE r ds:=by
          intro i hi;obtain⟨y,_,hy⟩:=hall i i (by simp[hi]);obtain⟨cs,hcs,hy⟩:=oJ.1 hy;obtain⟨ds,bs,k1,k2⟩:=ih (d:=y.1) (ps:=y.2) hy hr;exact⟨cs,ds,bs,hcs,k1,k2⟩
         by_cases hl0:len=0
         ·subst hl0;exact⟨[.sl []],[],.cons _ _ _ _ [] [] rfl (.pW a cap hc.2.2) .nil,.cons _ _ _ _ (.sl _ _ (by simp)) .nil⟩
         ·
          obtain⟨cs0,ds0,bs0,a1V,hr0,aEq⟩:=hel 0 (by omega);obtain⟨hl1,hat⟩:=QM a1V;have hpos:0<cs0.length:=by rw[hl1];omega
          have hc0:=hat 0 cs0[0] (ai hpos);have ha0:(a.add (0*P.cellsOf e)).add 0=a:=by simp[Addr.add]
          rw[ha0]at hc0;obtain⟨b,off,spot⟩:=a;have a9r:spot=none:=by
           cases spot with
           |none=>rfl
           |some x=>
            unfold World.cell? at hc0;split at hc0
            ·simp at hc0
            ·cases hc0
          subst a9r;have hb:b<w.heap.size:=World.block_lt_of_cell? w _ hc0;have build:∀m,m<=len->∃(rows:List aR) (cs:br) (bs:af),rows.length=m/\cs.length=m*P.cellsOf e/\(∀(j:Nat) c,cs[j]?=some c->w.cell? ⟨b,off+j,none⟩=some c)/\
           mY w cs rows.flatten bs/\∀x∈rows,pE r x:=by
           intro m
           induction m with
           |zero=>intro _;exact⟨[],[],[],rfl,by simp,by simp,.nil,by simp⟩
           |succ m ihm=>
            intro hm1;obtain⟨rows,cs,bs,q1,q2,q3,q4,q5⟩:=ihm (by omega);obtain⟨cs',ds',bs',g1,g2,g3⟩:=hel m (by omega);obtain⟨g4,g5⟩:=QM g1;refine⟨rows++[ds'],cs++cs',bs++bs',by simp[q1],by simp[q2,g4,kf],?_,?_,?_⟩
            ·intro j c hj;by_cases hlt:j<cs.length
             ·rw[bA hlt]at hj;exact q3 j c hj
             ·rw[bE (by omega)]at hj;have:=g5 _ c hj;rw[Addr.add_lit,Addr.add_lit,q2]at this;have e1:off+m*P.cellsOf e+(j-m*P.cellsOf e)=off+j:=by omega
              rw[e1]at this;exact this
            ·rw[mH];have:=q4.app g2;simpa using this
            ·intro x hx;rcases au.1 hx with hx|hx
             ·exact q5 x hx
             ·simp at hx;subst hx;exact g3
          obtain⟨rows,cs,bs,q1,q2,q3,q4,q5⟩:=build len (bS _);subst q1;refine⟨[.sl rows],b::bs,?_,.cons _ _ _ _ (.sl _ _ q5) .nil⟩;have:=mY.cons (w:=w) _ [] _ [] _ [] rfl (Rd.sl b off cap r.length rows cs bs hb hc.2.1 hc.2.2 (fun x hx=>(q5 x hx).length) q3 q4) .nil;simpa using this
       ·cases h
     ·cases hf
   ·rename_i fs hu;cases hr:fs.toList.mapM (fun f=>C7 P n f.type)with
    |none=>simp[hr]at hf
    |some rs=>
     simp only[hr,aA]at hf;split at hf
     ·rename_i hok;cases hf;simp only[hu]at h;split at h
      ·rename_i hlen;cases hm:fs.toList.mapM (fun f=>DataW.trod enc P w base sp held fuel f.type ((cs.drop f.offset).take (P.cellsOf f.type)))with
       |none=>simp[hm]at h
       |some xs=>
        have go:∀(fl:List Field) (rl:List (List Sh)) (xl:List (DataW H×List MemPlace)) (off:Nat),fl.mapM (fun f=>C7 P n f.type)=some rl->
         fl.mapM (fun f=>DataW.trod enc P w base sp held fuel f.type ((cs.drop f.offset).take (P.cellsOf f.type)))=some xl->Tl P off fl rl=true->
         ∃ds bs,mY w ((cs.drop off).take rl.flatten.length) ds bs/\pE rl.flatten ds:=by
         intro fl
         induction fl with
         |nil=>
          intro rl xl off h1 _ _;simp at h1;subst h1;exact⟨[],[],by simpa using mY.nil,.nil⟩
         |cons f fl ihf=>
          intro rl xl off h1 h2 h3;simp only[GH,Option.bind_eq_bind,Option.pure_def]at h1 h2;cases a1:C7 P n f.type with
          |none=>simp[a1]at h1
          |some r1=>
           cases a2:fl.mapM (fun f=>C7 P n f.type)with
           |none=>simp[a1,a2]at h1
           |some rl'=>
            simp[a1,a2]at h1;subst h1;cases b1:DataW.trod enc P w base sp held fuel f.type ((cs.drop f.offset).take (P.cellsOf f.type))with
            |none=>simp[b1]at h2
            |some x1=>
             cases b2:fl.mapM (fun f=>DataW.trod enc P w base sp held fuel f.type ((cs.drop f.offset).take (P.cellsOf f.type)))with
             |none=>simp[b1,b2]at h2
             |some xl'=>
              simp only[Tl,aY,cj]at h3;obtain⟨⟨o1,o2⟩,o3⟩:=h3;obtain⟨ds1,bs1,k1,k2⟩:=ih (d:=x1.1) (ps:=x1.2) b1 a1;obtain⟨ds2,bs2,k3,k4⟩:=ihf rl' xl' (off+r1.length) a2 b2 o3;refine⟨ds1++ds2,bs1++bs2,?_,by simpa using k2.app k4⟩;have e1:(cs.drop off).take (r1::rl').flatten.length=(cs.drop f.offset).take (P.cellsOf f.type)++(cs.drop (off+r1.length)).take rl'.flatten.length:=by
               rw[o1,<-o2,eV,aX,<-gx,List.take_add]
              rw[e1];exact k1.app k3
        obtain⟨ds,bs,k1,k2⟩:=go fs.toList rs xs 0 hr hm hok.1;rw[GG,hok.2,<-hlen,List.take_length]at k1;exact⟨ds,bs,k1,k2⟩
      ·cases h
     ·cases hf
   ·cases hf
def UR(P:Program)(n:Nat)(t:TypeId)(d:D):Prop:=
 (BQ P t=some true/\∃shs cells,C7 P n t=some shs/\d=.agg cells/\pE shs cells)\/(BQ P t=some false/\∃sh,C7 P n t=some [sh]/\QB sh d)
inductive S2(P:Program)(n:Nat):List TypeId->List D->Prop
 |nil:S2 P n [] []
 |cons (t:TypeId) (ts:List TypeId) (d:D) (ds:aR):UR P n t d->S2 P n ts ds->S2 P n (t::ts) (d::ds)
def Uh(P:Program)(n:Nat)(t:TypeId):Bool:=
 match BQ P t,C7 P n t with
 |some true,some _=>(match P.underlying t with|some (.struct _)=>true|_=>false)
 |some false,some [_]=>true
 |_,_=>false
theorem a2d{n:Nat}{t:TypeId}{v:Value}{d:DataW H}{ps:List MemPlace}(hok:Uh P n t=true)(hval:Value.okWide P w .any base t v)(h:DataW.Trod enc P w 0 sp held t v d ps):
 ∃x bs,Rd w v x bs/\UR P n t x:=by
 obtain⟨fuel,h⟩:=h;unfold Uh at hok;split at hok
 ·rename_i shs ht hf;split at hok
  ·rename_i fs hu;unfold Value.okWide at hval;simp only[hu]at hval;obtain⟨cs,rfl,_⟩:=hval;obtain⟨ds,bs,k1,k2⟩:=Yx fuel h hf;refine⟨.agg ds,bs,?_,.inl ⟨ht,shs,ds,hf,rfl,k2⟩⟩;have:=Rd.agg (w:=w) cs.toList ds bs k1;simpa using this
  ·cases hok
 ·rename_i sh ht hf;have hone:v.oneCell'=true:=by
   unfold BQ at ht;split at ht<;>first
    | (cases ht;done)
    |skip
   rename_i dsc h1 h2 hu;unfold Value.okWide at hval;rw[hu]at hval;cases v with
   |agg cs=>
    cases dsc<;>first
     | (exfalso;exact h1 _ rfl)
     | (exfalso;exact h2 _ _ rfl)
     | (simp[Cell.okWide,Cell.ok,hu]at hval)
   |tuple vs=>
    cases dsc<;>first
     | (exfalso;exact h1 _ rfl)
     | (exfalso;exact h2 _ _ rfl)
     | (simp[Cell.okWide,Cell.ok,hu]at hval)
   |_=>rfl
  rw[Sc hone]at h;obtain⟨ds,bs,k1,k2⟩:=Yx fuel h hf;cases k2 with
  |cons _ _ x ds' hx hn=>
   cases hn;cases k1 with
   |cons _ _ _ _ b1 b2 _ hrd hn=>exact⟨x,b1,hrd,.inr ⟨ht,sh,hf,hx⟩⟩
 ·cases hok
theorem Zz{n:Nat}:∀ {ts:List TypeId} {vs:br} {ds:List (DataW H)} {ps:List MemPlace},(∀t∈ts,Uh P n t=true)->
 (∀(j:Nat) t v,ts[j]?=some t->vs[j]?=some v->Value.okWide P w .any base t v)->DataW.TrodAll enc P w 0 sp held ts vs ds ps->
 ∃xs bs,Y3 w vs xs bs/\S2 P n ts xs/\ds.length=ts.length:=by
 intro ts
 induction ts with
 |nil=>
  intro vs ds ps _ _ h;cases vs with
  |nil=>cases ds with
   |nil=>exact⟨[],[],.nil,.nil,rfl⟩
   |cons=>cases h
  |cons=>cases ds<;>cases h
 |cons t ts ih=>
  intro vs ds ps hok hval h;cases vs with
  |nil=>cases h
  |cons v vs=>
   cases ds with
   |nil=>cases h
   |cons d ds=>
    obtain⟨p,q,h1,h2,rfl⟩:=h;obtain⟨x,b1,k1,k2⟩:=a2d (hok t (by simp)) (hval 0 t v rfl rfl) h1;obtain⟨xs,b2,k3,k4,k5⟩:=ih (fun u hu=>hok u (by simp[hu])) (fun j u y hj hv=>hval (j+1) u y (by simpa using hj) (by simpa using hv)) h2;exact⟨x::xs,b1++b2,.cons _ _ _ _ _ _ k1 k3,.cons _ _ _ _ k2 k4,by simp[k5]⟩
theorem Ru{W W':World}(hl:laidOutB P=true)(hb:Below W.heap.size W W')(spn:Nat->Bool):∀ {ts:List TypeId} {vs:br} {ds:List (DataW H)} {ps:List MemPlace},
 (∀t∈ts,P.readableRec t=true/\t<P.types.size)->DataW.TrodAll enc P W 0 (fun _=>true) true ts vs ds ps->(∀x∈ps,x.block<W.heap.size)->(∀x∈ps,spn x.block=true)->
 DataW.TrodAll enc P W' 0 spn true ts vs ds ps:=by
 intro ts
 induction ts with
 |nil=>intro vs ds ps _ h _ _;cases vs<;>cases ds<;>first|exact h|cases h
 |cons t ts ih=>
  intro vs ds ps ht h hlt hsp;cases vs with
  |nil=>cases h
  |cons v vs=>
   cases ds with
   |nil=>cases h
   |cons d ds=>
    obtain⟨p,q,h1,h2,rfl⟩:=h;refine⟨p,q,?_,ih (fun u hu=>ht u (by simp[hu])) h2 (fun x hx=>hlt x (by simp[hx])) (fun x hx=>hsp x (by simp[hx])),rfl⟩;exact WideElems.Trod_stays hl (ht t (by simp)).1 (ht t (by simp)).2 h1 (fun x hx=>hb.same (hlt x (by simp[hx]))) (fun x hx=>hsp x (by simp[hx]))
theorem EE.yc{w:World}{v:Value}{b:Bool}{bs ts us:af}(h:EE w v (.bool b) bs ts us):v=.bool b:=by
 cases h with|v h=>cases h with|cell h=>cases h with|pure h=>cases h;rfl
theorem TY{f:FuncId}{fn:Func}{s:ChangeSpec}{n rt:Nat}{W:World}{args:Array Value}{ds gs:List (DataW H)}{before:List MemPlace}
 (hl:laidOutB P=true) (YU:∀t∈fn.params.toList,Uh P n t=true/\P.readableRec t=true/\t<P.types.size) (hres:fn.resultTypes= #[rt]) (hrt:P.underlying rt=some .bool)
 (hv:s.vars=[]) (hfn:∀ds:List (DataW H),ds.length=fn.params.toList.length->s.fn H ds= {results:=[.lit (.bool true)],args:=ds})
 (hvs:T3 W fun _=>False) (pz:∀xs,S2 P n fn.params.toList xs->Good P f xs (.bool true))
 (hval:∀(j:Nat) t v,fn.params[j]?=some t->args[j]?=some v->Value.okWide P W .any base t v)
 (hW:DataW.Whole enc P fn.params.toList s.vars false W args.toList ds gs before):
 Calls P f args W fun e W'=>∃v,e=.returned v/\s.post enc P fn false true false false W args v W':=by
 have hW':=hW;obtain⟨p,q,hA,hV,hpq,hz,_⟩:=hW;have hgs:gs=[]/\q=[]:=by
  rw[hv]at hV;cases gs with
  |nil=>exact⟨rfl,hV⟩
  |cons=>cases hV
 obtain⟨rfl,rfl⟩:=hgs;rw[cN]at hpq;subst hpq;obtain⟨xs,bs,k1,k2,k3⟩:=Zz (fun t ht=>(YU t ht).1) (fun j t v hj hv=>hval j t v (by simpa using hj) (by simpa using hv)) hA;have hc:=(pz xs k2).2 W (fun _=>0) args.toList bs hvs k1 (fun _ _=>rfl) (fun b hb=>absurd rfl hb) (fun _=>GJ _);rw[ke]at hc;refine hc.mono ?_;rintro e W' ⟨v,bs',ts,us,rfl,hb,hr,_⟩;refine⟨v,rfl,?_⟩;obtain rfl:=hr.yc;have hlt:=hW'.lt;have hfd:=hfn ds k3;have a1j:∀(b:Nat) (sp:Nat->Bool) (hd:Bool),DataW.TrodAll enc P W' b sp hd fn.resultTypes.toList ((Value.bool true).resultList fn.resultTypes.size) [.lit (.bool true)] []:=by
  intro b sp hd;rw[hres];exact⟨[],[],⟨1,by simp[DataW.trod,hrt,Value.cells]⟩,rfl,rfl⟩
 have hargs:∀spn:Nat->Bool,(∀x∈before,spn x.block=true)->DataW.TrodAll enc P W' 0 spn true fn.params.toList args.toList ds before:=
  fun spn hsp=>Ru hl hb spn (fun t ht=>(YU t ht).2) hA hlt hsp
 have hvars:∀spn:Nat->Bool,DataW.TrodVars enc P W' spn s.vars [] []:=fun spn=>by rw[hv];rfl
 unfold ChangeSpec.post;refine⟨ds,[],before,[],before,[],hW',?_,?_,?_,hb.frame _,fun h=>by cases h⟩
 ·rw[cN,hfd];exact a1j _ _ _
 ·rw[cN,hfd];exact hargs _ (fun x hx=>by simpa using hlt x hx)
 ·rw[cN,hfd];exact hvars _
end
end Go.Cx
namespace Go.Cx
open Go.RowKit
abbrev qp:=List Sh
theorem ZP{α:Type}{c:α->aR}{row:qp}(hc:∀r,pE row r->∃x,r=c x):∀ {rows:List aR},(∀r∈rows,pE row r)->∃l:List α,rows=l.map c:=by
 intro rows
 induction rows with
 |nil=>intro _;exact⟨[],rfl⟩
 |cons r rows ih=>
  intro h;obtain⟨x,rfl⟩:=hc r (h r (by simp));obtain⟨l,rfl⟩:=ih (fun s hs=>h s (by simp[hs]));exact⟨x::l,rfl⟩
theorem rG{α:Type}{c:α->aR}{row:qp}(hc:∀r,pE row r->∃x,r=c x){d:D}(h:QB (.sl row) d):∃l:List α,d=.sl (l.map c):=by
 cases h with
 |sl _ rows hr=>
  obtain⟨l,rfl⟩:=ZP hc hr;exact⟨l,rfl⟩
theorem sV{d:D}(h:QB .str d):∃s,d=.str s:=by cases h;exact⟨_,rfl⟩
theorem zv{k:IntKind}{d:D}(h:QB (.int k) d):∃n,d=.int k n:=by cases h;exact⟨_,rfl⟩
theorem cY{s:Sh}{ss:qp}{ds:aR}(h:pE (s::ss) ds):∃d r,ds=d::r/\QB s d/\pE ss r:=by
 cases h with|cons _ _ d r h1 h2=>exact⟨d,r,rfl,h1,h2⟩
theorem sW{ds:aR}(h:pE [] ds):ds=[]:=by cases h;rfl
theorem MZ(r:aR)(h:pE [.str] r):∃s,r=tx s:=by
 obtain⟨_,_,rfl,h1,h⟩:=cY h;cases sW h;obtain⟨s,rfl⟩:=sV h1;exact⟨s,rfl⟩
theorem a4R(r:aR)(h:pE [.int .i64] r):∃s,r=dL s:=by
 obtain⟨_,_,rfl,h1,h⟩:=cY h;cases sW h;obtain⟨s,rfl⟩:=zv h1;exact⟨s,rfl⟩
abbrev U2:List Sh:=[.str,.sl [.str]]
theorem IS(r:aR)(h:pE U2 r):∃x:aE,r=x.c:=by
 obtain⟨_,_,rfl,h1,h⟩:=cY h;obtain⟨_,_,rfl,h2,h⟩:=cY h;cases sW h;obtain⟨a,rfl⟩:=sV h1;obtain⟨b,rfl⟩:=rG MZ h2;exact⟨⟨a,b⟩,rfl⟩
abbrev a3G:List Sh:=[.str,.str]
theorem ZN(r:aR)(h:pE a3G r):∃x:aS,r=x.c:=by
 obtain⟨_,_,rfl,h1,h⟩:=cY h;obtain⟨_,_,rfl,h2,h⟩:=cY h;cases sW h;obtain⟨a,rfl⟩:=sV h1;obtain⟨b,rfl⟩:=sV h2;exact⟨⟨a,b⟩,rfl⟩
abbrev a3E:List Sh:=[.int .i64,.str,.sl [.str],.str,.str]
theorem ZL(r:aR)(h:pE a3E r):∃x:aQ,r=x.c:=by
 obtain⟨_,_,rfl,h1,h⟩:=cY h;obtain⟨_,_,rfl,h2,h⟩:=cY h;obtain⟨_,_,rfl,h3,h⟩:=cY h;obtain⟨_,_,rfl,h4,h⟩:=cY h;obtain⟨_,_,rfl,h5,h⟩:=cY h;cases sW h;obtain⟨a,rfl⟩:=zv h1;obtain⟨b,rfl⟩:=sV h2;obtain⟨c,rfl⟩:=rG MZ h3;obtain⟨d,rfl⟩:=sV h4;obtain⟨e,rfl⟩:=sV h5;exact⟨⟨a,⟨b,c⟩,d,e⟩,rfl⟩
abbrev Vj:List Sh:=[.int .i64,.str,.sl [.str]]
theorem Us(r:aR)(h:pE Vj r):∃x:Action,r=x.c:=by
 obtain⟨_,_,rfl,h1,h⟩:=cY h;obtain⟨_,_,rfl,h2,h⟩:=cY h;obtain⟨_,_,rfl,h3,h⟩:=cY h;cases sW h;obtain⟨a,rfl⟩:=zv h1;obtain⟨b,rfl⟩:=sV h2;obtain⟨c,rfl⟩:=rG MZ h3;exact⟨⟨a,⟨b,c⟩⟩,rfl⟩
abbrev a3H:List Sh:=[.str,.int .i64,.sl a3E,.sl Vj]
theorem ZO(r:aR)(h:pE a3H r):∃x:aO,r=x.c:=by
 obtain⟨_,_,rfl,h1,h⟩:=cY h;obtain⟨_,_,rfl,h2,h⟩:=cY h;obtain⟨_,_,rfl,h3,h⟩:=cY h;obtain⟨_,_,rfl,h4,h⟩:=cY h;cases sW h;obtain⟨a,rfl⟩:=sV h1;obtain⟨b,rfl⟩:=zv h2;obtain⟨c,rfl⟩:=rG ZL h3;obtain⟨d,rfl⟩:=rG Us h4;exact⟨⟨a,b,c,d⟩,rfl⟩
abbrev Yq:List Sh:=[.sl U2,.sl a3G]
theorem Wb(r:aR)(h:pE Yq r):∃x:aI,r=x.c:=by
 obtain⟨_,_,rfl,h2,h⟩:=cY h;obtain⟨_,_,rfl,h3,h⟩:=cY h;cases sW h;obtain⟨b,rfl⟩:=rG IS h2;obtain⟨c,rfl⟩:=rG ZN h3;exact⟨⟨b,c⟩,rfl⟩
abbrev Yp:List Sh:=[.str,.sl [.str],.sl U2]
theorem Wa(r:aR)(h:pE Yp r):∃x:aP,r=x.c:=by
 obtain⟨_,_,rfl,h1,h⟩:=cY h;obtain⟨_,_,rfl,h2,h⟩:=cY h;obtain⟨_,_,rfl,h3,h⟩:=cY h;cases sW h;obtain⟨v0,rfl⟩:=sV h1;obtain⟨v1,rfl⟩:=rG MZ h2;obtain⟨v2,rfl⟩:=rG IS h3;exact⟨⟨⟨v0,v1⟩,v2⟩,rfl⟩
abbrev a3F:List Sh:=[.int .i64,.int .i64,.str,.sl [.str],.str,.str,.int .i64,.sl Yq]
theorem ZM(r:aR)(h:pE a3F r):∃x:Node,r=x.c:=by
 obtain⟨_,_,rfl,h1,h⟩:=cY h;obtain⟨_,_,rfl,h2,h⟩:=cY h;obtain⟨_,_,rfl,h3,h⟩:=cY h;obtain⟨_,_,rfl,h4,h⟩:=cY h;obtain⟨_,_,rfl,h5,h⟩:=cY h;obtain⟨_,_,rfl,h6,h⟩:=cY h;obtain⟨_,_,rfl,h7,h⟩:=cY h;obtain⟨_,_,rfl,h8,h⟩:=cY h;cases sW h;obtain⟨v0,rfl⟩:=zv h1;obtain⟨v1,rfl⟩:=zv h2;obtain⟨v2,rfl⟩:=sV h3;obtain⟨v3,rfl⟩:=rG MZ h4;obtain⟨v4,rfl⟩:=sV h5;obtain⟨v5,rfl⟩:=sV h6;obtain⟨v6,rfl⟩:=zv h7;obtain⟨v7,rfl⟩:=rG Wb h8;exact⟨⟨v0,⟨v1,⟨v2,v3⟩,v4,v5⟩,v6,v7⟩,rfl⟩
abbrev a0A:List Sh:=[.sl a3H,.sl [.int .i64],.sl Yp,.sl a3F,.sl U2,.int .i64]
theorem TB(r:aR)(h:pE a0A r):∃x:aF,r=x.c:=by
 obtain⟨_,_,rfl,h1,h⟩:=cY h;obtain⟨_,_,rfl,h2,h⟩:=cY h;obtain⟨_,_,rfl,h3,h⟩:=cY h;obtain⟨_,_,rfl,h4,h⟩:=cY h;obtain⟨_,_,rfl,h5,h⟩:=cY h;obtain⟨_,_,rfl,h6,h⟩:=cY h;cases sW h;obtain⟨v0,rfl⟩:=rG ZO h1;obtain⟨v1,rfl⟩:=rG a4R h2;obtain⟨v2,rfl⟩:=rG Wa h3;obtain⟨v3,rfl⟩:=rG ZM h4;obtain⟨v4,rfl⟩:=rG IS h5;obtain⟨v5,rfl⟩:=zv h6;exact⟨⟨v0,v1,v2,v3,v4,v5⟩,rfl⟩
section
variable{P:Program}{n:Nat}{t:TypeId}{d:D}
theorem UR.struct{α:Type}{c:α->aR}{shs:qp}(hc:∀r,pE shs r->∃x,r=c x)(ha:BQ P t=some true)(hf:C7 P n t=some shs)(h:UR P n t d):∃x,d=.agg (c x):=by
 rcases h with⟨_,aFY,cells,h1,rfl,h2⟩|⟨h1,_⟩
 ·rw[hf]at h1;cases h1;obtain⟨x,rfl⟩:=hc _ h2;exact⟨x,rfl⟩
 ·rw[ha]at h1;cases h1
theorem UR.cell{sh:Sh}(ha:BQ P t=some false)(hf:C7 P n t=some [sh])(h:UR P n t d):QB sh d:=by
 rcases h with⟨h1,_⟩|⟨_,sh',h1,h2⟩
 ·rw[ha]at h1;cases h1
 ·rw[hf]at h1;cases h1;exact h2
end
end Go.Cx
namespace Go.Cx
open Go.ChangeShapes Go.WideShapes Go.ChangeAt Go.RowKit
def jp0(P:Program)(f:FuncId)(fn:Func)(s:ChangeSpec)(c:OpenClaim):Bool:=(c.wf (OpenSpec.ofChange s)&&laidOutB P&&mapsRowed P)
def jp1(P:Program)(f:FuncId)(fn:Func)(s:ChangeSpec)(c:OpenClaim):Bool:=(fn.params.all (P.readableRec ·)&&namedTie P c.named s.vars)&&((c.stops==[])&&(P.stops==[])&&(c.knobs==[])&&(P.stopKnobs==[]))&&((c.maps==(fn.params.toList++s.plain.varTypes P).any (P.mapsRec ·))&&(c.ifaces==(fn.params.toList++s.plain.varTypes P).any (P.ifacesRec ·))&&(c.mapsOut==P.mapsAmong fn.resultTypes.toList))&&((c.loops==(fn.params.toList++s.plain.varTypes P).any (P.loopsFrom ·))&&(c.wideKeys==(fn.params.toList++s.plain.varTypes P++fn.resultTypes.toList).any (P.wideKeysFrom ·)))&&(s.vars.all (P.varReadable ·)&&fn.resultTypes.all (fun t=>P.readableRec t&&decide (t<P.types.size))&&(c.ifacesOut==fn.resultTypes.toList.any (P.ifacesRec ·))&&(c.loopsOut==fn.resultTypes.toList.any (P.loopsFrom ·)))&&((c.kinds==(if c.domain.isEmpty then []else fn.params.toList.map fun t=>match P.underlying t with|some (.int k)=>some k|_=>none))&&(c.pinned==c.pinnedBy))&&((c.veiled==(fn.params.toList++s.plain.varTypes P++fn.resultTypes.toList).any (P.veiledRec ·))&&c.veiledFits P fn.params.toList (fn.params.toList++s.plain.varTypes P++fn.resultTypes.toList))
def jp2(P:Program)(f:FuncId)(fn:Func)(s:ChangeSpec)(c:OpenClaim):Bool:=(c.inPlace==P.inPlace f)&&(c.unfollowed==P.unfollowed f)&&(c.recurses==P.recurses f)&&(c.named==P.varsNamed f)
def jp3(P:Program)(f:FuncId)(fn:Func)(s:ChangeSpec)(c:OpenClaim):Bool:=(c.plainKeys==P.plainKeys)&&(c.shortTexts.isNone&&P.stopsHeard)&&P.mayEnter&&(c.lifted==P.liftsFinal)&&(P.make==some c.make)
theorem Zj{P:Program}{f:FuncId}{fn:Func}{s:ChangeSpec}{c:OpenClaim}(h0:jp0 P f fn s c=true)(h1:jp1 P f fn s c=true)(h2:jp2 P f fn s c=true)(h3:jp3 P f fn s c=true):joinedFacts P f fn s c=true:=by
 unfold jp0 at h0;unfold jp1 at h1;unfold jp2 at h2;unfold jp3 at h3;unfold joinedFacts;simp only[aY]at h0 h1 h2 h3⊢;obtain⟨⟨aFa,aFb⟩,aFc⟩:=h0;obtain⟨⟨⟨⟨⟨⟨⟨aFd,aFe⟩,⟨⟨⟨aFf,aFg⟩,aFh⟩,aFi⟩⟩,⟨⟨aFn,aFo⟩,aFp⟩⟩,⟨aFq,aFr⟩⟩,⟨⟨⟨aFs,aFt⟩,aFu⟩,aFv⟩⟩,⟨aEI,aEJ⟩⟩,⟨aEK,aEL⟩⟩:=h1;obtain⟨⟨⟨aFj,aFk⟩,aFl⟩,aFm⟩:=h2;obtain⟨⟨⟨⟨aEC,⟨aED,aEE⟩⟩,aEF⟩,aEG⟩,aEH⟩:=h3
 and_intros<;>assumption
end Go.Cx

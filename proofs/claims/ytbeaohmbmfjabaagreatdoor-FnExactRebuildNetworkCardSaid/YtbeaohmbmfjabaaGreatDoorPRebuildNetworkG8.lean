/- The structure of a network in plain words. No condition but bounds. -/
import Derived.Test.YtbeaohmbmfjabaaGreatDoorPRebuildNetworkG7
import Derived.Test.YtbeaohmbmfjabaaGreatDoorPRebuildNetworkG3
import Derived.Test.YtbeaohmbmfjabaaGreatDoorPRebuildNetworkG4
import Derived.ProofKit
set_option linter.unusedVariables false
set_option linter.unusedSimpArgs false
namespace Go.Cx
open Go.RowKit Go.Proofs Tryz
def ZN(sh:aE):b7->Nat->Option Nat
 | [],_=>none
 |x::xs,i=>if x.shape=sh then some i else ZN sh xs (i+1)
def YD(al:b7)(sh:aE):b7×Int:=match ZN sh al 0 with
 |some i=>(al,dD i)
 |none=>(al++[⟨sh,[]⟩],dD al.length)
theorem PW{n:Nat}(h:n<=1099511627776):IntKind.i64.wrap (((n+1:Nat):Int)-1)=dD n:=by
 unfold dD;rw[gx (tv.i64.2 (by omega))];omega
theorem aDq(n:aF)(sh:aE)(k:Option (aF×Int)):∀(l:b7) (i:Nat),mD n sh k l i=match ZN sh l i with|some j=>some (n,dD j)|none=>k:=by
 intro l
 induction l with
 |nil=>intro i;rfl
 |cons x l ih=>
  intro i;rw[mD,Xe,aA,ih,ZN];by_cases h:x.shape=sh
  ·rw[bU h,aV,bS h];rfl
  ·rw[bA h,aZ,bH h]
theorem sAl(n:aF)(sh:aE)(h:n.av.length<=1048576):tg n sh=some (⟨n.rules,n.ends,(YD n.av sh).1,n.nodes,n.facts,n.bw⟩,(YD n.av sh).2):=by
 unfold tg;rw[xJ (by omega),aV,aDq,mi (by omega) (by decide),aV];unfold YD;cases ZN sh n.av 0 with
 |some j=>rfl
 |none=>
  dsimp only;rw[show((n.av.map aP.c)++[[D.str sh.rel,D.sl (sh.args.map tx),D.sl []]]).length=n.av.length+1 by simp,PW (by omega)]
theorem aDT(n:aF)(sh:aE)(k:Option (aF×Int)):∀(l:b7) (i:Nat),eX n sh k l i=match ZN sh l i with|some j=>some (n,dD j)|none=>k:=by
 intro l
 induction l with
 |nil=>intro i;rfl
 |cons x l ih=>
  intro i;rw[eX,Qw,aA,ih,ZN];by_cases h:x.shape=sh
  ·rw[bU h,aV,bS h];rfl
  ·rw[bA h,aZ,bH h]
theorem iAl(n:aF)(sh:aE)(h:n.av.length<=1048576):iW n sh=some (⟨n.rules,n.ends,(YD n.av sh).1,n.nodes,n.facts,n.bw⟩,(YD n.av sh).2):=by
 unfold iW;rw[xJ (by omega),aV,aDT,mi (by omega) (by decide),aV];unfold YD;cases ZN sh n.av 0 with
 |some j=>rfl
 |none=>
  dsimp only;rw[show((n.av.map aP.c)++[[D.str sh.rel,D.sl (sh.args.map tx),D.sl []]]).length=n.av.length+1 by simp,PW (by omega)]
def Rs(p:Int)(c:aQ):ay->Nat->Option Nat
 | [],_=>none
 |x::xs,i=>if 0<i/\x.parent=p/\x.cond=c then some i else Rs p c xs (i+1)
def SD(al:b7)(c:aQ):b7×Int:=if c.kind=1\/c.kind=2 then YD al (vu c.pat)else(al, -1)
def OD(al:b7)(ns:ay)(p:Int)(c:aQ):(b7×ay)×Int:=match Rs p c ns 0 with
 |some i=>((al,ns),dD i)
 |none=>(((SD al c).1,ns++[⟨p,c,(SD al c).2,[]⟩]),dD ns.length)
theorem Ux(p:Int)(c:aQ)(ns:ay):Rs p c ns 0=Rs p c (ns.drop 1) 1:=by
 cases ns with
 |nil=>rfl
 |cons x ns=>rw[Rs,bH (fun h=>by omega)];rfl
def a07(n:aF)(z:(b7×ay)×Int):aF×Int:=(⟨n.rules,n.ends,z.1.1,z.1.2,n.facts,n.bw⟩,z.2)
theorem aDs(n:aF)(p:Int)(c:aQ)(k:Option (aF×Int))(hn:n.nodes.length<=1048576):∀(d v fu:Nat),v+d=n.nodes.length+1->1<=v->d<fu->gN n p c k fu (v:Int)=match Rs p c (n.nodes.drop v) v with|some j=>some (n,dD j)|none=>k:=by
 intro d
 induction d with
 |zero=>
  intro v fu hv h1 hf;obtain⟨fu,rfl⟩:∃m,fu=m+1:=⟨fu-1,by omega⟩
  rw[gN,aa,bA (by omega),aZ,pK (by omega)];rfl
 |succ d ih=>
  intro v fu hv h1 hf;obtain⟨fu,rfl⟩:∃m,fu=m+1:=⟨fu-1,by omega⟩
  by_cases hl:v<n.nodes.length
  ·have hx:n.nodes[v]?=some n.nodes[v]:=ai hl;have e3:mK n.nodes (v:Int)=some n.nodes[v]:=by unfold mK;rw[bU (by omega),aV];exact hx
   rw[mm hl,Rs,gN,aa,bU (by omega),aV,e3,aA,IL (by omega),ih (v+1) fu (by omega) (by omega) (by omega),a3L,aA];generalize n.nodes[v]=x;by_cases hp:x.parent=p
   ·rw[show((x.parent:Int)==p)=true by simp[hp],aV];by_cases hc:x.cond=c
    ·rw[bU hc,aV,bS ⟨by omega,hp,hc⟩];rfl
    ·rw[bA hc,aZ,bH (fun h=>hc h.2.2)]
   ·rw[show((x.parent:Int)==p)=false by simp[hp],aZ,bH (fun h=>hp h.2.1)]
  ·rw[gN,aa,bA (by omega),aZ,pK (by omega)];rfl
theorem sCh(n:aF)(p:Int)(c:aQ)(hn:n.nodes.length<=1048576)(ha:n.av.length<=1048576)(hc:c.wt<=1048576):wj n p c=some (a07 n (OD n.av n.nodes p c)):=by
 have hp:=aQ.fL hc;have hargs:=aE.dh hp;unfold wj;have e:=aDs n p c;rw[show(1:Int)=((1:Nat):Int)from rfl,e _ hn n.nodes.length 1 fuel (by omega) (bR _) (by unfold fuel;omega),<-Ux,U2 c (by omega),aA,a8w c.pat hp,aA,sAl n _ ha,aA];unfold OD SD a07;cases Rs p c n.nodes 0 with
 |some j=>rfl
 |none=>
  dsimp only;rw[mi (by omega) (by decide),aV];by_cases h1:c.kind=1
  ·rw[show((c.kind:Int)==((1:Nat):Int))=true by simp[h1],aV,bS (.inl h1)];simp[PW,hn,show n.nodes.length<=1099511627776 by omega]
   first|done| (unfold dD;rw[gx (tv.i64.2 (by omega))])
  ·rw[show((c.kind:Int)==((1:Nat):Int))=false by simp[h1],aZ];by_cases h2:c.kind=2
   ·rw[show((c.kind:Int)==(2:Int))=true by simp[h2],aV,bS (.inr h2)];simp[PW,hn,show n.nodes.length<=1099511627776 by omega]
    first|done| (unfold dD;rw[gx (tv.i64.2 (by omega))])
   ·rw[show((c.kind:Int)==(2:Int))=false by simp[h2],aZ,bH (by omega)]
    first|rw[mi (by omega) (by decide),aV]|rw[aA,mi (by omega) (by decide),aV]|skip
    simp[PW,hn,show n.nodes.length<=1099511627776 by omega]
    first|done| (unfold dD;rw[gx (tv.i64.2 (by omega))])
theorem aDV(n:aF)(p:Int)(c:aQ)(k:Option (aF×Int)):∀(l:ay) (i:Nat),dF n p c k l i=match Rs p c l i with|some j=>some (n,dD j)|none=>k:=by
 intro l
 induction l with
 |nil=>intro i;rfl
 |cons x l ih=>
  intro i;rw[dF,Rs,ih,Td,aA];by_cases hi:0<i
  ·rw[bU (by omega),aV];by_cases hp:x.parent=p
   ·rw[show((x.parent:Int)==p)=true by simp[hp],aV];by_cases hc:x.cond=c
    ·rw[bU hc,aV,bS ⟨hi,hp,hc⟩];rfl
    ·rw[bA hc,aZ,bH (fun h=>hc h.2.2)]
   ·rw[show((x.parent:Int)==p)=false by simp[hp],aZ,bH (fun h=>hp h.2.1)]
  ·rw[bA (by omega),aZ,bH (fun h=>hi h.1)]
theorem iCh(n:aF)(p:Int)(c:aQ)(hn:n.nodes.length<=1048576)(ha:n.av.length<=1048576)(hc:c.wt<=1048576):kp n p c=some (a07 n (OD n.av n.nodes p c)):=by
 have hp:=aQ.fL hc;have hargs:=aE.dh hp;unfold kp;rw[xJ (by omega),aV,aDV,TZ c (by omega),a8I c.pat hp,aA,iAl n _ ha,aA,aA];unfold OD SD a07;cases Rs p c n.nodes 0 with
 |some j=>rfl
 |none=>
  dsimp only;rw[mi (by omega) (by decide),aV];by_cases h1:c.kind=1
  ·rw[show((c.kind:Int)==(1:Int))=true by simp[h1],aV,bS (.inl h1)];simp[PW,hn,show n.nodes.length<=1099511627776 by omega]
   first|done| (unfold dD;rw[gx (tv.i64.2 (by omega))])
  ·rw[show((c.kind:Int)==(1:Int))=false by simp[h1],aZ];by_cases h2:c.kind=2
   ·rw[show((c.kind:Int)==(2:Int))=true by simp[h2],aV,bS (.inr h2)];simp[PW,hn,show n.nodes.length<=1099511627776 by omega]
    first|done| (unfold dD;rw[gx (tv.i64.2 (by omega))])
   ·rw[show((c.kind:Int)==(2:Int))=false by simp[h2],aZ,bH (by omega)]
    first|rw[mi (by omega) (by decide),aV]|rw[aA,mi (by omega) (by decide),aV]|skip
    simp[PW,hn,show n.nodes.length<=1099511627776 by omega]
    first|done| (unfold dD;rw[gx (tv.i64.2 (by omega))])
def IY(s:(b7×ay)×Int)(c:aQ):(b7×ay)×Int:=OD s.1.1 s.1.2 s.2 c
def KY(z:(b7×ay)×bI)(r:aN):(b7×ay)×bI:=(((gw r).foldl IY (z.1,0)).1,z.2++[((gw r).foldl IY (z.1,0)).2])
def root(tk:ah):Node:=⟨-1,⟨0,⟨[],[]⟩,[],[]⟩, -1,tk⟩
def cQ(tk:ah)(rs:ar):(b7×ay)×bI:=rs.foldl KY (([],[root tk]),[])
theorem a4V(al:b7)(sh:aE):(YD al sh).1.length<=al.length+1:=by
 unfold YD;cases ZN sh al 0<;>simp
theorem a4b(al:b7)(c:aQ):(SD al c).1.length<=al.length+1:=by
 unfold SD;by_cases h:c.kind=1\/c.kind=2
 ·rw[bS h];exact a4V _ _
 ·rw[bH h];exact Nat.le_succ _
theorem TH(al:b7)(ns:ay)(p:Int)(c:aQ):(OD al ns p c).1.1.length<=al.length+1/\(OD al ns p c).1.2.length<=ns.length+1:=by
 unfold OD;cases Rs p c ns 0 with
 |some i=>exact⟨Nat.le_succ _,Nat.le_succ _⟩
 |none=>exact⟨a4b _ _,by simp⟩
theorem IZ:∀(cs:aq) (s:(b7×ay)×Int),(cs.foldl IY s).1.1.length<=s.1.1.length+cs.length/\(cs.foldl IY s).1.2.length<=s.1.2.length+cs.length
 | [],s=>⟨bR _,bR _⟩
 |c::cs,s=>by
  have h1:=TH s.1.1 s.1.2 s.2 c;have h2:=IZ cs (IY s c);have h3:(IY s c).1.1.length<=s.1.1.length+1/\(IY s c).1.2.length<=s.1.2.length+1:=h1;rw[dK,aK];omega
theorem aBL(a:ar)(i:Nat)(y:aq)(k:Int->Int->ar->bI->b7->ay->aL->Option (aF×Bool)):∀(cs:aq) (j:Nat) (v u:Int) (w3:ar) (w4:bI) (al:b7) (ns:ay) (w7:aL),(∀c∈cs,c.wt<=1048576)->al.length+cs.length<=1048576->ns.length+cs.length<=1048576->
 gl a i y k cs j v u w3 w4 al ns w7=k (cs.foldl IY ((al,ns),v)).2 u w3 w4 (cs.foldl IY ((al,ns),v)).1.1 (cs.foldl IY ((al,ns),v)).1.2 w7:=by
 intro cs
 induction cs with
 |nil=>intros;rfl
 |cons c cs ih=>
  intro j v u w3 w4 al ns w7 hc ha hn;simp only[aK]at ha hn;have h1:=TH al ns v c;rw[gl,sCh _ v c (show ns.length<=1048576 by omega) (show al.length<=1048576 by omega) (hc c (by simp)),aA];unfold a07;dsimp only;rw[ih _ _ _ _ _ _ _ _ (fun x hx=>hc x (by simp[hx])) (by omega) (by omega)];rfl
theorem aAc(a:ar)(i:Nat)(y:aq)(k:Int->Int->ar->bI->b7->ay->aL->Option aF):∀(cs:aq) (j:Nat) (v u:Int) (w3:ar) (w4:bI) (al:b7) (ns:ay) (w7:aL),(∀c∈cs,c.wt<=1048576)->al.length+cs.length<=1048576->ns.length+cs.length<=1048576->
 jf a i y k cs j v u w3 w4 al ns w7=k (cs.foldl IY ((al,ns),v)).2 u w3 w4 (cs.foldl IY ((al,ns),v)).1.1 (cs.foldl IY ((al,ns),v)).1.2 w7:=by
 intro cs
 induction cs with
 |nil=>intros;rfl
 |cons c cs ih=>
  intro j v u w3 w4 al ns w7 hc ha hn;simp only[aK]at ha hn;have h1:=TH al ns v c;rw[jf,iCh _ v c (show ns.length<=1048576 by omega) (show al.length<=1048576 by omega) (hc c (by simp)),aA];unfold a07;dsimp only;rw[ih _ _ _ _ _ _ _ _ (fun x hx=>hc x (by simp[hx])) (by omega) (by omega)];rfl
theorem SX:∀(ts:aJ) (N:aT) {p:aS},p∈ts.foldl jZ N->p∈N\/(p.var∈ts/\lS p.var=true)
 | [],_,_,h=>.inl h
 |t::ts,N,p,h=>by
  rcases SX ts (jZ N t) h with h1|h1
  ·unfold jZ at h1;cases hv:lS t&& !I1 N t with
   |false=>rw[hv]at h1;exact .inl h1
   |true=>
    rw[hv,aV]at h1;simp only[aY]at hv;rcases au.1 h1 with h2|h2
    ·exact .inl h2
    ·rw[dU.1 h2];exact .inr ⟨by simp,hv.1⟩
  ·exact .inr ⟨by simp[h1.1],h1.2⟩
theorem Nr{l:aq}{v:Bytes}:v∈FQ l↔v∈Au l/\lS v=true:=by
 unfold FQ Au rI ja;simp only[cE,gA];constructor
 ·rintro⟨c,hc,hm,hv⟩;exact⟨⟨c,hc,hm⟩,hv⟩
 ·rintro⟨⟨c,hc,hm⟩,hv⟩;exact⟨c,hc,hm,hv⟩
theorem a05{r:aN}(h:nw r=true):(qZ r).length<=6:=by
 have h1:((qZ r).map aS.var).length<=(fM (FQ r.conds)).length:=by
  refine Sj _ _ (E2 _ WJ.nil) fun x hx=>?_
  obtain⟨p,hp,rfl⟩:=cJ.1 hx;rcases SX _ _ hp with h1|h1
  ·cases h1
  ·exact x7.2 (Nr.2 h1)
 rw[aa]at h1;exact cU h1 (a0I h)
theorem a2e{r:aN}(h:nw r=true){v:Bytes}(hv:v∈FQ r.conds):∃i p,i<6/\(qZ r)[i]?=some p/\p.var=v/\FJ (qZ r) v=nmB i:=by
 obtain⟨ht,VJ⟩:=Nr.1 hv;obtain⟨p,hp,he⟩:=Na _ [] ht VJ;have hp':p∈qZ r:=hp;obtain⟨i,hi,TR,hval,_⟩:=P8 (F7 _ YB.nil) hp';refine⟨i,p,by have:=a05 h;unfold qZ at this;omega,TR,he,?_⟩;rw[<-he];exact(Nw (N:=qZ r) (E2 (Au r.conds) WJ.nil) hp').trans hval
theorem Nx{r:aN}(h:nw r=true){x:Bytes}(hx:x.length<=16)(hV:lS x=true->x∈FQ r.conds):(FJ (qZ r) x).length<=16:=by
 cases hv:lS x with
 |false=>rw[show FJ (qZ r) x=x from RE hv];exact hx
 |true=>
  obtain⟨i,p,hi,_,_,e⟩:=a2e h (hV hv);rw[e];exact Ym i hi
theorem QE:∀(l:aJ),(∀x∈l,x.length<=16)->kA tw l<=17*l.length
 | [],_=>by simp[kA]
 |x::l,h=>by
  have h1:=QE l fun y hy=>h y (by simp[hy])
  have h2:=h x (by simp);rw[qh,aK];unfold tw at*;omega
theorem Rc{t:Bytes}(h:qe t=true):t.length<=16:=by have:=a0S h;omega
theorem QZ{c:aQ}(h:si c=true):c.pat.rel.length<=8/\c.pat.args.length<=3/\(∀x∈c.pat.args,x.length<=16)/\c.left.length<=16/\c.right.length<=16:=by
 by_cases hk:c.kind=1\/c.kind=2
 ·obtain⟨hp,hl,hr⟩:=ZR h hk;have ht:=Yz hp;unfold zE at hp;simp only[aY,bJ]at hp;have:=Sg hp.2.1;rw[hl,hr];exact⟨by omega,by omega,fun x hx=>Rc (ht x hx),by simp,by simp⟩
 ·obtain⟨_,hz,hl,hr⟩:=Wi h (fun e=>hk (.inl e)) (fun e=>hk (.inr e));unfold IP at hz;simp only[aY,cj,bJ]at hz;have h0:c.pat.args=[]:=cg (by omega);rw[hz.1,h0];exact⟨by simp,by simp,fun x hx=>(by cases hx),Rc hl,Rc hr⟩
theorem Nu{r:aN}(h:nw r=true):∀c∈gw r,c.wt<=1048576:=by
 intro c' hc';obtain⟨c,hc,rfl⟩:=cJ.1 hc';obtain⟨h1,h2,h3,h4,h5⟩:=QZ (PU h c hc);have hV:∀x∈c.pat.args++[c.left,c.right],lS x=true->x∈FQ r.conds:=fun x hx hv=>Nr.2 ⟨cE.2 ⟨c,hc,hx⟩,hv⟩
 have a1:(FJ (qZ r) c.left).length<=16:=Nx h h4 (hV _ (by simp));have a2:(FJ (qZ r) c.right).length<=16:=Nx h h5 (hV _ (by simp));have a3:=QE (c.pat.args.map (FJ (qZ r))) (fun x hx=>by
  obtain⟨y,hy,rfl⟩:=cJ.1 hx;exact Nx h (h3 y hy) (hV y (by simp[hy])))
 rw[aa]at a3;unfold RV aQ.wt;dsimp only;unfold tw at*;omega
theorem Bd{r:aN}(h:nw r=true):(gw r).length<=4:=by unfold gw;rw[aa];exact a0H h
theorem YC{r:aN}{n:Nat}(h:r.wt<=n){a:Action}(ha:a∈r.cv):a.pat.args.length<=n:=by
 have h1:=aN.Ma h;have h2:=ic (w:=Action.wt) ha;have h3:=gy tw a.pat.args;simp only[Action.wt]at h2;omega
theorem a39(p:aE)(h:p.args.length<=1099511627770):eU p=some p:=by
 unfold eU;rw[a3Q p.args (by omega)];rfl
theorem a2E(p:aE)(h:p.args.length<=1099511627770):eG p=some p:=by
 unfold eG;rw[Tf p.args (by omega)];rfl
theorem a8j(r:aN)(h:r.wt<=1048576):vV r=some r:=by
 have h1:=aN.uO h;have h2:=aN.Ma h;have h3:=gy aQ.wt r.conds;have h4:=gy Action.wt r.cv;unfold vV;rw[GF (c:=aQ.c) (b:=80) (f:=kB) (g:=fun x=>x) (L:=qH r _) (k:=_) (by decide) (fun _ _=>rfl) (fun _ _ _ _=>rfl) _ _ _ (fun c hc=>U2 c (by have:=aE.dh (aQ.fL (aN.sO h hc));omega)) (by simp;omega)];rw[GF (c:=Action.c) (b:=48) (f:=fun a:Action=>(eU a.pat).bind fun y=>some (⟨a.kind,y⟩:Action)) (g:=fun x=>x) (L:=nc r _ _) (k:=_) (by decide) (fun _ _=>rfl) (fun x xs i w=>by rw[nc];cases eU x.pat<;>rfl) _ _ _ (fun a ha=>by rw[a39 a.pat (by have:=YC h ha;omega)];rfl) (by simp;omega)];simp
theorem Vm(l:ar)(h:kA aN.wt l<=1048576):rE l=some l:=by
 have h3:=gy aN.wt l;unfold rE;rw[GF (c:=aN.c) (b:=72) (f:=vV) (g:=fun x=>x) (L:=nZ l _) (k:=_) (by decide) (fun _ _=>rfl) (fun _ _ _ _=>rfl) _ _ _ (fun r hr=>a8j r (by have:=ic (w:=aN.wt) hr;omega)) (by simp;omega)];simp
theorem a2D(l:aq)(h:l.length<=1048576)(hw:∀c∈l,c.wt<=1048576):sy l=some l:=by
 unfold sy;rw[GF (c:=aQ.c) (b:=80) (f:=fF) (g:=fun x=>x) (L:=mO l _) (k:=_) (by decide) (fun _ _=>rfl) (fun _ _ _ _=>rfl) _ _ _ (fun c hc=>TZ c (by have:=aE.dh (aQ.fL (hw c hc));omega)) (by simp;omega)];simp
theorem a84(r:aN)(h:r.wt<=1048576):r9 r=some r:=by
 have h1:=aN.uO h;have h2:=aN.Ma h;have h3:=gy aQ.wt r.conds;have h4:=gy Action.wt r.cv;unfold r9;rw[a2D r.conds (by omega) (fun c hc=>aN.sO h hc),aA];rw[GF (c:=Action.c) (b:=48) (f:=fun a:Action=>(eG a.pat).bind fun y=>some (⟨a.kind,y⟩:Action)) (g:=fun x=>x) (L:=kN r _ _) (k:=_) (by decide) (fun _ _=>rfl) (fun x xs i w=>by rw[kN];cases eG x.pat<;>rfl) _ _ _ (fun a ha=>by rw[a2E a.pat (by have:=YC h ha;omega)];rfl) (by simp;omega)];simp
theorem VL(l:ar)(h:kA aN.wt l<=1048576):pz l=some l:=by
 have h3:=gy aN.wt l;unfold pz;rw[GF (c:=aN.c) (b:=72) (f:=r9) (g:=fun x=>x) (L:=mQ l _) (k:=_) (by decide) (fun _ _=>rfl) (fun _ _ _ _=>rfl) _ _ _ (fun r hr=>a84 r (by have:=ic (w:=aN.wt) hr;omega)) (by simp;omega)];simp
theorem aBK(a:ar)(k:Int->ar->bI->b7->ay->aL->Option (aF×Bool)):∀(l:ar) (i:Nat) (u:Int) (w2:ar) (es:bI) (al:b7) (ns:ay) (w6:aL),(∀r∈l,r.wt<=1048576/\nw r=true)->es.length+l.length<=1000->al.length+4*l.length<=1000->ns.length+4*l.length<=1000->
 gj a k l i u w2 es al ns w6=k u w2 (l.foldl KY ((al,ns),es)).2 (l.foldl KY ((al,ns),es)).1.1 (l.foldl KY ((al,ns),es)).1.2 w6:=by
 intro l
 induction l with
 |nil=>intros;rfl
 |cons r l ih=>
  intro i u w2 es al ns w6 hr he ha hn;simp only[aK]at he ha hn;obtain⟨hw,hb⟩:=hr r (by simp);have h4:=Bd hb;have hl:=IZ (gw r) ((al,ns),0);dsimp only at hl;rw[gj,a8i r hw,aA,xJ (by omega),aV,aBL _ _ _ _ _ _ _ _ _ _ _ _ _ (Nu hb) (by omega) (by omega),mi (by omega) (by decide),aV,ih _ _ _ _ _ _ _ (fun x hx=>hr x (by simp[hx])) (by simp;omega) (by omega) (by omega)];rfl
theorem a3A(rs:ar)(h:kA aN.wt rs<=1048576):jk rs=some (bif yF rs then(⟨rs,(cQ [⟨[],[]⟩] rs).2,(cQ [⟨[],[]⟩] rs).1.1,(cQ [⟨[],[]⟩] rs).1.2,[],0⟩,true)else(⟨[],[],[],[],[],0⟩,false)):=by
 unfold jk;rw[aDr rs h,aA];cases hb:yF rs with
 |false=>rfl
 |true=>
  have h6:rs.length<=6:=by unfold yF at hb;simp only[aY,bJ]at hb;omega
  rw[bP,aZ,aV,Vm rs h,aA,aBK _ _ _ _ _ _ _ _ _ _ (fun r hr=>⟨by have:=ic (w:=aN.wt) hr;omega,sY hb r hr⟩) (by simp;omega) (by simp;omega) (by simp;omega)];rfl
theorem aAb(a:ar)(k:Int->ar->bI->b7->ay->aL->Option aF):∀(l:ar) (i:Nat) (u:Int) (w2:ar) (es:bI) (al:b7) (ns:ay) (w6:aL),(∀r∈l,r.wt<=1048576/\nw r=true)->es.length+l.length<=1000->al.length+4*l.length<=1000->ns.length+4*l.length<=1000->
 je a k l i u w2 es al ns w6=k u w2 (l.foldl KY ((al,ns),es)).2 (l.foldl KY ((al,ns),es)).1.1 (l.foldl KY ((al,ns),es)).1.2 w6:=by
 intro l
 induction l with
 |nil=>intros;rfl
 |cons r l ih=>
  intro i u w2 es al ns w6 hr he ha hn;simp only[aK]at he ha hn;obtain⟨hw,hb⟩:=hr r (by simp);have h4:=Bd hb;have hl:=IZ (gw r) ((al,ns),0);dsimp only at hl;rw[je,a83 r hw,aA,xJ (by omega),aV,aAc _ _ _ _ _ _ _ _ _ _ _ _ _ (Nu hb) (by omega) (by omega),mi (by omega) (by decide),aV,ih _ _ _ _ _ _ _ (fun x hx=>hr x (by simp[hx])) (by simp;omega) (by omega) (by omega)];rfl
theorem aDc(rs:ar)(h:kA aN.wt rs<=1048576)(hb:yF rs=true):tD rs=some ⟨rs,(cQ [] rs).2,(cQ [] rs).1.1,(cQ [] rs).1.2,[],0⟩:=by
 unfold tD;have h6:rs.length<=6:=by unfold yF at hb;simp only[aY,bJ]at hb;omega
 rw[VL rs h,aA,aAb _ _ _ _ _ _ _ _ _ _ (fun r hr=>⟨by have:=ic (w:=aN.wt) hr;omega,sY hb r hr⟩) (by simp;omega) (by simp;omega) (by simp;omega)];rfl
def chR(al:b7)(ns:ay)(p:Int)(c:aQ):(b7×ay)×Int:=match Rs p c ns 1 with
 |some i=>((al,ns),dD i)
 |none=>(((SD al c).1,ns++[⟨p,c,(SD al c).2,[]⟩]),dD (ns.length+1))
theorem a1O(tk:ah)(al:b7)(ns:ay)(p:Int)(c:aQ):OD al (root tk::ns) p c=(((chR al ns p c).1.1,root tk::(chR al ns p c).1.2),(chR al ns p c).2):=by
 unfold OD chR;rw[Ux,List.drop_succ_cons,GJ];cases Rs p c ns 1<;>rfl
def rtC(s:(b7×ay)×Int)(c:aQ):(b7×ay)×Int:=chR s.1.1 s.1.2 s.2 c
def rtR(z:(b7×ay)×bI)(r:aN):(b7×ay)×bI:=(((gw r).foldl rtC (z.1,0)).1,z.2++[((gw r).foldl rtC (z.1,0)).2])
def rtB(rs:ar):(b7×ay)×bI:=rs.foldl rtR (([],[]),[])
theorem Vs(tk:ah):∀(cs:aq) (al:b7) (ns:ay) (v:Int),cs.foldl IY ((al,root tk::ns),v)=(((cs.foldl rtC ((al,ns),v)).1.1,root tk::(cs.foldl rtC ((al,ns),v)).1.2),(cs.foldl rtC ((al,ns),v)).2)
 | [],_,_,_=>rfl
 |c::cs,al,ns,v=>by
  rw[dK,dK];show cs.foldl IY (OD al (root tk::ns) v c)=_;rw[a1O,Vs tk cs];rfl
theorem Vu(tk:ah):∀(rs:ar) (al:b7) (ns:ay) (es:bI),rs.foldl KY ((al,root tk::ns),es)=(((rs.foldl rtR ((al,ns),es)).1.1,root tk::(rs.foldl rtR ((al,ns),es)).1.2),(rs.foldl rtR ((al,ns),es)).2)
 | [],_,_,_=>rfl
 |r::rs,al,ns,es=>by
  rw[dK,dK];have e:KY ((al,root tk::ns),es) r=(((rtR ((al,ns),es) r).1.1,root tk::(rtR ((al,ns),es) r).1.2),(rtR ((al,ns),es) r).2):=by
   unfold KY rtR;dsimp only;rw[Vs]
  rw[e,Vu tk rs]
theorem qI(tk:ah)(rs:ar):cQ tk rs=(((rtB rs).1.1,root tk::(rtB rs).1.2),(rtB rs).2):=Vu tk rs [] [] []
theorem E9(tk:ah){rs:ar}(h:∀r∈rs,nw r=true)(h6:rs.length<=6):(cQ tk rs).1.2.length<=25:=by
 have main:∀(l:ar) (z:(b7×ay)×bI),(∀r∈l,nw r=true)->(l.foldl KY z).1.2.length<=z.1.2.length+4*l.length:=by
  intro l
  induction l with
  |nil=>intro z _;exact bR _
  |cons r l ih=>
   intro z hl;have h1:=ih (KY z r) (fun x hx=>hl x (by simp[hx]));have h2:=(IZ (gw r) (z.1,0)).2;have h3:=Bd (hl r (by simp));have h4:(KY z r).1.2.length=((gw r).foldl IY (z.1,0)).1.2.length:=rfl;rw[dK,aK];dsimp only at h2;omega
 have:=main rs (([],[root tk]),[]) h;unfold cQ;simp only[aK,bK]at this;omega
def wk(x:Node):Int×aQ:=(x.parent,x.cond)
theorem Sw{a b:ay}(h:a.map wk=b.map wk):∀(k v:Nat),S5 a k v=S5 b k v
 |0,_=>rfl
 |k+1,v=>by
  have e:(a[v]?).map wk=(b[v]?).map wk:=by rw[<-cA,<-cA,h]
  unfold S5;cases ha:a[v]? with
  |none=>
   cases hb:b[v]? with
   |none=>rfl
   |some y=>rw[ha,hb]at e;cases e
  |some x=>
   cases hb:b[v]? with
   |none=>rw[ha,hb]at e;cases e
   |some y=>
    rw[ha,hb]at e;have e1:x.parent=y.parent:=(ko (qw e)).1;dsimp only;rw[e1,Sw h k]
theorem TI{a b:ay}(h:a.map wk=b.map wk):D0 a=D0 b:=by
 funext i
 have e:(a[i]?).map wk=(b[i]?).map wk:=by rw[<-cA,<-cA,h]
 unfold D0;cases ha:a[i]? with
 |none=>
  cases hb:b[i]? with
  |none=>rfl
  |some y=>rw[ha,hb]at e;cases e
 |some x=>
  cases hb:b[i]? with
  |none=>rw[ha,hb]at e;cases e
  |some y=>
   rw[ha,hb]at e;have e2:x.cond=y.cond:=(ko (qw e)).2;show some x.cond=some y.cond;rw[e2]
theorem AS{a b:ay}(h:a.map wk=b.map wk)(v:Int):eg a v=eg b v:=by
 have hl:a.length=b.length:=by have:=congrArg List.length h;simpa using this
 unfold eg KS;rw[hl,Sw h,TI h]
def jE(al:b7)(fs:aL):b7:=al.map fun a=>⟨a.shape,uM a.shape [] fs⟩
def qX(ns:ay)(fs:aL):ay->Nat->ay
 | [],_=>[]
 |x::xs,i=>⟨x.parent,x.cond,x.cP,xU (eg ns (dD i)) fs⟩::qX ns fs xs (i+1)
def gO(ns:ay)(fs:aL):ay:=qX ns fs ns 0
theorem M6(ns:ay)(fs:aL):∀(l:ay) (i:Nat),(qX ns fs l i).map wk=l.map wk
 | [],_=>rfl
 |x::l,i=>by rw[qX,bG,M6 ns fs l];rfl
theorem Zh(ns:ay)(fs:aL)(l:ay)(i:Nat):(qX ns fs l i).length=l.length:=by
 have:=congrArg List.length (M6 ns fs l i);simpa using this
theorem setAt{α:Type}(pre l:List α)(x y:α):(pre++x::l).set pre.length y=pre++y::l:=by
 rw[mr _ _ (bR _),pM];rfl
structure IQ(ns:List Node):Prop where
 len:ns.length<=1048576
 wt:∀x∈ns,x.cond.wt<=1048576
 path:∀i:Nat,(eg ns (dD i)).length<=4
theorem RR{ns:ay}{v:Int}{c:aQ}(h:c∈eg ns v):∃x∈ns,x.cond=c:=by
 unfold eg at h;split at h
 ·unfold KS at h;obtain⟨i,_,hc⟩:=cF.1 h;unfold D0 at hc;cases hx:ns[i]? with
  |none=>rw[hx]at hc;cases hc
  |some x=>rw[hx]at hc;exact⟨x,aC hx,qw hc⟩
 ·cases h
theorem a1Y(n:aF)(fs y:aL)(k:b7->Option (aF×Unit))(hf:FS fs):∀(l pre:b7),(∀x∈l,x.shape.wt<=1048576)->fB n fs y k l pre.length (pre++l)=k (pre++jE l fs):=by
 intro l
 induction l with
 |nil=>intro pre _;rfl
 |cons x l ih=>
  intro pre hw;have hx:(pre++x::l)[pre.length]?=some x:=by simp
  have hlt:decide (pre.length<((pre++x::l).map aP.c).length)=true:=by simp
  rw[fB,hlt,aV,hx,aA,aAQ x.shape [] fs (hw x (by simp)) PB.nil hf,aA,aV,setAt];have:=ih (pre++[⟨x.shape,uM x.shape [] fs⟩]) (fun z hz=>hw z (by simp[hz]));rw[aX,fX,bY]at this;rw[show pre++(⟨x.shape,uM x.shape [] fs⟩:aP)::l=pre++([⟨x.shape,uM x.shape [] fs⟩]++l)from rfl,this];simp[jE]
theorem a7V(n:aF)(fs y:aL)(q:b7)(k:Option (aF×Unit))(hf:FS fs)(h24:fs.length<=24)(ns:ay)(hp:IQ ns):∀(l pre:ay),(pre++l).map wk=ns.map wk->
 eL n fs y q k l pre.length (pre++l)=some (⟨n.rules,n.ends,q,pre++qX ns fs l pre.length,y,n.bw⟩,()):=by
 intro l
 induction l with
 |nil=>intro pre _;rfl
 |cons x l ih=>
  intro pre he;have hx:(pre++x::l)[pre.length]?=some x:=by simp
  have hlt:decide (pre.length<((pre++x::l).map Node.c).length)=true:=by simp
  have hlen:(pre++x::l).length=ns.length:=by have:=congrArg List.length he;simpa using this
  have hok:NOk ⟨n.rules,n.ends,q,pre++x::l,y,n.bw⟩:=by
   refine⟨by show(pre++x::l).length<=1048576;rw[hlen];exact hp.len,fun z hz=>?_⟩;have hm:wk z∈ns.map wk:=by rw[<-he];exact cJ.2 ⟨z,hz,rfl⟩
   obtain⟨w,hw,e⟩:=cJ.1 hm;have:w.cond=z.cond:=(ko e).2;rw[<-this];exact hp.wt w hw
  have aA3:eg (pre++x::l) ((pre.length:Nat):Int)=eg ns (dD pre.length):=AS he _;have X1:∀c∈eg ns (dD pre.length),c.wt<=1048576:=by
   intro c hc;obtain⟨z,hz,e⟩:=RR hc;rw[<-e];exact hp.wt z hz
  rw[eL,a8E _ _ hok,aA,aA3,aAe _ fs X1 (hp.path _) hf h24,aA,hlt,aV,hx,aA,setAt];have:=ih (pre++[⟨x.parent,x.cond,x.cP,xU (eg ns (dD pre.length)) fs⟩]) (by
   rw[<-he];simp[wk])
  rw[aX,fX,bY]at this;rw[show pre++(⟨x.parent,x.cond,x.cP,xU (eg ns (dD pre.length)) fs⟩:Node)::l=pre++([⟨x.parent,x.cond,x.cP,xU (eg ns (dD pre.length)) fs⟩]++l)from rfl,this,qX];simp
theorem a6N(n:aF)(fs:aL)(hf:FS fs)(h24:fs.length<=24)(ha:n.av.length<=1048576)(hs:∀x∈n.av,x.shape.wt<=1048576)(hp:IQ n.nodes):jJ n fs=some (⟨n.rules,n.ends,jE n.av fs,gO n.nodes fs,fs,n.bw⟩,()):=by
 unfold jJ;have h1:=a1Y n fs fs;have hl:=hp.len;rw[Dz fs hf.1 (fun f hf2=>by have:=aE.dh (hf.2 f hf2);omega),aA,xJ (by omega),aV];have e1:=a1Y n fs fs (fun(fV:b7)=>(bif decide (n.nodes.length<=maxLen)then(eL n fs fs fV none n.nodes 0 n.nodes)else none)) hf n.av [] hs;refine e1.trans ?_;rw[cI,xJ (by omega),aV];exact a7V n fs fs _ none hf h24 n.nodes hp n.nodes [] rfl
theorem W9(ns:ay):∀(k k' v:Nat),1<=v->v<=k->v<=k'->S5 ns k v=S5 ns k' v
 |0,_,v,h1,h2,_=>by omega
 |k+1,0,v,h1,_,h3=>by omega
 |k+1,k'+1,v,h1,h2,h3=>by
  unfold S5;cases hx:ns[v]? with
  |none=>rfl
  |some x=>
   dsimp only;by_cases hp:1<=x.parent/\x.parent<(v:Int)
   ·rw[bS hp,bS hp,W9 ns k k' x.parent.toNat (by omega) (by omega) (by omega)]
   ·rw[bH hp,bH hp]
theorem uN(ns:ay):eg ns (dD 0)=[]:=by unfold eg dD;rw[bH (by omega)]
theorem yQ{ns:ay}{i:Nat}{x:Node}(hx:ns[i]?=some x)(h1:1<=i){p:Nat}(hp:x.parent=dD p)(hpi:p<i):eg ns (dD i)=eg ns (dD p)++[x.cond]:=by
 have hl:=(aH.1 hx).1;unfold dD at hp;have e1:eg ns (dD i)=KS ns i i:=by unfold eg dD;rw[bS (by omega)];rfl
 obtain⟨k,rfl⟩:∃k,i=k+1:=⟨i-1,by omega⟩
 rw[e1,RQ hx];by_cases h0:1<=p
 ·rw[bS (by omega)];have e2:eg ns (dD p)=KS ns p p:=by unfold eg dD;rw[bS (by omega)];rfl
  rw[e2,hp,oD];unfold KS;rw[W9 ns k p p h0 (by omega) (bR _)]
 ·rw[bH (by omega),show p=0 by omega,uN]
def WU(ns:ay):Prop:=∀(i:Nat) x,1<=i->ns[i]?=some x->∃p:Nat,x.parent=dD p/\p<i
theorem Ox{ns:ay}(hb:WU ns)(m:ay):∀(n i:Nat),i<=n->i<ns.length->eg (ns++m) (dD i)=eg ns (dD i):=by
 intro n
 induction n with
 |zero=>
  intro i h1 _;rw[show i=0 by omega,uN,uN]
 |succ n ih=>
  intro i h1 h2;by_cases h0:i=0
  ·rw[h0,uN,uN]
  ·have hx:ns[i]?=some ns[i]:=ai h2;have hx':(ns++m)[i]?=some ns[i]:=by rw[b9 h2];exact hx
   obtain⟨p,hp,hpi⟩:=hb i _ (by omega) hx;rw[yQ hx (by omega) hp hpi,yQ hx' (by omega) hp hpi,ih p (by omega) (by omega)]
structure FD(R:List aQ->Prop)(ns:List Node):Prop where
 pos:1<=ns.length
 below:WU ns
 path:∀i:Nat,1<=i->i<ns.length->R (eg ns (dD i))
theorem Uy{p:Int}{c:aQ}:∀ {l:ay} {i j:Nat},Rs p c l i=some j->∃x,l[j-i]?=some x/\i<=j/\0<j/\x.parent=p/\x.cond=c
 |x::l,i,j,h=>by
  unfold Rs at h;split at h
  ·rename_i hc;cases h;exact⟨x,by simp,bR _,hc.1,hc.2.1,hc.2.2⟩
  ·obtain⟨y,h1,h2,h3,h4,h5⟩:=Uy h;refine⟨y,?_,by omega,h3,h4,h5⟩;rw[show j-i=(j-(i+1))+1 by omega];exact h1
theorem FD.step{R:aq->Prop}{al:b7}{ns:ay}(h:FD R ns){a:Nat}(ha:a<ns.length){c:aQ}(hR:R (eg ns (dD a)++[c])):
 FD R (OD al ns (dD a) c).1.2/\∃b:Nat,(OD al ns (dD a) c).2=dD b/\b<(OD al ns (dD a) c).1.2.length/\eg (OD al ns (dD a) c).1.2 (dD b)=eg ns (dD a)++[c]:=by
 unfold OD;cases hc:Rs (dD a) c ns 0 with
 |some j=>
  obtain⟨x,h1,h2,h3,h4,h5⟩:=Uy hc;rw[BH]at h1;have hj:=(aH.1 h1).1;obtain⟨p,hp,hpj⟩:=h.below j x (by omega) h1;have:p=a:=by rw[hp]at h4;unfold dD at h4;omega
  subst this;exact⟨h,j,rfl,hj,by rw[yQ h1 (by omega) hp hpj,h5]⟩
 |none=>
  dsimp only;have hbel:WU (ns++[⟨dD a,c,(SD al c).2,[]⟩]):=by
   intro i x h1 hx;by_cases hi:i<ns.length
   ·rw[b9 hi]at hx;exact h.below i x h1 hx
   ·rw[bE (by omega)]at hx;have hi2:i=ns.length:=by
     have:=(aH.1 hx).1;simp at this;omega
    rw[hi2,pM]at hx;cases hx;exact⟨a,rfl,by omega⟩
  have hnew:eg (ns++[⟨dD a,c,(SD al c).2,[]⟩]) (dD ns.length)=eg ns (dD a)++[c]:=by
   have hx:(ns++[(⟨dD a,c,(SD al c).2,[]⟩:Node)])[ns.length]?=some ⟨dD a,c,(SD al c).2,[]⟩:=by simp
   have h1:=h.pos;rw[yQ hx (by omega) (p:=a) rfl ha,Ox h.below _ a a (bR _) ha]
  refine⟨⟨by simp,hbel,fun i h1 h2=>?_⟩,ns.length,rfl,by simp,hnew⟩;by_cases hi:i<ns.length
  ·rw[Ox h.below _ i i (bR _) hi];exact h.path i h1 hi
  ·have:i=ns.length:=by simp at h2;omega
   rw[this,hnew];exact hR
theorem FD.rule{R:aq->Prop}:∀(cs:aq) {al:b7} {ns:ay} {a:Nat},FD R ns->a<ns.length->(∀j:Nat,1<=j->j<=cs.length->R (eg ns (dD a)++cs.take j))->
 FD R (cs.foldl IY ((al,ns),dD a)).1.2/\∃b:Nat,(cs.foldl IY ((al,ns),dD a)).2=dD b/\b<(cs.foldl IY ((al,ns),dD a)).1.2.length/\eg (cs.foldl IY ((al,ns),dD a)).1.2 (dD b)=eg ns (dD a)++cs
 | [],al,ns,a,h,ha,_=>⟨h,a,rfl,ha,by simp⟩
 |c::cs,al,ns,a,h,ha,hR=>by
  obtain⟨h1,b,h2,h3,h4⟩:=h.step (al:=al) ha (c:=c) (by have:=hR 1 (bR _) (by simp);simpa using this);have e:IY ((al,ns),dD a) c=(((OD al ns (dD a) c).1.1,(OD al ns (dD a) c).1.2),dD b):=by
   show OD al ns (dD a) c=_;rw[<-h2]
  rw[dK,e];obtain⟨k1,d,k2,k3,k4⟩:=FD.rule cs (al:=(OD al ns (dD a) c).1.1) h1 h3 (fun j KN hj2=>by
   rw[h4,bY];have:=hR (j+1) (by omega) (by simp;omega);simpa using this)
  exact⟨k1,d,k2,k3,by rw[k4,h4];simp⟩
theorem a4c(al:b7)(ns:ay)(p:Int)(c:aQ):∃m,(OD al ns p c).1.2=ns++m:=by
 unfold OD;cases Rs p c ns 0 with
 |some i=>exact⟨[],by simp⟩
 |none=>exact⟨[⟨p,c,(SD al c).2,[]⟩],rfl⟩
theorem Yy:∀(cs:aq) (s:(b7×ay)×Int),∃m,(cs.foldl IY s).1.2=s.1.2++m
 | [],s=>⟨[],by simp⟩
 |c::cs,s=>by
  obtain⟨m,h⟩:=a4c s.1.1 s.1.2 s.2 c;obtain⟨m2,h2⟩:=Yy cs (IY s c);refine⟨m++m2,?_⟩;rw[dK,h2];show(OD s.1.1 s.1.2 s.2 c).1.2++m2=_;rw[h,bY]
def Y9(rs:ar)(p:aq):Prop:=∃r∈rs,∃j:Nat,1<=j/\j<=(gw r).length/\p=(gw r).take j
theorem Vt(all:ar):∀(l:ar) (al:b7) (ns:ay) (es:bI),(∀r∈l,r∈all)->FD (Y9 all) ns->
 FD (Y9 all) (l.foldl KY ((al,ns),es)).1.2/\(∃m,(l.foldl KY ((al,ns),es)).1.2=ns++m)/\∃fs,(l.foldl KY ((al,ns),es)).2=es++fs/\fs.length=l.length/\
  ∀(i:Nat) r,l[i]?=some r->∃b:Nat,fs[i]?=some (dD b)/\b<(l.foldl KY ((al,ns),es)).1.2.length/\eg (l.foldl KY ((al,ns),es)).1.2 (dD b)=gw r
 | [],al,ns,es,_,h=>⟨h,⟨[],by simp⟩,[],by simp,rfl,fun i r hr=>by simp at hr⟩
 |r::l,al,ns,es,hm,h=>by
  obtain⟨h1,b,h2,h3,h4⟩:=FD.rule (gw r) (al:=al) h (a:=0) (by have:=h.pos;omega) (fun j KN hj2=>by
   rw[uN,cI];exact⟨r,hm r (by simp),j,KN,hj2,rfl⟩)
  obtain⟨m1,hm1⟩:=Yy (gw r) ((al,ns),dD 0);obtain⟨k1,⟨m2,hm2⟩,fs,k2,k3,k4⟩:=Vt all l ((gw r).foldl IY ((al,ns),dD 0)).1.1 ((gw r).foldl IY ((al,ns),dD 0)).1.2 (es++[dD b]) (fun x hx=>hm x (by simp[hx])) h1;have e:KY ((al,ns),es) r=((((gw r).foldl IY ((al,ns),dD 0)).1.1,((gw r).foldl IY ((al,ns),dD 0)).1.2),es++[dD b]):=by
   rw[<-h2];rfl
  rw[dK,e];refine⟨k1,⟨m1++m2,by rw[hm2,hm1,bY]⟩,dD b::fs,by rw[k2];simp,by simp[k3],?_⟩;intro i x hx;cases i with
  |zero=>
   have:r=x:=by simpa using hx
   subst this;refine⟨b,rfl,by rw[hm2];simp;omega,?_⟩;rw[hm2,Ox h1.below _ b b (bR _) h3,h4,uN];rfl
  |succ i=>exact k4 i x (by simpa using hx)
theorem a0G(R:aq->Prop)(tk:ah):FD R [root tk]:=
 ⟨bR _,fun i x h1 hx=>by
  have:=(aH.1 hx).1;simp at this;omega,fun i h1 h2=>by simp at h2;omega⟩
theorem ya(tk:ah)(rs:ar):FD (Y9 rs) (cQ tk rs).1.2/\(cQ tk rs).2.length=rs.length/\∀(i:Nat) r,rs[i]?=some r->∃b:Nat,(cQ tk rs).2[i]?=some (dD b)/\b<(cQ tk rs).1.2.length/\eg (cQ tk rs).1.2 (dD b)=gw r:=by
 obtain⟨h1,_,fs,h2,h3,h4⟩:=Vt rs rs [] [root tk] [] (fun r hr=>hr) (a0G _ tk);rw[cI]at h2;refine⟨h1,?_,?_⟩
 ·show(rs.foldl KY (([],[root tk]),[])).2.length=_;rw[h2,h3]
 ·intro i r hr;obtain⟨b,k1,k2,k3⟩:=h4 i r hr;refine⟨b,?_,k2,k3⟩;show(rs.foldl KY (([],[root tk]),[])).2[i]?=_;rw[h2];exact k1
theorem Vi{r:aN}(h:nw r=true):∃c cs,gw r=c::cs/\c.kind=1:=by
 have hb:=U0 h;cases hc:r.conds with
 |nil=>
  unfold nw at h;rw[hc]at h;simp at h
 |cons c cs=>
  refine⟨RV (qZ r) c,cs.map (RV (qZ r)),by unfold gw;rw[hc];rfl,?_⟩;exact(Qa (pre:=[]) (i:=0) (c:=c) (rest:=cs) (by rw[cI,<-hc];exact hb)).2.1 rfl
theorem Sm{rs:ar}(h:∀r∈rs,nw r=true){p:aq}(hp:Y9 rs p):p.length<=4/\∃c cs,p=c::cs/\c.kind=1:=by
 obtain⟨r,hr,j,h1,h2,rfl⟩:=hp;have:=Bd (h r hr);refine⟨by rw[cM];omega,?_⟩;obtain⟨c,cs,e,hk⟩:=Vi (h r hr);obtain⟨j,rfl⟩:∃k,j=k+1:=⟨j-1,by omega⟩
 exact⟨c,cs.take j,by rw[e];rfl,hk⟩
theorem a0Z{c:aQ}{cs:aq}(hk:c.kind=1):xU (c::cs) []=[]:=by
 have h0:∀(l:aq),l.foldl (x8 []) []=[]:=by
  intro l
  induction l with
  |nil=>rfl
  |cons x l ih=>rw[dK];exact ih
 unfold xU;rw[dK];have:x8 [] [⟨[],[]⟩] c=[]:=by
  unfold x8 MD;rw[bU hk];rfl
 rw[this,h0]
theorem PO{r:aN}(h:nw r=true):∀c∈gw r,c.pat.rel.length<=8/\c.pat.args.length<=3/\∀x∈c.pat.args,x.length<=16:=by
 intro c' hc';obtain⟨c,hc,rfl⟩:=cJ.1 hc';obtain⟨h1,h2,h3,h4,h5⟩:=QZ (PU h c hc);have hV:∀x∈c.pat.args++[c.left,c.right],lS x=true->x∈FQ r.conds:=fun x hx hv=>Nr.2 ⟨cE.2 ⟨c,hc,hx⟩,hv⟩
 refine⟨h1,by show(c.pat.args.map _).length<=3;rw[aa];exact h2,fun x hx=>?_⟩;obtain⟨y,hy,rfl⟩:=cJ.1 hx;exact Nx h (h3 y hy) (hV y (by simp[hy]))
theorem a3V{p:aE}(h1:p.rel.length<=8)(h2:p.args.length<=3)(h3:∀x∈p.args,x.length<=16):(vu p).wt<=1048576:=by
 have a3:=QE (p.args.map (FJ (p.args.foldl jZ []))) (fun x hx=>by
  obtain⟨y,hy,rfl⟩:=cJ.1 hx;exact a8e (by omega) (h3 y hy))
 rw[aa]at a3;show aE.wt ⟨p.rel,p.args.map (FJ (p.args.foldl jZ []))⟩<=1048576;unfold aE.wt;dsimp only;unfold tw at*;omega
def yp(al:b7):Prop:=∀x∈al,x.shape.wt<=1048576/\x.facts=[]
theorem Wf{al:b7}{ns:ay}{p:Int}{c:aQ}(h:yp al)(hc:(vu c.pat).wt<=1048576):yp (OD al ns p c).1.1:=by
 unfold OD;cases Rs p c ns 0 with
 |some i=>exact h
 |none=>
  show yp (SD al c).1;unfold SD;by_cases hk:c.kind=1\/c.kind=2
  ·rw[bS hk];unfold YD;cases ZN (vu c.pat) al 0 with
   |some i=>exact h
   |none=>
    intro x hx;rcases au.1 hx with hx|hx
    ·exact h x hx
    ·rw[dU.1 hx];exact⟨hc,rfl⟩
  ·rw[bH hk];exact h
theorem Ra:∀(cs:aq) (s:(b7×ay)×Int),yp s.1.1->(∀c∈cs,(vu c.pat).wt<=1048576)->yp (cs.foldl IY s).1.1
 | [],_,h,_=>h
 |c::cs,s,h,hc=>Ra cs (IY s c) (Wf h (hc c (by simp))) (fun x hx=>hc x (by simp[hx]))
theorem AY(tk:ah){rs:ar}(h:∀r∈rs,nw r=true):yp (cQ tk rs).1.1:=by
 have main:∀(l:ar) (z:(b7×ay)×bI),(∀r∈l,nw r=true)->yp z.1.1->yp (l.foldl KY z).1.1:=by
  intro l
  induction l with
  |nil=>intro z _ hz;exact hz
  |cons r l ih=>
   intro z hl hz;refine ih (KY z r) (fun x hx=>hl x (by simp[hx])) ?_;exact Ra (gw r) (z.1,0) hz (fun c hc=>by
    obtain⟨p1,p2,p3⟩:=PO (hl r (by simp)) c hc;exact a3V p1 p2 p3)
 exact main rs _ h (fun x hx=>by cases hx)
theorem QC(tk:ah){rs:ar}(h:∀r∈rs,nw r=true)(h6:rs.length<=6):IQ (cQ tk rs).1.2:=by
 have hp:=(ya tk rs).1;have hl:=E9 tk h h6;refine⟨by omega,?_,?_⟩
 ·intro x hx;obtain⟨i,hi⟩:=cq hx;have WM:=(aH.1 hi).1;by_cases h0:i=0
  ·subst h0;rw[qI]at hi;cases hi;unfold root aQ.wt;simp[kA,tw]
  ·obtain⟨p,hpp,hpi⟩:=hp.below i x (by omega) hi;obtain⟨r,hr,j,j1,j2,e⟩:=hp.path i (by omega) WM;rw[yQ hi (by omega) hpp hpi]at e;have hm:x.cond∈gw r:=cH (by rw[<-e];simp:x.cond∈(gw r).take j);exact Nu (h r hr) _ hm
 ·intro i;by_cases hi:1<=i/\i<(cQ tk rs).1.2.length
  ·exact(Sm h (hp.path i hi.1 hi.2)).1
  ·unfold eg dD;rw[bH (by omega)];simp
theorem a26(rs:ar)(fs:aL)(t:Int)(hr:kA aN.wt rs<=1048576)(hb:yF rs=true)(hf:FS fs)(h24:fs.length<=24):uD rs fs t=some ⟨rs,(cQ [] rs).2,jE (cQ [] rs).1.1 fs,gO (cQ [] rs).1.2 fs,fs,t⟩:=by
 have h6:rs.length<=6:=by unfold yF at hb;simp only[aY,bJ]at hb;omega
 have hv:=sY hb;have hsh:=AY [] hv;have hal:(cQ [] rs).1.1.length<=1048576:=by
  have main:∀(l:ar) (z:(b7×ay)×bI),(∀r∈l,nw r=true)->(l.foldl KY z).1.1.length<=z.1.1.length+4*l.length:=by
   intro l
   induction l with
   |nil=>intro z _;exact bR _
   |cons r l ih=>
    intro z hl;have h1:=ih (KY z r) (fun x hx=>hl x (by simp[hx]));have h2:=(IZ (gw r) (z.1,0)).1;have h3:=Bd (hl r (by simp));have h4:(KY z r).1.1.length=((gw r).foldl IY (z.1,0)).1.1.length:=rfl;rw[dK,aK];dsimp only at h2;omega
  have:=main rs (([],[root []]),[]) hv;unfold cQ;simp only[bK]at this;omega
 unfold uD;rw[aDc rs hr hb,aA,a6N _ fs hf h24 hal (fun x hx=>(hsh x hx).1) (QC [] hv h6)];rfl
theorem Zf{al:b7}(h:yp al):jE al []=al:=by
 unfold jE;have:∀l:b7,(∀x∈l,x.facts=[])->l.map (fun a=>(⟨a.shape,uM a.shape [] []⟩:aP))=l:=by
  intro l
  induction l with
  |nil=>intro _;rfl
  |cons x l ih=>
   intro hl;rw[bG,ih (fun y hy=>hl y (by simp[hy]))];have:=hl x (by simp);cases x;simp only at this;subst this;rfl
 exact this al fun x hx=>(h x hx).2
theorem a4d{al:b7}{ns:ay}{p:Int}{c:aQ}(h:∀x∈ns,x.tokens=[]):∀x∈(chR al ns p c).1.2,x.tokens=[]:=by
 unfold chR;cases Rs p c ns 1 with
 |some i=>exact h
 |none=>
  intro x hx;rcases au.1 hx with hx|hx
  ·exact h x hx
  ·rw[dU.1 hx]
theorem Yq:∀(cs:aq) (s:(b7×ay)×Int),(∀x∈s.1.2,x.tokens=[])->∀x∈(cs.foldl rtC s).1.2,x.tokens=[]
 | [],_,h=>h
 |c::cs,s,h=>Yq cs (rtC s c) (a4d h)
theorem a5c(rs:ar):∀x∈(rtB rs).1.2,x.tokens=[]:=by
 have main:∀(l:ar) (z:(b7×ay)×bI),(∀x∈z.1.2,x.tokens=[])->∀x∈(l.foldl rtR z).1.2,x.tokens=[]:=by
  intro l
  induction l with
  |nil=>intro z hz;exact hz
  |cons r l ih=>intro z hz;exact ih (rtR z r) (Yq (gw r) (z.1,0) hz)
 exact main rs _ (fun x hx=>by cases hx)
theorem Qj(ns:ay):∀(l:ay) (i:Nat),(∀x∈l,x.tokens=[])->(∀j:Nat,i<=j->j<i+l.length->xU (eg ns (dD j)) []=[])->qX ns [] l i=l
 | [],_,_,_=>rfl
 |x::l,i,ht,hp=>by
  rw[qX,hp i (bR _) (by simp),Qj ns l (i+1) (fun y hy=>ht y (by simp[hy])) (fun j h1 h2=>hp j (by omega) (by simp only[aK];omega))];have:=ht x (by simp);cases x;simp only at this;subst this;rfl
theorem Zg{rs:ar}(h:∀r∈rs,nw r=true):gO (cQ [] rs).1.2 []=(cQ [⟨[],[]⟩] rs).1.2:=by
 have hp:=(ya [] rs).1;have e:(cQ [] rs).1.2=root []::(rtB rs).1.2:=by rw[qI]
 have e2:(cQ [⟨[],[]⟩] rs).1.2=root [⟨[],[]⟩]::(rtB rs).1.2:=by rw[qI]
 have hlen:(cQ [] rs).1.2.length=(rtB rs).1.2.length+1:=by rw[e];rfl
 unfold gO;rw[e2];have h1:=Qj (cQ [] rs).1.2 (rtB rs).1.2 1 (a5c rs) (fun j j1 j2=>by
  obtain⟨_,c,cs,ec,hk⟩:=Sm h (hp.path j j1 (by rw[hlen];omega));rw[ec];exact a0Z hk)
 have h2:qX (cQ [] rs).1.2 [] (cQ [] rs).1.2 0=qX (cQ [] rs).1.2 [] (root []::(rtB rs).1.2) 0:=by rw[<-e]
 rw[h2,qX,h1,uN];rfl
def DE(rs:ar)(fs:aL)(t:Int):aF:=⟨rs,(cQ [] rs).2,jE (cQ [] rs).1.1 fs,gO (cQ [] rs).1.2 fs,fs,t⟩
def WQ(n:aF):Bool:=yF n.rules&&(p8 n.facts&&(decide (0<=n.bw)&&S3 n (DE n.rules n.facts 0)))
theorem FS.Cq{fs:aL}(h:kA aE.wt fs<=1048576):FS fs:=⟨by have:=gy aE.wt fs;omega,fun f hf=>by have:=ic (w:=aE.wt) hf;omega⟩
theorem a2G(n:aF)(hr:kA aN.wt n.rules<=1048576)(hf:kA aE.wt n.facts<=1048576):py n=some (WQ n):=by
 unfold py WQ;rw[aDU _ hr,a6L _ hf,aA,aA];cases h1:yF n.rules with
 |false=>rfl
 |true=>
  cases h2:p8 n.facts with
  |false=>rfl
  |true=>
   rw[a26 _ _ _ hr h1 (FS.Cq hf) (vG h2),aA,aDZ,aA];simp only[aV,fO];by_cases h3:0<=n.bw
   ·rw[bU h3];rfl
   ·rw[bA h3];rfl
def xT(x:Node):Int×Int×aQ:=(x.parent,x.cP,x.cond)
theorem a2j{a b:ay}(h:a.map xT=b.map xT):a.map wk=b.map wk:=by
 have:=congrArg (List.map fun t:Int×Int×aQ=>(t.1,t.2.2)) h;rw[rH,rH]at this;exact this
def a0a(ns:ay)(fs:aL):ay->Nat->Bool
 | [],_=>true
 |x::xs,i=>decide (x.tokens=xU (eg ns (dD i)) fs)&&a0a ns fs xs (i+1)
theorem SR(fs:aL):∀(a b:b7),a.map aP.shape=b.map aP.shape->((a.all fun x=>decide (x.facts=uM x.shape [] fs))=true↔a=jE b fs)
 | [],[],_=>⟨fun _=>rfl,fun _=>rfl⟩
 | [],_::_,h=>by simp at h
 |_::_,[],h=>by simp at h
 |x::a,y::b,h=>by
  rw[bG,bG]at h;obtain⟨h1,h2⟩:=zm h;have ih:=SR fs a b h2;rw[dM,aY,bJ,ih];show _↔x::a=⟨y.shape,uM y.shape [] fs⟩::jE b fs;constructor
  ·rintro⟨q1,q2⟩;rw[<-h1,<-q1,<-q2]
  ·intro q;obtain⟨q1,q2⟩:=zm q;exact⟨by rw[q1],q2⟩
theorem SV(ns:ay)(fs:aL):∀(a b:ay) (i:Nat),a.map xT=b.map xT->(a0a ns fs a i=true↔a=qX ns fs b i)
 | [],[],_,_=>⟨fun _=>rfl,fun _=>rfl⟩
 | [],_::_,_,h=>by simp at h
 |_::_,[],_,h=>by simp at h
 |x::a,y::b,i,h=>by
  rw[bG,bG]at h;obtain⟨h1,h2⟩:=zm h;have ih:=SV ns fs a b (i+1) h2;have e1:x.parent=y.parent:=(ko h1).1;have e2:x.cP=y.cP:=(ko (ko h1).2).1;have e3:x.cond=y.cond:=(ko (ko h1).2).2;unfold a0a qX;rw[aY,bJ,ih];constructor
  ·rintro⟨q1,q2⟩;rw[<-e1,<-e2,<-e3,<-q1,<-q2]
  ·intro q;obtain⟨q1,q2⟩:=zm q;exact⟨by rw[q1],q2⟩
theorem a6w(n:aF)(k:Option Bool)(hf:FS n.facts):∀(l:b7) (i:Nat),(∀x∈l,x.shape.wt<=1048576)->jm n k l i=bif l.all (fun x=>decide (x.facts=uM x.shape [] n.facts))then k else some false
 | [],_,_=>rfl
 |x::l,i,h=>by
  rw[jm,a8m x.shape [] n.facts (h x (by simp)) PB.nil hf,aA,U7,aA,a6w n k hf l _ (fun y hy=>h y (by simp[hy])),dM];cases decide (x.facts=uM x.shape [] n.facts)<;>rfl
theorem a6x(n:aF)(k:Option Bool)(hf:FS n.facts)(h24:n.facts.length<=24)(hp:IQ n.nodes):∀(l:ay) (i:Nat),jo n k l i=bif a0a n.nodes n.facts l i then k else some false
 | [],_=>rfl
 |x::l,i=>by
  have X1:∀c∈eg n.nodes ((i:Nat):Int),c.wt<=1048576:=by
   intro c hc;obtain⟨z,hz,e⟩:=RR hc;rw[<-e];exact hp.wt z hz
  rw[jo,a8s n _ ⟨hp.len,hp.wt⟩,aA,aBM _ n.facts X1 (hp.path i) hf h24,aA,a5m,aA,a6x n k hf h24 hp l,a0a];show(bif !decide (x.tokens=xU (eg n.nodes (dD i)) n.facts)then some false else _)=_;cases decide (x.tokens=xU (eg n.nodes (dD i)) n.facts)<;>rfl
theorem a3D(n:aF)(hr:kA aN.wt n.rules<=1048576)(hf:kA aE.wt n.facts<=1048576):qG n=some (WQ n):=by
 unfold qG WQ;rw[a3A _ hr,a6r _ hf,aA,aA];cases h1:yF n.rules with
 |false=>rfl
 |true=>
  cases h2:p8 n.facts with
  |false=>rfl
  |true=>
   have h6:n.rules.length<=6:=by unfold yF at h1;simp only[aY,bJ]at h1;omega
   have hv:=sY h1;simp only[aV,bP,aZ,fO];rw[aB9,aA];have hroot:(cQ [⟨[],[]⟩] n.rules).1.2.map xT=(cQ [] n.rules).1.2.map xT:=by rw[qI,qI];rfl
   have hA:(cQ [⟨[],[]⟩] n.rules).1.1=(cQ [] n.rules).1.1:=by rw[qI,qI]
   have hE:(cQ [⟨[],[]⟩] n.rules).2=(cQ [] n.rules).2:=by rw[qI,qI]
   have hmem:S3 n (DE n.rules n.facts 0)=(decide (n.ends=(cQ [] n.rules).2)&&(decide (n.av=jE (cQ [] n.rules).1.1 n.facts)&&decide (n.nodes=gO (cQ [] n.rules).1.2 n.facts))):=by
    unfold S3 DE;simp
   by_cases hform:Qm n ⟨n.rules,(cQ [⟨[],[]⟩] n.rules).2,(cQ [⟨[],[]⟩] n.rules).1.1,(cQ [⟨[],[]⟩] n.rules).1.2,[],0⟩=true
   ·rw[hform];unfold Qm at hform;simp only[aY,bJ]at hform;obtain⟨f1,f2,f3⟩:=hform;have f2':n.nodes.map xT=(cQ [] n.rules).1.2.map xT:=by rw[<-hroot];exact f2
    have f1':n.av.map aP.shape=(cQ [] n.rules).1.1.map aP.shape:=by rw[<-hA];exact f1
    have f3':n.ends=(cQ [] n.rules).2:=by rw[<-hE];exact f3
    have a7l:=QC [] hv h6;have hfn:=a2j f2';have hok:IQ n.nodes:=by
     refine⟨by have:=congrArg List.length f2';rw[aa,aa]at this;rw[this];exact a7l.len,fun x hx=>?_,fun i=>by rw[AS hfn];exact a7l.path i⟩;have hm:wk x∈(cQ [] n.rules).1.2.map wk:=by rw[<-hfn];exact cJ.2 ⟨x,hx,rfl⟩
     obtain⟨w,hw,e⟩:=cJ.1 hm;have:w.cond=x.cond:=(ko e).2;rw[<-this];exact a7l.wt w hw
    have hsh:∀x∈n.av,x.shape.wt<=1048576:=by
     intro x hx;have hm:x.shape∈(cQ [] n.rules).1.1.map aP.shape:=by rw[<-f1'];exact cJ.2 ⟨x,hx,rfl⟩
     obtain⟨w,hw,e⟩:=cJ.1 hm;rw[<-e];exact(AY [] hv w hw).1
    have g1:=SR n.facts n.av _ f1';have g2:=SV n.nodes n.facts n.nodes _ 0 f2';have g3:qX n.nodes n.facts (cQ [] n.rules).1.2 0=gO (cQ [] n.rules).1.2 n.facts:=by
     unfold gO;have:∀(l:ay) (i:Nat),qX n.nodes n.facts l i=qX (cQ [] n.rules).1.2 n.facts l i:=by
      intro l
      induction l with
      |nil=>intro i;rfl
      |cons x l ih=>intro i;rw[qX,qX,ih,AS hfn]
     exact this _ _
    rw[g3]at g2;rw[hmem,bU f3',fO,a6w n _ (FS.Cq hf) _ _ hsh,a6x n _ (FS.Cq hf) (vG h2) hok];have k1:(n.av.all fun x=>decide (x.facts=uM x.shape [] n.facts))=decide (n.av=jE (cQ [] n.rules).1.1 n.facts):=by rw[bp,g1,bJ]
    have k2:a0a n.nodes n.facts n.nodes 0=decide (n.nodes=gO (cQ [] n.rules).1.2 n.facts):=by rw[bp,g2,bJ]
    rw[k1,k2];by_cases h3:0<=n.bw
    ·rw[bU h3,bA (by omega)];cases decide (n.av=jE (cQ [] n.rules).1.1 n.facts)<;>cases decide (n.nodes=gO (cQ [] n.rules).1.2 n.facts)<;>rfl
    ·rw[bA h3,bU (by omega)];rfl
   ·have hfalse:Qm n ⟨n.rules,(cQ [⟨[],[]⟩] n.rules).2,(cQ [⟨[],[]⟩] n.rules).1.1,(cQ [⟨[],[]⟩] n.rules).1.2,[],0⟩=false:=by
     cases hq:Qm n ⟨n.rules,(cQ [⟨[],[]⟩] n.rules).2,(cQ [⟨[],[]⟩] n.rules).1.1,(cQ [⟨[],[]⟩] n.rules).1.2,[],0⟩with
     |true=>exact absurd hq hform
     |false=>rfl
    rw[hfalse];have hm:S3 n (DE n.rules n.facts 0)=false:=by
     cases hq:S3 n (DE n.rules n.facts 0)with
     |false=>rfl
     |true=>
      exfalso;rw[hmem]at hq;simp only[aY,bJ]at hq;obtain⟨q1,q2,q3⟩:=hq;apply hform;unfold Qm;simp only[aY,bJ];have r1:n.av.map aP.shape=(cQ [⟨[],[]⟩] n.rules).1.1.map aP.shape:=by rw[hA,q2];unfold jE;rw[rH];rfl
      have r2:n.nodes.map xT=(cQ [⟨[],[]⟩] n.rules).1.2.map xT:=by
       rw[hroot,q3];have:∀(ns l:ay) (i:Nat),(qX ns n.facts l i).map xT=l.map xT:=by
        intro ns l
        induction l with
        |nil=>intro i;rfl
        |cons x l ih=>intro i;rw[qX,bG,ih];rfl
       exact this _ _ _
      exact⟨r1,r2,by rw[hE];exact q1⟩
    rw[hm,yg];rfl
theorem Z0{fs:aL}(hf:FS fs):∀(cs:aq) (l:ah) (n:Nat),(∀c∈cs,c.wt<=1048576)->(∀t∈l,TK n t)->∀t∈cs.foldl (x8 fs) l,TK (n+cs.length) t
 | [],l,n,_,hl=>hl
 |c::cs,l,n,hc,hl=>by
  have:=Z0 hf cs (x8 fs l c) (n+1) (fun x hx=>hc x (by simp[hx])) (Tr hl (hc c (by simp)) hf);rw[aK,show n+(cs.length+1)=n+1+cs.length from by omega];exact this
theorem zg{α:Type}{m:α->Nat}{B:Nat}:∀(l:List α),(∀x∈l,m x<=B)->iL m l<=B*l.length
 | [],_=>by simp[iL]
 |x::l,h=>by
  have h1:=zg l fun y hy=>h y (by simp[hy])
  have h2:=h x (by simp);rw[vC,aK,Nat.mul_add];omega
theorem Sf{n:Nat}(l:aL)(hl:l.length<=n)(hf:∀f∈l,f.wt<=1048576):iL aE.iZ l<=6291462*n:=by
 have:=zg (m:=aE.iZ) (B:=6291462) l fun f hf'=>by have:=aE.nr f;have:=hf f hf';omega
 exact cU this (eP _ hl)
theorem a03(l:aT)(h:PB l):iL aS.iZ l<=2*1048576:=by
 have:=zg (m:=aS.iZ) (B:=2) l fun f _=>by simp[aS.iZ]
 exact cU this (eP _ h.1)
theorem TK.iZ{t:aI}(h:TK 4 t):t.iZ<=100000000:=by
 have h1:=Sf (n:=4) t.facts h.1 h.2.1;have h2:=a03 t.bind h.2.2;unfold aI.iZ;omega
theorem SU(ns:ay)(fs:aL):∀(l:ay) (i j:Nat),(qX ns fs l i)[j]?=(l[j]?).map fun x=>⟨x.parent,x.cond,x.cP,xU (eg ns (dD (i+j))) fs⟩
 | [],_,_=>by simp[qX]
 |x::l,i,0=>by simp[qX]
 |x::l,i,j+1=>by
  rw[qX,ew,ew,SU ns fs l (i+1) j,show i+1+j=i+(j+1)by omega]
def findF(f:aE):aL->Nat->Int
 | [],_=> -1
 |x::xs,i=>if x=f then(i:Int)else findF f xs (i+1)
theorem Oh(f:aE):∀(l:aL) (i:Nat),decide (findF f l i>=0)=decide (f∈l)
 | [],i=>by simp[findF]
 |x::xs,i=>by
  rw[findF];by_cases h:x=f
  ·rw[bS h];subst h;simp
  ·rw[bH h,Oh f xs (i+1)];have:f≠x:=fun e=>h e.symm
   simp[this]
theorem a8l(l:aL)(f:aE):uj l f=some (findF f l 0):=by
 unfold uj;have:∀(r:aL) (i:Nat),kW l f (some (-1)) r i=some (findF f r i):=by
  intro r
  induction r with
  |nil=>intro i;rfl
  |cons x xs ih=>
   intro i;rw[kW,a3M,aA,ih,findF];by_cases h:x=f
   ·rw[bU h,bS h,aV]
   ·rw[bA h,bH h,aZ]
 exact this l 0
theorem a88(l:aL)(f:aE):uR l f=some (findF f l 0):=by
 unfold uR;have:∀(r:aL) (i:Nat),kI l f (some (-1)) r i=some (findF f r i):=by
  intro r
  induction r with
  |nil=>intro i;rfl
  |cons x xs ih=>
   intro i;rw[kI,a2I,aA,ih,findF];by_cases h:x=f
   ·rw[bU h,bS h,aV]
   ·rw[bA h,bH h,aZ]
 exact this l 0
theorem SM{a b:Bytes}(h:yd a b>0):yd b a<0:=by
 unfold yd at h⊢;by_cases h1:Op.bytesLess a b=true
 ·rw[bS h1]at h;omega
 ·rw[bH h1]at h;by_cases h2:a=b
  ·rw[bS h2]at h;omega
  ·have h3:Op.bytesLess b a=true:=by
    cases hb:Op.bytesLess b a with
    |true=>rfl
    |false=>exact absurd (Ki (by simpa using h1) hb) h2
   rw[bS h3];omega
theorem SO{a b:Bytes}(h:yd a b=0):a=b:=jX fun hne=>YM hne h
theorem QX{a b:Bytes}(h:yd a b<0):yd b a>0:=by
 unfold yd at h⊢;by_cases h1:Op.bytesLess a b=true
 ·have h3:=Mc h1;have h4:¬(Op.bytesLess b a=true):=by rw[h3];simp
  have h5:¬b=a:=fun e=>by subst e;rw[yR]at h1;cases h1
  rw[bH h4,bH h5];omega
 ·rw[bH h1]at h;by_cases h2:a=b
  ·rw[bS h2]at h;omega
  ·rw[bH h2]at h;omega
theorem SJ(a b:Bytes):(DW a b>0->DW b a<0)/\(DW a b=0->a=b)/\(DW a b<0->DW b a>0):=by
 have num:∀ {s:Bytes} {n:Nat},AP s=some n->Lib.decDigits n=s:=by
  intro s n h;unfold AP at h;split at h
  ·split at h
   ·split at h
    ·rename_i h2;cases h;exact h2
    ·cases h
   ·cases h
  ·cases h
 unfold DW;cases ha:AP a with
 |none=>
  cases hb:AP b with
  |none=>exact⟨SM,SO,QX⟩
  |some y=>simp
 |some x=>
  cases hb:AP b with
  |none=>simp
  |some y=>
   simp only[Kj];refine⟨fun h=>?_,fun h=>?_,fun h=>?_⟩
   ·split at h
    ·omega
    ·split at h
     ·rw[bS (by omega)];omega
     ·omega
   ·split at h
    ·omega
    ·split at h
     ·omega
     ·have:x=y:=by omega
      rw[<-num ha,<-num hb,this]
   ·split at h
    ·rw[bH (by omega),bS (by omega)];omega
    ·split at h<;>omega
theorem Qc{α:Type}{g:α->α->Int}(hg:∀a b,(g a b>0->g b a<0)/\(g a b=0->a=b)/\(g a b<0->g b a>0)):∀(a b:List α),
 (∀z,wA g a b=some z->z≠0/\∃y,wA g b a=some y/\(z>0->y<0)/\(z<0->y>0))/\(wA g a b=none->wA g b a=none/\(a.length=b.length->a=b))
 | [],[]=>⟨fun z h=>(by simp[wA]at h),fun _=>⟨rfl,fun _=>rfl⟩⟩
 | [],y::ys=>⟨fun z h=>(by simp[wA]at h),fun _=>⟨by simp[wA],fun h=>by simp at h⟩⟩
 |x::xs,[]=>⟨fun z h=>(by simp[wA]at h),fun _=>⟨by simp[wA],fun h=>by simp at h⟩⟩
 |x::xs,y::ys=>by
  obtain⟨i1,i2⟩:=Qc hg xs ys;obtain⟨g1,g2,g3⟩:=hg x y;by_cases h0:g x y=0
  ·have e:=g2 h0;subst e;simp only[wA,h0,ne_eq,not_true_eq_false,DP];exact⟨i1,fun h=>⟨(i2 h).1,fun hl=>by rw[(i2 h).2 (by simpa using hl)]⟩⟩
  ·have h1:g y x≠0:=by
    intro e;by_cases hp:g x y>0
    ·have:=g1 hp;omega
    ·have:=g3 (by omega);omega
   simp only[wA,ne_eq,h0,h1,not_false_eq_true,sN];refine⟨fun z h=>?_,fun h=>by cases h⟩;cases h;exact⟨h0,_,rfl,g1,g3⟩
theorem SL{α:Type}{g:α->α->Int}(hg:∀a b,(g a b>0->g b a<0)/\(g a b=0->a=b)/\(g a b<0->g b a>0))(a b:List α):(cmpL g a b>0->cmpL g b a<0)/\(cmpL g a b=0->a=b)/\(cmpL g a b<0->cmpL g b a>0):=by
 obtain⟨h1,h2⟩:=Qc hg a b;unfold cmpL;cases hd:wA g a b with
 |some z=>
  obtain⟨hz,y,hy,p,q⟩:=h1 z hd;rw[hy];exact⟨p,fun e=>absurd e hz,q⟩
 |none=>
  obtain⟨h3,h4⟩:=h2 hd;rw[h3];simp only[Kj];refine⟨fun h=>?_,fun h=>?_,fun h=>?_⟩
  ·split at h
   ·omega
   ·split at h
    ·rw[bS (by omega)];omega
    ·omega
  ·split at h
   ·omega
   ·split at h
    ·omega
    ·exact h4 (by omega)
  ·split at h
   ·rw[bH (by omega),bS (by omega)];omega
   ·split at h<;>omega
theorem Bb(a b:aE):(pg a b>0->pg b a<0)/\(pg a b=0->a=b)/\(pg a b<0->pg b a>0):=by
 obtain⟨h1,h2,h3⟩:=SL SJ a.args b.args;unfold pg;by_cases hr:a.rel=b.rel
 ·rw[bH (by simpa using hr),bH (by simpa using hr.symm)];refine⟨h1,fun h=>?_,h3⟩;cases a;cases b;simp only at hr h2 h;rw[hr,h2 h]
 ·have hr2:b.rel≠a.rel:=fun e=>hr e.symm
  rw[bS hr,bS hr2];exact⟨SM,fun h=>absurd (SO h) hr,QX⟩
def Cc(f:aE):aL->aL
 | []=>[f]
 |x::xs=>if pg x f>0 then f::x::xs else x::Cc f xs
theorem a2O(f:aE):∀(l:aL) (x:aE),x∈Cc f l↔x=f\/x∈l
 | [],x=>by simp[Cc]
 |y::ys,x=>by
  rw[Cc];split
  ·simp
  ·simp only[bM,a2O f ys x];constructor
   ·rintro(h|h|h)<;>simp[h]
   ·rintro(h|h|h)<;>simp[h]
theorem VN(f:aE):∀(l:aL),(Cc f l).length=l.length+1
 | []=>rfl
 |y::ys=>by rw[Cc];split<;>simp[VN f ys]
theorem SG{f:aE}(hf:u7 f=true):∀(l:aL) (p:Option aE),chainB p l=true->f∉l->(∀q,p=some q->pg q f<0)->chainB p (Cc f l)=true
 | [],p,_,_,hp=>by
  cases p with
  |none=>simp[Cc,chainB,hf]
  |some q=>simp[Cc,chainB,hf,hp q rfl]
 |x::xs,p,h,hn,hp=>by
  simp only[bM,Ke]at hn;have hx:chainB (some x) xs=true/\u7 x=true/\(∀q,p=some q->pg q x<0):=by
   cases p with
   |none=>simp[chainB]at h;exact⟨h.2,h.1,by simp⟩
   |some q=>
    simp only[chainB,aY,bJ]at h;exact⟨by first|exact h.2.2|exact h.2,by first|exact h.1.1|exact h.1,fun q' e=>by cases e;first|exact h.1.2|exact h.2.1⟩
  rw[Cc];split
  ·rename_i hgt;have h1:=(Bb x f).1 hgt;cases p with
   |none=>simp[chainB,hf,hx.2.1,h1,hx.1]
   |some q=>simp[chainB,hf,hx.2.1,h1,hx.1,hp q rfl]
  ·rename_i hle;have hlt:pg x f<0:=by
    have:pg x f≠0:=fun e=>hn.1 ((Bb x f).2.1 e).symm
    omega
   have ih:=SG hf xs (some x) hx.1 hn.2 (fun q e=>by cases e;exact hlt);cases p with
   |none=>simp[chainB,hx.2.1,ih]
   |some q=>simp[chainB,hx.2.1,ih,hx.2.2 q rfl]
theorem a4X{f:aE}{l:aL}(hf:u7 f=true)(hl:p8 l=true)(hn:f∉l)(h24:l.length≠24):p8 (Cc f l)=true:=by
 unfold p8 at hl⊢;simp only[aY,bJ]at hl⊢;exact⟨SG hf l none hl.1 hn (by simp),by rw[VN];omega⟩
theorem aBD(a:aL)(f:aE)(K:Bool->aL->Option aL)(hf:f.args.length<=1099511627776):∀(rest:aL) (i:Nat) (v:Bool) (w:aL),(∀x∈rest,x.args.length<=1099511627776)->w.length+2*rest.length<=1048576->f∉rest->
 (v=true->eH a f K rest i v w=K true (w++rest))/\
 (v=false->(eH a f K rest i v w=K true (w++Cc f rest))\/(eH a f K rest i v w=K false (w++rest)/\Cc f rest=rest++[f])):=by
 intro rest
 induction rest with
 |nil=>intro i v w _ _ _;exact⟨fun h=>by subst h;simp[eH],fun h=>by subst h;exact .inr ⟨by simp[eH],rfl⟩⟩
 |cons x xs ih=>
  intro i v w hs hl hn;simp only[aK]at hl;simp only[bM,Ke]at hn;have hx:=hs x (by simp);have hs':∀y∈xs,y.args.length<=1099511627776:=fun y hy=>hs y (by simp[hy])
  have cx:=P3 x hx;have cf:=P3 f hf;have nx:=fun w':aL=>fun h:w'.length<1099511627776=>mi (w:=w') (c:=aE.c) (y:=[D.str x.rel,D.sl (x.args.map tx)]) (b:=40) h (by decide)
  have nf:=fun w':aL=>fun h:w'.length<1099511627776=>mi (w:=w') (c:=aE.c) (y:=[D.str f.rel,D.sl (f.args.map tx)]) (b:=40) h (by decide)
  constructor
  ·intro h;subst h;rw[eH,bP,aZ,cx,aA,nx w (by omega),aV,(ih (i+1) true (w++[x]) hs' (by simp;omega) hn.2).1 rfl];simp
  ·intro h;subst h;rw[eH,cR,aV,a35,aA];by_cases hgt:pg x f>0
   ·left
    have e2:room (((w.map aE.c)++[[D.str f.rel,D.sl (f.args.map tx)]]).length+[[D.str x.rel,D.sl (x.args.map tx)]].length) 40=true:=by
     have:=nx (w++[f]) (by simp;omega);rw[bN]at this;exact this
    rw[bU (by omega:pg x f>=0),aV,aA,bU hgt,aV,cf,aA,nf w (by omega),aV,cx,aA,e2,aV];rw[(ih (i+1) true (w++[f]++[x]) hs' (by simp;omega) hn.2).1 rfl,Cc,bS hgt];simp
   ·have hlt:¬pg x f>=0:=by
     have:pg x f≠0:=fun e=>hn.1 ((Bb x f).2.1 e).symm
     omega
    rw[bA hlt,aZ,cx,aA,nx w (by omega),aV];rw[Cc,bH hgt];rcases(ih (i+1) false (w++[x]) hs' (by simp;omega) hn.2).2 rfl with q|⟨q1,q2⟩
    ·left;rw[q];simp
    ·right;rw[q1,q2];simp
theorem aBC(l:aL)(f:aE)(hf:f.args.length<=1099511627776)(hl:∀x∈l,x.args.length<=1099511627776)(hn:l.length<=1000)(hm:f∉l):z8 l f=some (Cc f l):=by
 unfold z8;rcases(aBD l f _ hf l 0 false [] hl (by simp;omega) hm).2 rfl with q|⟨q1,q2⟩
 ·rw[q];rfl
 ·rw[q1,q2];show(bif !false then _ else _)=_;rw[cR,aV,P3 f hf,aA,cI,mi (w:=l) (c:=aE.c) (y:=[D.str f.rel,D.sl (f.args.map tx)]) (by omega) (by decide),aV]
def Pe(l:aL)(f:aE):aL×Bool:=if p8 l=true/\u7 f=true/\f∉l/\l.length≠24 then(Cc f l,true)else(l,false)
theorem aB1(l:aL)(f:aE)(hl:kA aE.wt l<=1048576)(hf:f.wt<=1048576):wg l f=some (Pe l f):=by
 have hm:∀x∈l,x.args.length<=1048576:=fun x hx=>by have:=aE.dh (n:=1048576) (p:=x) (by have:=ic (w:=aE.wt) hx;omega);omega
 have hlen:=gy aE.wt l;have cp:=E8 l (by omega) hm;unfold wg Pe;rw[a6r l hl,aA];cases h1:p8 l with
 |false=>rw[cR,aV,cp,aA,bH (by simp)]
 |true=>
  rw[bP,aZ,a3B f hf,aA];cases h2:u7 f with
  |false=>rw[cR,aV,cp,aA,bH (by simp)]
  |true=>
   rw[bP,aZ,a8l,aA,Oh];by_cases h3:f∈l
   ·rw[bU h3,aV,cp,aA,bH (by simp[h3])]
   ·rw[bA h3,aZ,aa];by_cases h4:l.length=24
    ·have e:(((l.length:Nat):Int)==(24:Int))=true:=by simp[h4]
     rw[e,aV,cp,aA,bH (by simp[h4])]
    ·have e:(((l.length:Nat):Int)==(24:Int))=false:=by simp;omega
     rw[e,aZ,aBC l f (by have:=aE.dh hf;omega) (fun x hx=>by have:=hm x hx;omega) (by have:=vG h1;omega) h3,aA,bS ⟨rfl,rfl,h3,h4⟩]
theorem QY{a b c:Bytes}(h1:yd a b<0)(h2:yd b c<0):yd a c<0:=by
 have lt:∀ {x y:Bytes},yd x y<0->Op.bytesLess x y=true:=by
  intro x y h;unfold yd at h;split at h
  ·assumption
  ·split at h<;>omega
 have:=DT (lt h1) (lt h2);unfold yd;rw[bS this];omega
theorem a4g{x y:Int}:Kj x y<0↔x<y:=by
 unfold Kj;split
 ·omega
 ·split<;>omega
theorem Wg{a b c:Bytes}(h1:DW a b<0)(h2:DW b c<0):DW a c<0:=by
 unfold DW at*;cases ha:AP a<;>cases hb:AP b<;>cases hc:AP c<;>simp only[ha,hb,hc]at h1 h2⊢ <;>first|omega|exact QY h1 h2| (rw[a4g]at*;omega)
theorem a4f{α:Type}(g:α->α->Int):cmpL g [] []=0:=rfl
theorem a4e{α:Type}(g:α->α->Int)(y:α)(ys:List α):cmpL g [] (y::ys)= -1:=by
 unfold cmpL wA Kj;simp<;>omega
theorem YL{α:Type}(g:α->α->Int)(x:α)(xs:List α):cmpL g (x::xs) []=1:=by
 unfold cmpL wA Kj;simp<;>omega
theorem YK{α:Type}(g:α->α->Int)(x y:α)(xs ys:List α):cmpL g (x::xs) (y::ys)=if g x y≠0 then g x y else cmpL g xs ys:=by
 unfold cmpL;rw[wA];by_cases h:g x y≠0
 ·rw[bS h,bS h]
 ·rw[bH h,bH h,aK,aK];cases wA g xs ys with
  |some z=>rfl
  |none=>
   show Kj _ _=Kj _ _;unfold Kj
   congr 1
   ·rw[zb];omega
   ·congr 1
    rw[zb];omega
theorem QW{α:Type}{g:α->α->Int}(h0:∀a b,g a b=0->a=b)(ht:∀a b c,g a b<0->g b c<0->g a c<0):∀(a b c:List α),cmpL g a b<0->cmpL g b c<0->cmpL g a c<0
 | [],[],c,h1,_=>by rw[a4f]at h1;omega
 |_::_,[],c,h1,_=>by rw[YL]at h1;omega
 |_,y::ys,[],_,h2=>by rw[YL]at h2;omega
 | [],y::ys,z::zs,_,_=>by rw[a4e];omega
 |x::xs,y::ys,z::zs,h1,h2=>by
  rw[YK]at*;by_cases e1:g x y=0
  ·have:=h0 _ _ e1;subst this;rw[bH (by omega)]at h1;by_cases e2:g x z=0
   ·rw[bH (by omega)]at h2⊢;exact QW h0 ht xs ys zs h1 h2
   ·rw[bS e2]at h2⊢;exact h2
  ·rw[bS e1]at h1;by_cases e2:g y z=0
   ·have:=h0 _ _ e2;subst this;rw[bS e1];exact h1
   ·rw[bS e2]at h2;have:=ht x y z h1 h2;rw[bS (by omega)];exact this
theorem Wh{a b c:aE}(h1:pg a b<0)(h2:pg b c<0):pg a c<0:=by
 unfold pg at*;by_cases e1:a.rel=b.rel
 ·by_cases e2:b.rel=c.rel
  ·rw[bH (by simpa using e1)]at h1;rw[bH (by simpa using e2)]at h2;rw[bH (by simpa using e1.trans e2)];exact QW (fun a b=>(SJ a b).2.1) (fun _ _ _=>Wg) _ _ _ h1 h2
  ·rw[bS e2]at h2;rw[e1,bS e2];exact h2
 ·rw[bS e1]at h1;by_cases e2:b.rel=c.rel
  ·rw[<-e2,bS e1];exact h1
  ·rw[bS e2]at h2;have:=QY h1 h2;have hne:a.rel≠c.rel:=fun e=>by rw[e,SN]at this;omega
   rw[bS hne];exact this
theorem SK(a:aE):¬pg a a<0:=by
 intro h;have:=(Bb a a).2.2 h;omega
theorem ZQ(a:aE):pg a a=0:=by
 have h1:=SK a;have h2:=(Bb a a).1;omega
theorem IT{a b:aL}:cmpL pg a b=0↔a=b:=by
 constructor
 ·exact(SL Bb a b).2.1
 ·rintro rfl
  induction a with
  |nil=>rfl
  |cons x xs ih=>rw[YK,bH (by simp[ZQ]),ih]
theorem GR{p:Option aE}{x:aE}{xs:aL}(h:chainB p (x::xs)=true):u7 x=true/\(∀q,p=some q->pg q x<0)/\chainB (some x) xs=true:=by
 cases p with
 |none=>simp[chainB]at h;exact⟨h.1,by simp,h.2⟩
 |some q=>
  simp only[chainB,aY,bJ]at h;exact⟨h.1.1,fun q' e=>by cases e;exact h.1.2,h.2⟩
theorem SE:∀ {l:aL} {p:aE},chainB (some p) l=true->∀x∈l,pg p x<0
 | [],_,_,_,h=>by cases h
 |y::ys,p,h,x,hx=>by
  obtain⟨_,h2,h3⟩:=GR h;have hp:=h2 p rfl;rcases bM.1 hx with rfl|hx
  ·exact hp
  ·exact Wh hp (SE h3 x hx)
theorem Md:∀ {l:aL} {p:Option aE},chainB p l=true->l.Nodup
 | [],_,_=>List.nodup_nil
 |x::xs,p,h=>by
  obtain⟨_,_,h3⟩:=GR h;rw[fD];exact⟨fun hx=>SK x (SE h3 x hx),Md h3⟩
theorem Um{l:aL}(h:p8 l=true):l.Nodup:=by
 unfold p8 at h;simp only[aY]at h;exact Md h.1
theorem PC:∀ {l:aL} {p:Option aE},chainB p l=true->∀x∈l,u7 x=true
 | [],_,_,_,h=>by cases h
 |y::ys,p,h,x,hx=>by
  obtain⟨h1,_,h3⟩:=GR h;rcases bM.1 hx with rfl|hx
  ·exact h1
  ·exact PC h3 x hx
theorem TE{l:aL}{f:aE}(h:(Pe l f).2=true):p8 (Pe l f).1=true:=by
 unfold Pe at h⊢;split at h
 ·rename_i hc;rw[bS hc];exact a4X hc.2.1 hc.1 hc.2.2.1 hc.2.2.2
 ·cases h
theorem a0K{p:aE}(h:zE p=true)(hl:p.args.length<=5):Cov (vu p) p:=by
 have hT:∀t∈p.args,qe t=true:=Yz h;refine⟨a0L h hl,h,rfl,unB (p.args.foldl jZ []),?_,fun y hy=>?_⟩
 ·rw[MI,rH];have:p.args.map (unB (p.args.foldl jZ [])∘FJ (p.args.foldl jZ []))=p.args.map id:=by
   apply mJ;intro t ht;exact aBO hl ht (hT t ht)
  rw[this,List.map_id]
 ·refine P6 fun q hq e=>?_
  obtain⟨i,hi,_,hpv,_⟩:=P8 (F7 p.args YB.nil) hq;have h5:=Cm p.args;have:=BY (Tq i (by omega));rw[<-hpv,e,hy]at this;cases this
theorem Sd{p f:aE}{b:aT}(hl:p.args.length<=5)(hm:(vB p f b).2=true):(vB (vu p) f []).2=true:=by
 unfold vB at hm;cases hc:(zE p&&(u7 f&&(p9 b&&(p.rel==f.rel&&decide (p.args.length=f.args.length)))))with
 |false=>rw[hc]at hm;cases hm
 |true=>
  rw[hc,aV]at hm;simp only[aY,bJ,cj]at hc;obtain⟨c1,c2,c3,c4,c5⟩:=hc;obtain⟨h,_,h2,h3⟩:=CF p.args f.args b c5 (fun x hx=>(SH (Ur c3) x hx).1) hm;exact a4i (a0K c1 hl) (RA.2 ⟨c1,c2,c4,h,h2,h3⟩)
theorem Qh{c:aQ}(hl:c.pat.args.length<=5)(t:aI):∀fs:aL,(uM (vu c.pat) [] fs).flatMap (ext1 c t)=fs.flatMap (ext1 c t)
 | []=>rfl
 |f::fs=>by
  have ih:=Qh hl t fs;unfold uM at*;cases hm:(vB (vu c.pat) f []).2 with
  |true=>rw[sW (by rw[hm]),dO,dO,ih]
  |false=>
   have h0:ext1 c t f=[]:=by
    unfold ext1;cases h2:(vB c.pat f t.bind).2 with
    |false=>rfl
    |true=>rw[Sd hl h2]at hm;cases hm
   rw[sV (by simp[hm]),dO,h0,ih];rfl
theorem Zi{p:aE}{b:aT}(hl:p.args.length<=5)(fs:aL):uM p b (uM (vu p) [] fs)=uM p b fs:=by
 unfold uM;rw[yC];apply yh;intro f _;cases h:(vB p f b).2 with
 |false=>rfl
 |true=>rw[Sd hl h];rfl
theorem a08{c:aQ}(hl:c.pat.args.length<=5)(fs:aL)(A:ah):x8 (uM (vu c.pat) [] fs) A c=x8 fs A c:=by
 unfold x8
 congr 1
 funext t
 unfold MD Om;rw[Qh hl,Zi hl]
theorem a2m{c:aQ}(h1:c.kind≠1)(h2:c.kind≠2)(fs:aL)(A:ah):x8 [] A c=x8 fs A c:=by
 unfold x8
 congr 1
 funext t
 unfold MD Om;rw[bA h1,bA h2];rfl
def KD(A:ah):Prop:=A.Pairwise fun t u=>t.facts≠u.facts
theorem M5{c:aQ}{t u:aI}{f:aE}(h:u∈ext1 c t f):u.facts=t.facts++[f]:=by
 unfold ext1 at h;cases hm:(vB c.pat f t.bind).2 with
 |false=>rw[hm]at h;cases h
 |true=>rw[hm,aV]at h;rw[dU.1 h]
theorem RG{c:aQ}{fs:aL}{t u:aI}(h:u∈MD c fs t):(c.kind=1/\∃f∈fs,u.facts=t.facts++[f])\/(c.kind≠1/\u=t):=by
 unfold MD at h;by_cases hk:c.kind=1
 ·rw[bU hk,aV]at h;obtain⟨f,hf,hu⟩:=cE.1 h;exact .inl ⟨hk,f,hf,M5 hu⟩
 ·rw[bA hk,aZ]at h;cases hh:Om c t.bind fs with
  |false=>rw[hh]at h;cases h
  |true=>rw[hh,aV]at h;exact .inr ⟨hk,dU.1 h⟩
theorem a5W{c:aQ}{fs:aL}{A:ah}(hf:fs.Nodup)(hA:KD A):KD (x8 fs A c):=by
 unfold KD x8;rw[FO];refine⟨fun t _=>?_,?_⟩
 ·unfold MD;cases decide (c.kind=1)with
  |true=>
   rw[aV,FO];refine⟨fun f _=>?_,?_⟩
   ·unfold ext1;cases(vB c.pat f t.bind).2<;>simp
   ·exact List.Pairwise.imp (fun {f g} hne x hx y hy e=>by
     rw[M5 hx,M5 hy]at e;exact hne (by simpa using e)) hf
  |false=>cases Om c t.bind fs<;>simp
 ·exact List.Pairwise.imp (fun {t u} hne x hx y hy e=>by
   rcases RG hx with⟨k,f,_,e1⟩|⟨k,e1⟩<;>rcases RG hy with⟨k',g,_,e2⟩|⟨k',e2⟩
   ·rw[e1,e2]at e;exact hne (List.append_inj' e rfl).1
   ·exact k' k
   ·exact k k'
   ·rw[e1,e2]at e;exact hne e) hA
theorem KD.one(t:aI):KD [t]:=List.pairwise_singleton _ _
theorem YT{fs:aL}(hf:fs.Nodup):∀(cs:aq) {A:ah},KD A->KD (cs.foldl (x8 fs) A)
 | [],_,h=>h
 |c::cs,_,h=>YT hf cs (a5W hf h)
theorem a5u{cs:aq}{fs:aL}(hf:fs.Nodup):KD (xU cs fs):=YT hf cs (KD.one _)
def Yt(t:aI)(l:ah):ah:=l.filter fun u=>decide (t.facts=u.facts)
def Rx(l:ah)(t:aI):Bool:=l.any fun u=>decide (u.facts=t.facts)
def Nk(now old:ah):Nat:=(now.filter fun t=>Rx old t).length
theorem Sn{t:aI}:∀ {l:ah},KD l->(Yt t l).length=(bif Rx l t then 1 else 0)
 | [],_=>rfl
 |u::l,h=>by
  unfold KD at h;rw[kG]at h;have ih:=Sn (t:=t) (l:=l) h.2;unfold Yt Rx at*;by_cases e:t.facts=u.facts
  ·rw[sW (by simp[e]),vF,bU e.symm,Bool.true_or,aV,aK,ih];have:(l.any fun u=>decide (u.facts=t.facts))=false:=by
    rw[Cf];intro w hw;have:=h.1 w hw;rw[<-e]at this;simp only[bJ];exact fun e2=>this e2.symm
   rw[this];rfl
  ·rw[sV (by simp[e]),vF,bA (fun h=>e h.symm),pR,ih]
def PX(al:b7)(x:Node):Prop:=(x.cond.kind=1\/x.cond.kind=2->∃a:Nat,x.cP=dD a/\∃y,al[a]?=some y/\y.shape=vu x.cond.pat)/\(¬(x.cond.kind=1\/x.cond.kind=2)->x.cP= -1)
theorem PX.mono{al:b7}{x:Node}(h:PX al x)(m:b7):PX (al++m) x:=⟨fun hk=>by
 obtain⟨a,h1,y,h2,h3⟩:=h.1 hk;exact⟨a,h1,y,by rw[b9 (aH.1 h2).1];exact h2,h3⟩,h.2⟩
theorem Uk{sh:aE}:∀ {l:b7} {i j:Nat},ZN sh l i=some j->∃x,l[j-i]?=some x/\i<=j/\x.shape=sh
 |x::l,i,j,h=>by
  unfold ZN at h;split at h
  ·rename_i hc;cases h;exact⟨x,by simp,bR _,hc⟩
  ·obtain⟨y,h1,h2,h3⟩:=Uk h;refine⟨y,?_,by omega,h3⟩;rw[show j-i=(j-(i+1))+1 by omega];exact h1
theorem a7N(al:b7)(sh:aE):(∃m,(YD al sh).1=al++m)/\∃a:Nat,(YD al sh).2=dD a/\∃y,(YD al sh).1[a]?=some y/\y.shape=sh:=by
 unfold YD;cases h:ZN sh al 0 with
 |some i=>
  obtain⟨x,h1,_,h3⟩:=Uk h;exact⟨⟨[],by simp⟩,i,rfl,x,by simpa using h1,h3⟩
 |none=>exact⟨⟨_,rfl⟩,al.length,rfl,⟨sh,[]⟩,by simp,rfl⟩
theorem a7Q(al:b7)(c:aQ)(p:Int)(tk:ah):(∃m,(SD al c).1=al++m)/\PX (SD al c).1 ⟨p,c,(SD al c).2,tk⟩:=by
 unfold SD;by_cases hk:c.kind=1\/c.kind=2
 ·rw[bS hk];obtain⟨h1,h2⟩:=a7N al (vu c.pat);exact⟨h1,fun _=>h2,fun h=>absurd hk h⟩
 ·rw[bH hk];exact⟨⟨[],by simp⟩,fun h=>absurd h hk,fun _=>rfl⟩
theorem a7R{al:b7}{ns:ay}{p:Int}{c:aQ}(h:∀x∈ns,PX al x):∀x∈(OD al ns p c).1.2,PX (OD al ns p c).1.1 x:=by
 unfold OD;cases Rs p c ns 0 with
 |some i=>exact h
 |none=>
  obtain⟨⟨m,hm⟩,h2⟩:=a7Q al c p [];intro x hx;rcases au.1 hx with hx|hx
  ·show PX (SD al c).1 x;rw[hm];exact(h x hx).mono m
  ·rw[dU.1 hx];exact h2
theorem a3Y:∀(cs:aq) (s:(b7×ay)×Int),(∀x∈s.1.2,PX s.1.1 x)->∀x∈(cs.foldl IY s).1.2,PX (cs.foldl IY s).1.1 x
 | [],_,h=>h
 |c::cs,s,h=>a3Y cs (IY s c) (a7R h)
theorem a3Z:∀(l:ar) (z:(b7×ay)×bI),(∀x∈z.1.2,PX z.1.1 x)->∀x∈(l.foldl KY z).1.2,PX (l.foldl KY z).1.1 x
 | [],_,h=>h
 |r::l,z,h=>a3Z l (KY z r) (a3Y (gw r) (z.1,0) h)
theorem a5r(tk:ah)(rs:ar):∀x∈(cQ tk rs).1.2,PX (cQ tk rs).1.1 x:=
 a3Z rs (([],[root tk]),[]) (fun x hx=>by
  rw[dU.1 hx];exact⟨fun h=>by simp[root]at h,fun _=>rfl⟩)
theorem a3e{tk:ah}{rs:ar}{i:Nat}{x:Node}(h1:1<=i)(hx:(cQ tk rs).1.2[i]?=some x):∃r∈rs,x.cond∈gw r:=by
 have hp:=(ya tk rs).1;obtain⟨p,hpp,hpi⟩:=hp.below i x h1 hx;obtain⟨r,hr,j,j1,j2,e⟩:=hp.path i h1 (aH.1 hx).1;rw[yQ hx h1 hpp hpi]at e;exact⟨r,hr,cH (by rw[<-e];simp:x.cond∈(gw r).take j)⟩
theorem a3k{ns:ay}{i p:Nat}{x:Node}(h1:1<=i)(hx:ns[i]?=some x)(hp:x.parent=dD p)(hpi:p<i)(fs:aL):xU (eg ns (dD i)) fs=x8 fs (xU (eg ns (dD p)) fs) x.cond:=by
 rw[yQ hx h1 hp hpi];unfold xU;rw[List.foldl_append];rfl
theorem aAW(a:aL)(f:aE)(K:Bool->aL->Option aL)(hf:f.args.length<=1099511627776):∀(rest:aL) (i:Nat) (v:Bool) (w:aL),(∀x∈rest,x.args.length<=1099511627776)->w.length+2*rest.length<=1048576->
 (v=true->dP a f K rest i v w=K true (w++rest))/\
 (v=false->(dP a f K rest i v w=K true (w++Cc f rest))\/(dP a f K rest i v w=K false (w++rest)/\Cc f rest=rest++[f])):=by
 intro rest
 induction rest with
 |nil=>intro i v w _ _;exact⟨fun h=>by subst h;simp[dP],fun h=>by subst h;exact .inr ⟨by simp[dP],rfl⟩⟩
 |cons x xs ih=>
  intro i v w hs hl;simp only[aK]at hl;have hx:=hs x (by simp);have hs':∀y∈xs,y.args.length<=1099511627776:=fun y hy=>hs y (by simp[hy])
  have cx:=Oq x hx;have cf:=Oq f hf;have nx:=fun w':aL=>fun h:w'.length<1099511627776=>mi (w:=w') (c:=aE.c) (y:=[D.str x.rel,D.sl (x.args.map tx)]) (b:=40) h (by decide)
  have nf:=fun w':aL=>fun h:w'.length<1099511627776=>mi (w:=w') (c:=aE.c) (y:=[D.str f.rel,D.sl (f.args.map tx)]) (b:=40) h (by decide)
  constructor
  ·intro h;subst h;rw[dP,bP,aZ,cx,aA,nx w (by omega),aV,(ih (i+1) true (w++[x]) hs' (by simp;omega)).1 rfl];simp
  ·intro h;subst h;rw[dP,cR,aV,a2A,aA];by_cases hgt:pg x f>0
   ·left
    have e2:room (((w.map aE.c)++[[D.str f.rel,D.sl (f.args.map tx)]]).length+[[D.str x.rel,D.sl (x.args.map tx)]].length) 40=true:=by
     have:=nx (w++[f]) (by simp;omega);rw[bN]at this;exact this
    rw[bU hgt,aV,cf,aA,nf w (by omega),aV,cx,aA,e2,aV];rw[(ih (i+1) true (w++[f]++[x]) hs' (by simp;omega)).1 rfl,Cc,bS hgt];simp
   ·rw[bA hgt,aZ,cx,aA,nx w (by omega),aV];rw[Cc,bH hgt];rcases(ih (i+1) false (w++[x]) hs' (by simp;omega)).2 rfl with q|⟨q1,q2⟩
    ·left;rw[q];simp
    ·right;rw[q1,q2];simp
theorem aAV(l:aL)(f:aE)(hf:f.args.length<=1099511627776)(hl:∀x∈l,x.args.length<=1099511627776)(hn:l.length<=1000):wO l f=some (Cc f l):=by
 unfold wO;rcases(aAW l f _ hf l 0 false [] hl (by simp;omega)).2 rfl with q|⟨q1,q2⟩
 ·rw[q];rfl
 ·rw[q1,q2];show(bif !false then _ else _)=_;rw[cR,aV,Oq f hf,aA,cI,mi (w:=l) (c:=aE.c) (y:=[D.str f.rel,D.sl (f.args.map tx)]) (by omega) (by decide),aV]
theorem aAK(l:aL)(f:aE)(hl:kA aE.wt l<=1048576)(hf:f.wt<=1048576):wI l f=some (Pe l f):=by
 have hm:∀x∈l,x.args.length<=1048576:=fun x hx=>by have:=aE.dh (n:=1048576) (p:=x) (by have:=ic (w:=aE.wt) hx;omega);omega
 have hlen:=gy aE.wt l;have cp:=Dz l (by omega) hm;unfold wI Pe;rw[a6L l hl,aA];cases h1:p8 l with
 |false=>rw[cR,aV,cp,aA,bH (by simp)]
 |true=>
  have h24:=vG h1;rw[bP,aZ,a2F f hf,aA];cases h2:u7 f with
  |false=>rw[cR,aV,cp,aA,bH (by simp)]
  |true=>
   rw[bP,aZ,a88,aA,Oh];by_cases h3:f∈l
   ·rw[bU h3,aV,cp,aA,bH (by simp[h3])]
   ·rw[bA h3,aZ,aa];by_cases h4:l.length=24
    ·rw[bU (by omega),aV,cp,aA,bH (by simp[h4])]
    ·rw[bA (by omega),aZ,aAV l f (by have:=aE.dh hf;omega) (fun x hx=>by have:=hm x hx;omega) (by omega),aA,bS ⟨rfl,rfl,h3,h4⟩]
structure zK(n:aF):Prop where
 rules:kA aN.wt n.rules<=1048576
 facts:kA aE.wt n.facts<=1048576
 ends:n.ends.length<=1048576
 av:n.av.length<=1048576
 cP:∀a∈n.av,a.shape.wt<=1048576/\FS a.facts
 nodes:n.nodes.length<=1048576
 node:∀x∈n.nodes,x.cond.wt<=1048576/\x.tokens.length<=1048576/\∀t∈x.tokens,TK 1048576 t
theorem FS.args{fs:aL}(h:FS fs):∀f∈fs,f.args.length<=1048576:=fun f hf=>aE.dh (h.2 f hf)
theorem zK.Cq{n:aF}(h:n.wt<=1048576):zK n:=by
 have h0:=h;unfold aF.wt at h0;have a1:=gy zw n.ends;have a2:=gy aP.wt n.av;have a3:=gy Node.wt n.nodes;refine⟨by omega,by omega,by omega,by omega,fun a ha=>?_,by omega,fun x hx=>?_⟩
 ·have h1:a.wt<=1048576:=by have:=ic (w:=aP.wt) ha;omega
  unfold aP.wt at h1;exact⟨by unfold aE.wt;omega,FS.Cq (by omega)⟩
 ·have h1:x.wt<=1048576:=by have:=ic (w:=Node.wt) hx;omega
  unfold Node.wt at h1;have h2:=gy aI.wt x.tokens;refine⟨by unfold aQ.wt;omega,by omega,fun t ht=>?_⟩;have h3:t.wt<=1048576:=by have:=ic (w:=aI.wt) ht;omega
  unfold aI.wt at h3;have h4:=gy aE.wt t.facts;have h5:=gy aS.wt t.bind;refine⟨by omega,fun f hf=>by have:=ic (w:=aE.wt) hf;omega,by omega,fun p hp=>?_⟩;have h6:p.wt<=1048576:=by have:=ic (w:=aS.wt) hp;omega
  unfold aS.wt tw at h6;omega
theorem a5e(l:ah)(hl:l.length<=1048576)(h:∀t∈l,TK 1048576 t):jt l=some l:=by
 unfold jt;rw[GF (c:=aI.c) (b:=48) (f:=sI) (g:=fun x=>x) (L:=jW l _) (k:=_) (by decide) (fun _ _=>rfl) (fun _ _ _ _=>rfl) _ _ _ (fun t ht=>a38 t (h t ht)) (by simp;omega)];simp
theorem a52(l:ah)(hl:l.length<=1048576)(h:∀t∈l,TK 1048576 t):lf l=some l:=by
 unfold lf;rw[GF (c:=aI.c) (b:=48) (f:=fun t:aI=>(cz t.facts).bind fun y=>(jP t.bind).bind fun z=>some (⟨y,z⟩:aI)) (g:=fun x=>x) (L:=iw l _) (k:=_) (by decide) (fun _ _=>rfl) (fun x xs i w=>by
  rw[iw];cases cz x.facts with
  |none=>rfl
  |some a=>cases jP x.bind<;>rfl) _ _ _ (fun t ht=>by
  have hk:=h t ht;rw[Dz t.facts hk.1 (fun f hf=>aE.dh (hk.2.1 f hf)),aA,XD t.bind (by have:=hk.2.2.1;omega)];rfl) (by simp;omega)]
 simp
theorem aBE(l:bI)(h:l.length<=1048576):xk l=some l:=by
 unfold xk;rw[KV (by simp;omega) (by decide),aV,cI]
theorem aAX(l:bI)(h:l.length<=1048576):uU l=some l:=by
 unfold uU;rw[KV (by simp;omega) (by decide),aV,cI]
theorem U3(n:aF)(h:zK n):pU n=some n:=by
 have hF:=FS.Cq h.facts;have h1:=h.av;have h2:=h.nodes;unfold pU;rw[Vm n.rules h.rules,aA,aBE n.ends h.ends,aA,E8 n.facts hF.1 hF.args,aA];rw[GF (c:=aP.c) (b:=64) (f:=fun a:aP=>(eU a.shape).bind fun y=>(dW a.facts).bind fun z=>some (⟨y,z⟩:aP)) (g:=fun x=>x) (L:=ni n _ _ _ _) (k:=_) (by decide) (fun _ _=>rfl) (fun x xs i w=>by
  rw[ni];cases eU x.shape with
  |none=>rfl
  |some a=>cases dW x.facts<;>rfl) _ _ _ (fun a ha=>by
  obtain⟨g1,g2⟩:=h.cP a ha;rw[a39 a.shape (by have:=aE.dh g1;omega),aA,E8 a.facts g2.1 g2.args];rfl) (by simp;omega)]
 rw[GF (c:=Node.c) (b:=120) (f:=fun x:Node=>(kB x.cond).bind fun y=>(jt x.tokens).bind fun z=>some (⟨x.parent,y,x.cP,z⟩:Node)) (g:=fun x=>x) (L:=nj n _ _ _ _ _) (k:=_) (by decide) (fun _ _=>rfl) (fun x xs i w=>by
  rw[nj];cases kB x.cond with
  |none=>rfl
  |some a=>cases jt x.tokens<;>rfl) _ _ _ (fun x hx=>by
  obtain⟨g1,g2,g3⟩:=h.node x hx;rw[U2 x.cond (by have:=aE.dh (aQ.fL g1);omega),aA,a5e x.tokens g2 g3];rfl) (by simp;omega)]
 simp
theorem Ta(n:aF)(h:zK n):iv n=some n:=by
 have hF:=FS.Cq h.facts;have h1:=h.av;have h2:=h.nodes;unfold iv;rw[VL n.rules h.rules,aA,aAX n.ends h.ends,aA,Dz n.facts hF.1 hF.args,aA];rw[GF (c:=aP.c) (b:=64) (f:=fun a:aP=>(eG a.shape).bind fun y=>(cz a.facts).bind fun z=>some (⟨y,z⟩:aP)) (g:=fun x=>x) (L:=iN n _ _ _ _) (k:=_) (by decide) (fun _ _=>rfl) (fun x xs i w=>by
  rw[iN];cases eG x.shape with
  |none=>rfl
  |some a=>cases cz x.facts<;>rfl) _ _ _ (fun a ha=>by
  obtain⟨g1,g2⟩:=h.cP a ha;rw[a2E a.shape (by have:=aE.dh g1;omega),aA,Dz a.facts g2.1 g2.args];rfl) (by simp;omega)]
 rw[GF (c:=Node.c) (b:=120) (f:=fun x:Node=>(fF x.cond).bind fun y=>(lf x.tokens).bind fun z=>some (⟨x.parent,y,x.cP,z⟩:Node)) (g:=fun x=>x) (L:=iO n _ _ _ _ _) (k:=_) (by decide) (fun _ _=>rfl) (fun x xs i w=>by
  rw[iO];cases fF x.cond with
  |none=>rfl
  |some a=>cases lf x.tokens<;>rfl) _ _ _ (fun x hx=>by
  obtain⟨g1,g2,g3⟩:=h.node x hx;rw[TZ x.cond (by have:=aE.dh (aQ.fL g1);omega),aA,a52 x.tokens g2 g3];rfl) (by simp;omega)]
 simp
theorem Ot{n:aF}(h:WQ n=true):yF n.rules=true/\p8 n.facts=true/\0<=n.bw/\n=DE n.rules n.facts n.bw:=by
 unfold WQ S3 DE at h;simp only[aY,bJ]at h;obtain⟨b1,b2,b0,_,b3,_,b5,b4⟩:=h;refine⟨b1,b2,b0,?_⟩;unfold DE;cases n;simp only at b3 b4 b5⊢;rw[<-b3,<-b4,<-b5]
theorem V6{f:aE}(h:u7 f=true):f.wt<=100:=by
 unfold u7 at h;simp only[aY,bJ,bB]at h;obtain⟨h1,h2,h3⟩:=h;have a1:=Sg h2;have a2:=QE f.args (fun x hx=>by have:=IS (h1 x hx);omega);unfold aE.wt tw;unfold tw at a2;omega
theorem QS{fs:aL}(h:p8 fs=true):∀f∈fs,u7 f=true:=by
 unfold p8 at h;simp only[aY]at h;exact PC h.1
theorem Sz{α:Type}{w:α->Nat}{B:Nat}:∀(l:List α),(∀x∈l,w x<=B)->kA w l<=(B+1)*l.length
 | [],_=>by simp[kA]
 |x::l,h=>by
  have h1:=Sz l fun y hy=>h y (by simp[hy])
  have h2:=h x (by simp);rw[qh,aK,Nat.mul_add];omega
theorem DR{fs:aL}(h:p8 fs=true):kA aE.wt fs<=2424:=by
 have h1:=Sz (w:=aE.wt) (B:=100) fs fun f hf=>V6 (QS h f hf)
 have h2:=vG h;have:(100+1)*fs.length<=(100+1)*24:=eP _ h2;omega
theorem yY(ns:ay)(fs:aL)(i:Nat):(gO ns fs)[i]?=(ns[i]?).map fun x=>⟨x.parent,x.cond,x.cP,xU (eg ns (dD i)) fs⟩:=by
 unfold gO;rw[SU,cr]
theorem Dx(ns:ay)(fs:aL):(gO ns fs).length=ns.length:=Zh ns fs ns 0
theorem Bo{rs:ar}(h:yF rs=true):rs.length<=6:=by unfold yF at h;simp only[aY,bJ]at h;omega
theorem Rb{rs:ar}(tk:ah)(h:yF rs=true):(cQ tk rs).1.1.length<=24:=by
 have h6:=Bo h;have main:∀(l:ar) (z:(b7×ay)×bI),(∀r∈l,nw r=true)->(l.foldl KY z).1.1.length<=z.1.1.length+4*l.length:=by
  intro l
  induction l with
  |nil=>intro z _;exact bR _
  |cons r l ih=>
   intro z hl;have h1:=ih (KY z r) (fun x hx=>hl x (by simp[hx]));have h2:=(IZ (gw r) (z.1,0)).1;have h3:=Bd (hl r (by simp));have h4:(KY z r).1.1.length=((gw r).foldl IY (z.1,0)).1.1.length:=rfl;rw[dK,aK];dsimp only at h2;omega
 have:=main rs (([],[root tk]),[]) (sY h);unfold cQ;simp only[bK]at this;omega
theorem IA{rs:ar}{fs:aL}(h1:yF rs=true)(h2:p8 fs=true){i:Nat}{x:Node}(hx:(gO (cQ [] rs).1.2 fs)[i]?=some x):x.cond.wt<=1048576/\x.tokens.length<=390625/\(∀t∈x.tokens,TK 4 t)/\KD x.tokens:=by
 have hv:=sY h1;have hok:=QC [] hv (Bo h1);rw[yY]at hx;obtain⟨y,hy,rfl⟩:=EH.1 hx;have hFS:=FS.Cq (by have:=DR h2;omega:kA aE.wt fs<=1048576);have X1:∀c∈eg (cQ [] rs).1.2 (dD i),c.wt<=1048576:=by
  intro c hc;obtain⟨z,hz,e⟩:=RR hc;rw[<-e];exact hok.wt z hz
 refine⟨hok.wt y (aC hy),a3j (hok.path i) (vG h2),fun t ht=>?_,a5u (Um h2)⟩;exact(Z0 hFS _ [⟨[],[]⟩] 0 X1 XS t ht).le (by have:=hok.path i;omega)
theorem Ow{rs:ar}{fs:aL}(t:Int)(h1:yF rs=true)(h2:p8 fs=true)(hr:kA aN.wt rs<=1048576):zK (DE rs fs t):=by
 have hv:=sY h1;have h6:=Bo h1;have hw:=DR h2;have hl:=E9 [] hv h6;refine⟨hr,by show kA aE.wt fs<=1048576;omega,?_,?_,?_,?_,?_⟩
 ·show(cQ [] rs).2.length<=1048576;rw[(ya [] rs).2.1];omega
 ·show(jE (cQ [] rs).1.1 fs).length<=1048576;unfold jE;rw[aa];have:=Rb [] h1;omega
 ·intro a ha;obtain⟨y,hy,rfl⟩:=cJ.1 (show a∈(cQ [] rs).1.1.map _ from ha);refine⟨(AY [] hv y hy).1,?_,fun f hf=>?_⟩
  ·have:=qi (fun f=>(vB y.shape f []).2) fs;have:=vG h2;show(uM y.shape [] fs).length<=1048576;unfold uM;omega
  ·have:=V6 (QS h2 f (gA.1 hf).1);omega
 ·show(gO (cQ [] rs).1.2 fs).length<=1048576;rw[Dx];omega
 ·intro x hx;obtain⟨i,hi⟩:=cq (show x∈gO (cQ [] rs).1.2 fs from hx);obtain⟨g1,g2,g3,_⟩:=IA h1 h2 hi;exact⟨g1,by omega,fun t ht=>(g3 t ht).le (by omega)⟩
def adT(now old:ah):Nat:=now.length-Nk now old
theorem VP(now old:ah):Nk now old<=now.length:=qi _ _
theorem Qz(t:aI)(l old:ah):Nk (t::l) old=(bif Rx old t then 1 else 0)+Nk l old:=by
 unfold Nk;cases h:Rx old t with
 |true=>rw[sW (by rw[h]),aK,aV];omega
 |false=>rw[sV (by simp[h]),aZ];omega
def stepT(al:b7)(f:aE)(x:Node)(now old:ah)(t:Int):Int:=
 if x.cP<0 then IntKind.i64.wrap (t+((adT now old:Nat):Int))else match mK al x.cP with
  |none=>t
  |some y=>bif (vB y.shape f []).2 then IntKind.i64.wrap (IntKind.i64.wrap (t+IntKind.i64.wrap (((adT now old:Nat):Int)*((y.facts.length:Nat):Int)))+((Nk now old:Nat):Int))else IntKind.i64.wrap (t+IntKind.i64.wrap (((adT now old:Nat):Int)*((y.facts.length:Nat):Int)))
def Ka(ns:ay)(p:Int):ah:=match mK ns p with|some x=>x.tokens|none=>[]
def trN(N0 N1:ay)(al:b7)(f:aE):ay->Int->Int
 | [],t=>t
 |x::xs,t=>trN N0 N1 al f xs (stepT al f x (Ka N1 x.parent) (Ka N0 x.parent) t)
theorem Ys(a b:ah)(i1:Nat)(x:aI)(k:Int->Option (Int×Int)):∀(l:ah) (i v:Nat),v+l.length<=1099511627000->lP a b i1 x k l i (v:Int)=k ((v+(Yt x l).length:Nat):Int)
 | [],i,v,_=>rfl
 |y::l,i,v,h=>by
  simp only[aK]at h;have ih:=Ys a b i1 x k l (i+1);unfold Yt at*;rw[lP,aB3,aA];by_cases e:x.facts=y.facts
  ·rw[show((cmpL pg x.facts y.facts:Int)==0)=true by simp[IT.2 e],aV,IL (by omega),ih (v+1) (by omega),sW (by simp[e]),aK]
   congr 2;omega
  ·rw[show((cmpL pg x.facts y.facts:Int)==0)=false by
    have:cmpL pg x.facts y.facts≠0:=fun h=>e (IT.1 h)
    simp[this],aZ,ih v (by omega),sV (by simp[e])]
theorem U4(a b:ah)(k:Int->Option (Int×Int))(hK:KD b)(hb:b.length<=1048576):∀(l:ah) (i v:Nat),v+l.length<=1099500000000->nq a b k l i (v:Int)=k ((v+Nk l b:Nat):Int)
 | [],i,v,_=>rfl
 |x::l,i,v,h=>by
  simp only[aK]at h;have hx:=Sn (t:=x) hK;rw[nq,xJ (by omega),aV,Ys a b i x _ b 0 v (by omega),hx,Qz];cases Rx b x with
  |true=>rw[aV,U4 a b k hK hb l (i+1) (v+1) (by omega)];congr 2;omega
  |false=>rw[aZ,U4 a b k hK hb l (i+1) (v+0) (by omega)];congr 2;omega
theorem aBF(now old:ah)(hK:KD old)(h1:now.length<=1048576)(h2:old.length<=1048576):xm now old=some (((Nk now old:Nat):Int),((adT now old:Nat):Int)):=by
 have hle:=VP now old;unfold xm;have:=U4 now old (fun(zk:Int)=>(some (zk,IntKind.i64.wrap (((now.map aI.c).length:Int)-zk)))) hK h2 now 0 0 (by omega);rw[show(0:Int)=((0:Nat):Int)from rfl,this,cr,aa,gx (tv.i64.2 (by omega))];unfold adT
 congr 2
 omega
theorem aAS(l:ah)(t:aI):uV l t=some (Rx l t):=by
 unfold uV;have:∀(r:ah) (i:Nat),kO l t (some false) r i=some (Rx r t):=by
  intro r
  induction r with
  |nil=>intro i;rfl
  |cons x r ih=>
   intro i;rw[kO,aAM,aA,ih];unfold Rx;rw[vF];by_cases e:x.facts=t.facts
   ·rw[show((cmpL pg x.facts t.facts:Int)==0)=true by simp[IT.2 e],aV,bU e,Bool.true_or]
   ·rw[show((cmpL pg x.facts t.facts:Int)==0)=false by
     have:cmpL pg x.facts t.facts≠0:=fun h=>e (IT.1 h)
     simp[this],aZ,bA e,pR]
 exact this l 0
theorem a29(n:aF)(f:aE)(y3:aF×Unit)(u:Int)(i1:Nat)(x xx y:Node)(k:Int->Int->Option aF)(hy:mK n.nodes x.parent=some y):∀(l:ah) (i a b:Nat),a+l.length<=1099511627000->b+l.length<=1099511627000->
 jw n f y3 u i1 x xx k l i (a:Int) (b:Int)=k ((a+Nk l y.tokens:Nat):Int) ((b+adT l y.tokens:Nat):Int)
 | [],i,a,b,_,_=>rfl
 |t::l,i,a,b,h1,h2=>by
  simp only[aK]at h1 h2;have ih:=a29 n f y3 u i1 x xx y k hy l (i+1);have hle:=VP l y.tokens;rw[jw,hy,aA,aAS,aA];unfold adT at*;rw[Qz,aK];cases Rx y.tokens t with
  |true=>
   rw[aV,aV,IL (by omega),ih (a+1) b (by omega) (by omega)]
   congr 2<;>omega
  |false=>
   rw[aZ,aZ,IL (by omega),ih a (b+1) (by omega) (by omega)]
   congr 2<;>omega
def aC9(N0 N1:ay)(al:b7)(x:Node):Prop:=(∃p0 p1,mK N0 x.parent=some p0/\mK N1 x.parent=some p1/\p1.tokens.length<=1048576)/\(x.cP<0\/∃y,mK al x.cP=some y/\y.shape.wt<=1048576)
theorem a27(n:aF)(f:aE)(y3:aF×Unit)(k:Int->Option aF)(hf:f.wt<=1048576):∀(l:ay) (i:Nat) (u:Int),1<=i->(∀x∈l,aC9 n.nodes y3.1.nodes y3.1.av x)->fI n f y3 k l i u=k (trN n.nodes y3.1.nodes y3.1.av f l u)
 | [],_,_,_,_=>rfl
 |x::l,i,u,hi,hU=>by
  have ih:=a27 n f y3 k hf l (i+1);have hU':=fun z (hz:z∈l)=>hU z (by simp[hz])
  obtain⟨⟨p0,p1,e0,e1,hl⟩,ha⟩:=hU x (by simp);rw[fI,show(((i:Nat):Int)==0)=false by simp;omega,aZ,e1,aA,xJ (by omega),aV];rw[show(0:Int)=((0:Nat):Int)from rfl,a29 n f y3 u i x p1 p0 _ e0 p1.tokens 0 0 0 (by omega) (by omega),cr,cr,trN];unfold stepT;rw[show Ka y3.1.nodes x.parent=p1.tokens by unfold Ka;rw[e1],show Ka n.nodes x.parent=p0.tokens by unfold Ka;rw[e0]];by_cases hal:x.cP<0
  ·rw[bU (by simpa using hal),aV,bS hal,ih _ (by omega) hU']
  ·rw[bA (by simpa using hal),aZ,bH hal];rcases ha with ha|⟨y,hy,hyw⟩
   ·exact absurd ha hal
   ·rw[hy,aA,a8B y.shape f [] hyw hf PB.nil,aA,aa];dsimp only;cases(vB y.shape f []).2 with
    |true=>rw[aV,aV,ih _ (by omega) hU']
    |false=>rw[aZ,aZ,ih _ (by omega) hU']
theorem BM{α:Type}(l:List α)(i:Nat):mK l (dD i)=l[i]?:=by
 unfold mK dD;rw[bU (by omega),aV];rfl
theorem a2f{rs:ar}{fs0 fs:aL}(h1:yF rs=true)(h0:p8 fs0=true)(h2:p8 fs=true){i:Nat}(hi:1<=i){x:Node}(hx:(cQ [] rs).1.2[i]?=some x):
 ∃(p:Nat) (q:Node),p<i/\x.parent=dD p/\(cQ [] rs).1.2[p]?=some q/\(gO (cQ [] rs).1.2 fs0)[p]?=some ⟨q.parent,q.cond,q.cP,xU (eg (cQ [] rs).1.2 (dD p)) fs0⟩/\(gO (cQ [] rs).1.2 fs)[p]?=some ⟨q.parent,q.cond,q.cP,xU (eg (cQ [] rs).1.2 (dD p)) fs⟩/\
  x.cond.pat.args.length<=3/\x.cond.wt<=1048576/\((x.cP<0/\x.cond.kind≠1/\x.cond.kind≠2)\/∃(a:Nat) (y:aP),x.cP=dD a/\(cQ [] rs).1.1[a]?=some y/\y.shape=vu x.cond.pat/\y.shape.wt<=1048576):=by
 have hv:=sY h1;obtain⟨p,hp,hpi⟩:=(ya [] rs).1.below i x hi hx;have WM:=(aH.1 hx).1;have hq:=ai (show p<(cQ [] rs).1.2.length by omega);obtain⟨r,hr,hc⟩:=a3e hi hx;have hal:=a5r [] rs x (aC hx);refine⟨p,_,hpi,hp,hq,by rw[yY,hq];rfl,by rw[yY,hq];rfl,(PO (hv r hr) _ hc).2.1,Nu (hv r hr) _ hc,?_⟩;by_cases hk:x.cond.kind=1\/x.cond.kind=2
 ·obtain⟨a,e1,y,e2,e3⟩:=hal.1 hk;exact .inr ⟨a,y,e1,e2,e3,(AY [] hv y (aC e2)).1⟩
 ·exact .inl ⟨by rw[hal.2 hk];decide,fun e=>hk (.inl e),fun e=>hk (.inr e)⟩
def a1P(n:aF)(fs:aL)(f:aE):aF:=DE n.rules fs (trN n.nodes (gO (cQ [] n.rules).1.2 fs) (jE (cQ [] n.rules).1.1 fs) f ((gO (cQ [] n.rules).1.2 fs).drop 1) n.bw)
theorem aDW(n:aF)(fs:aL)(f:aE)(hn:WQ n=true)(hr:kA aN.wt n.rules<=1048576)(h2:p8 fs=true)(hf:f.wt<=1048576):wN n fs f=some (a1P n fs f):=by
 obtain⟨h1,h0,ht,e⟩:=Ot hn;have hv:=sY h1;have h6:=Bo h1;have hFS:=FS.Cq (by have:=DR h2;omega:kA aE.wt fs<=1048576);have hok:zK n:=by rw[e];exact Ow _ h1 h0 hr
 have hN:n.nodes=gO (cQ [] n.rules).1.2 n.facts:=congrArg aF.nodes e;have hA:n.av=jE (cQ [] n.rules).1.1 n.facts:=congrArg aF.av e;have hE:n.ends=(cQ [] n.rules).2:=congrArg aF.ends e;have hform:n.nodes.map wk=(cQ [] n.rules).1.2.map wk:=by rw[hN];exact M6 _ _ _ _
 have hp0:=QC [] hv h6;have a7o:IQ n.nodes:=by
  refine⟨hok.nodes,fun x hx=>(hok.node x hx).1,fun i=>?_⟩;rw[AS hform];exact hp0.path i
 have hfA:jE n.av fs=jE (cQ [] n.rules).1.1 fs:=by
  rw[hA];unfold jE;rw[rH];rfl
 have hfN:gO n.nodes fs=gO (cQ [] n.rules).1.2 fs:=by
  have key:∀(l m:ay) (i:Nat),l.map xT=m.map xT->qX n.nodes fs l i=qX (cQ [] n.rules).1.2 fs m i:=by
   intro l
   induction l with
   |nil=>intro m i hm;cases m with
    |nil=>rfl
    |cons y m=>simp at hm
   |cons x l ih=>intro m i hm;cases m with
    |nil=>simp at hm
    |cons y m=>
     rw[bG,bG]at hm;obtain⟨q1,q2⟩:=zm hm;have e1:x.parent=y.parent:=(ko q1).1;have e2:x.cP=y.cP:=(ko (ko q1).2).1;have e3:x.cond=y.cond:=(ko (ko q1).2).2;rw[qX,qX,ih m (i+1) q2,AS hform,e1,e2,e3]
  refine key _ _ 0 ?_;rw[hN];have:∀(ns l:ay) (i:Nat),(qX ns n.facts l i).map xT=l.map xT:=by
   intro ns l
   induction l with
   |nil=>intro i;rfl
   |cons x l ih=>intro i;rw[qX,bG,ih];rfl
  exact this _ _ _
 unfold wN;rw[Ta n hok,aA,a6N n fs hFS (vG h2) hok.av (fun x hx=>(hok.cP x hx).1) a7o,aA,hfA,hfN];have hlen:=Dx (cQ [] n.rules).1.2 fs;have aFQ:=E9 [] hv h6;dsimp only;rw[xJ (by omega),aV];have th:gO (cQ [] n.rules).1.2 fs=(gO (cQ [] n.rules).1.2 fs).take 1++(gO (cQ [] n.rules).1.2 fs).drop 1:=(cD 1 _).symm;cases hns:gO (cQ [] n.rules).1.2 fs with
 |nil=>
  have:=(ya [] n.rules).1.pos;rw[hns]at hlen;simp at hlen;omega
 |cons x0 l=>
  rw[fI,show(((0:Nat):Int)==0)=true from rfl,aV,a27 n f _ _ hf l 1 _ (bR _) (fun x hx=>?_)]
  ·unfold a1P DE;rw[hns,hE];rfl
  ·obtain⟨i,hi⟩:=cq hx;have hi2:(gO (cQ [] n.rules).1.2 fs)[i+1]?=some x:=by rw[hns];exact hi
   rw[yY]at hi2;obtain⟨z,hz,rfl⟩:=EH.1 hi2;obtain⟨p,q,_,e1,_,e3,e4,_,_,e7⟩:=a2f h1 h0 h2 (i:=i+1) (by omega) hz;have g4:=(IA h1 h2 e4).2.1;have u3:=(show mK n.nodes z.parent=(gO (cQ [] n.rules).1.2 n.facts)[p]? by rw[e1,BM,hN]).trans e3;have u4:=(show mK (x0::l) z.parent=(gO (cQ [] n.rules).1.2 fs)[p]? by rw[e1,BM,hns]).trans e4;refine⟨⟨_,_,u3,u4,by omega⟩,?_⟩
   ·rcases e7 with⟨e7,_⟩|⟨a,y,e7,e8,_,e10⟩
    ·exact .inl e7
    ·refine .inr ⟨⟨y.shape,uM y.shape [] fs⟩,?_,e10⟩;show mK (jE (cQ [] n.rules).1.1 fs) z.cP=_;rw[e7,BM];unfold jE;rw[cA,e8];rfl
structure Ren(h:Bytes->Bytes)(V:Bytes->Prop):Prop where
 var:∀v,V v->lS v=true
 aEP:∀t,lS t=false->h t=t
 aFv:∀v,V v->lS (h v)=true
 inj:∀u v,V u->V v->h u=h v->u=v
structure RB(h:Bytes->Bytes)(V:Bytes->Prop)(b b':List aS):Prop where
 len:b'.length=b.length
 get:∀v,V v->lU (h v) b'=lU v b
 ok:p9 b=true
 ok':p9 b'=true
structure RT(h:Bytes->Bytes)(V:Bytes->Prop)(t t':aI):Prop where
 facts:t'.facts=t.facts
 bind:RB h V t.bind t'.bind
inductive RL(R:aI->aI->Prop):List aI->List aI->Prop
 |nil:RL R [] []
 |cons {a b:aI} {l m:ah}:R a b->RL R l m->RL R (a::l) (b::m)
def KM(f:aE)(A:b7):List Bool:=A.map fun a=>(vB a.shape f []).2
theorem Dw(A:b7)(fs:aL):(jE A fs).length=A.length:=by unfold jE;rw[aa]
theorem Wv(A:b7)(x:aP)(fs:aL):jE (A++[x]) fs=jE A fs++[⟨x.shape,uM x.shape [] fs⟩]:=by unfold jE;rw[bN];rfl
theorem a6s(n:aF)(fs:aL)(f:aE)(y1:aF)(y3:aL)(K:List Bool->b7->Option aF)(hFS:FS fs)(hf:f.wt<=1048576)(A:b7)(hA:∀a∈A,a.shape.wt<=1048576)(hl:A.length<=1048576):∀(rest pre:b7) (fu:Nat),A=pre++rest->rest.length<fu->
 jD n fs f y1 y3 K fu (pre.length:Int) (KM f pre) (jE pre fs++rest)=K (KM f A) (jE A fs)
 | [],pre,fu,e,hu=>by
  obtain⟨fu,rfl⟩:∃m,fu=m+1:=⟨fu-1,by simp at hu;omega⟩
  rw[cN]at e;rw[jD,cN,aa,Dw,bA (by omega),aZ,e]
 |x::rest,pre,fu,e,hu=>by
  obtain⟨fu,rfl⟩:∃m,fu=m+1:=⟨fu-1,by simp at hu;omega⟩
  simp only[aK]at hu;have hlen:A.length=pre.length+(rest.length+1):=by rw[e];simp
  have hx:=hA x (by rw[e];simp);have ih:=a6s n fs f y1 y3 K hFS hf A hA hl rest (pre++[x]) fu (by rw[e];simp) (by omega);have hat:mK (jE pre fs++x::rest) (pre.length:Int)=some x:=by
   have:=zn (a:=jE pre fs++x::rest) (pre:=jE pre fs) (xs:=rest) (x:=x) rfl;rw[Dw]at this;exact this
  have qu:(jE pre fs++x::rest).set (pre.length:Int).toNat ⟨x.shape,uM x.shape [] fs⟩=jE (pre++[x]) fs++rest:=by
   have:=setAt (jE pre fs) rest x ⟨x.shape,uM x.shape [] fs⟩;rw[Dw]at this;rw[oD,this,Wv,bY];rfl
  have hh:KM f pre++[(vB x.shape f []).2]=KM f (pre++[x]):=by unfold KM;rw[bN];rfl
  have hpl:(KM f pre).length=pre.length:=by unfold KM;rw[aa]
  rw[jD,aa,aX,Dw,aK,bU (by omega),aV,hat,aA,a8n x.shape f [] hx hf PB.nil,aA,KV (by simp;omega) (by decide),aV,a8m x.shape [] fs hx PB.nil hFS,aA,IL (by omega),qu,hh];rw[aX,fX]at ih;exact ih
theorem Yj{N0 N1:ay}{v:Nat}(hl:N0.length=N1.length)(hv:v<=N1.length)(j:Nat):(N1.take v++N0.drop v)[j]?=if j<v then N1[j]? else N0[j]?:=by
 have h1:(N1.take v).length=v:=by rw[cM];omega
 by_cases h:j<v
 ·rw[bS h,b9 (by omega),cK,bS h]
 ·rw[bH h,bE (by omega),h1,eD]
  congr 1;omega
theorem a5Q{N0 N1:ay}{v:Nat}(hl:N0.length=N1.length)(hv:v<N1.length){y:Node}(hy:N1[v]?=some y):(N1.take v++N0.drop v).set v y=N1.take (v+1)++N0.drop (v+1):=by
 have h1:(N1.take v).length=v:=by rw[cM];omega
 rw[mm (by omega:v<N0.length)];have:=setAt (N1.take v) (N0.drop (v+1)) (N0[v]'(by omega)) y;rw[h1]at this;rw[this,List.take_add_one,hy];simp
theorem a01(S:ay)(a b:aL):(gO S b).take 1++(gO S a).drop 1=gO S a:=by
 have h:(gO S b).take 1=(gO S a).take 1:=by
  apply oF;intro i;rw[cK,cK];by_cases hi:i<1
  ·rw[bS hi,bS hi,show i=0 by omega,yY,yY,uN];rfl
  ·rw[bH hi,bH hi]
 rw[h,cD]
theorem aB2(n:aF)(fs:aL)(f:aE)(y1:aF)(y3:aL)(K:Int->ay->Option aF)(h1:yF n.rules=true)(h0:p8 n.facts=true)(h2:p8 fs=true)(hN:n.nodes=gO (cQ [] n.rules).1.2 n.facts)(hA:n.av=jE (cQ [] n.rules).1.1 n.facts):
 ∀(d v fu:Nat) (u:Int),v+d=(cQ [] n.rules).1.2.length->1<=v->d<fu->
  ed n y1 y3 (KM f n.av) (jE (cQ [] n.rules).1.1 fs) K fu (v:Int) u ((gO (cQ [] n.rules).1.2 fs).take v++n.nodes.drop v)=
   K (trN n.nodes (gO (cQ [] n.rules).1.2 fs) (jE (cQ [] n.rules).1.1 fs) f ((gO (cQ [] n.rules).1.2 fs).drop v) u) (gO (cQ [] n.rules).1.2 fs):=by
 have hl0:n.nodes.length=(cQ [] n.rules).1.2.length:=by rw[hN,Dx]
 have hl1:=Dx (cQ [] n.rules).1.2 fs;have WN:n.nodes.length=(gO (cQ [] n.rules).1.2 fs).length:=by omega
 have hFS:=FS.Cq (by have:=DR h2;omega:kA aE.wt fs<=1048576);intro d
 induction d with
 |zero=>
  intro v fu u hv _ hfu;obtain⟨fu,rfl⟩:∃m,fu=m+1:=⟨fu-1,by omega⟩
  have e1:(gO (cQ [] n.rules).1.2 fs).take v++n.nodes.drop v=gO (cQ [] n.rules).1.2 fs:=by
   rw[pK (by omega),cN,pL (by omega)]
  rw[ed,e1,aa,bA (by omega),aZ,pK (by omega)];rfl
 |succ d ih=>
  intro v fu u hv hv1 hfu;obtain⟨fu,rfl⟩:∃m,fu=m+1:=⟨fu-1,by omega⟩
  have hvl:v<(cQ [] n.rules).1.2.length:=by omega
  have hx:=ai hvl;generalize hxx:(cQ [] n.rules).1.2[v]=x at hx;obtain⟨p,q,hpv,e1,_,e3,e4,e5,e6,e7⟩:=a2f h1 h0 h2 hv1 hx;have hx0:n.nodes[v]?=some ⟨x.parent,x.cond,x.cP,xU (eg (cQ [] n.rules).1.2 (dD v)) n.facts⟩:=by rw[hN,yY,hx];rfl
  have hx1:(gO (cQ [] n.rules).1.2 fs)[v]?=some ⟨x.parent,x.cond,x.cP,xU (eg (cQ [] n.rules).1.2 (dD v)) fs⟩:=by rw[yY,hx];rfl
  have hb1:=E9 [] (sY h1) (Bo h1);have m1:mK ((gO (cQ [] n.rules).1.2 fs).take v++n.nodes.drop v) (v:Int)=some ⟨x.parent,x.cond,x.cP,xU (eg (cQ [] n.rules).1.2 (dD v)) n.facts⟩:=by
   rw[show(v:Int)=dD v from rfl,BM,Yj WN (by omega),bH (by omega),hx0]
  have m2:mK ((gO (cQ [] n.rules).1.2 fs).take v++n.nodes.drop v) x.parent=some ⟨q.parent,q.cond,q.cP,xU (eg (cQ [] n.rules).1.2 (dD p)) fs⟩:=by
   rw[e1,BM,Yj WN (by omega),bS hpv,e4]
  have m3:mK n.nodes x.parent=some ⟨q.parent,q.cond,q.cP,xU (eg (cQ [] n.rules).1.2 (dD p)) n.facts⟩:=by rw[e1,BM,hN,e3]
  have m4:mK (gO (cQ [] n.rules).1.2 fs) x.parent=some ⟨q.parent,q.cond,q.cP,xU (eg (cQ [] n.rules).1.2 (dD p)) fs⟩:=by rw[e1,BM,e4]
  obtain⟨_,k2,k3,_⟩:=IA h1 h2 e4;obtain⟨_,j2,_,j4⟩:=IA h1 h0 e3;dsimp only at k2 k3 j2 j4;have hstep:=a3k hv1 hx e1 hpv fs;have hlen:((gO (cQ [] n.rules).1.2 fs).take v++n.nodes.drop v).length=(cQ [] n.rules).1.2.length:=by
   rw[aX,cM,wz];omega
  have VC:(gO (cQ [] n.rules).1.2 fs).drop v=⟨x.parent,x.cond,x.cP,xU (eg (cQ [] n.rules).1.2 (dD v)) fs⟩::(gO (cQ [] n.rules).1.2 fs).drop (v+1):=by
   rw[mm (by omega)]
   congr 1
   exact qw ((ai (by omega)).symm.trans hx1)
  have qu:=a5Q WN (by omega) hx1;have t4:Ka (gO (cQ [] n.rules).1.2 fs) x.parent=xU (eg (cQ [] n.rules).1.2 (dD p)) fs:=by unfold Ka;rw[m4]
  have t3:Ka n.nodes x.parent=xU (eg (cQ [] n.rules).1.2 (dD p)) n.facts:=by unfold Ka;rw[m3]
  rw[ed,aa,hlen,bU (by omega),aV,m1,aA];dsimp only;rw[m2,aA,m3,aA];dsimp only;rw[aBF _ _ j4 (by omega) (by omega),aA,VC,trN,t4,t3,IL (by omega)];unfold stepT;dsimp only;rcases e7 with⟨g1,g2,g3⟩|⟨a,y,g1,g2,g3,g4⟩
  ·rw[bU (by simpa using g1),aV,a3G _ x.cond [] e6 ⟨by simp,fun f hf=>by cases hf⟩ (fun t ht=>(k3 t ht).le (by omega)) (by simp;omega),aA,a2m g2 g3 fs,<-hstep,oD,qu,ih (v+1) fu _ (by omega) (by omega) (by omega),bS g1]
  ·have ha0:¬x.cP<0:=by rw[g1];unfold dD;omega
   have n1:mK (jE (cQ [] n.rules).1.1 fs) x.cP=some ⟨y.shape,uM y.shape [] fs⟩:=by
    rw[g1,BM];unfold jE;rw[cA,g2];rfl
   have n2:mK (KM f n.av) x.cP=some (vB y.shape f []).2:=by
    rw[g1,BM,hA];unfold KM jE;rw[rH,cA,g2];rfl
   have hfl:(uM y.shape [] fs).length<=24:=by
    unfold uM;exact cU (qi _ _) (vG h2)
   have aCg:FS (uM y.shape [] fs):=⟨by omega,fun f hf=>hFS.2 f (gA.1 hf).1⟩
   have hnx:x8 (uM y.shape [] fs) (xU (eg (cQ [] n.rules).1.2 (dD p)) fs) x.cond=xU (eg (cQ [] n.rules).1.2 (dD v)) fs:=by
    rw[g3,a08 (by omega),hstep]
   rw[bA (by simpa using ha0),aZ,n1,aA];dsimp only;rw[a3G _ x.cond _ e6 aCg (fun t ht=>(k3 t ht).le (by omega)) (by
    have:(xU (eg (cQ [] n.rules).1.2 (dD p)) fs).length*((uM y.shape [] fs).length+1)<=390625*25:=GL k2 (by omega);omega),aA,hnx,n2,aA,oD,qu,bH ha0,aa]
   cases(vB y.shape f []).2 with
   |true=>rw[aV,aV,ih (v+1) fu _ (by omega) (by omega) (by omega)]
   |false=>rw[aZ,aZ,ih (v+1) fu _ (by omega) (by omega) (by omega)]
theorem aDt(n:aF)(fs:aL)(f:aE)(hn:WQ n=true)(hr:kA aN.wt n.rules<=1048576)(h2:p8 fs=true)(hf:f.wt<=1048576):uy n fs f=some (a1P n fs f):=by
 obtain⟨h1,h0,ht,e⟩:=Ot hn;have hFS:=FS.Cq (by have:=DR h2;omega:kA aE.wt fs<=1048576);have hok:zK n:=by rw[e];exact Ow _ h1 h0 hr
 have hN:n.nodes=gO (cQ [] n.rules).1.2 n.facts:=congrArg aF.nodes e;have hA:n.av=jE (cQ [] n.rules).1.1 n.facts:=congrArg aF.av e;have hE:n.ends=(cQ [] n.rules).2:=congrArg aF.ends e;have hfA:jE n.av fs=jE (cQ [] n.rules).1.1 fs:=by
  rw[hA];unfold jE;rw[rH];rfl
 have hb1:=E9 [] (sY h1) (Bo h1);have hpos:=(ya [] n.rules).1.pos;have hal:=hok.av;unfold uy;rw[U3 n hok,aA,E8 fs hFS.1 hFS.args,aA];have a1:=a6s n fs f n fs (fun(fV:List Bool) (qc:b7)=>(ed n n fs fV qc (fun(oy:Int) (vr:ay)=>(some (⟨n.rules,n.ends,qc,vr,fs,oy⟩:aF))) fuel 1 n.bw n.nodes)) hFS hf n.av (fun a ha=>(hok.cP a ha).1) hok.av n.av [] fuel rfl (by unfold fuel;omega);refine a1.trans ?_;rw[hfA];have a2:=aB2 n fs f n fs (fun(oy:Int) (vr:ay)=>(some (⟨n.rules,n.ends,jE (cQ [] n.rules).1.1 fs,vr,fs,oy⟩:aF))) h1 h0 h2 hN hA ((cQ [] n.rules).1.2.length -1) 1 fuel n.bw (by omega) (bR _) (by unfold fuel;omega);have a3:(gO (cQ [] n.rules).1.2 fs).take 1++n.nodes.drop 1=n.nodes:=by rw[hN];exact a01 _ _ _
 rw[a3]at a2;refine a2.trans ?_;unfold a1P DE;rw[hE]
def RU(n:aF)(f:aE):aF×Bool:=bif WQ n&&(Pe n.facts f).2 then(a1P n (Pe n.facts f).1 f,true)else(n,false)
def Ub(n m:aF):Prop:=m=n\/∃fs t,yF m.rules=true/\m.rules=n.rules/\p8 fs=true/\m=DE m.rules fs t
theorem Oy(n:aF)(f:aE):Ub n (RU n f).1:=by
 unfold RU;cases hb:WQ n&&(Pe n.facts f).2 with
 |false=>exact .inl rfl
 |true=>
  rw[aY]at hb;exact .inr ⟨_,_,(Ot hb.1).1,rfl,TE hb.2,rfl⟩
theorem Ub.trans{a b c:aF}(h:Ub a b)(k:Ub b c):Ub a c:=by
 rcases k with rfl|⟨fs,t,k1,k2,k3,k4⟩
 ·exact h
 ·rcases h with rfl|⟨_,_,_,h2,_,_⟩
  ·exact .inr ⟨fs,t,k1,k2,k3,k4⟩
  ·exact .inr ⟨fs,t,k1,k2.trans h2,k3,k4⟩
theorem Ub.ok{n m:aF}(h:Ub n m)(hn:zK n):zK m:=by
 rcases h with rfl|⟨fs,t,h1,h2,h3,h4⟩
 ·exact hn
 ·rw[h4];exact Ow t h1 h3 (by rw[h2];exact hn.rules)
theorem Yl{rs:ar}{fs:aL}(t:Int)(h1:yF rs=true)(h2:p8 fs=true)(hr:kA aN.wt rs<=1048576):aF.Ov (DE rs fs t)<=4611686018427387000:=by
 have hok:=Ow t h1 h2 hr;have hv:=sY h1;have h6:=Bo h1;have h24:=vG h2;have hl:=E9 [] hv h6;have a1:=qY aN.iZ aN.wt rs (fun y=>aN.nr y);have a2:=zg (m:=fun _:Int=>1) (B:=1) (cQ [] rs).2 (fun _ _=>bR _);rw[(ya [] rs).2.1]at a2;have a3:=zg (m:=aP.iZ) (B:=6291468+6291462*24) (jE (cQ [] rs).1.1 fs) (fun a ha=>by
  obtain⟨g1,g2⟩:=hok.cP a ha;have b1:=aE.nr a.shape;have b3:a.facts.length<=24:=by
   obtain⟨y,_,rfl⟩:=cJ.1 ha;exact cU (qi _ _) h24
  have b2:=Sf (n:=24) a.facts b3 g2.2;unfold aP.iZ;unfold aE.iZ at b1;omega)
 have a4:=zg (m:=Node.iZ) (B:=6291468+100000000*390625) (gO (cQ [] rs).1.2 fs) (fun x hx=>by
  obtain⟨i,hi⟩:=cq hx;obtain⟨g1,g2,g3,_⟩:=IA h1 h2 hi;have b1:=aE.nr x.cond.pat;have b0:=aQ.fL g1;have b2:=zg (m:=aI.iZ) (B:=100000000) x.tokens (fun u hu=>(g3 u hu).iZ);have b3:100000000*x.tokens.length<=100000000*390625:=eP _ g2;unfold Node.iZ;unfold aE.iZ at b1;omega)
 have a5:=qY aE.iZ aE.wt fs (fun y=>aE.nr y);have a6:=DR h2;have a7:=Rb [] h1;rw[Dw]at a3;rw[Dx]at a4;have c3:(6291468+6291462*24)*(cQ [] rs).1.1.length<=(6291468+6291462*24)*24:=eP _ a7;have c4:(6291468+100000000*390625)*(cQ [] rs).1.2.length<=(6291468+100000000*390625)*25:=eP _ hl;unfold aF.Ov DE;dsimp only;omega
theorem aBH(n:aF)(f:aE)(h:zK n)(hf:f.wt<=1048576):pG n f=some (RU n f):=by
 unfold pG RU;rw[aB1 n.facts f h.facts hf,aA,a3D n h.rules h.facts,aA];cases hb:WQ n with
 |false=>rw[cR,aV,U3 n h];rfl
 |true=>
  rw[bP,aZ];cases ha:(Pe n.facts f).2 with
  |false=>rw[cR,aV,U3 n h];rfl
  |true=>rw[bP,aZ,aDt n _ f hb h.rules (TE ha) hf];rfl
theorem aAY(n:aF)(f:aE)(h:zK n)(hf:f.wt<=1048576):pE n f=some (RU n f):=by
 unfold pE EY RU;rw[a2G n h.rules h.facts,aA];cases hb:WQ n with
 |false=>rw[cR,aV,Ta n h];rfl
 |true=>
  rw[bP,aZ,aAK n.facts f h.facts hf,aA];cases ha:(Pe n.facts f).2 with
  |false=>rw[cR,aV,Ta n h];rfl
  |true=>rw[bP,aZ,aDW n _ f hb h.rules (TE ha) hf];rfl
def Pj:aL->aF->Nat->aF×Nat
 | [],n,c=>(n,c)
 |f::l,n,c=>bif (RU n f).2 then Pj l (RU n f).1 (c+1)else Pj l n c
theorem Qi:∀(l:aL) (n:aF) (c:Nat),Ub n (Pj l n c).1
 | [],_,_=>.inl rfl
 |f::l,n,c=>by
  rw[Pj];cases(RU n f).2 with
  |true=>exact(Oy n f).trans (Qi l _ _)
  |false=>exact Qi l n c
theorem a8k(a:aL)(K:Int->Int->ar->bI->b7->ay->aL->Option (aF×Int)):∀(l:aL) (i:Nat) (n:aF) (c:Nat),zK n->(∀f∈l,f.wt<=1048576)->c+l.length<=1099511627000->
 fk a K l i (c:Int) n.bw n.rules n.ends n.av n.nodes n.facts=K (((Pj l n c).2:Nat):Int) (Pj l n c).1.bw (Pj l n c).1.rules (Pj l n c).1.ends (Pj l n c).1.av (Pj l n c).1.nodes (Pj l n c).1.facts
 | [],i,n,c,_,_,_=>rfl
 |f::l,i,n,c,hn,hf,hc=>by
  simp only[aK]at hc;rw[fk,show(⟨n.rules,n.ends,n.av,n.nodes,n.facts,n.bw⟩:aF)=n from rfl,aBH n f hn (hf f (by simp)),aA,Pj];cases(RU n f).2 with
  |true=>rw[aV,aV,IL (by omega),a8k a K l (i+1) _ (c+1) ((Oy n f).ok hn) (fun x hx=>hf x (by simp[hx])) (by omega)]
  |false=>rw[aZ,aZ,a8k a K l (i+1) n c hn (fun x hx=>hf x (by simp[hx])) (by omega)]
theorem aB5(n:aF)(l:aL)(hn:zK n)(hl:FS l):qS n l=some ((Pj l n 0).1,(((Pj l n 0).2:Nat):Int)):=by
 have h1:=hl.1;unfold qS;rw[U3 n hn,aA];exact a8k l _ l 0 n 0 hn hl.2 (by omega)
theorem a86(a:aL)(K:Int->Int->ar->bI->b7->ay->aL->Option (aF×Int)):∀(l:aL) (i:Nat) (n:aF) (c:Nat),zK n->(∀f∈l,f.wt<=1048576)->c+l.length<=1099511627000->
 fY a K l i (c:Int) n.bw n.rules n.ends n.av n.nodes n.facts=K (((Pj l n c).2:Nat):Int) (Pj l n c).1.bw (Pj l n c).1.rules (Pj l n c).1.ends (Pj l n c).1.av (Pj l n c).1.nodes (Pj l n c).1.facts
 | [],i,n,c,_,_,_=>rfl
 |f::l,i,n,c,hn,hf,hc=>by
  simp only[aK]at hc;rw[fY,show(⟨n.rules,n.ends,n.av,n.nodes,n.facts,n.bw⟩:aF)=n from rfl,aAY n f hn (hf f (by simp)),aA,Pj];cases(RU n f).2 with
  |true=>rw[aV,aV,IL (by omega),a86 a K l (i+1) _ (c+1) ((Oy n f).ok hn) (fun x hx=>hf x (by simp[hx])) (by omega)]
  |false=>rw[aZ,aZ,a86 a K l (i+1) n c hn (fun x hx=>hf x (by simp[hx])) (by omega)]
theorem aAO(n:aF)(l:aL)(hn:zK n)(hl:FS l):qK n l=some ((Pj l n 0).1,(((Pj l n 0).2:Nat):Int)):=by
 have h1:=hl.1;unfold qK;rw[Ta n hn,aA];exact a86 l _ l 0 n 0 hn hl.2 (by omega)
theorem OI:p8 []=true:=rfl
theorem ZZ{rs:ar}(h:yF rs=true):(⟨rs,(cQ [⟨[],[]⟩] rs).2,(cQ [⟨[],[]⟩] rs).1.1,(cQ [⟨[],[]⟩] rs).1.2,[],0⟩:aF)=DE rs [] 0:=by
 have hv:=sY h;unfold DE;rw[Zf (AY [] hv),Zg hv];have e1:(cQ [⟨[],[]⟩] rs).2=(cQ [] rs).2:=by rw[qI,qI]
 have e2:(cQ [⟨[],[]⟩] rs).1.1=(cQ [] rs).1.1:=by rw[qI,qI]
 rw[e1,e2]
def a45:aF:=⟨[],[],[],[],[],0⟩
def a2t(n:aF):aF:=bif WQ n then(Pj n.facts (DE n.rules [] 0) 0).1 else a45
theorem a5f(rs:ar)(h:kA aN.wt rs<=1048576):jk rs=some (bif yF rs then(DE rs [] 0,true)else(a45,false)):=by
 rw[a3A rs h];cases hb:yF rs with
 |false=>rfl
 |true=>rw[aV,aV,ZZ hb]
theorem a50(rs:ar)(hr:kA aN.wt rs<=1048576)(hb:yF rs=true):uD rs [] 0=some (DE rs [] 0):=
 a26 rs [] 0 hr hb ⟨by simp,fun f hf=>by cases hf⟩ (by simp)
theorem aDv(n:aF)(h:zK n):k8 n=some (a2t n):=by
 unfold k8 a2t;rw[a3D n h.rules h.facts,aA];cases hb:WQ n with
 |false=>rfl
 |true=>
  have h1:=(Ot hb).1;rw[bP,aZ,a5f _ h.rules,h1,aV,aA,aB5 _ _ (Ow 0 h1 OI h.rules) (FS.Cq h.facts)];rfl
theorem aDa(n:aF)(h:zK n):iM n=some (a2t n):=by
 unfold iM a2t;rw[a2G n h.rules h.facts,aA];cases hb:WQ n with
 |false=>rfl
 |true=>
  have h1:=(Ot hb).1;rw[bP,aZ,a50 _ h.rules h1,aA,aAO _ _ (Ow 0 h1 OI h.rules) (FS.Cq h.facts)];rfl
set_option maxRecDepth 100000
variable{Γ:w5}{N:Nat->St->Prop}
def kD(aB:aF):Option Bool:=((tS aB 1048576).bind fun y1=>(bif decide ((y1:Int)<0)then(some true)else((lD aB).bind fun y4=>((k8 y4).bind fun y6=>((lD aB).bind fun y8=>((iM y8).bind fun DK=>((l9 DK y6).bind fun ZB=>(bif !(ZB)then(some false)else((lD aB).bind fun y15=>((l9 y8 y15).bind fun UP=>(bif !(UP)then(some false)else((kT y8 1).bind fun y20=>(bif decide ((y20.2:Int)<0)then(some false)else((l9 DK y6).bind fun y23=>(bif !(y23)then(some false)else((kT DK 1).bind fun O6=>((kR (⟨O6.1.rules,O6.1.ends,O6.1.av,O6.1.nodes,O6.1.facts,DK.bw⟩:aF) 1).bind fun y28=>(bif decide ((y28:Int)<0)then(some false)else(bif (y28:Int) != O6.2 then(some false)else((lD aB).bind fun BF=>((iM BF).bind fun Ce=>((l9 Ce y6).bind fun FB=>(bif !(FB)then(some false)else((kR (⟨O6.1.rules,O6.1.ends,O6.1.av,O6.1.nodes,O6.1.facts,DK.bw⟩:aF) 1).bind fun O9=>(bif decide ((O9:Int)<0)then(some false)else(bif (O9:Int) != O6.2 then(some false)else(some true)))))))))))))))))))))))))))
theorem ye{aB:aF}{r:Bool}(h:kD aB=some r):Good prog 5 [D.agg (aF.c aB)] (D.bool r):=by
 refine gd func5 [[none]] 69 fun hr Γ hΓ=>?_
 rw[kD]at h;obtain⟨y1,h2,h⟩:=aD h;obtain⟨h3,h⟩|⟨h3,h⟩:=aM h
 ·have h:=aG h;subst h;exact(((aU.a [.dc (D.int .i64 y1)]).w (zU h2)).b h3).ret hΓ
 ·obtain⟨y4,h5,h⟩:=aD h;obtain⟨y6,h7,h⟩:=aD h;obtain⟨y8,h9,h⟩:=aD h;obtain⟨DK,h11,h⟩:=aD h;obtain⟨ZB,h13,h⟩:=aD h;have kF:=(((((((((((((aU.a [.dc (D.int .i64 y1)]).w (zU h2)).b h3).a [.dc (D.agg [D.fr 105 4 (y4.rules.map aN.c),D.fr 3 1 (y4.ends.map dL),D.fr 111 3 (y4.av.map aP.c),D.fr 118 8 (y4.nodes.map Node.c),D.fr 53 2 (y4.facts.map aE.c),D.int .i64 y4.bw])]).w (qn h5)).a [.dc (D.agg [D.fr 105 4 (y6.rules.map aN.c),D.fr 3 1 (y6.ends.map dL),D.fr 111 3 (y6.av.map aP.c),D.fr 118 8 (y6.nodes.map Node.c),D.fr 53 2 (y6.facts.map aE.c),D.int .i64 y6.bw])]).w (C4 h7)).a [.dc (D.agg [D.fr 105 4 (y8.rules.map aN.c),D.fr 3 1 (y8.ends.map dL),D.fr 111 3 (y8.av.map aP.c),D.fr 118 8 (y8.nodes.map Node.c),D.fr 53 2 (y8.facts.map aE.c),D.int .i64 y8.bw])]).w (qn h9)).a [.dc (D.agg [D.fr 105 4 (DK.rules.map aN.c),D.fr 3 1 (DK.ends.map dL),D.fr 111 3 (DK.av.map aP.c),D.fr 118 8 (DK.nodes.map Node.c),D.fr 53 2 (DK.facts.map aE.c),D.int .i64 DK.bw])]).w (wL h11)).a [.dc (D.bool ZB)]).w (ql h13))
  obtain⟨h14,h⟩|⟨h14,h⟩:=aM h
  ·have h:=aG h;subst h;exact(kF.b h14).ret hΓ
  ·obtain⟨y15,h16,h⟩:=aD h;obtain⟨UP,h18,h⟩:=aD h;have dJ:=(((((kF.b h14).a [.n 3]).g (qn h16)).a [.dc (D.bool UP)]).w (ql h18))
   obtain⟨h19,h⟩|⟨h19,h⟩:=aM h
   ·have h:=aG h;subst h;exact(dJ.b h19).ret hΓ
   ·obtain⟨y20,h21,h⟩:=aD h;have jb:=(((dJ.b h19).w (yT h21)).a [.gv [12,13,14,15,16] [(4,y20.1.rules.map aN.c),(1,y20.1.ends.map dL),(3,y20.1.av.map aP.c),(8,y20.1.nodes.map Node.c),(2,y20.1.facts.map aE.c)] (D.int .i64 y20.2)])
    obtain⟨h22,h⟩|⟨h22,h⟩:=aM h
    ·have h:=aG h;subst h;exact((jb.r 5 h22).T 1).ret hΓ
    ·obtain⟨y23,h24,h⟩:=aD h;have ia:=((((jb.r 3 h22).a [.dc (D.bool y23)]).w (ql h24)).r 2 h22)
     obtain⟨h25,h⟩|⟨h25,h⟩:=aM h
     ·have h:=aG h;subst h;exact(ia.b h25).ret hΓ
     ·obtain⟨O6,h27,h⟩:=aD h;obtain⟨y28,h29,h⟩:=aD h;have tq:=((((ia.b h25).w (yT h27)).a [.gv [18,19,20,21,22] [(4,O6.1.rules.map aN.c),(1,O6.1.ends.map dL),(3,O6.1.av.map aP.c),(8,O6.1.nodes.map Node.c),(2,O6.1.facts.map aE.c)] (D.int .i64 O6.2),.dc (D.int .i64 y28)]).w (show Good prog 21 [D.agg [D.sl (O6.1.rules.map aN.c),D.sl (O6.1.ends.map dL),D.sl (O6.1.av.map aP.c),D.sl (O6.1.nodes.map Node.c),D.sl (O6.1.facts.map aE.c),D.int .i64 DK.bw],D.int .i64 1] (D.int .i64 y28)from by first| (simpa only[bN,bG,bW,dB,cm]using iX h29)|exact iX h29| (have t:=iX h29;simp only[bN,dB,cm,aF.c]at t;exact t)))
      obtain⟨h30,h⟩|⟨h30,h⟩:=aM h
      ·have h:=aG h;subst h;exact(tq.b h30).ret hΓ
      ·obtain⟨h31,h⟩|⟨h31,h⟩:=aM h
       ·have h:=aG h;subst h;exact((tq.b h30).b h31).ret hΓ
       ·obtain⟨BF,h33,h⟩:=aD h;obtain⟨Ce,h35,h⟩:=aD h;obtain⟨FB,h37,h⟩:=aD h;have wm:=((((((((tq.b h30).b h31).a [.dc (D.agg [D.fr 105 4 (BF.rules.map aN.c),D.fr 3 1 (BF.ends.map dL),D.fr 111 3 (BF.av.map aP.c),D.fr 118 8 (BF.nodes.map Node.c),D.fr 53 2 (BF.facts.map aE.c),D.int .i64 BF.bw])]).w (qn h33)).a [.dc (D.agg [D.fr 105 4 (Ce.rules.map aN.c),D.fr 3 1 (Ce.ends.map dL),D.fr 111 3 (Ce.av.map aP.c),D.fr 118 8 (Ce.nodes.map Node.c),D.fr 53 2 (Ce.facts.map aE.c),D.int .i64 Ce.bw])]).w (wL h35)).a [.dc (D.bool FB)]).w (ql h37))
        obtain⟨h38,h⟩|⟨h38,h⟩:=aM h
        ·have h:=aG h;subst h;exact(wm.b h38).ret hΓ
        ·obtain⟨O9,h40,h⟩:=aD h;have AR:=(((wm.b h38).a [.dc (D.int .i64 O9)]).w (show Good prog 21 [D.agg [D.sl (O6.1.rules.map aN.c),D.sl (O6.1.ends.map dL),D.sl (O6.1.av.map aP.c),D.sl (O6.1.nodes.map Node.c),D.sl (O6.1.facts.map aE.c),D.int .i64 DK.bw],D.int .i64 1] (D.int .i64 O9)from by first| (simpa only[bN,bG,bW,dB,cm]using iX h40)|exact iX h40| (have t:=iX h40;simp only[bN,dB,cm,aF.c]at t;exact t)))
         obtain⟨h41,h⟩|⟨h41,h⟩:=aM h
         ·have h:=aG h;subst h;exact(AR.b h41).ret hΓ
         ·obtain⟨h42,h⟩|⟨h42,h⟩:=aM h
          ·have h:=aG h;subst h;exact((AR.b h41).b h42).ret hΓ
          ·have h:=aG h;subst h;exact((AR.b h41).b h42).ret hΓ
namespace LawRebuildNetwork
theorem both(n:aF)(h:n.wt<=1048576):∃s,k8 n=some s/\iM n=some s/\(aF.Ov s:Int)<=4611686018427387000:=by
 have hok:=zK.Cq h;refine⟨_,aDv n hok,aDa n hok,?_⟩;unfold a2t;cases hb:WQ n with
 |false=>rw[aZ];unfold aF.Ov a45;simp[iL]
 |true=>
  rw[aV];obtain⟨h1,_,_,_⟩:=Ot hb;rcases Qi n.facts (DE n.rules [] 0) 0 with e|⟨fs,t,g1,g2,g3,g4⟩
  ·rw[e];have:=Yl 0 h1 OI hok.rules;omega
  ·rw[g4];have:=Yl t g1 g3 (by rw[g2];exact hok.rules);omega
theorem a8R(n:aF)(hn:yE (aF.c n)):kD n=some true:=by
 unfold kD;obtain⟨r0,e0,l0,w0⟩:=UD n hn 1048576 (by omega) (by omega);rw[e0,aA];by_cases c0:r0<0
 ·simp[c0]
 have n0:decide ((r0:Int)<0)=false:=bA c0;rw[n0,aZ];have w0:=w0 (by omega);have hw:aF.wt n<=1048576:=by omega
 obtain⟨s,es,ei,hm⟩:=both n (by omega);have b0:=aF.a5R n;obtain⟨x0,m0,_⟩:=To n 1 (by omega) (by omega);obtain⟨g0,p0,q0,z0⟩:=KO s 1 (by omega) (by omega);have aDk:decide (((1+((aF.Ov n:Nat):Int)):Int)<0)=false:=bA (by omega);have aDl:decide (((1+((aF.Ov s:Nat):Int)):Int)<0)=false:=bA (by omega);simp only[es,ei,UH n (by omega),TM,m0,z0,p0,q0,aDk,aDl,aA,Ch,bP,cR,aZ,aV,gL,cy]
theorem a2T(n:aF):Good prog 5 [.agg (aF.c n)] (.bool true):=
 Good.a8W ⟨_,func5,rfl,by decide⟩ fun h=>ye (a8R n (dY.agg (h _ (by simp))))
end LawRebuildNetwork
open Go.RowKit
inductive Sh where
 |int (k:IntKind)
 |str
 |bool
 |sl (row:List Sh)
mutual
inductive Rn:Sh->D->Prop
 |int (k:IntKind) (n:Int):Rn (.int k) (.int k n)
 |str (s:Bytes):Rn .str (.str s)
 |bool (b:Bool):Rn .bool (.bool b)
 |sl (row:List Sh) (rows:List aR):(∀r∈rows,p7 row r)->Rn (.sl row) (.sl rows)
inductive p7:List Sh->List D->Prop
 |nil:p7 [] []
 |cons (s:Sh) (ss:List Sh) (d:D) (ds:aR):Rn s d->p7 ss ds->p7 (s::ss) (d::ds)
end
theorem p7.app{s1 s2:List Sh}{d1 d2:aR}(h1:p7 s1 d1)(h2:p7 s2 d2):p7 (s1++s2) (d1++d2):=by
 induction s1 generalizing d1 with
 |nil=>cases h1;exact h2
 |cons s s1 ih=>cases h1 with|cons _ _ d ds h h'=>exact .cons _ _ _ _ h (ih h')
theorem p7.length{s:List Sh}{d:aR}(h:p7 s d):d.length=s.length:=by
 induction s generalizing d with
 |nil=>cases h;rfl
 |cons s ss ih=>cases h with|cons _ _ d ds h h'=>simp[ih h']
def Ts(P:Program):Nat->List Field->List (List Sh)->Bool
 |_,[],[]=>true
 |off,f::fs,r::rs=>(f.offset==off)&&(r.length==P.cellsOf f.type)&&Ts P (off+r.length) fs rs
 |_,_,_=>false
def Cl(P:Program):Nat->TypeId->Option (List Sh)
 |0,_=>none
 |n+1,t=>match P.underlying t with
  |some .bool=>some [.bool]
  |some (.int k)=>some [.int k]
  |some .string=>some [.str]
  |some (.slice e)=>(Cl P n e).bind fun r=>if r.length=P.cellsOf e/\0<r.length then some [.sl r]else none
  |some (.struct fs)=>(fs.toList.mapM fun f=>Cl P n f.type).bind fun rs=>if Ts P 0 fs.toList rs=true/\rs.flatten.length=P.cellsOf t then some rs.flatten else none
  |_=>none
theorem VX{α β:Type}{f:α->Option β}:∀ {l:List α} {ys:List β},l.mapM f=some ys->ys.length=l.length/\∀(i:Nat) x,l[i]?=some x->∃y,ys[i]?=some y/\f x=some y:=by
 intro l
 induction l with
 |nil=>intro ys h;simp at h;subst h;simp
 |cons a l ih=>
  intro ys h;simp only[GK,Option.bind_eq_bind,Option.pure_def]at h;cases ha:f a with
  |none=>simp[ha]at h
  |some b=>
   cases hl:l.mapM f with
   |none=>simp[ha,hl]at h
   |some bs=>
    simp[ha,hl]at h;subst h;obtain⟨h1,h2⟩:=ih hl;refine⟨by simp[h1],fun i x hx=>?_⟩;cases i with
    |zero=>simp at hx;subst hx;exact⟨b,by simp,ha⟩
    |succ i=>simp at hx;obtain⟨y,k1,k2⟩:=h2 i x hx;exact⟨y,by simpa using k1,k2⟩
section
variable{P:Program}{w:World}{H:Type}{enc:TypeId×Value->H}{base:Nat}{sp:Nat->Bool}{held:Bool}
theorem QV{a:Addr}{n:Nat}{cs:br}(h:w.cells? base a n=some cs):cs.length=n/\∀(j:Nat) c,cs[j]?=some c->w.cell? (a.add j)=some c:=by
 unfold World.cells? at h;split at h
 ·obtain⟨h1,h2⟩:=VX h;refine⟨by simpa using h1,fun j c hj=>?_⟩;have hlt:j<n:=by have:=(aH.1 hj).1;rw[h1]at this;simpa using this
  obtain⟨y,k1,k2⟩:=h2 j j (by simp[hlt]);rw[hj]at k1;cases k1;exact k2
 ·cases h
theorem a8S{k:IntKind}{n:Int}(h:(Lit.int k n).wf=true):tv k n:=by
 simpa[Lit.wf,tv]using h
theorem Z3:∀(fuel:Nat) {t:TypeId} {cs:br} {d:DataW H} {ps:List MemPlace} {n:Nat} {shs:List Sh},
 DataW.trod enc P w base sp held fuel t cs=some (d,ps)->Cl P n t=some shs->∃ds bs,mZ w cs ds bs/\p7 shs ds:=by
 intro fuel
 induction fuel with
 |zero=>intro t cs d ps n shs h;simp[DataW.trod]at h
 |succ fuel ih=>
  intro t cs d ps n shs h hf;cases n with
  |zero=>simp[Cl]at hf
  |succ n=>
   simp only[Cl]at hf;simp only[DataW.trod]at h;split at hf
   ·rename_i hu;cases hf;simp only[hu]at h;split at h<;>rename_i h1<;>try(simp at h1;done)
    all_goals try(cases h;done)
    all_goals simp at h1
    exact⟨[.bool _],[],.cons _ _ _ _ [] [] rfl (.bool _) .nil,.cons _ _ _ _ (.bool _) .nil⟩
   ·rename_i k hu;cases hf;simp only[hu]at h;split at h<;>rename_i h1<;>try(simp at h1;done)
    all_goals try(cases h;done)
    all_goals simp at h1
    rename_i k1 k2 m _;subst h1;split at h
    ·rename_i hc;obtain⟨rfl,hwf⟩:=hc;exact⟨[.int _ _],[],.cons _ _ _ _ [] [] rfl (.int _ _ (a8S hwf)) .nil,.cons _ _ _ _ (.int _ _) .nil⟩
    ·cases h
   ·rename_i hu;cases hf;simp only[hu]at h;split at h<;>rename_i h1<;>try(simp at h1;done)
    all_goals try(cases h;done)
    all_goals simp at h1
    split at h
    ·rename_i hc;exact⟨[.str _],[],.cons _ _ _ _ [] [] rfl (.str _ hc) .nil,.cons _ _ _ _ (.str _) .nil⟩
    ·cases h
   ·rename_i e hu;cases hr:Cl P n e with
    |none=>simp[hr]at hf
    |some r=>
     simp only[hr,aA]at hf;split at hf
     ·rename_i hsz;cases hf;simp only[hu]at h;split at h<;>rename_i h1<;>try(simp at h1;done)
      all_goals try(cases h;done)
      all_goals simp at h1
      ·exact⟨[.sl []],[],.cons _ _ _ _ [] [] rfl .BE .nil,.cons _ _ _ _ (.sl _ _ (by simp)) .nil⟩
      ·rename_i a len cap
       try subst h1
       split at h
       ·rename_i hc;cases hm:(List.range len).mapM (fun i=>(w.cells? base (a.add (i*P.cellsOf e)) (P.cellsOf e)).bind (DataW.trod enc P w base sp held fuel e))with
        |none=>simp[hm]at h
        |some elems=>
         obtain⟨_,hall⟩:=VX hm;have hel:∀i,i<len->∃cs ds bs,w.cells? base (a.add (i*P.cellsOf e)) (P.cellsOf e)=some cs/\mZ w cs ds bs/\p7 r ds:=by
          intro i hi;obtain⟨y,_,hy⟩:=hall i i (by simp[hi]);obtain⟨cs,hcs,hy⟩:=oG.1 hy;obtain⟨ds,bs,k1,k2⟩:=ih (d:=y.1) (ps:=y.2) hy hr;exact⟨cs,ds,bs,hcs,k1,k2⟩
         by_cases hl0:len=0
         ·subst hl0;exact⟨[.sl []],[],.cons _ _ _ _ [] [] rfl (.pQ a cap hc.2.2) .nil,.cons _ _ _ _ (.sl _ _ (by simp)) .nil⟩
         ·
          obtain⟨cs0,ds0,bs0,a1d,hr0,aFC⟩:=hel 0 (by omega);obtain⟨hl1,hat⟩:=QV a1d;have hpos:0<cs0.length:=by rw[hl1];omega
          have hc0:=hat 0 cs0[0] (ai hpos);have ha0:(a.add (0*P.cellsOf e)).add 0=a:=by simp[Addr.add]
          rw[ha0]at hc0;obtain⟨b,off,spot⟩:=a;have aAC:spot=none:=by
           cases spot with
           |none=>rfl
           |some x=>
            unfold World.cell? at hc0;split at hc0
            ·simp at hc0
            ·cases hc0
          subst aAC;have hb:b<w.heap.size:=World.block_lt_of_cell? w _ hc0;have build:∀m,m<=len->∃(rows:List aR) (cs:br) (bs:af),rows.length=m/\cs.length=m*P.cellsOf e/\(∀(j:Nat) c,cs[j]?=some c->w.cell? ⟨b,off+j,none⟩=some c)/\
           mZ w cs rows.flatten bs/\∀x∈rows,p7 r x:=by
           intro m
           induction m with
           |zero=>intro _;exact⟨[],[],[],rfl,by simp,by simp,.nil,by simp⟩
           |succ m ihm=>
            intro hm1;obtain⟨rows,cs,bs,q1,q2,q3,q4,q5⟩:=ihm (by omega);obtain⟨cs',ds',bs',g1,g2,g3⟩:=hel m (by omega);obtain⟨g4,g5⟩:=QV g1;refine⟨rows++[ds'],cs++cs',bs++bs',by simp[q1],by simp[q2,g4,kn],?_,?_,?_⟩
            ·intro j c hj;by_cases hlt:j<cs.length
             ·rw[b9 hlt]at hj;exact q3 j c hj
             ·rw[bE (by omega)]at hj;have:=g5 _ c hj;rw[Addr.add_lit,Addr.add_lit,q2]at this;have e1:off+m*P.cellsOf e+(j-m*P.cellsOf e)=off+j:=by omega
              rw[e1]at this;exact this
            ·rw[mI];have:=q4.app g2;simpa using this
            ·intro x hx;rcases au.1 hx with hx|hx
             ·exact q5 x hx
             ·simp at hx;subst hx;exact g3
          obtain⟨rows,cs,bs,q1,q2,q3,q4,q5⟩:=build len (bR _);subst q1;refine⟨[.sl rows],b::bs,?_,.cons _ _ _ _ (.sl _ _ q5) .nil⟩;have:=mZ.cons (w:=w) _ [] _ [] _ [] rfl (Rd.sl b off cap r.length rows cs bs hb hc.2.1 hc.2.2 (fun x hx=>(q5 x hx).length) q3 q4) .nil;simpa using this
       ·cases h
     ·cases hf
   ·rename_i fs hu;cases hr:fs.toList.mapM (fun f=>Cl P n f.type)with
    |none=>simp[hr]at hf
    |some rs=>
     simp only[hr,aA]at hf;split at hf
     ·rename_i hok;cases hf;simp only[hu]at h;split at h
      ·rename_i hlen;cases hm:fs.toList.mapM (fun f=>DataW.trod enc P w base sp held fuel f.type ((cs.drop f.offset).take (P.cellsOf f.type)))with
       |none=>simp[hm]at h
       |some xs=>
        have go:∀(fl:List Field) (rl:List (List Sh)) (xl:List (DataW H×List MemPlace)) (off:Nat),fl.mapM (fun f=>Cl P n f.type)=some rl->
         fl.mapM (fun f=>DataW.trod enc P w base sp held fuel f.type ((cs.drop f.offset).take (P.cellsOf f.type)))=some xl->Ts P off fl rl=true->
         ∃ds bs,mZ w ((cs.drop off).take rl.flatten.length) ds bs/\p7 rl.flatten ds:=by
         intro fl
         induction fl with
         |nil=>
          intro rl xl off h1 _ _;simp at h1;subst h1;exact⟨[],[],by simpa using mZ.nil,.nil⟩
         |cons f fl ihf=>
          intro rl xl off h1 h2 h3;simp only[GK,Option.bind_eq_bind,Option.pure_def]at h1 h2;cases a1:Cl P n f.type with
          |none=>simp[a1]at h1
          |some r1=>
           cases a2:fl.mapM (fun f=>Cl P n f.type)with
           |none=>simp[a1,a2]at h1
           |some rl'=>
            simp[a1,a2]at h1;subst h1;cases b1:DataW.trod enc P w base sp held fuel f.type ((cs.drop f.offset).take (P.cellsOf f.type))with
            |none=>simp[b1]at h2
            |some x1=>
             cases b2:fl.mapM (fun f=>DataW.trod enc P w base sp held fuel f.type ((cs.drop f.offset).take (P.cellsOf f.type)))with
             |none=>simp[b1,b2]at h2
             |some xl'=>
              simp only[Ts,aY,cj]at h3;obtain⟨⟨o1,o2⟩,o3⟩:=h3;obtain⟨ds1,bs1,k1,k2⟩:=ih (d:=x1.1) (ps:=x1.2) b1 a1;obtain⟨ds2,bs2,k3,k4⟩:=ihf rl' xl' (off+r1.length) a2 b2 o3;refine⟨ds1++ds2,bs1++bs2,?_,by simpa using k2.app k4⟩;have e1:(cs.drop off).take (r1::rl').flatten.length=(cs.drop f.offset).take (P.cellsOf f.type)++(cs.drop (off+r1.length)).take rl'.flatten.length:=by
               rw[o1,<-o2,eV,aX,<-gz,List.take_add]
              rw[e1];exact k1.app k3
        obtain⟨ds,bs,k1,k2⟩:=go fs.toList rs xs 0 hr hm hok.1;rw[GJ,hok.2,<-hlen,List.take_length]at k1;exact⟨ds,bs,k1,k2⟩
      ·cases h
     ·cases hf
   ·cases hf
def a1B(P:Program)(n:Nat)(t:TypeId)(d:D):Prop:=
 (CL P t=some true/\∃shs cells,Cl P n t=some shs/\d=.agg cells/\p7 shs cells)\/(CL P t=some false/\∃sh,Cl P n t=some [sh]/\Rn sh d)
inductive SA(P:Program)(n:Nat):List TypeId->List D->Prop
 |nil:SA P n [] []
 |cons (t:TypeId) (ts:List TypeId) (d:D) (ds:aR):a1B P n t d->SA P n ts ds->SA P n (t::ts) (d::ds)
def Uo(P:Program)(n:Nat)(t:TypeId):Bool:=
 match CL P t,Cl P n t with
 |some true,some _=>(match P.underlying t with|some (.struct _)=>true|_=>false)
 |some false,some [_]=>true
 |_,_=>false
theorem a2n{n:Nat}{t:TypeId}{v:Value}{d:DataW H}{ps:List MemPlace}(hok:Uo P n t=true)(hval:Value.okWide P w .any base t v)(h:DataW.Trod enc P w 0 sp held t v d ps):
 ∃x bs,Rd w v x bs/\a1B P n t x:=by
 obtain⟨fuel,h⟩:=h;unfold Uo at hok;split at hok
 ·rename_i shs ht hf;split at hok
  ·rename_i fs hu;unfold Value.okWide at hval;simp only[hu]at hval;obtain⟨cs,rfl,_⟩:=hval;obtain⟨ds,bs,k1,k2⟩:=Z3 fuel h hf;refine⟨.agg ds,bs,?_,.inl ⟨ht,shs,ds,hf,rfl,k2⟩⟩;have:=Rd.agg (w:=w) cs.toList ds bs k1;simpa using this
  ·cases hok
 ·rename_i sh ht hf;have hone:v.oneCell'=true:=by
   unfold CL at ht;split at ht<;>first
    | (cases ht;done)
    |skip
   rename_i dsc h1 h2 hu;unfold Value.okWide at hval;rw[hu]at hval;cases v with
   |agg cs=>
    cases dsc<;>first
     | (exfalso;exact h1 _ rfl)
     | (exfalso;exact h2 _ _ rfl)
     | (simp[Cell.okWide,Cell.ok,hu]at hval)
   |tuple vs=>
    cases dsc<;>first
     | (exfalso;exact h1 _ rfl)
     | (exfalso;exact h2 _ _ rfl)
     | (simp[Cell.okWide,Cell.ok,hu]at hval)
   |_=>rfl
  rw[Sk hone]at h;obtain⟨ds,bs,k1,k2⟩:=Z3 fuel h hf;cases k2 with
  |cons _ _ x ds' hx hn=>
   cases hn;cases k1 with
   |cons _ _ _ _ b1 b2 _ hrd hn=>exact⟨x,b1,hrd,.inr ⟨ht,sh,hf,hx⟩⟩
 ·cases hok
theorem a09{n:Nat}:∀ {ts:List TypeId} {vs:br} {ds:List (DataW H)} {ps:List MemPlace},(∀t∈ts,Uo P n t=true)->
 (∀(j:Nat) t v,ts[j]?=some t->vs[j]?=some v->Value.okWide P w .any base t v)->DataW.TrodAll enc P w 0 sp held ts vs ds ps->
 ∃xs bs,Y8 w vs xs bs/\SA P n ts xs/\ds.length=ts.length:=by
 intro ts
 induction ts with
 |nil=>
  intro vs ds ps _ _ h;cases vs with
  |nil=>cases ds with
   |nil=>exact⟨[],[],.nil,.nil,rfl⟩
   |cons=>cases h
  |cons=>cases ds<;>cases h
 |cons t ts ih=>
  intro vs ds ps hok hval h;cases vs with
  |nil=>cases h
  |cons v vs=>
   cases ds with
   |nil=>cases h
   |cons d ds=>
    obtain⟨p,q,h1,h2,rfl⟩:=h;obtain⟨x,b1,k1,k2⟩:=a2n (hok t (by simp)) (hval 0 t v rfl rfl) h1;obtain⟨xs,b2,k3,k4,k5⟩:=ih (fun u hu=>hok u (by simp[hu])) (fun j u y hj hv=>hval (j+1) u y (by simpa using hj) (by simpa using hv)) h2;exact⟨x::xs,b1++b2,.cons _ _ _ _ _ _ k1 k3,.cons _ _ _ _ k2 k4,by simp[k5]⟩
theorem S4{W W':World}(hl:laidOutB P=true)(hb:Below W.heap.size W W')(spn:Nat->Bool):∀ {ts:List TypeId} {vs:br} {ds:List (DataW H)} {ps:List MemPlace},
 (∀t∈ts,P.readableRec t=true/\t<P.types.size)->DataW.TrodAll enc P W 0 (fun _=>true) true ts vs ds ps->(∀x∈ps,x.block<W.heap.size)->(∀x∈ps,spn x.block=true)->
 DataW.TrodAll enc P W' 0 spn true ts vs ds ps:=by
 intro ts
 induction ts with
 |nil=>intro vs ds ps _ h _ _;cases vs<;>cases ds<;>first|exact h|cases h
 |cons t ts ih=>
  intro vs ds ps ht h hlt hsp;cases vs with
  |nil=>cases h
  |cons v vs=>
   cases ds with
   |nil=>cases h
   |cons d ds=>
    obtain⟨p,q,h1,h2,rfl⟩:=h;refine⟨p,q,?_,ih (fun u hu=>ht u (by simp[hu])) h2 (fun x hx=>hlt x (by simp[hx])) (fun x hx=>hsp x (by simp[hx])),rfl⟩;exact WideElems.Trod_stays hl (ht t (by simp)).1 (ht t (by simp)).2 h1 (fun x hx=>hb.same (hlt x (by simp[hx]))) (fun x hx=>hsp x (by simp[hx]))
theorem EL.yq{w:World}{v:Value}{b:Bool}{bs ts us:af}(h:EL w v (.bool b) bs ts us):v=.bool b:=by
 cases h with|v h=>cases h with|cell h=>cases h with|pure h=>cases h;rfl
theorem Th{f:FuncId}{fn:Func}{s:ChangeSpec}{n rt:Nat}{W:World}{args:Array Value}{ds gs:List (DataW H)}{before:List MemPlace}
 (hl:laidOutB P=true) (YZ:∀t∈fn.params.toList,Uo P n t=true/\P.readableRec t=true/\t<P.types.size) (hres:fn.resultTypes= #[rt]) (hrt:P.underlying rt=some .bool)
 (hv:s.vars=[]) (hfn:∀ds:List (DataW H),ds.length=fn.params.toList.length->s.fn H ds= {results:=[.lit (.bool true)],args:=ds})
 (hvs:TB W fun _=>False) (pX:∀xs,SA P n fn.params.toList xs->Good P f xs (.bool true))
 (hval:∀(j:Nat) t v,fn.params[j]?=some t->args[j]?=some v->Value.okWide P W .any base t v)
 (hW:DataW.Whole enc P fn.params.toList s.vars false W args.toList ds gs before):
 Calls P f args W fun e W'=>∃v,e=.returned v/\s.post enc P fn false true false false W args v W':=by
 have hW':=hW;obtain⟨p,q,hA,hV,hpq,hz,_⟩:=hW;have hgs:gs=[]/\q=[]:=by
  rw[hv]at hV;cases gs with
  |nil=>exact⟨rfl,hV⟩
  |cons=>cases hV
 obtain⟨rfl,rfl⟩:=hgs;rw[cN]at hpq;subst hpq;obtain⟨xs,bs,k1,k2,k3⟩:=a09 (fun t ht=>(YZ t ht).1) (fun j t v hj hv=>hval j t v (by simpa using hj) (by simpa using hv)) hA;have hc:=(pX xs k2).2 W (fun _=>0) args.toList bs hvs k1 (fun _ _=>rfl) (fun b hb=>absurd rfl hb) (fun _=>GM _);rw[kj]at hc;refine hc.mono ?_;rintro e W' ⟨v,bs',ts,us,rfl,hb,hr,_⟩;refine⟨v,rfl,?_⟩;obtain rfl:=hr.yq;have hlt:=hW'.lt;have hfd:=hfn ds k3;have a1r:∀(b:Nat) (sp:Nat->Bool) (hd:Bool),DataW.TrodAll enc P W' b sp hd fn.resultTypes.toList ((Value.bool true).resultList fn.resultTypes.size) [.lit (.bool true)] []:=by
  intro b sp hd;rw[hres];exact⟨[],[],⟨1,by simp[DataW.trod,hrt,Value.cells]⟩,rfl,rfl⟩
 have hargs:∀spn:Nat->Bool,(∀x∈before,spn x.block=true)->DataW.TrodAll enc P W' 0 spn true fn.params.toList args.toList ds before:=
  fun spn hsp=>S4 hl hb spn (fun t ht=>(YZ t ht).2) hA hlt hsp
 have hvars:∀spn:Nat->Bool,DataW.TrodVars enc P W' spn s.vars [] []:=fun spn=>by rw[hv];rfl
 unfold ChangeSpec.post;refine⟨ds,[],before,[],before,[],hW',?_,?_,?_,hb.frame _,fun h=>by cases h⟩
 ·rw[cN,hfd];exact a1r _ _ _
 ·rw[cN,hfd];exact hargs _ (fun x hx=>by simpa using hlt x hx)
 ·rw[cN,hfd];exact hvars _
end
abbrev qv:=List Sh
theorem ZW{α:Type}{c:α->aR}{row:qv}(hc:∀r,p7 row r->∃x,r=c x):∀ {rows:List aR},(∀r∈rows,p7 row r)->∃l:List α,rows=l.map c:=by
 intro rows
 induction rows with
 |nil=>intro _;exact⟨[],rfl⟩
 |cons r rows ih=>
  intro h;obtain⟨x,rfl⟩:=hc r (h r (by simp));obtain⟨l,rfl⟩:=ih (fun s hs=>h s (by simp[hs]));exact⟨x::l,rfl⟩
theorem sP{α:Type}{c:α->aR}{row:qv}(hc:∀r,p7 row r->∃x,r=c x){d:D}(h:Rn (.sl row) d):∃l:List α,d=.sl (l.map c):=by
 cases h with
 |sl _ rows hr=>
  obtain⟨l,rfl⟩:=ZW hc hr;exact⟨l,rfl⟩
theorem sj{d:D}(h:Rn .str d):∃s,d=.str s:=by cases h;exact⟨_,rfl⟩
theorem A5{k:IntKind}{d:D}(h:Rn (.int k) d):∃n,d=.int k n:=by cases h;exact⟨_,rfl⟩
theorem cZ{s:Sh}{ss:qv}{ds:aR}(h:p7 (s::ss) ds):∃d r,ds=d::r/\Rn s d/\p7 ss r:=by
 cases h with|cons _ _ d r h1 h2=>exact⟨d,r,rfl,h1,h2⟩
theorem sn{ds:aR}(h:p7 [] ds):ds=[]:=by cases h;rfl
theorem Me(r:aR)(h:p7 [.str] r):∃s,r=tx s:=by
 obtain⟨_,_,rfl,h1,h⟩:=cZ h;cases sn h;obtain⟨s,rfl⟩:=sj h1;exact⟨s,rfl⟩
theorem a4h(r:aR)(h:p7 [.int .i64] r):∃s,r=dL s:=by
 obtain⟨_,_,rfl,h1,h⟩:=cZ h;cases sn h;obtain⟨s,rfl⟩:=A5 h1;exact⟨s,rfl⟩
abbrev U9:List Sh:=[.str,.sl [.str]]
theorem OL(r:aR)(h:p7 U9 r):∃x:aE,r=x.c:=by
 obtain⟨_,_,rfl,h1,h⟩:=cZ h;obtain⟨_,_,rfl,h2,h⟩:=cZ h;cases sn h;obtain⟨a,rfl⟩:=sj h1;obtain⟨b,rfl⟩:=sP Me h2;exact⟨⟨a,b⟩,rfl⟩
abbrev a3T:List Sh:=[.str,.str]
theorem ZU(r:aR)(h:p7 a3T r):∃x:aS,r=x.c:=by
 obtain⟨_,_,rfl,h1,h⟩:=cZ h;obtain⟨_,_,rfl,h2,h⟩:=cZ h;cases sn h;obtain⟨a,rfl⟩:=sj h1;obtain⟨b,rfl⟩:=sj h2;exact⟨⟨a,b⟩,rfl⟩
abbrev a3R:List Sh:=[.int .i64,.str,.sl [.str],.str,.str]
theorem ZS(r:aR)(h:p7 a3R r):∃x:aQ,r=x.c:=by
 obtain⟨_,_,rfl,h1,h⟩:=cZ h;obtain⟨_,_,rfl,h2,h⟩:=cZ h;obtain⟨_,_,rfl,h3,h⟩:=cZ h;obtain⟨_,_,rfl,h4,h⟩:=cZ h;obtain⟨_,_,rfl,h5,h⟩:=cZ h;cases sn h;obtain⟨a,rfl⟩:=A5 h1;obtain⟨b,rfl⟩:=sj h2;obtain⟨c,rfl⟩:=sP Me h3;obtain⟨d,rfl⟩:=sj h4;obtain⟨e,rfl⟩:=sj h5;exact⟨⟨a,⟨b,c⟩,d,e⟩,rfl⟩
abbrev Vq:List Sh:=[.int .i64,.str,.sl [.str]]
theorem Uz(r:aR)(h:p7 Vq r):∃x:Action,r=x.c:=by
 obtain⟨_,_,rfl,h1,h⟩:=cZ h;obtain⟨_,_,rfl,h2,h⟩:=cZ h;obtain⟨_,_,rfl,h3,h⟩:=cZ h;cases sn h;obtain⟨a,rfl⟩:=A5 h1;obtain⟨b,rfl⟩:=sj h2;obtain⟨c,rfl⟩:=sP Me h3;exact⟨⟨a,⟨b,c⟩⟩,rfl⟩
abbrev a3U:List Sh:=[.str,.int .i64,.sl a3R,.sl Vq]
theorem ZV(r:aR)(h:p7 a3U r):∃x:aN,r=x.c:=by
 obtain⟨_,_,rfl,h1,h⟩:=cZ h;obtain⟨_,_,rfl,h2,h⟩:=cZ h;obtain⟨_,_,rfl,h3,h⟩:=cZ h;obtain⟨_,_,rfl,h4,h⟩:=cZ h;cases sn h;obtain⟨a,rfl⟩:=sj h1;obtain⟨b,rfl⟩:=A5 h2;obtain⟨c,rfl⟩:=sP ZS h3;obtain⟨d,rfl⟩:=sP Uz h4;exact⟨⟨a,b,c,d⟩,rfl⟩
abbrev Yw:List Sh:=[.sl U9,.sl a3T]
theorem Wk(r:aR)(h:p7 Yw r):∃x:aI,r=x.c:=by
 obtain⟨_,_,rfl,h2,h⟩:=cZ h;obtain⟨_,_,rfl,h3,h⟩:=cZ h;cases sn h;obtain⟨b,rfl⟩:=sP OL h2;obtain⟨c,rfl⟩:=sP ZU h3;exact⟨⟨b,c⟩,rfl⟩
abbrev Yv:List Sh:=[.str,.sl [.str],.sl U9]
theorem Wj(r:aR)(h:p7 Yv r):∃x:aP,r=x.c:=by
 obtain⟨_,_,rfl,h1,h⟩:=cZ h;obtain⟨_,_,rfl,h2,h⟩:=cZ h;obtain⟨_,_,rfl,h3,h⟩:=cZ h;cases sn h;obtain⟨v0,rfl⟩:=sj h1;obtain⟨v1,rfl⟩:=sP Me h2;obtain⟨v2,rfl⟩:=sP OL h3;exact⟨⟨⟨v0,v1⟩,v2⟩,rfl⟩
abbrev a3S:List Sh:=[.int .i64,.int .i64,.str,.sl [.str],.str,.str,.int .i64,.sl Yw]
theorem ZT(r:aR)(h:p7 a3S r):∃x:Node,r=x.c:=by
 obtain⟨_,_,rfl,h1,h⟩:=cZ h;obtain⟨_,_,rfl,h2,h⟩:=cZ h;obtain⟨_,_,rfl,h3,h⟩:=cZ h;obtain⟨_,_,rfl,h4,h⟩:=cZ h;obtain⟨_,_,rfl,h5,h⟩:=cZ h;obtain⟨_,_,rfl,h6,h⟩:=cZ h;obtain⟨_,_,rfl,h7,h⟩:=cZ h;obtain⟨_,_,rfl,h8,h⟩:=cZ h;cases sn h;obtain⟨v0,rfl⟩:=A5 h1;obtain⟨v1,rfl⟩:=A5 h2;obtain⟨v2,rfl⟩:=sj h3;obtain⟨v3,rfl⟩:=sP Me h4;obtain⟨v4,rfl⟩:=sj h5;obtain⟨v5,rfl⟩:=sj h6;obtain⟨v6,rfl⟩:=A5 h7;obtain⟨v7,rfl⟩:=sP Wk h8;exact⟨⟨v0,⟨v1,⟨v2,v3⟩,v4,v5⟩,v6,v7⟩,rfl⟩
abbrev a0J:List Sh:=[.sl a3U,.sl [.int .i64],.sl Yv,.sl a3S,.sl U9,.int .i64]
theorem TJ(r:aR)(h:p7 a0J r):∃x:aF,r=x.c:=by
 obtain⟨_,_,rfl,h1,h⟩:=cZ h;obtain⟨_,_,rfl,h2,h⟩:=cZ h;obtain⟨_,_,rfl,h3,h⟩:=cZ h;obtain⟨_,_,rfl,h4,h⟩:=cZ h;obtain⟨_,_,rfl,h5,h⟩:=cZ h;obtain⟨_,_,rfl,h6,h⟩:=cZ h;cases sn h;obtain⟨v0,rfl⟩:=sP ZV h1;obtain⟨v1,rfl⟩:=sP a4h h2;obtain⟨v2,rfl⟩:=sP Wj h3;obtain⟨v3,rfl⟩:=sP ZT h4;obtain⟨v4,rfl⟩:=sP OL h5;obtain⟨v5,rfl⟩:=A5 h6;exact⟨⟨v0,v1,v2,v3,v4,v5⟩,rfl⟩
section
variable{P:Program}{n:Nat}{t:TypeId}{d:D}
theorem a1B.struct{α:Type}{c:α->aR}{shs:qv}(hc:∀r,p7 shs r->∃x,r=c x)(ha:CL P t=some true)(hf:Cl P n t=some shs)(h:a1B P n t d):∃x,d=.agg (c x):=by
 rcases h with⟨_,aFu,cells,h1,rfl,h2⟩|⟨h1,_⟩
 ·rw[hf]at h1;cases h1;obtain⟨x,rfl⟩:=hc _ h2;exact⟨x,rfl⟩
 ·rw[ha]at h1;cases h1
end
open Go.ChangeShapes Go.WideShapes Go.ChangeAt Go.RowKit
def jp0(P:Program)(f:FuncId)(fn:Func)(s:ChangeSpec)(c:OpenClaim):Bool:=(c.wf (OpenSpec.ofChange s)&&laidOutB P&&mapsRowed P)
def jp1(P:Program)(f:FuncId)(fn:Func)(s:ChangeSpec)(c:OpenClaim):Bool:=(fn.params.all (P.readableRec ·)&&namedTie P c.named s.vars)&&((c.stops==[])&&(P.stops==[])&&(c.knobs==[])&&(P.stopKnobs==[]))&&((c.maps==(fn.params.toList++s.plain.varTypes P).any (P.mapsRec ·))&&(c.ifaces==(fn.params.toList++s.plain.varTypes P).any (P.ifacesRec ·))&&(c.mapsOut==P.mapsAmong fn.resultTypes.toList))&&((c.loops==(fn.params.toList++s.plain.varTypes P).any (P.loopsFrom ·))&&(c.wideKeys==(fn.params.toList++s.plain.varTypes P++fn.resultTypes.toList).any (P.wideKeysFrom ·)))&&(s.vars.all (P.varReadable ·)&&fn.resultTypes.all (fun t=>P.readableRec t&&decide (t<P.types.size))&&(c.ifacesOut==fn.resultTypes.toList.any (P.ifacesRec ·))&&(c.loopsOut==fn.resultTypes.toList.any (P.loopsFrom ·)))&&((c.kinds==(if c.domain.isEmpty then []else fn.params.toList.map fun t=>match P.underlying t with|some (.int k)=>some k|_=>none))&&(c.pinned==c.pinnedBy))&&((c.veiled==(fn.params.toList++s.plain.varTypes P++fn.resultTypes.toList).any (P.veiledRec ·))&&c.veiledFits P fn.params.toList (fn.params.toList++s.plain.varTypes P++fn.resultTypes.toList))
def jp2(P:Program)(f:FuncId)(fn:Func)(s:ChangeSpec)(c:OpenClaim):Bool:=(c.inPlace==P.inPlace f)&&(c.unfollowed==P.unfollowed f)&&(c.recurses==P.recurses f)&&(c.named==P.varsNamed f)
def jp3(P:Program)(f:FuncId)(fn:Func)(s:ChangeSpec)(c:OpenClaim):Bool:=(c.plainKeys==P.plainKeys)&&(c.shortTexts.isNone&&P.stopsHeard)&&P.mayEnter&&(c.lifted==P.liftsFinal)&&(P.make==some c.make)
theorem Zt{P:Program}{f:FuncId}{fn:Func}{s:ChangeSpec}{c:OpenClaim}(h0:jp0 P f fn s c=true)(h1:jp1 P f fn s c=true)(h2:jp2 P f fn s c=true)(h3:jp3 P f fn s c=true):joinedFacts P f fn s c=true:=by
 unfold jp0 at h0;unfold jp1 at h1;unfold jp2 at h2;unfold jp3 at h3;unfold joinedFacts;simp only[aY]at h0 h1 h2 h3⊢;obtain⟨⟨aFw,aFx⟩,aFy⟩:=h0;obtain⟨⟨⟨⟨⟨⟨⟨aFz,aG0⟩,⟨⟨⟨aG1,aG2⟩,aG3⟩,aG4⟩⟩,⟨⟨aG9,aGA⟩,aGB⟩⟩,⟨aGC,aGD⟩⟩,⟨⟨⟨aGE,aGF⟩,aGG⟩,aGH⟩⟩,⟨aEe,aEf⟩⟩,⟨aEg,aEh⟩⟩:=h1;obtain⟨⟨⟨aG5,aG6⟩,aG7⟩,aG8⟩:=h2;obtain⟨⟨⟨⟨aEY,⟨aEZ,aEa⟩⟩,aEb⟩,aEc⟩,aEd⟩:=h3
 and_intros<;>assumption
end Go.Cx

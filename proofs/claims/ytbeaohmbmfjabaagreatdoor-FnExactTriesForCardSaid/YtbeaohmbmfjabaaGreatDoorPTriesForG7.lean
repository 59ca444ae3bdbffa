/- The structure of a network in plain words. No condition but bounds. -/
import Derived.Test.YtbeaohmbmfjabaaGreatDoorPTriesForG6
import Derived.Test.YtbeaohmbmfjabaaGreatDoorPTriesForG3
import Derived.ProofKit
set_option linter.unusedVariables false
set_option linter.unusedSimpArgs false
namespace Go.Cx
open Go.RowKit Go.Proofs Tryz
def Ta(sh:aC):bD->Nat->Option Nat
 | [],_=>none
 |x::xs,i=>if x.shape=sh then some i else Ta sh xs (i+1)
def SN(al:bD)(sh:aC):bD×Int:=match Ta sh al 0 with
 |some i=>(al,cV i)
 |none=>(al++[⟨sh,[]⟩],cV al.length)
theorem KL{n:Nat}(h:n<=1099511627776):IntKind.i64.wrap (((n+1:Nat):Int)-1)=cV n:=by
 unfold cV;rw[gV (rQ.i64.2 (by omega))];omega
theorem a7v(n:aG)(sh:aC)(k:Option (aG×Int)):∀(l:bD) (i:Nat),kL n sh k l i=match Ta sh l i with|some j=>some (n,cV j)|none=>k:=by
 intro l
 induction l with
 |nil=>intro i;rfl
 |cons x l ih=>
  intro i;rw[kL,Ro,aA,ih,Ta];by_cases h:x.shape=sh
  ·rw[bM h,aO,bK h];rfl
  ·rw[bE h,aZ,b8 h]
theorem sAl(n:aG)(sh:aC)(h:n.av.length<=1048576):qw n sh=some (⟨n.rules,n.ends,(SN n.av sh).1,n.nodes,n.facts,n.bn⟩,(SN n.av sh).2):=by
 unfold qw;rw[uJ (by omega),aO,a7v,l9 (by omega) (by decide),aO];unfold SN;cases Ta sh n.av 0 with
 |some j=>rfl
 |none=>
  dsimp only;rw[show((n.av.map aV.c)++[[D.str sh.rel,D.sl (sh.args.map tx),D.sl []]]).length=n.av.length+1 by simp,KL (by omega)]
theorem a7c(n:aG)(sh:aC)(k:Option (aG×Int)):∀(l:bD) (i:Nat),eC n sh k l i=match Ta sh l i with|some j=>some (n,cV j)|none=>k:=by
 intro l
 induction l with
 |nil=>intro i;rfl
 |cons x l ih=>
  intro i;rw[eC,Lf,aA,ih,Ta];by_cases h:x.shape=sh
  ·rw[bM h,aO,bK h];rfl
  ·rw[bE h,aZ,b8 h]
theorem iAl(n:aG)(sh:aC)(h:n.av.length<=1048576):gX n sh=some (⟨n.rules,n.ends,(SN n.av sh).1,n.nodes,n.facts,n.bn⟩,(SN n.av sh).2):=by
 unfold gX;rw[uJ (by omega),aO,a7c,l9 (by omega) (by decide),aO];unfold SN;cases Ta sh n.av 0 with
 |some j=>rfl
 |none=>
  dsimp only;rw[show((n.av.map aV.c)++[[D.str sh.rel,D.sl (sh.args.map tx),D.sl []]]).length=n.av.length+1 by simp,KL (by omega)]
def MS(p:Int)(c:aL):b9->Nat->Option Nat
 | [],_=>none
 |x::xs,i=>if 0<i/\x.parent=p/\x.cond=c then some i else MS p c xs (i+1)
def Mo(al:bD)(c:aL):bD×Int:=if c.kind=1\/c.kind=2 then SN al (sx c.pat)else(al, -1)
def JI(al:bD)(ns:b9)(p:Int)(c:aL):(bD×b9)×Int:=match MS p c ns 0 with
 |some i=>((al,ns),cV i)
 |none=>(((Mo al c).1,ns++[⟨p,c,(Mo al c).2,[]⟩]),cV ns.length)
theorem PN(p:Int)(c:aL)(ns:b9):MS p c ns 0=MS p c (ns.drop 1) 1:=by
 cases ns with
 |nil=>rfl
 |cons x ns=>rw[MS,b8 (fun h=>by omega)];rfl
def UD(n:aG)(z:(bD×b9)×Int):aG×Int:=(⟨n.rules,n.ends,z.1.1,z.1.2,n.facts,n.bn⟩,z.2)
theorem a7x(n:aG)(p:Int)(c:aL)(k:Option (aG×Int))(hn:n.nodes.length<=1048576):∀(d v fu:Nat),v+d=n.nodes.length+1->1<=v->d<fu->fZ n p c k fu (v:Int)=match MS p c (n.nodes.drop v) v with|some j=>some (n,cV j)|none=>k:=by
 intro d
 induction d with
 |zero=>
  intro v fu hv h1 hf;obtain⟨fu,rfl⟩:∃m,fu=m+1:=⟨fu-1,by omega⟩
  rw[fZ,ax,bE (by omega),aZ,nR (by omega)];rfl
 |succ d ih=>
  intro v fu hv h1 hf;obtain⟨fu,rfl⟩:∃m,fu=m+1:=⟨fu-1,by omega⟩
  by_cases hl:v<n.nodes.length
  ·have hx:n.nodes[v]?=some n.nodes[v]:=aa hl;have e3:lF n.nodes (v:Int)=some n.nodes[v]:=by unfold lF;rw[bM (by omega),aO];exact hx
   rw[lC hl,MS,fZ,ax,bM (by omega),aO,e3,aA,EO (by omega),ih (v+1) fu (by omega) (by omega) (by omega),XN,aA];generalize n.nodes[v]=x;by_cases hp:x.parent=p
   ·rw[show((x.parent:Int)==p)=true by simp[hp],aO];by_cases hc:x.cond=c
    ·rw[bM hc,aO,bK ⟨by omega,hp,hc⟩];rfl
    ·rw[bE hc,aZ,b8 (fun h=>hc h.2.2)]
   ·rw[show((x.parent:Int)==p)=false by simp[hp],aZ,b8 (fun h=>hp h.2.1)]
  ·rw[fZ,ax,bE (by omega),aZ,nR (by omega)];rfl
theorem sCh(n:aG)(p:Int)(c:aL)(hn:n.nodes.length<=1048576)(ha:n.av.length<=1048576)(hc:c.wt<=1048576):tX n p c=some (UD n (JI n.av n.nodes p c)):=by
 have hp:=aL.fB hc;have hargs:=aC.dJ hp;unfold tX;have e:=a7x n p c;rw[show(1:Int)=((1:Nat):Int)from rfl,e _ hn n.nodes.length 1 fuel (by omega) (bN _) (by unfold fuel;omega),<-PN,OU c (by omega),aA,a2j c.pat hp,aA,sAl n _ ha,aA];unfold JI Mo UD;cases MS p c n.nodes 0 with
 |some j=>rfl
 |none=>
  dsimp only;rw[l9 (by omega) (by decide),aO];by_cases h1:c.kind=1
  ·rw[show((c.kind:Int)==((1:Nat):Int))=true by simp[h1],aO,bK (.inl h1)];simp[KL,hn,show n.nodes.length<=1099511627776 by omega]
   first|done| (unfold cV;rw[gV (rQ.i64.2 (by omega))])
  ·rw[show((c.kind:Int)==((1:Nat):Int))=false by simp[h1],aZ];by_cases h2:c.kind=2
   ·rw[show((c.kind:Int)==(2:Int))=true by simp[h2],aO,bK (.inr h2)];simp[KL,hn,show n.nodes.length<=1099511627776 by omega]
    first|done| (unfold cV;rw[gV (rQ.i64.2 (by omega))])
   ·rw[show((c.kind:Int)==(2:Int))=false by simp[h2],aZ,b8 (by omega)]
    first|rw[l9 (by omega) (by decide),aO]|rw[aA,l9 (by omega) (by decide),aO]|skip
    simp[KL,hn,show n.nodes.length<=1099511627776 by omega]
    first|done| (unfold cV;rw[gV (rQ.i64.2 (by omega))])
theorem a7d(n:aG)(p:Int)(c:aL)(k:Option (aG×Int)):∀(l:b9) (i:Nat),cY n p c k l i=match MS p c l i with|some j=>some (n,cV j)|none=>k:=by
 intro l
 induction l with
 |nil=>intro i;rfl
 |cons x l ih=>
  intro i;rw[cY,MS,ih,O8,aA];by_cases hi:0<i
  ·rw[bM (by omega),aO];by_cases hp:x.parent=p
   ·rw[show((x.parent:Int)==p)=true by simp[hp],aO];by_cases hc:x.cond=c
    ·rw[bM hc,aO,bK ⟨hi,hp,hc⟩];rfl
    ·rw[bE hc,aZ,b8 (fun h=>hc h.2.2)]
   ·rw[show((x.parent:Int)==p)=false by simp[hp],aZ,b8 (fun h=>hp h.2.1)]
  ·rw[bE (by omega),aZ,b8 (fun h=>hi h.1)]
theorem iCh(n:aG)(p:Int)(c:aL)(hn:n.nodes.length<=1048576)(ha:n.av.length<=1048576)(hc:c.wt<=1048576):jg n p c=some (UD n (JI n.av n.nodes p c)):=by
 have hp:=aL.fB hc;have hargs:=aC.dJ hp;unfold jg;rw[uJ (by omega),aO,a7d,O5 c (by omega),a22 c.pat hp,aA,iAl n _ ha,aA,aA];unfold JI Mo UD;cases MS p c n.nodes 0 with
 |some j=>rfl
 |none=>
  dsimp only;rw[l9 (by omega) (by decide),aO];by_cases h1:c.kind=1
  ·rw[show((c.kind:Int)==(1:Int))=true by simp[h1],aO,bK (.inl h1)];simp[KL,hn,show n.nodes.length<=1099511627776 by omega]
   first|done| (unfold cV;rw[gV (rQ.i64.2 (by omega))])
  ·rw[show((c.kind:Int)==(1:Int))=false by simp[h1],aZ];by_cases h2:c.kind=2
   ·rw[show((c.kind:Int)==(2:Int))=true by simp[h2],aO,bK (.inr h2)];simp[KL,hn,show n.nodes.length<=1099511627776 by omega]
    first|done| (unfold cV;rw[gV (rQ.i64.2 (by omega))])
   ·rw[show((c.kind:Int)==(2:Int))=false by simp[h2],aZ,b8 (by omega)]
    first|rw[l9 (by omega) (by decide),aO]|rw[aA,l9 (by omega) (by decide),aO]|skip
    simp[KL,hn,show n.nodes.length<=1099511627776 by omega]
    first|done| (unfold cV;rw[gV (rQ.i64.2 (by omega))])
def Ea(s:(bD×b9)×Int)(c:aL):(bD×b9)×Int:=JI s.1.1 s.1.2 s.2 c
def G7(z:(bD×b9)×bR)(r:aK):(bD×b9)×bR:=(((gG r).foldl Ea (z.1,0)).1,z.2++[((gG r).foldl Ea (z.1,0)).2])
def root(tk:aj):Node:=⟨-1,⟨0,⟨[],[]⟩,[],[]⟩, -1,tk⟩
def cI(tk:aj)(rs:ah):(bD×b9)×bR:=rs.foldl G7 (([],[root tk]),[])
theorem YO(al:bD)(sh:aC):(SN al sh).1.length<=al.length+1:=by
 unfold SN;cases Ta sh al 0<;>simp
theorem YU(al:bD)(c:aL):(Mo al c).1.length<=al.length+1:=by
 unfold Mo;by_cases h:c.kind=1\/c.kind=2
 ·rw[bK h];exact YO _ _
 ·rw[b8 h];exact Nat.le_succ _
theorem Nq(al:bD)(ns:b9)(p:Int)(c:aL):(JI al ns p c).1.1.length<=al.length+1/\(JI al ns p c).1.2.length<=ns.length+1:=by
 unfold JI;cases MS p c ns 0 with
 |some i=>exact⟨Nat.le_succ _,Nat.le_succ _⟩
 |none=>exact⟨YU _ _,by simp⟩
theorem Eb:∀(cs:ai) (s:(bD×b9)×Int),(cs.foldl Ea s).1.1.length<=s.1.1.length+cs.length/\(cs.foldl Ea s).1.2.length<=s.1.2.length+cs.length
 | [],s=>⟨bN _,bN _⟩
 |c::cs,s=>by
  have h1:=Nq s.1.1 s.1.2 s.2 c;have h2:=Eb cs (Ea s c);have h3:(Ea s c).1.1.length<=s.1.1.length+1/\(Ea s c).1.2.length<=s.1.2.length+1:=h1;rw[cj,aY];omega
theorem a5J(a:ah)(i:Nat)(y:ai)(k:Int->Int->ah->bR->bD->b9->aJ->Option (aG×Bool)):∀(cs:ai) (j:Nat) (v u:Int) (w3:ah) (w4:bR) (al:bD) (ns:b9) (w7:aJ),(∀c∈cs,c.wt<=1048576)->al.length+cs.length<=1048576->ns.length+cs.length<=1048576->
 gB a i y k cs j v u w3 w4 al ns w7=k (cs.foldl Ea ((al,ns),v)).2 u w3 w4 (cs.foldl Ea ((al,ns),v)).1.1 (cs.foldl Ea ((al,ns),v)).1.2 w7:=by
 intro cs
 induction cs with
 |nil=>intros;rfl
 |cons c cs ih=>
  intro j v u w3 w4 al ns w7 hc ha hn;simp only[aY]at ha hn;have h1:=Nq al ns v c;rw[gB,sCh _ v c (show ns.length<=1048576 by omega) (show al.length<=1048576 by omega) (hc c (by simp)),aA];unfold UD;dsimp only;rw[ih _ _ _ _ _ _ _ _ (fun x hx=>hc x (by simp[hx])) (by omega) (by omega)];rfl
theorem a4V(a:ah)(i:Nat)(y:ai)(k:Int->Int->ah->bR->bD->b9->aJ->Option aG):∀(cs:ai) (j:Nat) (v u:Int) (w3:ah) (w4:bR) (al:bD) (ns:b9) (w7:aJ),(∀c∈cs,c.wt<=1048576)->al.length+cs.length<=1048576->ns.length+cs.length<=1048576->
 ic a i y k cs j v u w3 w4 al ns w7=k (cs.foldl Ea ((al,ns),v)).2 u w3 w4 (cs.foldl Ea ((al,ns),v)).1.1 (cs.foldl Ea ((al,ns),v)).1.2 w7:=by
 intro cs
 induction cs with
 |nil=>intros;rfl
 |cons c cs ih=>
  intro j v u w3 w4 al ns w7 hc ha hn;simp only[aY]at ha hn;have h1:=Nq al ns v c;rw[ic,iCh _ v c (show ns.length<=1048576 by omega) (show al.length<=1048576 by omega) (hc c (by simp)),aA];unfold UD;dsimp only;rw[ih _ _ _ _ _ _ _ _ (fun x hx=>hc x (by simp[hx])) (by omega) (by omega)];rfl
theorem NA:∀(ts:aH) (N:aR) {p:aS},p∈ts.foldl iW N->p∈N\/(p.var∈ts/\k6 p.var=true)
 | [],_,_,h=>.inl h
 |t::ts,N,p,h=>by
  rcases NA ts (iW N t) h with h1|h1
  ·unfold iW at h1;cases hv:k6 t&& !E4 N t with
   |false=>rw[hv]at h1;exact .inl h1
   |true=>
    rw[hv,aO]at h1;simp only[aW]at hv;rcases af.1 h1 with h2|h2
    ·exact .inl h2
    ·rw[cy.1 h2];exact .inr ⟨by simp,hv.1⟩
  ·exact .inr ⟨by simp[h1.1],h1.2⟩
theorem Ip{l:ai}{v:Bytes}:v∈CE l↔v∈xb l/\k6 v=true:=by
 unfold CE xb pK iX;simp only[bq,fN];constructor
 ·rintro⟨c,hc,hm,hv⟩;exact⟨⟨c,hc,hm⟩,hv⟩
 ·rintro⟨⟨c,hc,hm⟩,hv⟩;exact⟨c,hc,hm,hv⟩
theorem UB{r:aK}(h:mD r=true):(oT r).length<=6:=by
 have h1:((oT r).map aS.var).length<=(eg (CE r.conds)).length:=by
  refine NL _ _ (B1 _ Qd.nil) fun x hx=>?_
  obtain⟨p,hp,rfl⟩:=cB.1 hx;rcases NA _ _ hp with h1|h1
  ·cases h1
  ·exact tr.2 (Ip.2 h1)
 rw[ax]at h1;exact cW h1 (UO h)
theorem Wi{r:aK}(h:mD r=true){v:Bytes}(hv:v∈CE r.conds):∃i p,i<6/\(oT r)[i]?=some p/\p.var=v/\C7 (oT r) v=ZG i:=by
 obtain⟨ht,Pm⟩:=Ip.1 hv;obtain⟨p,hp,he⟩:=IZ _ [] ht Pm;have hp':p∈oT r:=hp;obtain⟨i,hi,Ny,hval,_⟩:=Jx (Bw _ SL.nil) hp';refine⟨i,p,by have:=UB h;unfold oT at this;omega,Ny,he,?_⟩;rw[<-he];exact(Iy (N:=oT r) (B1 (xb r.conds) Qd.nil) hp').trans hval
theorem Iz{r:aK}(h:mD r=true){x:Bytes}(hx:x.length<=16)(hV:k6 x=true->x∈CE r.conds):(C7 (oT r) x).length<=16:=by
 cases hv:k6 x with
 |false=>rw[show C7 (oT r) x=x from M0 hv];exact hx
 |true=>
  obtain⟨i,p,hi,_,_,e⟩:=Wi h (hV hv);rw[e];exact Sz i hi
theorem Kw:∀(l:aH),(∀x∈l,x.length<=16)->oZ tw l<=17*l.length
 | [],_=>by simp[oZ]
 |x::l,h=>by
  have h1:=Kw l fun y hy=>h y (by simp[hy])
  have h2:=h x (by simp);rw[pg,aY];unfold tw at*;omega
theorem MG{t:Bytes}(h:oW t=true):t.length<=16:=by have:=UW h;omega
theorem LF{c:aL}(h:qV c=true):c.pat.rel.length<=8/\c.pat.args.length<=3/\(∀x∈c.pat.args,x.length<=16)/\c.left.length<=16/\c.right.length<=16:=by
 by_cases hk:c.kind=1\/c.kind=2
 ·obtain⟨hp,hl,hr⟩:=Tf h hk;have ht:=TC hp;unfold vu at hp;simp only[aW,bC]at hp;have:=NJ hp.2.1;rw[hl,hr];exact⟨by omega,by omega,fun x hx=>MG (ht x hx),by simp,by simp⟩
 ·obtain⟨_,hz,hl,hr⟩:=Qv h (fun e=>hk (.inl e)) (fun e=>hk (.inr e));unfold EQ at hz;simp only[aW,cO,bC]at hz;have h0:c.pat.args=[]:=cN (by omega);rw[hz.1,h0];exact⟨by simp,by simp,fun x hx=>(by cases hx),MG hl,MG hr⟩
theorem Iw{r:aK}(h:mD r=true):∀c∈gG r,c.wt<=1048576:=by
 intro c' Yh;obtain⟨c,hc,rfl⟩:=cB.1 Yh;obtain⟨h1,h2,h3,h4,h5⟩:=LF (KJ h c hc);have hV:∀x∈c.pat.args++[c.left,c.right],k6 x=true->x∈CE r.conds:=fun x hx hv=>Ip.2 ⟨bq.2 ⟨c,hc,hx⟩,hv⟩
 have a1:(C7 (oT r) c.left).length<=16:=Iz h h4 (hV _ (by simp));have a2:(C7 (oT r) c.right).length<=16:=Iz h h5 (hV _ (by simp));have a3:=Kw (c.pat.args.map (C7 (oT r))) (fun x hx=>by
  obtain⟨y,hy,rfl⟩:=cB.1 hx;exact Iz h (h3 y hy) (hV y (by simp[hy])))
 rw[ax]at a3;unfold MA aL.wt;dsimp only;unfold tw at*;omega
theorem yW{r:aK}(h:mD r=true):(gG r).length<=4:=by unfold gG;rw[ax];exact UN h
theorem SM{r:aK}{n:Nat}(h:r.wt<=n){a:Action}(ha:a∈r.cU):a.pat.args.length<=n:=by
 have h1:=aK.Hg h;have h2:=nZ (w:=Action.wt) ha;have h3:=n9 tw a.pat.args;simp only[Action.wt]at h2;omega
theorem XC(p:aC)(h:p.args.length<=1099511627770):dl p=some p:=by
 unfold dl;rw[XS p.args (by omega)];rfl
theorem WH(p:aC)(h:p.args.length<=1099511627770):dR p=some p:=by
 unfold dR;rw[OA p.args (by omega)];rfl
theorem a2V(r:aK)(h:r.wt<=1048576):sS r=some r:=by
 have h1:=aK.rS h;have h2:=aK.Hg h;have h3:=n9 aL.wt r.conds;have h4:=n9 Action.wt r.cU;unfold sS;rw[Cl (c:=aL.c) (b:=80) (f:=jF) (g:=fun x=>x) (L:=oF r _) (k:=_) (by decide) (fun _ _=>rfl) (fun _ _ _ _=>rfl) _ _ _ (fun c hc=>OU c (by have:=aC.dJ (aL.fB (aK.qN h hc));omega)) (by simp;omega)];rw[Cl (c:=Action.c) (b:=48) (f:=fun a:Action=>(dl a.pat).bind fun y=>some (⟨a.kind,y⟩:Action)) (g:=fun x=>x) (L:=ld r _ _) (k:=_) (by decide) (fun _ _=>rfl) (fun x xs i w=>by rw[ld];cases dl x.pat<;>rfl) _ _ _ (fun a ha=>by rw[XC a.pat (by have:=SM h ha;omega)];rfl) (by simp;omega)];simp
theorem QI(l:ah)(h:oZ aK.wt l<=1048576):pF l=some l:=by
 have h3:=n9 aK.wt l;unfold pF;rw[Cl (c:=aK.c) (b:=72) (f:=sS) (g:=fun x=>x) (L:=lZ l _) (k:=_) (by decide) (fun _ _=>rfl) (fun _ _ _ _=>rfl) _ _ _ (fun r hr=>a2V r (by have:=nZ (w:=aK.wt) hr;omega)) (by simp;omega)];simp
theorem WG(l:ai)(h:l.length<=1048576)(hw:∀c∈l,c.wt<=1048576):qe l=some l:=by
 unfold qe;rw[Cl (c:=aL.c) (b:=80) (f:=eY) (g:=fun x=>x) (L:=kY l _) (k:=_) (by decide) (fun _ _=>rfl) (fun _ _ _ _=>rfl) _ _ _ (fun c hc=>O5 c (by have:=aC.dJ (aL.fB (hw c hc));omega)) (by simp;omega)];simp
theorem a1n(r:aK)(h:r.wt<=1048576):p6 r=some r:=by
 have h1:=aK.rS h;have h2:=aK.Hg h;have h3:=n9 aL.wt r.conds;have h4:=n9 Action.wt r.cU;unfold p6;rw[WG r.conds (by omega) (fun c hc=>aK.qN h hc),aA];rw[Cl (c:=Action.c) (b:=48) (f:=fun a:Action=>(dR a.pat).bind fun y=>some (⟨a.kind,y⟩:Action)) (g:=fun x=>x) (L:=jQ r _ _) (k:=_) (by decide) (fun _ _=>rfl) (fun x xs i w=>by rw[jQ];cases dR x.pat<;>rfl) _ _ _ (fun a ha=>by rw[WH a.pat (by have:=SM h ha;omega)];rfl) (by simp;omega)];simp
theorem Po(l:ah)(h:oZ aK.wt l<=1048576):ny l=some l:=by
 have h3:=n9 aK.wt l;unfold ny;rw[Cl (c:=aK.c) (b:=72) (f:=p6) (g:=fun x=>x) (L:=ke l _) (k:=_) (by decide) (fun _ _=>rfl) (fun _ _ _ _=>rfl) _ _ _ (fun r hr=>a1n r (by have:=nZ (w:=aK.wt) hr;omega)) (by simp;omega)];simp
theorem a5I(a:ah)(k:Int->ah->bR->bD->b9->aJ->Option (aG×Bool)):∀(l:ah) (i:Nat) (u:Int) (w2:ah) (es:bR) (al:bD) (ns:b9) (w6:aJ),(∀r∈l,r.wt<=1048576/\mD r=true)->es.length+l.length<=1000->al.length+4*l.length<=1000->ns.length+4*l.length<=1000->
 gA a k l i u w2 es al ns w6=k u w2 (l.foldl G7 ((al,ns),es)).2 (l.foldl G7 ((al,ns),es)).1.1 (l.foldl G7 ((al,ns),es)).1.2 w6:=by
 intro l
 induction l with
 |nil=>intros;rfl
 |cons r l ih=>
  intro i u w2 es al ns w6 hr he ha hn;simp only[aY]at he ha hn;obtain⟨hw,hb⟩:=hr r (by simp);have h4:=yW hb;have hl:=Eb (gG r) ((al,ns),0);dsimp only at hl;rw[gA,a2U r hw,aA,uJ (by omega),aO,a5J _ _ _ _ _ _ _ _ _ _ _ _ _ (Iw hb) (by omega) (by omega),l9 (by omega) (by decide),aO,ih _ _ _ _ _ _ _ (fun x hx=>hr x (by simp[hx])) (by simp;omega) (by omega) (by omega)];rfl
theorem XD(rs:ah)(h:oZ aK.wt rs<=1048576):iv rs=some (bif uN rs then(⟨rs,(cI [⟨[],[]⟩] rs).2,(cI [⟨[],[]⟩] rs).1.1,(cI [⟨[],[]⟩] rs).1.2,[],0⟩,true)else(⟨[],[],[],[],[],0⟩,false)):=by
 unfold iv;rw[a7w rs h,aA];cases hb:uN rs with
 |false=>rfl
 |true=>
  have h6:rs.length<=6:=by unfold uN at hb;simp only[aW,bC]at hb;omega
  rw[bP,aZ,aO,QI rs h,aA,a5I _ _ _ _ _ _ _ _ _ _ (fun r hr=>⟨by have:=nZ (w:=aK.wt) hr;omega,rR hb r hr⟩) (by simp;omega) (by simp;omega) (by simp;omega)];rfl
theorem a4U(a:ah)(k:Int->ah->bR->bD->b9->aJ->Option aG):∀(l:ah) (i:Nat) (u:Int) (w2:ah) (es:bR) (al:bD) (ns:b9) (w6:aJ),(∀r∈l,r.wt<=1048576/\mD r=true)->es.length+l.length<=1000->al.length+4*l.length<=1000->ns.length+4*l.length<=1000->
 ia a k l i u w2 es al ns w6=k u w2 (l.foldl G7 ((al,ns),es)).2 (l.foldl G7 ((al,ns),es)).1.1 (l.foldl G7 ((al,ns),es)).1.2 w6:=by
 intro l
 induction l with
 |nil=>intros;rfl
 |cons r l ih=>
  intro i u w2 es al ns w6 hr he ha hn;simp only[aY]at he ha hn;obtain⟨hw,hb⟩:=hr r (by simp);have h4:=yW hb;have hl:=Eb (gG r) ((al,ns),0);dsimp only at hl;rw[ia,a1m r hw,aA,uJ (by omega),aO,a4V _ _ _ _ _ _ _ _ _ _ _ _ _ (Iw hb) (by omega) (by omega),l9 (by omega) (by decide),aO,ih _ _ _ _ _ _ _ (fun x hx=>hr x (by simp[hx])) (by simp;omega) (by omega) (by omega)];rfl
theorem a7j(rs:ah)(h:oZ aK.wt rs<=1048576)(hb:uN rs=true):qi rs=some ⟨rs,(cI [] rs).2,(cI [] rs).1.1,(cI [] rs).1.2,[],0⟩:=by
 unfold qi;have h6:rs.length<=6:=by unfold uN at hb;simp only[aW,bC]at hb;omega
 rw[Po rs h,aA,a4U _ _ _ _ _ _ _ _ _ _ (fun r hr=>⟨by have:=nZ (w:=aK.wt) hr;omega,rR hb r hr⟩) (by simp;omega) (by simp;omega) (by simp;omega)];rfl
def chR(al:bD)(ns:b9)(p:Int)(c:aL):(bD×b9)×Int:=match MS p c ns 1 with
 |some i=>((al,ns),cV i)
 |none=>(((Mo al c).1,ns++[⟨p,c,(Mo al c).2,[]⟩]),cV (ns.length+1))
theorem VK(tk:aj)(al:bD)(ns:b9)(p:Int)(c:aL):JI al (root tk::ns) p c=(((chR al ns p c).1.1,root tk::(chR al ns p c).1.2),(chR al ns p c).2):=by
 unfold JI chR;rw[PN,List.drop_succ_cons,Cs];cases MS p c ns 1<;>rfl
def rtC(s:(bD×b9)×Int)(c:aL):(bD×b9)×Int:=chR s.1.1 s.1.2 s.2 c
def Y9(z:(bD×b9)×bR)(r:aK):(bD×b9)×bR:=(((gG r).foldl rtC (z.1,0)).1,z.2++[((gG r).foldl rtC (z.1,0)).2])
def ZN(rs:ah):(bD×b9)×bR:=rs.foldl Y9 (([],[]),[])
theorem QO(tk:aj):∀(cs:ai) (al:bD) (ns:b9) (v:Int),cs.foldl Ea ((al,root tk::ns),v)=(((cs.foldl rtC ((al,ns),v)).1.1,root tk::(cs.foldl rtC ((al,ns),v)).1.2),(cs.foldl rtC ((al,ns),v)).2)
 | [],_,_,_=>rfl
 |c::cs,al,ns,v=>by
  rw[cj,cj];show cs.foldl Ea (JI al (root tk::ns) v c)=_;rw[VK,QO tk cs];rfl
theorem QS(tk:aj):∀(rs:ah) (al:bD) (ns:b9) (es:bR),rs.foldl G7 ((al,root tk::ns),es)=(((rs.foldl Y9 ((al,ns),es)).1.1,root tk::(rs.foldl Y9 ((al,ns),es)).1.2),(rs.foldl Y9 ((al,ns),es)).2)
 | [],_,_,_=>rfl
 |r::rs,al,ns,es=>by
  rw[cj,cj];have e:G7 ((al,root tk::ns),es) r=(((Y9 ((al,ns),es) r).1.1,root tk::(Y9 ((al,ns),es) r).1.2),(Y9 ((al,ns),es) r).2):=by
   unfold G7 Y9;dsimp only;rw[QO]
  rw[e,QS tk rs]
theorem oG(tk:aj)(rs:ah):cI tk rs=(((ZN rs).1.1,root tk::(ZN rs).1.2),(ZN rs).2):=QS tk rs [] [] []
theorem EJ(tk:aj){rs:ah}(h:∀r∈rs,mD r=true)(h6:rs.length<=6):(cI tk rs).1.2.length<=25:=by
 have main:∀(l:ah) (z:(bD×b9)×bR),(∀r∈l,mD r=true)->(l.foldl G7 z).1.2.length<=z.1.2.length+4*l.length:=by
  intro l
  induction l with
  |nil=>intro z _;exact bN _
  |cons r l ih=>
   intro z hl;have h1:=ih (G7 z r) (fun x hx=>hl x (by simp[hx]));have h2:=(Eb (gG r) (z.1,0)).2;have h3:=yW (hl r (by simp));have h4:(G7 z r).1.2.length=((gG r).foldl Ea (z.1,0)).1.2.length:=rfl;rw[cj,aY];dsimp only at h2;omega
 have:=main rs (([],[root tk]),[]) h;unfold cI;simp only[aY,bX]at this;omega
end Go.Cx
namespace Go.Cx
open Go.RowKit Go.Proofs Tryz
def tY(x:Node):Int×aL:=(x.parent,x.cond)
theorem NV{a b:b9}(h:a.map tY=b.map tY):∀(k v:Nat),Me a k v=Me b k v
 |0,_=>rfl
 |k+1,v=>by
  have e:(a[v]?).map tY=(b[v]?).map tY:=by rw[<-bg,<-bg,h]
  unfold Me;cases ha:a[v]? with
  |none=>
   cases hb:b[v]? with
   |none=>rfl
   |some y=>rw[ha,hb]at e;cases e
  |some x=>
   cases hb:b[v]? with
   |none=>rw[ha,hb]at e;cases e
   |some y=>
    rw[ha,hb]at e;have e1:x.parent=y.parent:=(je (oq e)).1;dsimp only;rw[e1,NV h k]
theorem Nr{a b:b9}(h:a.map tY=b.map tY):zq a=zq b:=by
 funext i
 have e:(a[i]?).map tY=(b[i]?).map tY:=by rw[<-bg,<-bg,h]
 unfold zq;cases ha:a[i]? with
 |none=>
  cases hb:b[i]? with
  |none=>rfl
  |some y=>rw[ha,hb]at e;cases e
 |some x=>
  cases hb:b[i]? with
  |none=>rw[ha,hb]at e;cases e
  |some y=>
   rw[ha,hb]at e;have e2:x.cond=y.cond:=(je (oq e)).2;show some x.cond=some y.cond;rw[e2]
theorem xK{a b:b9}(h:a.map tY=b.map tY)(v:Int):eL a v=eL b v:=by
 have hl:a.length=b.length:=by have:=congrArg List.length h;simpa using this
 unfold eL G1;rw[hl,NV h,Nr h]
def iD(al:bD)(fs:aJ):bD:=al.map fun a=>⟨a.shape,rO a.shape [] fs⟩
def oS(ns:b9)(fs:aJ):b9->Nat->b9
 | [],_=>[]
 |x::xs,i=>⟨x.parent,x.cond,x.cQ,uX (eL ns (cV i)) fs⟩::oS ns fs xs (i+1)
def fo(ns:b9)(fs:aJ):b9:=oS ns fs ns 0
theorem HI(ns:b9)(fs:aJ):∀(l:b9) (i:Nat),(oS ns fs l i).map tY=l.map tY
 | [],_=>rfl
 |x::l,i=>by rw[oS,bH,HI ns fs l];rfl
theorem Ts(ns:b9)(fs:aJ)(l:b9)(i:Nat):(oS ns fs l i).length=l.length:=by
 have:=congrArg List.length (HI ns fs l i);simpa using this
theorem setAt{α:Type}(pre l:List α)(x y:α):(pre++x::l).set pre.length y=pre++y::l:=by
 rw[oa _ _ (bN _),nT];rfl
structure ER(ns:List Node):Prop where
 len:ns.length<=1048576
 wt:∀x∈ns,x.cond.wt<=1048576
 path:∀i:Nat,(eL ns (cV i)).length<=4
theorem M8{ns:b9}{v:Int}{c:aL}(h:c∈eL ns v):∃x∈ns,x.cond=c:=by
 unfold eL at h;split at h
 ·unfold G1 at h;obtain⟨i,_,hc⟩:=bt.1 h;unfold zq at hc;cases hx:ns[i]? with
  |none=>rw[hx]at hc;cases hc
  |some x=>rw[hx]at hc;exact⟨x,aD hx,oq hc⟩
 ·cases h
theorem VU(n:aG)(fs y:aJ)(k:bD->Option (aG×Unit))(hf:FS fs):∀(l pre:bD),(∀x∈l,x.shape.wt<=1048576)->eU n fs y k l pre.length (pre++l)=k (pre++iD l fs):=by
 intro l
 induction l with
 |nil=>intro pre _;rfl
 |cons x l ih=>
  intro pre hw;have hx:(pre++x::l)[pre.length]?=some x:=by simp
  have hlt:decide (pre.length<((pre++x::l).map aV.c).length)=true:=by simp
  rw[eU,hlt,aO,hx,aA,a4J x.shape [] fs (hw x (by simp)) PB.nil hf,aA,aO,setAt];have:=ih (pre++[⟨x.shape,rO x.shape [] fs⟩]) (fun z hz=>hw z (by simp[hz]));rw[bB,fE,cq]at this;rw[show pre++(⟨x.shape,rO x.shape [] fs⟩:aV)::l=pre++([⟨x.shape,rO x.shape [] fs⟩]++l)from rfl,this];simp[iD]
theorem a1E(n:aG)(fs y:aJ)(q:bD)(k:Option (aG×Unit))(hf:FS fs)(h24:fs.length<=24)(ns:b9)(hp:ER ns):∀(l pre:b9),(pre++l).map tY=ns.map tY->
 dU n fs y q k l pre.length (pre++l)=some (⟨n.rules,n.ends,q,pre++oS ns fs l pre.length,y,n.bn⟩,()):=by
 intro l
 induction l with
 |nil=>intro pre _;rfl
 |cons x l ih=>
  intro pre he;have hx:(pre++x::l)[pre.length]?=some x:=by simp
  have hlt:decide (pre.length<((pre++x::l).map Node.c).length)=true:=by simp
  have hlen:(pre++x::l).length=ns.length:=by have:=congrArg List.length he;simpa using this
  have hok:NOk ⟨n.rules,n.ends,q,pre++x::l,y,n.bn⟩:=by
   refine⟨by show(pre++x::l).length<=1048576;rw[hlen];exact hp.len,fun z hz=>?_⟩;have hm:tY z∈ns.map tY:=by rw[<-he];exact cB.2 ⟨z,hz,rfl⟩
   obtain⟨w,hw,e⟩:=cB.1 hm;have:w.cond=z.cond:=(je e).2;rw[<-this];exact hp.wt w hw
  have a3t:eL (pre++x::l) ((pre.length:Nat):Int)=eL ns (cV pre.length):=xK he _;have RA:∀c∈eL ns (cV pre.length),c.wt<=1048576:=by
   intro c hc;obtain⟨z,hz,e⟩:=M8 hc;rw[<-e];exact hp.wt z hz
  rw[dU,a1w _ _ hok,aA,a3t,a4X _ fs RA (hp.path _) hf h24,aA,hlt,aO,hx,aA,setAt];have:=ih (pre++[⟨x.parent,x.cond,x.cQ,uX (eL ns (cV pre.length)) fs⟩]) (by
   rw[<-he];simp[tY])
  rw[bB,fE,cq]at this;rw[show pre++(⟨x.parent,x.cond,x.cQ,uX (eL ns (cV pre.length)) fs⟩:Node)::l=pre++([⟨x.parent,x.cond,x.cQ,uX (eL ns (cV pre.length)) fs⟩]++l)from rfl,this,oS];simp
theorem a0B(n:aG)(fs:aJ)(hf:FS fs)(h24:fs.length<=24)(ha:n.av.length<=1048576)(hs:∀x∈n.av,x.shape.wt<=1048576)(hp:ER n.nodes):iF n fs=some (⟨n.rules,n.ends,iD n.av fs,fo n.nodes fs,fs,n.bn⟩,()):=by
 unfold iF;have h1:=VU n fs fs;have hl:=hp.len;rw[Ay fs hf.1 (fun f hf2=>by have:=aC.dJ (hf.2 f hf2);omega),aA,uJ (by omega),aO];have e1:=VU n fs fs (fun(fC:bD)=>(bif decide (n.nodes.length<=maxLen)then(dU n fs fs fC none n.nodes 0 n.nodes)else none)) hf n.av [] hs;refine e1.trans ?_;rw[cT,uJ (by omega),aO];exact a1E n fs fs _ none hf h24 n.nodes hp n.nodes [] rfl
end Go.Cx
namespace Go.Cx
open Go.RowKit Go.Proofs Tryz
theorem QW(ns:b9):∀(k k' v:Nat),1<=v->v<=k->v<=k'->Me ns k v=Me ns k' v
 |0,_,v,h1,h2,_=>by omega
 |k+1,0,v,h1,_,h3=>by omega
 |k+1,k'+1,v,h1,h2,h3=>by
  unfold Me;cases hx:ns[v]? with
  |none=>rfl
  |some x=>
   dsimp only;by_cases hp:1<=x.parent/\x.parent<(v:Int)
   ·rw[bK hp,bK hp,QW ns k k' x.parent.toNat (by omega) (by omega) (by omega)]
   ·rw[b8 hp,b8 hp]
theorem rP(ns:b9):eL ns (cV 0)=[]:=by unfold eL cV;rw[b8 (by omega)]
theorem vH{ns:b9}{i:Nat}{x:Node}(hx:ns[i]?=some x)(h1:1<=i){p:Nat}(hp:x.parent=cV p)(hpi:p<i):eL ns (cV i)=eL ns (cV p)++[x.cond]:=by
 have hl:=(aF.1 hx).1;unfold cV at hp;have e1:eL ns (cV i)=G1 ns i i:=by unfold eL cV;rw[bK (by omega)];rfl
 obtain⟨k,rfl⟩:∃k,i=k+1:=⟨i-1,by omega⟩
 rw[e1,M7 hx];by_cases h0:1<=p
 ·rw[bK (by omega)];have e2:eL ns (cV p)=G1 ns p p:=by unfold eL cV;rw[bK (by omega)];rfl
  rw[e2,hp,mS];unfold G1;rw[QW ns k p p h0 (by omega) (bN _)]
 ·rw[b8 (by omega),show p=0 by omega,rP]
def Ql(ns:b9):Prop:=∀(i:Nat) x,1<=i->ns[i]?=some x->∃p:Nat,x.parent=cV p/\p<i
theorem Jo{ns:b9}(hb:Ql ns)(m:b9):∀(n i:Nat),i<=n->i<ns.length->eL (ns++m) (cV i)=eL ns (cV i):=by
 intro n
 induction n with
 |zero=>
  intro i h1 _;rw[show i=0 by omega,rP,rP]
 |succ n ih=>
  intro i h1 h2;by_cases h0:i=0
  ·rw[h0,rP,rP]
  ·have hx:ns[i]?=some ns[i]:=aa h2;have hx':(ns++m)[i]?=some ns[i]:=by rw[au h2];exact hx
   obtain⟨p,hp,hpi⟩:=hb i _ (by omega) hx;rw[vH hx (by omega) hp hpi,vH hx' (by omega) hp hpi,ih p (by omega) (by omega)]
structure C2(R:List aL->Prop)(ns:List Node):Prop where
 pos:1<=ns.length
 below:Ql ns
 path:∀i:Nat,1<=i->i<ns.length->R (eL ns (cV i))
theorem PO{p:Int}{c:aL}:∀ {l:b9} {i j:Nat},MS p c l i=some j->∃x,l[j-i]?=some x/\i<=j/\0<j/\x.parent=p/\x.cond=c
 |x::l,i,j,h=>by
  unfold MS at h;split at h
  ·rename_i hc;cases h;exact⟨x,by simp,bN _,hc.1,hc.2.1,hc.2.2⟩
  ·obtain⟨y,h1,h2,h3,h4,h5⟩:=PO h;refine⟨y,?_,by omega,h3,h4,h5⟩;rw[show j-i=(j-(i+1))+1 by omega];exact h1
theorem C2.step{R:ai->Prop}{al:bD}{ns:b9}(h:C2 R ns){a:Nat}(ha:a<ns.length){c:aL}(hR:R (eL ns (cV a)++[c])):
 C2 R (JI al ns (cV a) c).1.2/\∃b:Nat,(JI al ns (cV a) c).2=cV b/\b<(JI al ns (cV a) c).1.2.length/\eL (JI al ns (cV a) c).1.2 (cV b)=eL ns (cV a)++[c]:=by
 unfold JI;cases hc:MS (cV a) c ns 0 with
 |some j=>
  obtain⟨x,h1,h2,h3,h4,h5⟩:=PO hc;rw[BG]at h1;have hj:=(aF.1 h1).1;obtain⟨p,hp,Yl⟩:=h.below j x (by omega) h1;have:p=a:=by rw[hp]at h4;unfold cV at h4;omega
  subst this;exact⟨h,j,rfl,hj,by rw[vH h1 (by omega) hp Yl,h5]⟩
 |none=>
  dsimp only;have hbel:Ql (ns++[⟨cV a,c,(Mo al c).2,[]⟩]):=by
   intro i x h1 hx;by_cases hi:i<ns.length
   ·rw[au hi]at hx;exact h.below i x h1 hx
   ·rw[b7 (by omega)]at hx;have hi2:i=ns.length:=by
     have:=(aF.1 hx).1;simp at this;omega
    rw[hi2,nT]at hx;cases hx;exact⟨a,rfl,by omega⟩
  have hnew:eL (ns++[⟨cV a,c,(Mo al c).2,[]⟩]) (cV ns.length)=eL ns (cV a)++[c]:=by
   have hx:(ns++[(⟨cV a,c,(Mo al c).2,[]⟩:Node)])[ns.length]?=some ⟨cV a,c,(Mo al c).2,[]⟩:=by simp
   have h1:=h.pos;rw[vH hx (by omega) (p:=a) rfl ha,Jo h.below _ a a (bN _) ha]
  refine⟨⟨by simp,hbel,fun i h1 h2=>?_⟩,ns.length,rfl,by simp,hnew⟩;by_cases hi:i<ns.length
  ·rw[Jo h.below _ i i (bN _) hi];exact h.path i h1 hi
  ·have:i=ns.length:=by simp at h2;omega
   rw[this,hnew];exact hR
theorem C2.rule{R:ai->Prop}:∀(cs:ai) {al:bD} {ns:b9} {a:Nat},C2 R ns->a<ns.length->(∀j:Nat,1<=j->j<=cs.length->R (eL ns (cV a)++cs.take j))->
 C2 R (cs.foldl Ea ((al,ns),cV a)).1.2/\∃b:Nat,(cs.foldl Ea ((al,ns),cV a)).2=cV b/\b<(cs.foldl Ea ((al,ns),cV a)).1.2.length/\eL (cs.foldl Ea ((al,ns),cV a)).1.2 (cV b)=eL ns (cV a)++cs
 | [],al,ns,a,h,ha,_=>⟨h,a,rfl,ha,by simp⟩
 |c::cs,al,ns,a,h,ha,hR=>by
  obtain⟨h1,b,h2,h3,h4⟩:=h.step (al:=al) ha (c:=c) (by have:=hR 1 (bN _) (by simp);simpa using this);have e:Ea ((al,ns),cV a) c=(((JI al ns (cV a) c).1.1,(JI al ns (cV a) c).1.2),cV b):=by
   show JI al ns (cV a) c=_;rw[<-h2]
  rw[cj,e];obtain⟨k1,d,k2,k3,k4⟩:=C2.rule cs (al:=(JI al ns (cV a) c).1.1) h1 h3 (fun j Fz hj2=>by
   rw[h4,cq];have:=hR (j+1) (by omega) (by simp;omega);simpa using this)
  exact⟨k1,d,k2,k3,by rw[k4,h4];simp⟩
theorem YV(al:bD)(ns:b9)(p:Int)(c:aL):∃m,(JI al ns p c).1.2=ns++m:=by
 unfold JI;cases MS p c ns 0 with
 |some i=>exact⟨[],by simp⟩
 |none=>exact⟨[⟨p,c,(Mo al c).2,[]⟩],rfl⟩
theorem TB:∀(cs:ai) (s:(bD×b9)×Int),∃m,(cs.foldl Ea s).1.2=s.1.2++m
 | [],s=>⟨[],by simp⟩
 |c::cs,s=>by
  obtain⟨m,h⟩:=YV s.1.1 s.1.2 s.2 c;obtain⟨m2,h2⟩:=TB cs (Ea s c);refine⟨m++m2,?_⟩;rw[cj,h2];show(JI s.1.1 s.1.2 s.2 c).1.2++m2=_;rw[h,cq]
def SJ(rs:ah)(p:ai):Prop:=∃r∈rs,∃j:Nat,1<=j/\j<=(gG r).length/\p=(gG r).take j
theorem QR(all:ah):∀(l:ah) (al:bD) (ns:b9) (es:bR),(∀r∈l,r∈all)->C2 (SJ all) ns->
 C2 (SJ all) (l.foldl G7 ((al,ns),es)).1.2/\(∃m,(l.foldl G7 ((al,ns),es)).1.2=ns++m)/\∃fs,(l.foldl G7 ((al,ns),es)).2=es++fs/\fs.length=l.length/\
  ∀(i:Nat) r,l[i]?=some r->∃b:Nat,fs[i]?=some (cV b)/\b<(l.foldl G7 ((al,ns),es)).1.2.length/\eL (l.foldl G7 ((al,ns),es)).1.2 (cV b)=gG r
 | [],al,ns,es,_,h=>⟨h,⟨[],by simp⟩,[],by simp,rfl,fun i r hr=>by simp at hr⟩
 |r::l,al,ns,es,hm,h=>by
  obtain⟨h1,b,h2,h3,h4⟩:=C2.rule (gG r) (al:=al) h (a:=0) (by have:=h.pos;omega) (fun j Fz hj2=>by
   rw[rP,cT];exact⟨r,hm r (by simp),j,Fz,hj2,rfl⟩)
  obtain⟨m1,hm1⟩:=TB (gG r) ((al,ns),cV 0);obtain⟨k1,⟨m2,hm2⟩,fs,k2,k3,k4⟩:=QR all l ((gG r).foldl Ea ((al,ns),cV 0)).1.1 ((gG r).foldl Ea ((al,ns),cV 0)).1.2 (es++[cV b]) (fun x hx=>hm x (by simp[hx])) h1;have e:G7 ((al,ns),es) r=((((gG r).foldl Ea ((al,ns),cV 0)).1.1,((gG r).foldl Ea ((al,ns),cV 0)).1.2),es++[cV b]):=by
   rw[<-h2];rfl
  rw[cj,e];refine⟨k1,⟨m1++m2,by rw[hm2,hm1,cq]⟩,cV b::fs,by rw[k2];simp,by simp[k3],?_⟩;intro i x hx;cases i with
  |zero=>
   have:r=x:=by simpa using hx
   subst this;refine⟨b,rfl,by rw[hm2];simp;omega,?_⟩;rw[hm2,Jo h1.below _ b b (bN _) h3,h4,rP];rfl
  |succ i=>exact k4 i x (by simpa using hx)
theorem UM(R:ai->Prop)(tk:aj):C2 R [root tk]:=
 ⟨bN _,fun i x h1 hx=>by
  have:=(aF.1 hx).1;simp at this;omega,fun i h1 h2=>by simp at h2;omega⟩
theorem wV(tk:aj)(rs:ah):C2 (SJ rs) (cI tk rs).1.2/\(cI tk rs).2.length=rs.length/\∀(i:Nat) r,rs[i]?=some r->∃b:Nat,(cI tk rs).2[i]?=some (cV b)/\b<(cI tk rs).1.2.length/\eL (cI tk rs).1.2 (cV b)=gG r:=by
 obtain⟨h1,_,fs,h2,h3,h4⟩:=QR rs rs [] [root tk] [] (fun r hr=>hr) (UM _ tk);rw[cT]at h2;refine⟨h1,?_,?_⟩
 ·show(rs.foldl G7 (([],[root tk]),[])).2.length=_;rw[h2,h3]
 ·intro i r hr;obtain⟨b,k1,k2,k3⟩:=h4 i r hr;refine⟨b,?_,k2,k3⟩;show(rs.foldl G7 (([],[root tk]),[])).2[i]?=_;rw[h2];exact k1
theorem QD{r:aK}(h:mD r=true):∃c cs,gG r=c::cs/\c.kind=1:=by
 have hb:=OS h;cases hc:r.conds with
 |nil=>
  unfold mD at h;rw[hc]at h;simp at h
 |cons c cs=>
  refine⟨MA (oT r) c,cs.map (MA (oT r)),by unfold gG;rw[hc];rfl,?_⟩;exact(LG (pre:=[]) (i:=0) (c:=c) (rest:=cs) (by rw[cT,<-hc];exact hb)).2.1 rfl
theorem NP{rs:ah}(h:∀r∈rs,mD r=true){p:ai}(hp:SJ rs p):p.length<=4/\∃c cs,p=c::cs/\c.kind=1:=by
 obtain⟨r,hr,j,h1,h2,rfl⟩:=hp;have:=yW (h r hr);refine⟨by rw[cA];omega,?_⟩;obtain⟨c,cs,e,hk⟩:=QD (h r hr);obtain⟨j,rfl⟩:∃k,j=k+1:=⟨j-1,by omega⟩
 exact⟨c,cs.take j,by rw[e];rfl,hk⟩
theorem Ub{c:aL}{cs:ai}(hk:c.kind=1):uX (c::cs) []=[]:=by
 have h0:∀(l:ai),l.foldl (tu []) []=[]:=by
  intro l
  induction l with
  |nil=>rfl
  |cons x l ih=>rw[cj];exact ih
 unfold uX;rw[cj];have:tu [] [⟨[],[]⟩] c=[]:=by
  unfold tu HN;rw[bM hk];rfl
 rw[this,h0]
theorem KF{r:aK}(h:mD r=true):∀c∈gG r,c.pat.rel.length<=8/\c.pat.args.length<=3/\∀x∈c.pat.args,x.length<=16:=by
 intro c' Yh;obtain⟨c,hc,rfl⟩:=cB.1 Yh;obtain⟨h1,h2,h3,h4,h5⟩:=LF (KJ h c hc);have hV:∀x∈c.pat.args++[c.left,c.right],k6 x=true->x∈CE r.conds:=fun x hx hv=>Ip.2 ⟨bq.2 ⟨c,hc,hx⟩,hv⟩
 refine⟨h1,by show(c.pat.args.map _).length<=3;rw[ax];exact h2,fun x hx=>?_⟩;obtain⟨y,hy,rfl⟩:=cB.1 hx;exact Iz h (h3 y hy) (hV y (by simp[hy]))
theorem XU{p:aC}(h1:p.rel.length<=8)(h2:p.args.length<=3)(h3:∀x∈p.args,x.length<=16):(sx p).wt<=1048576:=by
 have a3:=Kw (p.args.map (C7 (p.args.foldl iW []))) (fun x hx=>by
  obtain⟨y,hy,rfl⟩:=cB.1 hx;exact a2Q (by omega) (h3 y hy))
 rw[ax]at a3;show aC.wt ⟨p.rel,p.args.map (C7 (p.args.foldl iW []))⟩<=1048576;unfold aC.wt;dsimp only;unfold tw at*;omega
def vb(al:bD):Prop:=∀x∈al,x.shape.wt<=1048576/\x.facts=[]
theorem Qs{al:bD}{ns:b9}{p:Int}{c:aL}(h:vb al)(hc:(sx c.pat).wt<=1048576):vb (JI al ns p c).1.1:=by
 unfold JI;cases MS p c ns 0 with
 |some i=>exact h
 |none=>
  show vb (Mo al c).1;unfold Mo;by_cases hk:c.kind=1\/c.kind=2
  ·rw[bK hk];unfold SN;cases Ta (sx c.pat) al 0 with
   |some i=>exact h
   |none=>
    intro x hx;rcases af.1 hx with hx|hx
    ·exact h x hx
    ·rw[cy.1 hx];exact⟨hc,rfl⟩
  ·rw[b8 hk];exact h
theorem MF:∀(cs:ai) (s:(bD×b9)×Int),vb s.1.1->(∀c∈cs,(sx c.pat).wt<=1048576)->vb (cs.foldl Ea s).1.1
 | [],_,h,_=>h
 |c::cs,s,h,hc=>MF cs (Ea s c) (Qs h (hc c (by simp))) (fun x hx=>hc x (by simp[hx]))
theorem xP(tk:aj){rs:ah}(h:∀r∈rs,mD r=true):vb (cI tk rs).1.1:=by
 have main:∀(l:ah) (z:(bD×b9)×bR),(∀r∈l,mD r=true)->vb z.1.1->vb (l.foldl G7 z).1.1:=by
  intro l
  induction l with
  |nil=>intro z _ hz;exact hz
  |cons r l ih=>
   intro z hl hz;refine ih (G7 z r) (fun x hx=>hl x (by simp[hx])) ?_;exact MF (gG r) (z.1,0) hz (fun c hc=>by
    obtain⟨p1,p2,p3⟩:=KF (hl r (by simp)) c hc;exact XU p1 p2 p3)
 exact main rs _ h (fun x hx=>by cases hx)
theorem Ku(tk:aj){rs:ah}(h:∀r∈rs,mD r=true)(h6:rs.length<=6):ER (cI tk rs).1.2:=by
 have hp:=(wV tk rs).1;have hl:=EJ tk h h6;refine⟨by omega,?_,?_⟩
 ·intro x hx;obtain⟨i,hi⟩:=dZ hx;have Qf:=(aF.1 hi).1;by_cases h0:i=0
  ·subst h0;rw[oG]at hi;cases hi;unfold root aL.wt;simp[oZ,tw]
  ·obtain⟨p,hpp,hpi⟩:=hp.below i x (by omega) hi;obtain⟨r,hr,j,j1,j2,e⟩:=hp.path i (by omega) Qf;rw[vH hi (by omega) hpp hpi]at e;have hm:x.cond∈gG r:=bw (by rw[<-e];simp:x.cond∈(gG r).take j);exact Iw (h r hr) _ hm
 ·intro i;by_cases hi:1<=i/\i<(cI tk rs).1.2.length
  ·exact(NP h (hp.path i hi.1 hi.2)).1
  ·unfold eL cV;rw[b8 (by omega)];simp
theorem W8(rs:ah)(fs:aJ)(t:Int)(hr:oZ aK.wt rs<=1048576)(hb:uN rs=true)(hf:FS fs)(h24:fs.length<=24):rF rs fs t=some ⟨rs,(cI [] rs).2,iD (cI [] rs).1.1 fs,fo (cI [] rs).1.2 fs,fs,t⟩:=by
 have h6:rs.length<=6:=by unfold uN at hb;simp only[aW,bC]at hb;omega
 have hv:=rR hb;have hsh:=xP [] hv;have hal:(cI [] rs).1.1.length<=1048576:=by
  have main:∀(l:ah) (z:(bD×b9)×bR),(∀r∈l,mD r=true)->(l.foldl G7 z).1.1.length<=z.1.1.length+4*l.length:=by
   intro l
   induction l with
   |nil=>intro z _;exact bN _
   |cons r l ih=>
    intro z hl;have h1:=ih (G7 z r) (fun x hx=>hl x (by simp[hx]));have h2:=(Eb (gG r) (z.1,0)).1;have h3:=yW (hl r (by simp));have h4:(G7 z r).1.1.length=((gG r).foldl Ea (z.1,0)).1.1.length:=rfl;rw[cj,aY];dsimp only at h2;omega
  have:=main rs (([],[root []]),[]) hv;unfold cI;simp only[bX]at this;omega
 unfold rF;rw[a7j rs hr hb,aA,a0B _ fs hf h24 hal (fun x hx=>(hsh x hx).1) (Ku [] hv h6)];rfl
theorem Tq{al:bD}(h:vb al):iD al []=al:=by
 unfold iD;have:∀l:bD,(∀x∈l,x.facts=[])->l.map (fun a=>(⟨a.shape,rO a.shape [] []⟩:aV))=l:=by
  intro l
  induction l with
  |nil=>intro _;rfl
  |cons x l ih=>
   intro hl;rw[bH,ih (fun y hy=>hl y (by simp[hy]))];have:=hl x (by simp);cases x;simp only at this;subst this;rfl
 exact this al fun x hx=>(h x hx).2
theorem YW{al:bD}{ns:b9}{p:Int}{c:aL}(h:∀x∈ns,x.tokens=[]):∀x∈(chR al ns p c).1.2,x.tokens=[]:=by
 unfold chR;cases MS p c ns 1 with
 |some i=>exact h
 |none=>
  intro x hx;rcases af.1 hx with hx|hx
  ·exact h x hx
  ·rw[cy.1 hx]
theorem T5:∀(cs:ai) (s:(bD×b9)×Int),(∀x∈s.1.2,x.tokens=[])->∀x∈(cs.foldl rtC s).1.2,x.tokens=[]
 | [],_,h=>h
 |c::cs,s,h=>T5 cs (rtC s c) (YW h)
theorem ZO(rs:ah):∀x∈(ZN rs).1.2,x.tokens=[]:=by
 have main:∀(l:ah) (z:(bD×b9)×bR),(∀x∈z.1.2,x.tokens=[])->∀x∈(l.foldl Y9 z).1.2,x.tokens=[]:=by
  intro l
  induction l with
  |nil=>intro z hz;exact hz
  |cons r l ih=>intro z hz;exact ih (Y9 z r) (T5 (gG r) (z.1,0) hz)
 exact main rs _ (fun x hx=>by cases hx)
theorem LQ(ns:b9):∀(l:b9) (i:Nat),(∀x∈l,x.tokens=[])->(∀j:Nat,i<=j->j<i+l.length->uX (eL ns (cV j)) []=[])->oS ns [] l i=l
 | [],_,_,_=>rfl
 |x::l,i,ht,hp=>by
  rw[oS,hp i (bN _) (by simp),LQ ns l (i+1) (fun y hy=>ht y (by simp[hy])) (fun j h1 h2=>hp j (by omega) (by simp only[aY];omega))];have:=ht x (by simp);cases x;simp only at this;subst this;rfl
theorem Tr{rs:ah}(h:∀r∈rs,mD r=true):fo (cI [] rs).1.2 []=(cI [⟨[],[]⟩] rs).1.2:=by
 have hp:=(wV [] rs).1;have e:(cI [] rs).1.2=root []::(ZN rs).1.2:=by rw[oG]
 have e2:(cI [⟨[],[]⟩] rs).1.2=root [⟨[],[]⟩]::(ZN rs).1.2:=by rw[oG]
 have hlen:(cI [] rs).1.2.length=(ZN rs).1.2.length+1:=by rw[e];rfl
 unfold fo;rw[e2];have h1:=LQ (cI [] rs).1.2 (ZN rs).1.2 1 (ZO rs) (fun j j1 j2=>by
  obtain⟨_,c,cs,ec,hk⟩:=NP h (hp.path j j1 (by rw[hlen];omega));rw[ec];exact Ub hk)
 have h2:oS (cI [] rs).1.2 [] (cI [] rs).1.2 0=oS (cI [] rs).1.2 [] (root []::(ZN rs).1.2) 0:=by rw[<-e]
 rw[h2,oS,h1,rP];rfl
end Go.Cx
namespace Go.Cx
open Go.RowKit Go.Proofs Tryz
def Cm(rs:ah)(fs:aJ)(t:Int):aG:=⟨rs,(cI [] rs).2,iD (cI [] rs).1.1 fs,fo (cI [] rs).1.2 fs,fs,t⟩
def Ur(n:aG):Bool:=uN n.rules&&(mJ n.facts&&(decide (0<=n.bn)&&Ma n (Cm n.rules n.facts 0)))
theorem FS.ED{fs:aJ}(h:oZ aC.wt fs<=1048576):FS fs:=⟨by have:=n9 aC.wt fs;omega,fun f hf=>by have:=nZ (w:=aC.wt) hf;omega⟩
theorem a1s(n:aG)(hr:oZ aK.wt n.rules<=1048576)(hf:oZ aC.wt n.facts<=1048576):qY n=some (Ur n):=by
 unfold qY Ur;rw[a4D _ hr,Vz _ hf,aA,aA];cases h1:uN n.rules with
 |false=>rfl
 |true=>
  cases h2:mJ n.facts with
  |false=>rfl
  |true=>
   rw[W8 _ _ _ hr h1 (FS.ED hf) (tj h2),aA,a7h,aA];simp only[aO,eo];by_cases h3:0<=n.bn
   ·rw[bM h3];rfl
   ·rw[bE h3];rfl
def uW(x:Node):Int×Int×aL:=(x.parent,x.cQ,x.cond)
theorem Wn{a b:b9}(h:a.map uW=b.map uW):a.map tY=b.map tY:=by
 have:=congrArg (List.map fun t:Int×Int×aL=>(t.1,t.2.2)) h;rw[pJ,pJ]at this;exact this
def Uc(ns:b9)(fs:aJ):b9->Nat->Bool
 | [],_=>true
 |x::xs,i=>decide (x.tokens=uX (eL ns (cV i)) fs)&&Uc ns fs xs (i+1)
theorem N6(fs:aJ):∀(a b:bD),a.map aV.shape=b.map aV.shape->((a.all fun x=>decide (x.facts=rO x.shape [] fs))=true↔a=iD b fs)
 | [],[],_=>⟨fun _=>rfl,fun _=>rfl⟩
 | [],_::_,h=>by simp at h
 |_::_,[],h=>by simp at h
 |x::a,y::b,h=>by
  rw[bH,bH]at h;obtain⟨h1,h2⟩:=wg h;have ih:=N6 fs a b h2;rw[dD,aW,bC,ih];show _↔x::a=⟨y.shape,rO y.shape [] fs⟩::iD b fs;constructor
  ·rintro⟨q1,q2⟩;rw[<-h1,<-q1,<-q2]
  ·intro q;obtain⟨q1,q2⟩:=wg q;exact⟨by rw[q1],q2⟩
theorem N8(ns:b9)(fs:aJ):∀(a b:b9) (i:Nat),a.map uW=b.map uW->(Uc ns fs a i=true↔a=oS ns fs b i)
 | [],[],_,_=>⟨fun _=>rfl,fun _=>rfl⟩
 | [],_::_,_,h=>by simp at h
 |_::_,[],_,h=>by simp at h
 |x::a,y::b,i,h=>by
  rw[bH,bH]at h;obtain⟨h1,h2⟩:=wg h;have ih:=N8 ns fs a b (i+1) h2;have e1:x.parent=y.parent:=(je h1).1;have e2:x.cQ=y.cQ:=(je (je h1).2).1;have e3:x.cond=y.cond:=(je (je h1).2).2;unfold Uc oS;rw[aW,bC,ih];constructor
  ·rintro⟨q1,q2⟩;rw[<-e1,<-e2,<-e3,<-q1,<-q2]
  ·intro q;obtain⟨q1,q2⟩:=wg q;exact⟨by rw[q1],q2⟩
theorem a0i(n:aG)(k:Option Bool)(hf:FS n.facts):∀(l:bD) (i:Nat),(∀x∈l,x.shape.wt<=1048576)->iy n k l i=bif l.all (fun x=>decide (x.facts=rO x.shape [] n.facts))then k else some false
 | [],_,_=>rfl
 |x::l,i,h=>by
  rw[iy,a2Y x.shape [] n.facts (h x (by simp)) PB.nil hf,aA,OZ,aA,a0i n k hf l _ (fun y hy=>h y (by simp[hy])),dD];cases decide (x.facts=rO x.shape [] n.facts)<;>rfl
theorem a0j(n:aG)(k:Option Bool)(hf:FS n.facts)(h24:n.facts.length<=24)(hp:ER n.nodes):∀(l:b9) (i:Nat),iz n k l i=bif Uc n.nodes n.facts l i then k else some false
 | [],_=>rfl
 |x::l,i=>by
  have RA:∀c∈eL n.nodes ((i:Nat):Int),c.wt<=1048576:=by
   intro c hc;obtain⟨z,hz,e⟩:=M8 hc;rw[<-e];exact hp.wt z hz
  rw[iz,a2f n _ ⟨hp.len,hp.wt⟩,aA,a5K _ n.facts RA (hp.path i) hf h24,aA,ZY,aA,a0j n k hf h24 hp l,Uc];show(bif !decide (x.tokens=uX (eL n.nodes (cV i)) n.facts)then some false else _)=_;cases decide (x.tokens=uX (eL n.nodes (cV i)) n.facts)<;>rfl
theorem a2Z(n:aG)(hr:oZ aK.wt n.rules<=1048576)(hf:oZ aC.wt n.facts<=1048576):qp n=some (Ur n):=by
 unfold qp Ur;rw[XD _ hr,X6 _ hf,aA,aA];cases h1:uN n.rules with
 |false=>rfl
 |true=>
  cases h2:mJ n.facts with
  |false=>rfl
  |true=>
   have h6:n.rules.length<=6:=by unfold uN at h1;simp only[aW,bC]at h1;omega
   have hv:=rR h1;simp only[aO,bP,aZ,eo];rw[a56,aA];have hroot:(cI [⟨[],[]⟩] n.rules).1.2.map uW=(cI [] n.rules).1.2.map uW:=by rw[oG,oG];rfl
   have hA:(cI [⟨[],[]⟩] n.rules).1.1=(cI [] n.rules).1.1:=by rw[oG,oG]
   have hE:(cI [⟨[],[]⟩] n.rules).2=(cI [] n.rules).2:=by rw[oG,oG]
   have hmem:Ma n (Cm n.rules n.facts 0)=(decide (n.ends=(cI [] n.rules).2)&&(decide (n.av=iD (cI [] n.rules).1.1 n.facts)&&decide (n.nodes=fo (cI [] n.rules).1.2 n.facts))):=by
    unfold Ma Cm;simp
   by_cases hform:LS n ⟨n.rules,(cI [⟨[],[]⟩] n.rules).2,(cI [⟨[],[]⟩] n.rules).1.1,(cI [⟨[],[]⟩] n.rules).1.2,[],0⟩=true
   ·rw[hform];unfold LS at hform;simp only[aW,bC]at hform;obtain⟨f1,f2,f3⟩:=hform;have f2':n.nodes.map uW=(cI [] n.rules).1.2.map uW:=by rw[<-hroot];exact f2
    have f1':n.av.map aV.shape=(cI [] n.rules).1.1.map aV.shape:=by rw[<-hA];exact f1
    have f3':n.ends=(cI [] n.rules).2:=by rw[<-hE];exact f3
    have a1V:=Ku [] hv h6;have hfn:=Wn f2';have hok:ER n.nodes:=by
     refine⟨by have:=congrArg List.length f2';rw[ax,ax]at this;rw[this];exact a1V.len,fun x hx=>?_,fun i=>by rw[xK hfn];exact a1V.path i⟩;have hm:tY x∈(cI [] n.rules).1.2.map tY:=by rw[<-hfn];exact cB.2 ⟨x,hx,rfl⟩
     obtain⟨w,hw,e⟩:=cB.1 hm;have:w.cond=x.cond:=(je e).2;rw[<-this];exact a1V.wt w hw
    have hsh:∀x∈n.av,x.shape.wt<=1048576:=by
     intro x hx;have hm:x.shape∈(cI [] n.rules).1.1.map aV.shape:=by rw[<-f1'];exact cB.2 ⟨x,hx,rfl⟩
     obtain⟨w,hw,e⟩:=cB.1 hm;rw[<-e];exact(xP [] hv w hw).1
    have g1:=N6 n.facts n.av _ f1';have g2:=N8 n.nodes n.facts n.nodes _ 0 f2';have g3:oS n.nodes n.facts (cI [] n.rules).1.2 0=fo (cI [] n.rules).1.2 n.facts:=by
     unfold fo;have:∀(l:b9) (i:Nat),oS n.nodes n.facts l i=oS (cI [] n.rules).1.2 n.facts l i:=by
      intro l
      induction l with
      |nil=>intro i;rfl
      |cons x l ih=>intro i;rw[oS,oS,ih,xK hfn]
     exact this _ _
    rw[g3]at g2;rw[hmem,bM f3',eo,a0i n _ (FS.ED hf) _ _ hsh,a0j n _ (FS.ED hf) (tj h2) hok];have k1:(n.av.all fun x=>decide (x.facts=rO x.shape [] n.facts))=decide (n.av=iD (cI [] n.rules).1.1 n.facts):=by rw[bU,g1,bC]
    have k2:Uc n.nodes n.facts n.nodes 0=decide (n.nodes=fo (cI [] n.rules).1.2 n.facts):=by rw[bU,g2,bC]
    rw[k1,k2];by_cases h3:0<=n.bn
    ·rw[bM h3,bE (by omega)];cases decide (n.av=iD (cI [] n.rules).1.1 n.facts)<;>cases decide (n.nodes=fo (cI [] n.rules).1.2 n.facts)<;>rfl
    ·rw[bE h3,bM (by omega)];rfl
   ·have hfalse:LS n ⟨n.rules,(cI [⟨[],[]⟩] n.rules).2,(cI [⟨[],[]⟩] n.rules).1.1,(cI [⟨[],[]⟩] n.rules).1.2,[],0⟩=false:=by
     cases hq:LS n ⟨n.rules,(cI [⟨[],[]⟩] n.rules).2,(cI [⟨[],[]⟩] n.rules).1.1,(cI [⟨[],[]⟩] n.rules).1.2,[],0⟩with
     |true=>exact absurd hq hform
     |false=>rfl
    rw[hfalse];have hm:Ma n (Cm n.rules n.facts 0)=false:=by
     cases hq:Ma n (Cm n.rules n.facts 0)with
     |false=>rfl
     |true=>
      exfalso;rw[hmem]at hq;simp only[aW,bC]at hq;obtain⟨q1,q2,q3⟩:=hq;apply hform;unfold LS;simp only[aW,bC];have r1:n.av.map aV.shape=(cI [⟨[],[]⟩] n.rules).1.1.map aV.shape:=by rw[hA,q2];unfold iD;rw[pJ];rfl
      have r2:n.nodes.map uW=(cI [⟨[],[]⟩] n.rules).1.2.map uW:=by
       rw[hroot,q3];have:∀(ns l:b9) (i:Nat),(oS ns n.facts l i).map uW=l.map uW:=by
        intro ns l
        induction l with
        |nil=>intro i;rfl
        |cons x l ih=>intro i;rw[oS,bH,ih];rfl
       exact this _ _ _
      exact⟨r1,r2,by rw[hE];exact q1⟩
    rw[hm,vV];rfl
end Go.Cx
namespace Go.Cx
open Go.RowKit Go.Proofs Tryz
theorem TD{fs:aJ}(hf:FS fs):∀(cs:ai) (l:aj) (n:Nat),(∀c∈cs,c.wt<=1048576)->(∀t∈l,TK n t)->∀t∈cs.foldl (tu fs) l,TK (n+cs.length) t
 | [],l,n,_,hl=>hl
 |c::cs,l,n,hc,hl=>by
  have:=TD hf cs (tu fs l c) (n+1) (fun x hx=>hc x (by simp[hx])) (OK hl (hc c (by simp)) hf);rw[aY,show n+(cs.length+1)=n+1+cs.length from by omega];exact this
end Go.Cx
namespace Go.Cx
open Go.RowKit Go.Proofs Tryz
theorem N7(ns:b9)(fs:aJ):∀(l:b9) (i j:Nat),(oS ns fs l i)[j]?=(l[j]?).map fun x=>⟨x.parent,x.cond,x.cQ,uX (eL ns (cV (i+j))) fs⟩
 | [],_,_=>by simp[oS]
 |x::l,i,0=>by simp[oS]
 |x::l,i,j+1=>by
  rw[oS,fO,fO,N7 ns fs l (i+1) j,show i+1+j=i+(j+1)by omega]
end Go.Cx
namespace Go.Cx
open Go.RowKit Go.Proofs Tryz
def findF(f:aC):aJ->Nat->Int
 | [],_=> -1
 |x::xs,i=>if x=f then(i:Int)else findF f xs (i+1)
theorem Jh(f:aC):∀(l:aJ) (i:Nat),decide (findF f l i>=0)=decide (f∈l)
 | [],i=>by simp[findF]
 |x::xs,i=>by
  rw[findF];by_cases h:x=f
  ·rw[bK h];subst h;simp
  ·rw[b8 h,Jh f xs (i+1)];have:f≠x:=fun e=>h e.symm
   simp[this]
theorem a2X(l:aJ)(f:aC):rq l f=some (findF f l 0):=by
 unfold rq;have:∀(r:aJ) (i:Nat),jW l f (some (-1)) r i=some (findF f r i):=by
  intro r
  induction r with
  |nil=>intro i;rfl
  |cons x xs ih=>
   intro i;rw[jW,XO,aA,ih,findF];by_cases h:x=f
   ·rw[bM h,bK h,aO]
   ·rw[bE h,b8 h,aZ]
 exact this l 0
theorem a1p(l:aJ)(f:aC):rU l f=some (findF f l 0):=by
 unfold rU;have:∀(r:aJ) (i:Nat),jL l f (some (-1)) r i=some (findF f r i):=by
  intro r
  induction r with
  |nil=>intro i;rfl
  |cons x xs ih=>
   intro i;rw[jL,WK,aA,ih,findF];by_cases h:x=f
   ·rw[bM h,bK h,aO]
   ·rw[bE h,b8 h,aZ]
 exact this l 0
theorem Mx{a b:Bytes}(h:vT a b>0):vT b a<0:=by
 unfold vT at h⊢;by_cases h1:Op.bytesLess a b=true
 ·rw[bK h1]at h;omega
 ·rw[b8 h1]at h;by_cases h2:a=b
  ·rw[bK h2]at h;omega
  ·have h3:Op.bytesLess b a=true:=by
    cases hb:Op.bytesLess b a with
    |true=>rfl
    |false=>exact absurd (GF (by simpa using h1) hb) h2
   rw[bK h3];omega
theorem Mz{a b:Bytes}(h:vT a b=0):a=b:=iU fun hne=>SY hne h
theorem LC{a b:Bytes}(h:vT a b<0):vT b a>0:=by
 unfold vT at h⊢;by_cases h1:Op.bytesLess a b=true
 ·have h3:=Hi h1;have h4:¬(Op.bytesLess b a=true):=by rw[h3];simp
  have h5:¬b=a:=fun e=>by subst e;rw[vK]at h1;cases h1
  rw[b8 h4,b8 h5];omega
 ·rw[b8 h1]at h;by_cases h2:a=b
  ·rw[bK h2]at h;omega
  ·rw[b8 h2]at h;omega
theorem Mu(a b:Bytes):(AU a b>0->AU b a<0)/\(AU a b=0->a=b)/\(AU a b<0->AU b a>0):=by
 have num:∀ {s:Bytes} {n:Nat},xJ s=some n->Lib.decDigits n=s:=by
  intro s n h;unfold xJ at h;split at h
  ·split at h
   ·split at h
    ·rename_i h2;cases h;exact h2
    ·cases h
   ·cases h
  ·cases h
 unfold AU;cases ha:xJ a with
 |none=>
  cases hb:xJ b with
  |none=>exact⟨Mx,Mz,LC⟩
  |some y=>simp
 |some x=>
  cases hb:xJ b with
  |none=>simp
  |some y=>
   simp only[GG];refine⟨fun h=>?_,fun h=>?_,fun h=>?_⟩
   ·split at h
    ·omega
    ·split at h
     ·rw[bK (by omega)];omega
     ·omega
   ·split at h
    ·omega
    ·split at h
     ·omega
     ·have:x=y:=by omega
      rw[<-num ha,<-num hb,this]
   ·split at h
    ·rw[b8 (by omega),bK (by omega)];omega
    ·split at h<;>omega
theorem LJ{α:Type}{g:α->α->Int}(hg:∀a b,(g a b>0->g b a<0)/\(g a b=0->a=b)/\(g a b<0->g b a>0)):∀(a b:List α),
 (∀z,tC g a b=some z->z≠0/\∃y,tC g b a=some y/\(z>0->y<0)/\(z<0->y>0))/\(tC g a b=none->tC g b a=none/\(a.length=b.length->a=b))
 | [],[]=>⟨fun z h=>(by simp[tC]at h),fun _=>⟨rfl,fun _=>rfl⟩⟩
 | [],y::ys=>⟨fun z h=>(by simp[tC]at h),fun _=>⟨by simp[tC],fun h=>by simp at h⟩⟩
 |x::xs,[]=>⟨fun z h=>(by simp[tC]at h),fun _=>⟨by simp[tC],fun h=>by simp at h⟩⟩
 |x::xs,y::ys=>by
  obtain⟨i1,i2⟩:=LJ hg xs ys;obtain⟨g1,g2,g3⟩:=hg x y;by_cases h0:g x y=0
  ·have e:=g2 h0;subst e;simp only[tC,h0,ne_eq,not_true_eq_false,Cw];exact⟨i1,fun h=>⟨(i2 h).1,fun hl=>by rw[(i2 h).2 (by simpa using hl)]⟩⟩
  ·have h1:g y x≠0:=by
    intro e;by_cases hp:g x y>0
    ·have:=g1 hp;omega
    ·have:=g3 (by omega);omega
   simp only[tC,ne_eq,h0,h1,not_false_eq_true,qM];refine⟨fun z h=>?_,fun h=>by cases h⟩;cases h;exact⟨h0,_,rfl,g1,g3⟩
theorem Mw{α:Type}{g:α->α->Int}(hg:∀a b,(g a b>0->g b a<0)/\(g a b=0->a=b)/\(g a b<0->g b a>0))(a b:List α):(cmpL g a b>0->cmpL g b a<0)/\(cmpL g a b=0->a=b)/\(cmpL g a b<0->cmpL g b a>0):=by
 obtain⟨h1,h2⟩:=LJ hg a b;unfold cmpL;cases hd:tC g a b with
 |some z=>
  obtain⟨hz,y,hy,p,q⟩:=h1 z hd;rw[hy];exact⟨p,fun e=>absurd e hz,q⟩
 |none=>
  obtain⟨h3,h4⟩:=h2 hd;rw[h3];simp only[GG];refine⟨fun h=>?_,fun h=>?_,fun h=>?_⟩
  ·split at h
   ·omega
   ·split at h
    ·rw[bK (by omega)];omega
    ·omega
  ·split at h
   ·omega
   ·split at h
    ·omega
    ·exact h4 (by omega)
  ·split at h
   ·rw[b8 (by omega),bK (by omega)];omega
   ·split at h<;>omega
theorem yU(a b:aC):(nu a b>0->nu b a<0)/\(nu a b=0->a=b)/\(nu a b<0->nu b a>0):=by
 obtain⟨h1,h2,h3⟩:=Mw Mu a.args b.args;unfold nu;by_cases hr:a.rel=b.rel
 ·rw[b8 (by simpa using hr),b8 (by simpa using hr.symm)];refine⟨h1,fun h=>?_,h3⟩;cases a;cases b;simp only at hr h2 h;rw[hr,h2 h]
 ·have hr2:b.rel≠a.rel:=fun e=>hr e.symm
  rw[bK hr,bK hr2];exact⟨Mx,fun h=>absurd (Mz h) hr,LC⟩
def zW(f:aC):aJ->aJ
 | []=>[f]
 |x::xs=>if nu x f>0 then f::x::xs else x::zW f xs
theorem WR(f:aC):∀(l:aJ) (x:aC),x∈zW f l↔x=f\/x∈l
 | [],x=>by simp[zW]
 |y::ys,x=>by
  rw[zW];split
  ·simp
  ·simp only[bI,WR f ys x];constructor
   ·rintro(h|h|h)<;>simp[h]
   ·rintro(h|h|h)<;>simp[h]
theorem Pq(f:aC):∀(l:aJ),(zW f l).length=l.length+1
 | []=>rfl
 |y::ys=>by rw[zW];split<;>simp[Pq f ys]
theorem Mr{f:aC}(hf:rA f=true):∀(l:aJ) (p:Option aC),chainB p l=true->f∉l->(∀q,p=some q->nu q f<0)->chainB p (zW f l)=true
 | [],p,_,_,hp=>by
  cases p with
  |none=>simp[zW,chainB,hf]
  |some q=>simp[zW,chainB,hf,hp q rfl]
 |x::xs,p,h,hn,hp=>by
  simp only[bI,GD]at hn;have hx:chainB (some x) xs=true/\rA x=true/\(∀q,p=some q->nu q x<0):=by
   cases p with
   |none=>simp[chainB]at h;exact⟨h.2,h.1,by simp⟩
   |some q=>
    simp only[chainB,aW,bC]at h;exact⟨by first|exact h.2.2|exact h.2,by first|exact h.1.1|exact h.1,fun q' e=>by cases e;first|exact h.1.2|exact h.2.1⟩
  rw[zW];split
  ·rename_i hgt;have h1:=(yU x f).1 hgt;cases p with
   |none=>simp[chainB,hf,hx.2.1,h1,hx.1]
   |some q=>simp[chainB,hf,hx.2.1,h1,hx.1,hp q rfl]
  ·rename_i hle;have hlt:nu x f<0:=by
    have:nu x f≠0:=fun e=>hn.1 ((yU x f).2.1 e).symm
    omega
   have ih:=Mr hf xs (some x) hx.1 hn.2 (fun q e=>by cases e;exact hlt);cases p with
   |none=>simp[chainB,hx.2.1,ih]
   |some q=>simp[chainB,hx.2.1,ih,hx.2.2 q rfl]
theorem YQ{f:aC}{l:aJ}(hf:rA f=true)(hl:mJ l=true)(hn:f∉l)(h24:l.length≠24):mJ (zW f l)=true:=by
 unfold mJ at hl⊢;simp only[aW,bC]at hl⊢;exact⟨Mr hf l none hl.1 hn (by simp),by rw[Pq];omega⟩
theorem a5B(a:aJ)(f:aC)(K:Bool->aJ->Option aJ)(hf:f.args.length<=1099511627776):∀(rest:aJ) (i:Nat) (v:Bool) (w:aJ),(∀x∈rest,x.args.length<=1099511627776)->w.length+2*rest.length<=1048576->f∉rest->
 (v=true->dS a f K rest i v w=K true (w++rest))/\
 (v=false->(dS a f K rest i v w=K true (w++zW f rest))\/(dS a f K rest i v w=K false (w++rest)/\zW f rest=rest++[f])):=by
 intro rest
 induction rest with
 |nil=>intro i v w _ _ _;exact⟨fun h=>by subst h;simp[dS],fun h=>by subst h;exact .inr ⟨by simp[dS],rfl⟩⟩
 |cons x xs ih=>
  intro i v w hs hl hn;simp only[aY]at hl;simp only[bI,GD]at hn;have hx:=hs x (by simp);have hs':∀y∈xs,y.args.length<=1099511627776:=fun y hy=>hs y (by simp[hy])
  have cx:=Js x hx;have cf:=Js f hf;have nx:=fun w':aJ=>fun h:w'.length<1099511627776=>l9 (w:=w') (c:=aC.c) (y:=[D.str x.rel,D.sl (x.args.map tx)]) (b:=40) h (by decide)
  have nf:=fun w':aJ=>fun h:w'.length<1099511627776=>l9 (w:=w') (c:=aC.c) (y:=[D.str f.rel,D.sl (f.args.map tx)]) (b:=40) h (by decide)
  constructor
  ·intro h;subst h;rw[dS,bP,aZ,cx,aA,nx w (by omega),aO,(ih (i+1) true (w++[x]) hs' (by simp;omega) hn.2).1 rfl];simp
  ·intro h;subst h;rw[dS,cF,aO,X9,aA];by_cases hgt:nu x f>0
   ·left
    have e2:room (((w.map aC.c)++[[D.str f.rel,D.sl (f.args.map tx)]]).length+[[D.str x.rel,D.sl (x.args.map tx)]].length) 40=true:=by
     have:=nx (w++[f]) (by simp;omega);rw[bV]at this;exact this
    rw[bM (by omega:nu x f>=0),aO,aA,bM hgt,aO,cf,aA,nf w (by omega),aO,cx,aA,e2,aO];rw[(ih (i+1) true (w++[f]++[x]) hs' (by simp;omega) hn.2).1 rfl,zW,bK hgt];simp
   ·have hlt:¬nu x f>=0:=by
     have:nu x f≠0:=fun e=>hn.1 ((yU x f).2.1 e).symm
     omega
    rw[bE hlt,aZ,cx,aA,nx w (by omega),aO];rw[zW,b8 hgt];rcases(ih (i+1) false (w++[x]) hs' (by simp;omega) hn.2).2 rfl with q|⟨q1,q2⟩
    ·left;rw[q];simp
    ·right;rw[q1,q2];simp
theorem a5A(l:aJ)(f:aC)(hf:f.args.length<=1099511627776)(hl:∀x∈l,x.args.length<=1099511627776)(hn:l.length<=1000)(hm:f∉l):vm l f=some (zW f l):=by
 unfold vm;rcases(a5B l f _ hf l 0 false [] hl (by simp;omega) hm).2 rfl with q|⟨q1,q2⟩
 ·rw[q];rfl
 ·rw[q1,q2];show(bif !false then _ else _)=_;rw[cF,aO,Js f hf,aA,cT,l9 (w:=l) (c:=aC.c) (y:=[D.str f.rel,D.sl (f.args.map tx)]) (by omega) (by decide),aO]
def KO(l:aJ)(f:aC):aJ×Bool:=if mJ l=true/\rA f=true/\f∉l/\l.length≠24 then(zW f l,true)else(l,false)
theorem a4w(l:aJ)(f:aC)(hl:oZ aC.wt l<=1048576)(hf:f.wt<=1048576):tV l f=some (KO l f):=by
 have hm:∀x∈l,x.args.length<=1048576:=fun x hx=>by have:=aC.dJ (n:=1048576) (p:=x) (by have:=nZ (w:=aC.wt) hx;omega);omega
 have hlen:=n9 aC.wt l;have cp:=B7 l (by omega) hm;unfold tV KO;rw[X6 l hl,aA];cases h1:mJ l with
 |false=>rw[cF,aO,cp,aA,b8 (by simp)]
 |true=>
  rw[bP,aZ,XE f hf,aA];cases h2:rA f with
  |false=>rw[cF,aO,cp,aA,b8 (by simp)]
  |true=>
   rw[bP,aZ,a2X,aA,Jh];by_cases h3:f∈l
   ·rw[bM h3,aO,cp,aA,b8 (by simp[h3])]
   ·rw[bE h3,aZ,ax];by_cases h4:l.length=24
    ·have e:(((l.length:Nat):Int)==(24:Int))=true:=by simp[h4]
     rw[e,aO,cp,aA,b8 (by simp[h4])]
    ·have e:(((l.length:Nat):Int)==(24:Int))=false:=by simp;omega
     rw[e,aZ,a5A l f (by have:=aC.dJ hf;omega) (fun x hx=>by have:=hm x hx;omega) (by have:=tj h1;omega) h3,aA,bK ⟨rfl,rfl,h3,h4⟩]
theorem LD{a b c:Bytes}(h1:vT a b<0)(h2:vT b c<0):vT a c<0:=by
 have lt:∀ {x y:Bytes},vT x y<0->Op.bytesLess x y=true:=by
  intro x y h;unfold vT at h;split at h
  ·assumption
  ·split at h<;>omega
 have:=AR (lt h1) (lt h2);unfold vT;rw[bK this];omega
theorem YZ{x y:Int}:GG x y<0↔x<y:=by
 unfold GG;split
 ·omega
 ·split<;>omega
theorem Qt{a b c:Bytes}(h1:AU a b<0)(h2:AU b c<0):AU a c<0:=by
 unfold AU at*;cases ha:xJ a<;>cases hb:xJ b<;>cases hc:xJ c<;>simp only[ha,hb,hc]at h1 h2⊢ <;>first|omega|exact LD h1 h2| (rw[YZ]at*;omega)
theorem YY{α:Type}(g:α->α->Int):cmpL g [] []=0:=rfl
theorem YX{α:Type}(g:α->α->Int)(y:α)(ys:List α):cmpL g [] (y::ys)= -1:=by
 unfold cmpL tC GG;simp<;>omega
theorem SX{α:Type}(g:α->α->Int)(x:α)(xs:List α):cmpL g (x::xs) []=1:=by
 unfold cmpL tC GG;simp<;>omega
theorem SW{α:Type}(g:α->α->Int)(x y:α)(xs ys:List α):cmpL g (x::xs) (y::ys)=if g x y≠0 then g x y else cmpL g xs ys:=by
 unfold cmpL;rw[tC];by_cases h:g x y≠0
 ·rw[bK h,bK h]
 ·rw[b8 h,b8 h,aY,aY];cases tC g xs ys with
  |some z=>rfl
  |none=>
   show GG _ _=GG _ _;unfold GG
   congr 1
   ·rw[wT];omega
   ·congr 1
    rw[wT];omega
theorem LB{α:Type}{g:α->α->Int}(h0:∀a b,g a b=0->a=b)(ht:∀a b c,g a b<0->g b c<0->g a c<0):∀(a b c:List α),cmpL g a b<0->cmpL g b c<0->cmpL g a c<0
 | [],[],c,h1,_=>by rw[YY]at h1;omega
 |_::_,[],c,h1,_=>by rw[SX]at h1;omega
 |_,y::ys,[],_,h2=>by rw[SX]at h2;omega
 | [],y::ys,z::zs,_,_=>by rw[YX];omega
 |x::xs,y::ys,z::zs,h1,h2=>by
  rw[SW]at*;by_cases e1:g x y=0
  ·have:=h0 _ _ e1;subst this;rw[b8 (by omega)]at h1;by_cases e2:g x z=0
   ·rw[b8 (by omega)]at h2⊢;exact LB h0 ht xs ys zs h1 h2
   ·rw[bK e2]at h2⊢;exact h2
  ·rw[bK e1]at h1;by_cases e2:g y z=0
   ·have:=h0 _ _ e2;subst this;rw[bK e1];exact h1
   ·rw[bK e2]at h2;have:=ht x y z h1 h2;rw[bK (by omega)];exact this
theorem Qu{a b c:aC}(h1:nu a b<0)(h2:nu b c<0):nu a c<0:=by
 unfold nu at*;by_cases e1:a.rel=b.rel
 ·by_cases e2:b.rel=c.rel
  ·rw[b8 (by simpa using e1)]at h1;rw[b8 (by simpa using e2)]at h2;rw[b8 (by simpa using e1.trans e2)];exact LB (fun a b=>(Mu a b).2.1) (fun _ _ _=>Qt) _ _ _ h1 h2
  ·rw[bK e2]at h2;rw[e1,bK e2];exact h2
 ·rw[bK e1]at h1;by_cases e2:b.rel=c.rel
  ·rw[<-e2,bK e1];exact h1
  ·rw[bK e2]at h2;have:=LD h1 h2;have hne:a.rel≠c.rel:=fun e=>by rw[e,My]at this;omega
   rw[bK hne];exact this
theorem Mv(a:aC):¬nu a a<0:=by
 intro h;have:=(yU a a).2.2 h;omega
theorem Te(a:aC):nu a a=0:=by
 have h1:=Mv a;have h2:=(yU a a).1;omega
theorem EU{a b:aJ}:cmpL nu a b=0↔a=b:=by
 constructor
 ·exact(Mw yU a b).2.1
 ·rintro rfl
  induction a with
  |nil=>rfl
  |cons x xs ih=>rw[SW,b8 (by simp[Te]),ih]
theorem D1{p:Option aC}{x:aC}{xs:aJ}(h:chainB p (x::xs)=true):rA x=true/\(∀q,p=some q->nu q x<0)/\chainB (some x) xs=true:=by
 cases p with
 |none=>simp[chainB]at h;exact⟨h.1,by simp,h.2⟩
 |some q=>
  simp only[chainB,aW,bC]at h;exact⟨h.1.1,fun q' e=>by cases e;exact h.1.2,h.2⟩
theorem Mp:∀ {l:aJ} {p:aC},chainB (some p) l=true->∀x∈l,nu p x<0
 | [],_,_,_,h=>by cases h
 |y::ys,p,h,x,hx=>by
  obtain⟨_,h2,h3⟩:=D1 h;have hp:=h2 p rfl;rcases bI.1 hx with rfl|hx
  ·exact hp
  ·exact Qu hp (Mp h3 x hx)
theorem Hj:∀ {l:aJ} {p:Option aC},chainB p l=true->l.Nodup
 | [],_,_=>List.nodup_nil
 |x::xs,p,h=>by
  obtain⟨_,_,h3⟩:=D1 h;rw[eW];exact⟨fun hx=>Mv x (Mp h3 x hx),Hj h3⟩
theorem PA{l:aJ}(h:mJ l=true):l.Nodup:=by
 unfold mJ at h;simp only[aW]at h;exact Hj h.1
theorem K3:∀ {l:aJ} {p:Option aC},chainB p l=true->∀x∈l,rA x=true
 | [],_,_,_,h=>by cases h
 |y::ys,p,h,x,hx=>by
  obtain⟨h1,_,h3⟩:=D1 h;rcases bI.1 hx with rfl|hx
  ·exact h1
  ·exact K3 h3 x hx
theorem Nn{l:aJ}{f:aC}(h:(KO l f).2=true):mJ (KO l f).1=true:=by
 unfold KO at h⊢;split at h
 ·rename_i hc;rw[bK hc];exact YQ hc.2.1 hc.1 hc.2.2.1 hc.2.2.2
 ·cases h
end Go.Cx
namespace Go.Cx
open Go.RowKit Go.Proofs Tryz
theorem UP{p:aC}(h:vu p=true)(hl:p.args.length<=5):Cov (sx p) p:=by
 have hT:∀t∈p.args,oW t=true:=TC h;refine⟨UQ h hl,h,rfl,Zj (p.args.foldl iW []),?_,fun y hy=>?_⟩
 ·rw[HS,pJ];have:p.args.map (Zj (p.args.foldl iW [])∘C7 (p.args.foldl iW []))=p.args.map id:=by
   apply kT;intro t ht;exact a5Q hl ht (hT t ht)
  rw[this,List.map_id]
 ·refine Jv fun q hq e=>?_
  obtain⟨i,hi,_,hpv,_⟩:=Jx (Bw p.args SL.nil) hq;have h5:=ze p.args;have:=yR (OJ i (by omega));rw[<-hpv,e,hy]at this;cases this
theorem NH{p f:aC}{b:aR}(hl:p.args.length<=5)(hm:(sE p f b).2=true):(sE (sx p) f []).2=true:=by
 unfold sE at hm;cases hc:(vu p&&(rA f&&(nL b&&(p.rel==f.rel&&decide (p.args.length=f.args.length)))))with
 |false=>rw[hc]at hm;cases hm
 |true=>
  rw[hc,aO]at hm;simp only[aW,bC,cO]at hc;obtain⟨c1,c2,c3,c4,c5⟩:=hc;obtain⟨h,_,h2,h3⟩:=zF p.args f.args b c5 (fun x hx=>(Ms (PG c3) x hx).1) hm;exact Ya (UP c1 hl) (Lv.2 ⟨c1,c2,c4,h,h2,h3⟩)
theorem LO{c:aL}(hl:c.pat.args.length<=5)(t:aN):∀fs:aJ,(rO (sx c.pat) [] fs).flatMap (ext1 c t)=fs.flatMap (ext1 c t)
 | []=>rfl
 |f::fs=>by
  have ih:=LO hl t fs;unfold rO at*;cases hm:(sE (sx c.pat) f []).2 with
  |true=>rw[qS (by rw[hm]),cr,cr,ih]
  |false=>
   have h0:ext1 c t f=[]:=by
    unfold ext1;cases h2:(sE c.pat f t.bind).2 with
    |false=>rfl
    |true=>rw[NH hl h2]at hm;cases hm
   rw[qR (by simp[hm]),cr,h0,ih];rfl
theorem Tt{p:aC}{b:aR}(hl:p.args.length<=5)(fs:aJ):rO p b (rO (sx p) [] fs)=rO p b fs:=by
 unfold rO;rw[v7];apply vW;intro f _;cases h:(sE p f b).2 with
 |false=>rfl
 |true=>rw[NH hl h];rfl
theorem UE{c:aL}(hl:c.pat.args.length<=5)(fs:aJ)(A:aj):tu (rO (sx c.pat) [] fs) A c=tu fs A c:=by
 unfold tu
 congr 1
 funext t
 unfold HN Jk;rw[LO hl,Tt hl]
theorem Wq{c:aL}(h1:c.kind≠1)(h2:c.kind≠2)(fs:aJ)(A:aj):tu [] A c=tu fs A c:=by
 unfold tu
 congr 1
 funext t
 unfold HN Jk;rw[bE h1,bE h2];rfl
def KD(A:aj):Prop:=A.Pairwise fun t u=>t.facts≠u.facts
theorem HH{c:aL}{t u:aN}{f:aC}(h:u∈ext1 c t f):u.facts=t.facts++[f]:=by
 unfold ext1 at h;cases hm:(sE c.pat f t.bind).2 with
 |false=>rw[hm]at h;cases h
 |true=>rw[hm,aO]at h;rw[cy.1 h]
theorem M2{c:aL}{fs:aJ}{t u:aN}(h:u∈HN c fs t):(c.kind=1/\∃f∈fs,u.facts=t.facts++[f])\/(c.kind≠1/\u=t):=by
 unfold HN at h;by_cases hk:c.kind=1
 ·rw[bM hk,aO]at h;obtain⟨f,hf,hu⟩:=bq.1 h;exact .inl ⟨hk,f,hf,HH hu⟩
 ·rw[bE hk,aZ]at h;cases hh:Jk c t.bind fs with
  |false=>rw[hh]at h;cases h
  |true=>rw[hh,aO]at h;exact .inr ⟨hk,cy.1 h⟩
theorem ZJ{c:aL}{fs:aJ}{A:aj}(hf:fs.Nodup)(hA:KD A):KD (tu fs A c):=by
 unfold KD tu;rw[CB];refine⟨fun t _=>?_,?_⟩
 ·unfold HN;cases decide (c.kind=1)with
  |true=>
   rw[aO,CB];refine⟨fun f _=>?_,?_⟩
   ·unfold ext1;cases(sE c.pat f t.bind).2<;>simp
   ·exact List.Pairwise.imp (fun {f g} hne x hx y hy e=>by
     rw[HH hx,HH hy]at e;exact hne (by simpa using e)) hf
  |false=>cases Jk c t.bind fs<;>simp
 ·exact List.Pairwise.imp (fun {t u} hne x hx y hy e=>by
   rcases M2 hx with⟨k,f,_,e1⟩|⟨k,e1⟩<;>rcases M2 hy with⟨k',g,_,e2⟩|⟨k',e2⟩
   ·rw[e1,e2]at e;exact hne (List.append_inj' e rfl).1
   ·exact k' k
   ·exact k k'
   ·rw[e1,e2]at e;exact hne e) hA
theorem KD.one(t:aN):KD [t]:=List.pairwise_singleton _ _
theorem Sf{fs:aJ}(hf:fs.Nodup):∀(cs:ai) {A:aj},KD A->KD (cs.foldl (tu fs) A)
 | [],_,h=>h
 |c::cs,_,h=>Sf hf cs (ZJ hf h)
theorem Zg{cs:ai}{fs:aJ}(hf:fs.Nodup):KD (uX cs fs):=Sf hf cs (KD.one _)
def T8(t:aN)(l:aj):aj:=l.filter fun u=>decide (t.facts=u.facts)
def MW(l:aj)(t:aN):Bool:=l.any fun u=>decide (u.facts=t.facts)
def Ij(now old:aj):Nat:=(now.filter fun t=>MW old t).length
theorem NQ{t:aN}:∀ {l:aj},KD l->(T8 t l).length=(bif MW l t then 1 else 0)
 | [],_=>rfl
 |u::l,h=>by
  unfold KD at h;rw[jI]at h;have ih:=NQ (t:=t) (l:=l) h.2;unfold T8 MW at*;by_cases e:t.facts=u.facts
  ·rw[qS (by simp[e]),sG,bM e.symm,Bool.true_or,aO,aY,ih];have:(l.any fun u=>decide (u.facts=t.facts))=false:=by
    rw[zY];intro w hw;have:=h.1 w hw;rw[<-e]at this;simp only[bC];exact fun e2=>this e2.symm
   rw[this];rfl
  ·rw[qR (by simp[e]),sG,bE (fun h=>e h.symm),nc,ih]
def KM(al:bD)(x:Node):Prop:=(x.cond.kind=1\/x.cond.kind=2->∃a:Nat,x.cQ=cV a/\∃y,al[a]?=some y/\y.shape=sx x.cond.pat)/\(¬(x.cond.kind=1\/x.cond.kind=2)->x.cQ= -1)
theorem KM.mono{al:bD}{x:Node}(h:KM al x)(m:bD):KM (al++m) x:=⟨fun hk=>by
 obtain⟨a,h1,y,h2,h3⟩:=h.1 hk;exact⟨a,h1,y,by rw[au (aF.1 h2).1];exact h2,h3⟩,h.2⟩
theorem P8{sh:aC}:∀ {l:bD} {i j:Nat},Ta sh l i=some j->∃x,l[j-i]?=some x/\i<=j/\x.shape=sh
 |x::l,i,j,h=>by
  unfold Ta at h;split at h
  ·rename_i hc;cases h;exact⟨x,by simp,bN _,hc⟩
  ·obtain⟨y,h1,h2,h3⟩:=P8 h;refine⟨y,?_,by omega,h3⟩;rw[show j-i=(j-(i+1))+1 by omega];exact h1
theorem a16(al:bD)(sh:aC):(∃m,(SN al sh).1=al++m)/\∃a:Nat,(SN al sh).2=cV a/\∃y,(SN al sh).1[a]?=some y/\y.shape=sh:=by
 unfold SN;cases h:Ta sh al 0 with
 |some i=>
  obtain⟨x,h1,_,h3⟩:=P8 h;exact⟨⟨[],by simp⟩,i,rfl,x,by simpa using h1,h3⟩
 |none=>exact⟨⟨_,rfl⟩,al.length,rfl,⟨sh,[]⟩,by simp,rfl⟩
theorem a19(al:bD)(c:aL)(p:Int)(tk:aj):(∃m,(Mo al c).1=al++m)/\KM (Mo al c).1 ⟨p,c,(Mo al c).2,tk⟩:=by
 unfold Mo;by_cases hk:c.kind=1\/c.kind=2
 ·rw[bK hk];obtain⟨h1,h2⟩:=a16 al (sx c.pat);exact⟨h1,fun _=>h2,fun h=>absurd hk h⟩
 ·rw[b8 hk];exact⟨⟨[],by simp⟩,fun h=>absurd h hk,fun _=>rfl⟩
theorem a1A{al:bD}{ns:b9}{p:Int}{c:aL}(h:∀x∈ns,KM al x):∀x∈(JI al ns p c).1.2,KM (JI al ns p c).1.1 x:=by
 unfold JI;cases MS p c ns 0 with
 |some i=>exact h
 |none=>
  obtain⟨⟨m,hm⟩,h2⟩:=a19 al c p [];intro x hx;rcases af.1 hx with hx|hx
  ·show KM (Mo al c).1 x;rw[hm];exact(h x hx).mono m
  ·rw[cy.1 hx];exact h2
theorem XX:∀(cs:ai) (s:(bD×b9)×Int),(∀x∈s.1.2,KM s.1.1 x)->∀x∈(cs.foldl Ea s).1.2,KM (cs.foldl Ea s).1.1 x
 | [],_,h=>h
 |c::cs,s,h=>XX cs (Ea s c) (a1A h)
theorem XY:∀(l:ah) (z:(bD×b9)×bR),(∀x∈z.1.2,KM z.1.1 x)->∀x∈(l.foldl G7 z).1.2,KM (l.foldl G7 z).1.1 x
 | [],_,h=>h
 |r::l,z,h=>XY l (G7 z r) (XX (gG r) (z.1,0) h)
theorem Ze(tk:aj)(rs:ah):∀x∈(cI tk rs).1.2,KM (cI tk rs).1.1 x:=
 XY rs (([],[root tk]),[]) (fun x hx=>by
  rw[cy.1 hx];exact⟨fun h=>by simp[root]at h,fun _=>rfl⟩)
theorem Xd{tk:aj}{rs:ah}{i:Nat}{x:Node}(h1:1<=i)(hx:(cI tk rs).1.2[i]?=some x):∃r∈rs,x.cond∈gG r:=by
 have hp:=(wV tk rs).1;obtain⟨p,hpp,hpi⟩:=hp.below i x h1 hx;obtain⟨r,hr,j,j1,j2,e⟩:=hp.path i h1 (aF.1 hx).1;rw[vH hx h1 hpp hpi]at e;exact⟨r,hr,bw (by rw[<-e];simp:x.cond∈(gG r).take j)⟩
theorem Xj{ns:b9}{i p:Nat}{x:Node}(h1:1<=i)(hx:ns[i]?=some x)(hp:x.parent=cV p)(hpi:p<i)(fs:aJ):uX (eL ns (cV i)) fs=tu fs (uX (eL ns (cV p)) fs) x.cond:=by
 rw[vH hx h1 hp hpi];unfold uX;rw[List.foldl_append];rfl
end Go.Cx
namespace Go.Cx
open Go.RowKit Go.Proofs Tryz
theorem a4P(a:aJ)(f:aC)(K:Bool->aJ->Option aJ)(hf:f.args.length<=1099511627776):∀(rest:aJ) (i:Nat) (v:Bool) (w:aJ),(∀x∈rest,x.args.length<=1099511627776)->w.length+2*rest.length<=1048576->
 (v=true->cu a f K rest i v w=K true (w++rest))/\
 (v=false->(cu a f K rest i v w=K true (w++zW f rest))\/(cu a f K rest i v w=K false (w++rest)/\zW f rest=rest++[f])):=by
 intro rest
 induction rest with
 |nil=>intro i v w _ _;exact⟨fun h=>by subst h;simp[cu],fun h=>by subst h;exact .inr ⟨by simp[cu],rfl⟩⟩
 |cons x xs ih=>
  intro i v w hs hl;simp only[aY]at hl;have hx:=hs x (by simp);have hs':∀y∈xs,y.args.length<=1099511627776:=fun y hy=>hs y (by simp[hy])
  have cx:=Jn x hx;have cf:=Jn f hf;have nx:=fun w':aJ=>fun h:w'.length<1099511627776=>l9 (w:=w') (c:=aC.c) (y:=[D.str x.rel,D.sl (x.args.map tx)]) (b:=40) h (by decide)
  have nf:=fun w':aJ=>fun h:w'.length<1099511627776=>l9 (w:=w') (c:=aC.c) (y:=[D.str f.rel,D.sl (f.args.map tx)]) (b:=40) h (by decide)
  constructor
  ·intro h;subst h;rw[cu,bP,aZ,cx,aA,nx w (by omega),aO,(ih (i+1) true (w++[x]) hs' (by simp;omega)).1 rfl];simp
  ·intro h;subst h;rw[cu,cF,aO,WC,aA];by_cases hgt:nu x f>0
   ·left
    have e2:room (((w.map aC.c)++[[D.str f.rel,D.sl (f.args.map tx)]]).length+[[D.str x.rel,D.sl (x.args.map tx)]].length) 40=true:=by
     have:=nx (w++[f]) (by simp;omega);rw[bV]at this;exact this
    rw[bM hgt,aO,cf,aA,nf w (by omega),aO,cx,aA,e2,aO];rw[(ih (i+1) true (w++[f]++[x]) hs' (by simp;omega)).1 rfl,zW,bK hgt];simp
   ·rw[bE hgt,aZ,cx,aA,nx w (by omega),aO];rw[zW,b8 hgt];rcases(ih (i+1) false (w++[x]) hs' (by simp;omega)).2 rfl with q|⟨q1,q2⟩
    ·left;rw[q];simp
    ·right;rw[q1,q2];simp
theorem a4O(l:aJ)(f:aC)(hf:f.args.length<=1099511627776)(hl:∀x∈l,x.args.length<=1099511627776)(hn:l.length<=1000):tN l f=some (zW f l):=by
 unfold tN;rcases(a4P l f _ hf l 0 false [] hl (by simp;omega)).2 rfl with q|⟨q1,q2⟩
 ·rw[q];rfl
 ·rw[q1,q2];show(bif !false then _ else _)=_;rw[cF,aO,Jn f hf,aA,cT,l9 (w:=l) (c:=aC.c) (y:=[D.str f.rel,D.sl (f.args.map tx)]) (by omega) (by decide),aO]
theorem a4C(l:aJ)(f:aC)(hl:oZ aC.wt l<=1048576)(hf:f.wt<=1048576):tI l f=some (KO l f):=by
 have hm:∀x∈l,x.args.length<=1048576:=fun x hx=>by have:=aC.dJ (n:=1048576) (p:=x) (by have:=nZ (w:=aC.wt) hx;omega);omega
 have hlen:=n9 aC.wt l;have cp:=Ay l (by omega) hm;unfold tI KO;rw[Vz l hl,aA];cases h1:mJ l with
 |false=>rw[cF,aO,cp,aA,b8 (by simp)]
 |true=>
  have h24:=tj h1;rw[bP,aZ,WI f hf,aA];cases h2:rA f with
  |false=>rw[cF,aO,cp,aA,b8 (by simp)]
  |true=>
   rw[bP,aZ,a1p,aA,Jh];by_cases h3:f∈l
   ·rw[bM h3,aO,cp,aA,b8 (by simp[h3])]
   ·rw[bE h3,aZ,ax];by_cases h4:l.length=24
    ·rw[bM (by omega),aO,cp,aA,b8 (by simp[h4])]
    ·rw[bE (by omega),aZ,a4O l f (by have:=aC.dJ hf;omega) (fun x hx=>by have:=hm x hx;omega) (by omega),aA,bK ⟨rfl,rfl,h3,h4⟩]
end Go.Cx
namespace Go.Cx
open Go.RowKit Go.Proofs Tryz
structure AM(n:aG):Prop where
 rules:oZ aK.wt n.rules<=1048576
 facts:oZ aC.wt n.facts<=1048576
 ends:n.ends.length<=1048576
 av:n.av.length<=1048576
 cQ:∀a∈n.av,a.shape.wt<=1048576/\FS a.facts
 nodes:n.nodes.length<=1048576
 node:∀x∈n.nodes,x.cond.wt<=1048576/\x.tokens.length<=1048576/\∀t∈x.tokens,TK 1048576 t
theorem FS.args{fs:aJ}(h:FS fs):∀f∈fs,f.args.length<=1048576:=fun f hf=>aC.dJ (h.2 f hf)
theorem ZQ(l:aj)(hl:l.length<=1048576)(h:∀t∈l,TK 1048576 t):j6 l=some l:=by
 unfold j6;rw[Cl (c:=aN.c) (b:=48) (f:=qG) (g:=fun x=>x) (L:=iT l _) (k:=_) (by decide) (fun _ _=>rfl) (fun _ _ _ _=>rfl) _ _ _ (fun t ht=>XB t (h t ht)) (by simp;omega)];simp
theorem Ys(l:aj)(hl:l.length<=1048576)(h:∀t∈l,TK 1048576 t):kE l=some l:=by
 unfold kE;rw[Cl (c:=aN.c) (b:=48) (f:=fun t:aN=>(cS t.facts).bind fun y=>(iL t.bind).bind fun z=>some (⟨y,z⟩:aN)) (g:=fun x=>x) (L:=gj l _) (k:=_) (by decide) (fun _ _=>rfl) (fun x xs i w=>by
  rw[gj];cases cS x.facts with
  |none=>rfl
  |some a=>cases iL x.bind<;>rfl) _ _ _ (fun t ht=>by
  have hk:=h t ht;rw[Ay t.facts hk.1 (fun f hf=>aC.dJ (hk.2.1 f hf)),aA,RR t.bind (by have:=hk.2.2.1;omega)];rfl) (by simp;omega)]
 simp
theorem a5C(l:bR)(h:l.length<=1048576):uj l=some l:=by
 unfold uj;rw[G4 (by simp;omega) (by decide),aO,cT]
theorem a4Q(l:bR)(h:l.length<=1048576):rX l=some l:=by
 unfold rX;rw[G4 (by simp;omega) (by decide),aO,cT]
theorem OV(n:aG)(h:AM n):ni n=some n:=by
 have hF:=FS.ED h.facts;have h1:=h.av;have h2:=h.nodes;unfold ni;rw[QI n.rules h.rules,aA,a5C n.ends h.ends,aA,B7 n.facts hF.1 hF.args,aA];rw[Cl (c:=aV.c) (b:=64) (f:=fun a:aV=>(dl a.shape).bind fun y=>(dB a.facts).bind fun z=>some (⟨y,z⟩:aV)) (g:=fun x=>x) (L:=lm n _ _ _ _) (k:=_) (by decide) (fun _ _=>rfl) (fun x xs i w=>by
  rw[lm];cases dl x.shape with
  |none=>rfl
  |some a=>cases dB x.facts<;>rfl) _ _ _ (fun a ha=>by
  obtain⟨g1,g2⟩:=h.cQ a ha;rw[XC a.shape (by have:=aC.dJ g1;omega),aA,B7 a.facts g2.1 g2.args];rfl) (by simp;omega)]
 rw[Cl (c:=Node.c) (b:=120) (f:=fun x:Node=>(jF x.cond).bind fun y=>(j6 x.tokens).bind fun z=>some (⟨x.parent,y,x.cQ,z⟩:Node)) (g:=fun x=>x) (L:=lq n _ _ _ _ _) (k:=_) (by decide) (fun _ _=>rfl) (fun x xs i w=>by
  rw[lq];cases jF x.cond with
  |none=>rfl
  |some a=>cases j6 x.tokens<;>rfl) _ _ _ (fun x hx=>by
  obtain⟨g1,g2,g3⟩:=h.node x hx;rw[OU x.cond (by have:=aC.dJ (aL.fB g1);omega),aA,ZQ x.tokens g2 g3];rfl) (by simp;omega)]
 simp
theorem O6(n:aG)(h:AM n):gi n=some n:=by
 have hF:=FS.ED h.facts;have h1:=h.av;have h2:=h.nodes;unfold gi;rw[Po n.rules h.rules,aA,a4Q n.ends h.ends,aA,Ay n.facts hF.1 hF.args,aA];rw[Cl (c:=aV.c) (b:=64) (f:=fun a:aV=>(dR a.shape).bind fun y=>(cS a.facts).bind fun z=>some (⟨y,z⟩:aV)) (g:=fun x=>x) (L:=gN n _ _ _ _) (k:=_) (by decide) (fun _ _=>rfl) (fun x xs i w=>by
  rw[gN];cases dR x.shape with
  |none=>rfl
  |some a=>cases cS x.facts<;>rfl) _ _ _ (fun a ha=>by
  obtain⟨g1,g2⟩:=h.cQ a ha;rw[WH a.shape (by have:=aC.dJ g1;omega),aA,Ay a.facts g2.1 g2.args];rfl) (by simp;omega)]
 rw[Cl (c:=Node.c) (b:=120) (f:=fun x:Node=>(eY x.cond).bind fun y=>(kE x.tokens).bind fun z=>some (⟨x.parent,y,x.cQ,z⟩:Node)) (g:=fun x=>x) (L:=gO n _ _ _ _ _) (k:=_) (by decide) (fun _ _=>rfl) (fun x xs i w=>by
  rw[gO];cases eY x.cond with
  |none=>rfl
  |some a=>cases kE x.tokens<;>rfl) _ _ _ (fun x hx=>by
  obtain⟨g1,g2,g3⟩:=h.node x hx;rw[O5 x.cond (by have:=aC.dJ (aL.fB g1);omega),aA,Ys x.tokens g2 g3];rfl) (by simp;omega)]
 simp
theorem RS{n:aG}(h:Ur n=true):uN n.rules=true/\mJ n.facts=true/\0<=n.bn/\n=Cm n.rules n.facts n.bn:=by
 unfold Ur Ma Cm at h;simp only[aW,bC]at h;obtain⟨b1,b2,b0,_,b3,_,b5,b4⟩:=h;refine⟨b1,b2,b0,?_⟩;unfold Cm;cases n;simp only at b3 b4 b5⊢;rw[<-b3,<-b4,<-b5]
theorem PW{f:aC}(h:rA f=true):f.wt<=100:=by
 unfold rA at h;simp only[aW,bC,ay]at h;obtain⟨h1,h2,h3⟩:=h;have a1:=NJ h2;have a2:=Kw f.args (fun x hx=>by have:=ET (h1 x hx);omega);unfold aC.wt tw;unfold tw at a2;omega
theorem L7{fs:aJ}(h:mJ fs=true):∀f∈fs,rA f=true:=by
 unfold mJ at h;simp only[aW]at h;exact K3 h.1
theorem NY{α:Type}{w:α->Nat}{B:Nat}:∀(l:List α),(∀x∈l,w x<=B)->oZ w l<=(B+1)*l.length
 | [],_=>by simp[oZ]
 |x::l,h=>by
  have h1:=NY l fun y hy=>h y (by simp[hy])
  have h2:=h x (by simp);rw[pg,aY,Nat.mul_add];omega
theorem Cy{fs:aJ}(h:mJ fs=true):oZ aC.wt fs<=2424:=by
 have h1:=NY (w:=aC.wt) (B:=100) fs fun f hf=>PW (L7 h f hf)
 have h2:=tj h;have:(100+1)*fs.length<=(100+1)*24:=kU _ h2;omega
theorem vQ(ns:b9)(fs:aJ)(i:Nat):(fo ns fs)[i]?=(ns[i]?).map fun x=>⟨x.parent,x.cond,x.cQ,uX (eL ns (cV i)) fs⟩:=by
 unfold fo;rw[N7,cm]
theorem EW(ns:b9)(fs:aJ):(fo ns fs).length=ns.length:=Ts ns fs ns 0
theorem AP{rs:ah}(h:uN rs=true):rs.length<=6:=by unfold uN at h;simp only[aW,bC]at h;omega
theorem Rq{rs:ah}(tk:aj)(h:uN rs=true):(cI tk rs).1.1.length<=24:=by
 have h6:=AP h;have main:∀(l:ah) (z:(bD×b9)×bR),(∀r∈l,mD r=true)->(l.foldl G7 z).1.1.length<=z.1.1.length+4*l.length:=by
  intro l
  induction l with
  |nil=>intro z _;exact bN _
  |cons r l ih=>
   intro z hl;have h1:=ih (G7 z r) (fun x hx=>hl x (by simp[hx]));have h2:=(Eb (gG r) (z.1,0)).1;have h3:=yW (hl r (by simp));have h4:(G7 z r).1.1.length=((gG r).foldl Ea (z.1,0)).1.1.length:=rfl;rw[cj,aY];dsimp only at h2;omega
 have:=main rs (([],[root tk]),[]) (rR h);unfold cI;simp only[bX]at this;omega
theorem Ir{rs:ah}{fs:aJ}(h1:uN rs=true)(h2:mJ fs=true){i:Nat}{x:Node}(hx:(fo (cI [] rs).1.2 fs)[i]?=some x):x.cond.wt<=1048576/\x.tokens.length<=390625/\(∀t∈x.tokens,TK 4 t)/\KD x.tokens:=by
 have hv:=rR h1;have hok:=Ku [] hv (AP h1);rw[vQ]at hx;obtain⟨y,hy,rfl⟩:=BH.1 hx;have Uo:=FS.ED (by have:=Cy h2;omega:oZ aC.wt fs<=1048576);have RA:∀c∈eL (cI [] rs).1.2 (cV i),c.wt<=1048576:=by
  intro c hc;obtain⟨z,hz,e⟩:=M8 hc;rw[<-e];exact hok.wt z hz
 refine⟨hok.wt y (aD hy),Xi (hok.path i) (tj h2),fun t ht=>?_,Zg (PA h2)⟩;exact(TD Uo _ [⟨[],[]⟩] 0 RA Rc t ht).le (by have:=hok.path i;omega)
theorem Lz{rs:ah}{fs:aJ}(t:Int)(h1:uN rs=true)(h2:mJ fs=true)(hr:oZ aK.wt rs<=1048576):AM (Cm rs fs t):=by
 have hv:=rR h1;have h6:=AP h1;have hw:=Cy h2;have hl:=EJ [] hv h6;refine⟨hr,by show oZ aC.wt fs<=1048576;omega,?_,?_,?_,?_,?_⟩
 ·show(cI [] rs).2.length<=1048576;rw[(wV [] rs).2.1];omega
 ·show(iD (cI [] rs).1.1 fs).length<=1048576;unfold iD;rw[ax];have:=Rq [] h1;omega
 ·intro a ha;obtain⟨y,hy,rfl⟩:=cB.1 (show a∈(cI [] rs).1.1.map _ from ha);refine⟨(xP [] hv y hy).1,?_,fun f hf=>?_⟩
  ·have:=sW (fun f=>(sE y.shape f []).2) fs;have:=tj h2;show(rO y.shape [] fs).length<=1048576;unfold rO;omega
  ·have:=PW (L7 h2 f (fN.1 hf).1);omega
 ·show(fo (cI [] rs).1.2 fs).length<=1048576;rw[EW];omega
 ·intro x hx;obtain⟨i,hi⟩:=dZ (show x∈fo (cI [] rs).1.2 fs from hx);obtain⟨g1,g2,g3,_⟩:=Ir h1 h2 hi;exact⟨g1,by omega,fun t ht=>(g3 t ht).le (by omega)⟩
def adT(now old:aj):Nat:=now.length-Ij now old
theorem Ps(now old:aj):Ij now old<=now.length:=sW _ _
theorem Li(t:aN)(l old:aj):Ij (t::l) old=(bif MW old t then 1 else 0)+Ij l old:=by
 unfold Ij;cases h:MW old t with
 |true=>rw[qS (by rw[h]),aY,aO];omega
 |false=>rw[qR (by simp[h]),aZ];omega
def stepT(al:bD)(f:aC)(x:Node)(now old:aj)(t:Int):Int:=
 if x.cQ<0 then IntKind.i64.wrap (t+((adT now old:Nat):Int))else match lF al x.cQ with
  |none=>t
  |some y=>bif (sE y.shape f []).2 then IntKind.i64.wrap (IntKind.i64.wrap (t+IntKind.i64.wrap (((adT now old:Nat):Int)*((y.facts.length:Nat):Int)))+((Ij now old:Nat):Int))else IntKind.i64.wrap (t+IntKind.i64.wrap (((adT now old:Nat):Int)*((y.facts.length:Nat):Int)))
def G9(ns:b9)(p:Int):aj:=match lF ns p with|some x=>x.tokens|none=>[]
def trN(N0 N1:b9)(al:bD)(f:aC):b9->Int->Int
 | [],t=>t
 |x::xs,t=>trN N0 N1 al f xs (stepT al f x (G9 N1 x.parent) (G9 N0 x.parent) t)
theorem T7(a b:aj)(i1:Nat)(x:aN)(k:Int->Option (Int×Int)):∀(l:aj) (i v:Nat),v+l.length<=1099511627000->jz a b i1 x k l i (v:Int)=k ((v+(T8 x l).length:Nat):Int)
 | [],i,v,_=>rfl
 |y::l,i,v,h=>by
  simp only[aY]at h;have ih:=T7 a b i1 x k l (i+1);unfold T8 at*;rw[jz,a4y,aA];by_cases e:x.facts=y.facts
  ·rw[show((cmpL nu x.facts y.facts:Int)==0)=true by simp[EU.2 e],aO,EO (by omega),ih (v+1) (by omega),qS (by simp[e]),aY]
   congr 2;omega
  ·rw[show((cmpL nu x.facts y.facts:Int)==0)=false by
    have:cmpL nu x.facts y.facts≠0:=fun h=>e (EU.1 h)
    simp[this],aZ,ih v (by omega),qR (by simp[e])]
theorem OW(a b:aj)(k:Int->Option (Int×Int))(hK:KD b)(hb:b.length<=1048576):∀(l:aj) (i v:Nat),v+l.length<=1099500000000->mB a b k l i (v:Int)=k ((v+Ij l b:Nat):Int)
 | [],i,v,_=>rfl
 |x::l,i,v,h=>by
  simp only[aY]at h;have hx:=NQ (t:=x) hK;rw[mB,uJ (by omega),aO,T7 a b i x _ b 0 v (by omega),hx,Li];cases MW b x with
  |true=>rw[aO,OW a b k hK hb l (i+1) (v+1) (by omega)];congr 2;omega
  |false=>rw[aZ,OW a b k hK hb l (i+1) (v+0) (by omega)];congr 2;omega
theorem a5D(now old:aj)(hK:KD old)(h1:now.length<=1048576)(h2:old.length<=1048576):uk now old=some (((Ij now old:Nat):Int),((adT now old:Nat):Int)):=by
 have hle:=Ps now old;unfold uk;have:=OW now old (fun(wZ:Int)=>(some (wZ,IntKind.i64.wrap (((now.map aN.c).length:Int)-wZ)))) hK h2 now 0 0 (by omega);rw[show(0:Int)=((0:Nat):Int)from rfl,this,cm,ax,gV (rQ.i64.2 (by omega))];unfold adT
 congr 2
 omega
theorem a4L(l:aj)(t:aN):rY l t=some (MW l t):=by
 unfold rY;have:∀(r:aj) (i:Nat),jR l t (some false) r i=some (MW r t):=by
  intro r
  induction r with
  |nil=>intro i;rfl
  |cons x r ih=>
   intro i;rw[jR,a4F,aA,ih];unfold MW;rw[sG];by_cases e:x.facts=t.facts
   ·rw[show((cmpL nu x.facts t.facts:Int)==0)=true by simp[EU.2 e],aO,bM e,Bool.true_or]
   ·rw[show((cmpL nu x.facts t.facts:Int)==0)=false by
     have:cmpL nu x.facts t.facts≠0:=fun h=>e (EU.1 h)
     simp[this],aZ,bE e,nc]
 exact this l 0
theorem WA(n:aG)(f:aC)(y3:aG×Unit)(u:Int)(i1:Nat)(x xx y:Node)(k:Int->Int->Option aG)(hy:lF n.nodes x.parent=some y):∀(l:aj) (i a b:Nat),a+l.length<=1099511627000->b+l.length<=1099511627000->
 j9 n f y3 u i1 x xx k l i (a:Int) (b:Int)=k ((a+Ij l y.tokens:Nat):Int) ((b+adT l y.tokens:Nat):Int)
 | [],i,a,b,_,_=>rfl
 |t::l,i,a,b,h1,h2=>by
  simp only[aY]at h1 h2;have ih:=WA n f y3 u i1 x xx y k hy l (i+1);have hle:=Ps l y.tokens;rw[j9,hy,aA,a4L,aA];unfold adT at*;rw[Li,aY];cases MW y.tokens t with
  |true=>
   rw[aO,aO,EO (by omega),ih (a+1) b (by omega) (by omega)]
   congr 2<;>omega
  |false=>
   rw[aZ,aZ,EO (by omega),ih a (b+1) (by omega) (by omega)]
   congr 2<;>omega
def a6D(N0 N1:b9)(al:bD)(x:Node):Prop:=(∃p0 p1,lF N0 x.parent=some p0/\lF N1 x.parent=some p1/\p1.tokens.length<=1048576)/\(x.cQ<0\/∃y,lF al x.cQ=some y/\y.shape.wt<=1048576)
theorem W9(n:aG)(f:aC)(y3:aG×Unit)(k:Int->Option aG)(hf:f.wt<=1048576):∀(l:b9) (i:Nat) (u:Int),1<=i->(∀x∈l,a6D n.nodes y3.1.nodes y3.1.av x)->eZ n f y3 k l i u=k (trN n.nodes y3.1.nodes y3.1.av f l u)
 | [],_,_,_,_=>rfl
 |x::l,i,u,hi,hU=>by
  have ih:=W9 n f y3 k hf l (i+1);have hU':=fun z (hz:z∈l)=>hU z (by simp[hz])
  obtain⟨⟨p0,p1,e0,e1,hl⟩,ha⟩:=hU x (by simp);rw[eZ,show(((i:Nat):Int)==0)=false by simp;omega,aZ,e1,aA,uJ (by omega),aO];rw[show(0:Int)=((0:Nat):Int)from rfl,WA n f y3 u i x p1 p0 _ e0 p1.tokens 0 0 0 (by omega) (by omega),cm,cm,trN];unfold stepT;rw[show G9 y3.1.nodes x.parent=p1.tokens by unfold G9;rw[e1],show G9 n.nodes x.parent=p0.tokens by unfold G9;rw[e0]];by_cases hal:x.cQ<0
  ·rw[bM (by simpa using hal),aO,bK hal,ih _ (by omega) hU']
  ·rw[bE (by simpa using hal),aZ,b8 hal];rcases ha with ha|⟨y,hy,hyw⟩
   ·exact absurd ha hal
   ·rw[hy,aA,a1t y.shape f [] hyw hf PB.nil,aA,ax];dsimp only;cases(sE y.shape f []).2 with
    |true=>rw[aO,aO,ih _ (by omega) hU']
    |false=>rw[aZ,aZ,ih _ (by omega) hU']
theorem yE{α:Type}(l:List α)(i:Nat):lF l (cV i)=l[i]?:=by
 unfold lF cV;rw[bM (by omega),aO];rfl
theorem Wj{rs:ah}{fs0 fs:aJ}(h1:uN rs=true)(h0:mJ fs0=true)(h2:mJ fs=true){i:Nat}(hi:1<=i){x:Node}(hx:(cI [] rs).1.2[i]?=some x):
 ∃(p:Nat) (q:Node),p<i/\x.parent=cV p/\(cI [] rs).1.2[p]?=some q/\(fo (cI [] rs).1.2 fs0)[p]?=some ⟨q.parent,q.cond,q.cQ,uX (eL (cI [] rs).1.2 (cV p)) fs0⟩/\(fo (cI [] rs).1.2 fs)[p]?=some ⟨q.parent,q.cond,q.cQ,uX (eL (cI [] rs).1.2 (cV p)) fs⟩/\
  x.cond.pat.args.length<=3/\x.cond.wt<=1048576/\((x.cQ<0/\x.cond.kind≠1/\x.cond.kind≠2)\/∃(a:Nat) (y:aV),x.cQ=cV a/\(cI [] rs).1.1[a]?=some y/\y.shape=sx x.cond.pat/\y.shape.wt<=1048576):=by
 have hv:=rR h1;obtain⟨p,hp,hpi⟩:=(wV [] rs).1.below i x hi hx;have Qf:=(aF.1 hx).1;have hq:=aa (show p<(cI [] rs).1.2.length by omega);obtain⟨r,hr,hc⟩:=Xd hi hx;have hal:=Ze [] rs x (aD hx);refine⟨p,_,hpi,hp,hq,by rw[vQ,hq];rfl,by rw[vQ,hq];rfl,(KF (hv r hr) _ hc).2.1,Iw (hv r hr) _ hc,?_⟩;by_cases hk:x.cond.kind=1\/x.cond.kind=2
 ·obtain⟨a,e1,y,e2,e3⟩:=hal.1 hk;exact .inr ⟨a,y,e1,e2,e3,(xP [] hv y (aD e2)).1⟩
 ·exact .inl ⟨by rw[hal.2 hk];decide,fun e=>hk (.inl e),fun e=>hk (.inr e)⟩
def VL(n:aG)(fs:aJ)(f:aC):aG:=Cm n.rules fs (trN n.nodes (fo (cI [] n.rules).1.2 fs) (iD (cI [] n.rules).1.1 fs) f ((fo (cI [] n.rules).1.2 fs).drop 1) n.bn)
theorem a7e(n:aG)(fs:aJ)(f:aC)(hn:Ur n=true)(hr:oZ aK.wt n.rules<=1048576)(h2:mJ fs=true)(hf:f.wt<=1048576):tM n fs f=some (VL n fs f):=by
 obtain⟨h1,h0,ht,e⟩:=RS hn;have hv:=rR h1;have h6:=AP h1;have Uo:=FS.ED (by have:=Cy h2;omega:oZ aC.wt fs<=1048576);have hok:AM n:=by rw[e];exact Lz _ h1 h0 hr
 have hN:n.nodes=fo (cI [] n.rules).1.2 n.facts:=congrArg aG.nodes e;have hA:n.av=iD (cI [] n.rules).1.1 n.facts:=congrArg aG.av e;have hE:n.ends=(cI [] n.rules).2:=congrArg aG.ends e;have hform:n.nodes.map tY=(cI [] n.rules).1.2.map tY:=by rw[hN];exact HI _ _ _ _
 have hp0:=Ku [] hv h6;have a1Y:ER n.nodes:=by
  refine⟨hok.nodes,fun x hx=>(hok.node x hx).1,fun i=>?_⟩;rw[xK hform];exact hp0.path i
 have hfA:iD n.av fs=iD (cI [] n.rules).1.1 fs:=by
  rw[hA];unfold iD;rw[pJ];rfl
 have hfN:fo n.nodes fs=fo (cI [] n.rules).1.2 fs:=by
  have key:∀(l m:b9) (i:Nat),l.map uW=m.map uW->oS n.nodes fs l i=oS (cI [] n.rules).1.2 fs m i:=by
   intro l
   induction l with
   |nil=>intro m i hm;cases m with
    |nil=>rfl
    |cons y m=>simp at hm
   |cons x l ih=>intro m i hm;cases m with
    |nil=>simp at hm
    |cons y m=>
     rw[bH,bH]at hm;obtain⟨q1,q2⟩:=wg hm;have e1:x.parent=y.parent:=(je q1).1;have e2:x.cQ=y.cQ:=(je (je q1).2).1;have e3:x.cond=y.cond:=(je (je q1).2).2;rw[oS,oS,ih m (i+1) q2,xK hform,e1,e2,e3]
  refine key _ _ 0 ?_;rw[hN];have:∀(ns l:b9) (i:Nat),(oS ns n.facts l i).map uW=l.map uW:=by
   intro ns l
   induction l with
   |nil=>intro i;rfl
   |cons x l ih=>intro i;rw[oS,bH,ih];rfl
  exact this _ _ _
 unfold tM;rw[O6 n hok,aA,a0B n fs Uo (tj h2) hok.av (fun x hx=>(hok.cQ x hx).1) a1Y,aA,hfA,hfN];have hlen:=EW (cI [] n.rules).1.2 fs;have a9V:=EJ [] hv h6;dsimp only;rw[uJ (by omega),aO];have qx:fo (cI [] n.rules).1.2 fs=(fo (cI [] n.rules).1.2 fs).take 1++(fo (cI [] n.rules).1.2 fs).drop 1:=(bp 1 _).symm;cases hns:fo (cI [] n.rules).1.2 fs with
 |nil=>
  have:=(wV [] n.rules).1.pos;rw[hns]at hlen;simp at hlen;omega
 |cons x0 l=>
  rw[eZ,show(((0:Nat):Int)==0)=true from rfl,aO,W9 n f _ _ hf l 1 _ (bN _) (fun x hx=>?_)]
  ·unfold VL Cm;rw[hns,hE];rfl
  ·obtain⟨i,hi⟩:=dZ hx;have hi2:(fo (cI [] n.rules).1.2 fs)[i+1]?=some x:=by rw[hns];exact hi
   rw[vQ]at hi2;obtain⟨z,hz,rfl⟩:=BH.1 hi2;obtain⟨p,q,_,e1,_,e3,e4,_,_,e7⟩:=Wj h1 h0 h2 (i:=i+1) (by omega) hz;have g4:=(Ir h1 h2 e4).2.1;have u3:=(show lF n.nodes z.parent=(fo (cI [] n.rules).1.2 n.facts)[p]? by rw[e1,yE,hN]).trans e3;have u4:=(show lF (x0::l) z.parent=(fo (cI [] n.rules).1.2 fs)[p]? by rw[e1,yE,hns]).trans e4;refine⟨⟨_,_,u3,u4,by omega⟩,?_⟩
   ·rcases e7 with⟨e7,_⟩|⟨a,y,e7,e8,_,e10⟩
    ·exact .inl e7
    ·refine .inr ⟨⟨y.shape,rO y.shape [] fs⟩,?_,e10⟩;show lF (iD (cI [] n.rules).1.1 fs) z.cQ=_;rw[e7,yE];unfold iD;rw[bg,e8];rfl
end Go.Cx
namespace Go.Cx
open Go.RowKit Go.Proofs Tryz
structure Ren(h:Bytes->Bytes)(V:Bytes->Prop):Prop where
 var:∀v,V v->k6 v=true
 a8W:∀t,k6 t=false->h t=t
 aA0:∀v,V v->k6 (h v)=true
 inj:∀u v,V u->V v->h u=h v->u=v
structure RB(h:Bytes->Bytes)(V:Bytes->Prop)(b b':List aS):Prop where
 len:b'.length=b.length
 get:∀v,V v->k7 (h v) b'=k7 v b
 ok:nL b=true
 ok':nL b'=true
structure RT(h:Bytes->Bytes)(V:Bytes->Prop)(t t':aN):Prop where
 facts:t'.facts=t.facts
 bind:RB h V t.bind t'.bind
inductive RL(R:aN->aN->Prop):List aN->List aN->Prop
 |nil:RL R [] []
 |cons {a b:aN} {l m:aj}:R a b->RL R l m->RL R (a::l) (b::m)
end Go.Cx
namespace Go.Cx
open Go.RowKit Go.Proofs Tryz
def Fy(f:aC)(A:bD):List Bool:=A.map fun a=>(sE a.shape f []).2
theorem EV(A:bD)(fs:aJ):(iD A fs).length=A.length:=by unfold iD;rw[ax]
theorem R4(A:bD)(x:aV)(fs:aJ):iD (A++[x]) fs=iD A fs++[⟨x.shape,rO x.shape [] fs⟩]:=by unfold iD;rw[bV];rfl
theorem a0e(n:aG)(fs:aJ)(f:aC)(y1:aG)(y3:aJ)(K:List Bool->bD->Option aG)(Uo:FS fs)(hf:f.wt<=1048576)(A:bD)(hA:∀a∈A,a.shape.wt<=1048576)(hl:A.length<=1048576):∀(rest pre:bD) (fu:Nat),A=pre++rest->rest.length<fu->
 hO n fs f y1 y3 K fu (pre.length:Int) (Fy f pre) (iD pre fs++rest)=K (Fy f A) (iD A fs)
 | [],pre,fu,e,hu=>by
  obtain⟨fu,rfl⟩:∃m,fu=m+1:=⟨fu-1,by simp at hu;omega⟩
  rw[dA]at e;rw[hO,dA,ax,EV,bE (by omega),aZ,e]
 |x::rest,pre,fu,e,hu=>by
  obtain⟨fu,rfl⟩:∃m,fu=m+1:=⟨fu-1,by simp at hu;omega⟩
  simp only[aY]at hu;have hlen:A.length=pre.length+(rest.length+1):=by rw[e];simp
  have hx:=hA x (by rw[e];simp);have ih:=a0e n fs f y1 y3 K Uo hf A hA hl rest (pre++[x]) fu (by rw[e];simp) (by omega);have Ye:lF (iD pre fs++x::rest) (pre.length:Int)=some x:=by
   have:=wh (a:=iD pre fs++x::rest) (pre:=iD pre fs) (xs:=rest) (x:=x) rfl;rw[EV]at this;exact this
  have om:(iD pre fs++x::rest).set (pre.length:Int).toNat ⟨x.shape,rO x.shape [] fs⟩=iD (pre++[x]) fs++rest:=by
   have:=setAt (iD pre fs) rest x ⟨x.shape,rO x.shape [] fs⟩;rw[EV]at this;rw[mS,this,R4,cq];rfl
  have hh:Fy f pre++[(sE x.shape f []).2]=Fy f (pre++[x]):=by unfold Fy;rw[bV];rfl
  have hpl:(Fy f pre).length=pre.length:=by unfold Fy;rw[ax]
  rw[hO,ax,bB,EV,aY,bM (by omega),aO,Ye,aA,a2a x.shape f [] hx hf PB.nil,aA,G4 (by simp;omega) (by decide),aO,a2Y x.shape [] fs hx PB.nil Uo,aA,EO (by omega),om,hh];rw[bB,fE]at ih;exact ih
theorem Sx{N0 N1:b9}{v:Nat}(hl:N0.length=N1.length)(hv:v<=N1.length)(j:Nat):(N1.take v++N0.drop v)[j]?=if j<v then N1[j]? else N0[j]?:=by
 have h1:(N1.take v).length=v:=by rw[cA];omega
 by_cases h:j<v
 ·rw[bK h,au (by omega),c8,bK h]
 ·rw[b8 h,b7 (by omega),h1,dO]
  congr 1;omega
theorem ZE{N0 N1:b9}{v:Nat}(hl:N0.length=N1.length)(hv:v<N1.length){y:Node}(hy:N1[v]?=some y):(N1.take v++N0.drop v).set v y=N1.take (v+1)++N0.drop (v+1):=by
 have h1:(N1.take v).length=v:=by rw[cA];omega
 rw[lC (by omega:v<N0.length)];have:=setAt (N1.take v) (N0.drop (v+1)) (N0[v]'(by omega)) y;rw[h1]at this;rw[this,List.take_add_one,hy];simp
theorem U9(S:b9)(a b:aJ):(fo S b).take 1++(fo S a).drop 1=fo S a:=by
 have h:(fo S b).take 1=(fo S a).take 1:=by
  apply mT;intro i;rw[c8,c8];by_cases hi:i<1
  ·rw[bK hi,bK hi,show i=0 by omega,vQ,vQ,rP];rfl
  ·rw[b8 hi,b8 hi]
 rw[h,bp]
theorem a4x(n:aG)(fs:aJ)(f:aC)(y1:aG)(y3:aJ)(K:Int->b9->Option aG)(h1:uN n.rules=true)(h0:mJ n.facts=true)(h2:mJ fs=true)(hN:n.nodes=fo (cI [] n.rules).1.2 n.facts)(hA:n.av=iD (cI [] n.rules).1.1 n.facts):
 ∀(d v fu:Nat) (u:Int),v+d=(cI [] n.rules).1.2.length->1<=v->d<fu->
  eG n y1 y3 (Fy f n.av) (iD (cI [] n.rules).1.1 fs) K fu (v:Int) u ((fo (cI [] n.rules).1.2 fs).take v++n.nodes.drop v)=
   K (trN n.nodes (fo (cI [] n.rules).1.2 fs) (iD (cI [] n.rules).1.1 fs) f ((fo (cI [] n.rules).1.2 fs).drop v) u) (fo (cI [] n.rules).1.2 fs):=by
 have hl0:n.nodes.length=(cI [] n.rules).1.2.length:=by rw[hN,EW]
 have hl1:=EW (cI [] n.rules).1.2 fs;have Qg:n.nodes.length=(fo (cI [] n.rules).1.2 fs).length:=by omega
 have Uo:=FS.ED (by have:=Cy h2;omega:oZ aC.wt fs<=1048576);intro d
 induction d with
 |zero=>
  intro v fu u hv _ hfu;obtain⟨fu,rfl⟩:∃m,fu=m+1:=⟨fu-1,by omega⟩
  have e1:(fo (cI [] n.rules).1.2 fs).take v++n.nodes.drop v=fo (cI [] n.rules).1.2 fs:=by
   rw[nR (by omega),dA,nS (by omega)]
  rw[eG,e1,ax,bE (by omega),aZ,nR (by omega)];rfl
 |succ d ih=>
  intro v fu u hv hv1 hfu;obtain⟨fu,rfl⟩:∃m,fu=m+1:=⟨fu-1,by omega⟩
  have hvl:v<(cI [] n.rules).1.2.length:=by omega
  have hx:=aa hvl;generalize hxx:(cI [] n.rules).1.2[v]=x at hx;obtain⟨p,q,hpv,e1,_,e3,e4,e5,e6,e7⟩:=Wj h1 h0 h2 hv1 hx;have hx0:n.nodes[v]?=some ⟨x.parent,x.cond,x.cQ,uX (eL (cI [] n.rules).1.2 (cV v)) n.facts⟩:=by rw[hN,vQ,hx];rfl
  have hx1:(fo (cI [] n.rules).1.2 fs)[v]?=some ⟨x.parent,x.cond,x.cQ,uX (eL (cI [] n.rules).1.2 (cV v)) fs⟩:=by rw[vQ,hx];rfl
  have hb1:=EJ [] (rR h1) (AP h1);have m1:lF ((fo (cI [] n.rules).1.2 fs).take v++n.nodes.drop v) (v:Int)=some ⟨x.parent,x.cond,x.cQ,uX (eL (cI [] n.rules).1.2 (cV v)) n.facts⟩:=by
   rw[show(v:Int)=cV v from rfl,yE,Sx Qg (by omega),b8 (by omega),hx0]
  have m2:lF ((fo (cI [] n.rules).1.2 fs).take v++n.nodes.drop v) x.parent=some ⟨q.parent,q.cond,q.cQ,uX (eL (cI [] n.rules).1.2 (cV p)) fs⟩:=by
   rw[e1,yE,Sx Qg (by omega),bK hpv,e4]
  have m3:lF n.nodes x.parent=some ⟨q.parent,q.cond,q.cQ,uX (eL (cI [] n.rules).1.2 (cV p)) n.facts⟩:=by rw[e1,yE,hN,e3]
  have m4:lF (fo (cI [] n.rules).1.2 fs) x.parent=some ⟨q.parent,q.cond,q.cQ,uX (eL (cI [] n.rules).1.2 (cV p)) fs⟩:=by rw[e1,yE,e4]
  obtain⟨_,k2,k3,_⟩:=Ir h1 h2 e4;obtain⟨_,j2,_,j4⟩:=Ir h1 h0 e3;dsimp only at k2 k3 j2 j4;have hstep:=Xj hv1 hx e1 hpv fs;have hlen:((fo (cI [] n.rules).1.2 fs).take v++n.nodes.drop v).length=(cI [] n.rules).1.2.length:=by
   rw[bB,cA,th];omega
  have Pd:(fo (cI [] n.rules).1.2 fs).drop v=⟨x.parent,x.cond,x.cQ,uX (eL (cI [] n.rules).1.2 (cV v)) fs⟩::(fo (cI [] n.rules).1.2 fs).drop (v+1):=by
   rw[lC (by omega)]
   congr 1
   exact oq ((aa (by omega)).symm.trans hx1)
  have om:=ZE Qg (by omega) hx1;have t4:G9 (fo (cI [] n.rules).1.2 fs) x.parent=uX (eL (cI [] n.rules).1.2 (cV p)) fs:=by unfold G9;rw[m4]
  have t3:G9 n.nodes x.parent=uX (eL (cI [] n.rules).1.2 (cV p)) n.facts:=by unfold G9;rw[m3]
  rw[eG,ax,hlen,bM (by omega),aO,m1,aA];dsimp only;rw[m2,aA,m3,aA];dsimp only;rw[a5D _ _ j4 (by omega) (by omega),aA,Pd,trN,t4,t3,EO (by omega)];unfold stepT;dsimp only;rcases e7 with⟨g1,g2,g3⟩|⟨a,y,g1,g2,g3,g4⟩
  ·rw[bM (by simpa using g1),aO,XI _ x.cond [] e6 ⟨by simp,fun f hf=>by cases hf⟩ (fun t ht=>(k3 t ht).le (by omega)) (by simp;omega),aA,Wq g2 g3 fs,<-hstep,mS,om,ih (v+1) fu _ (by omega) (by omega) (by omega),bK g1]
  ·have ha0:¬x.cQ<0:=by rw[g1];unfold cV;omega
   have n1:lF (iD (cI [] n.rules).1.1 fs) x.cQ=some ⟨y.shape,rO y.shape [] fs⟩:=by
    rw[g1,yE];unfold iD;rw[bg,g2];rfl
   have n2:lF (Fy f n.av) x.cQ=some (sE y.shape f []).2:=by
    rw[g1,yE,hA];unfold Fy iD;rw[pJ,bg,g2];rfl
   have hfl:(rO y.shape [] fs).length<=24:=by
    unfold rO;exact cW (sW _ _) (tj h2)
   have a6k:FS (rO y.shape [] fs):=⟨by omega,fun f hf=>Uo.2 f (fN.1 hf).1⟩
   have hnx:tu (rO y.shape [] fs) (uX (eL (cI [] n.rules).1.2 (cV p)) fs) x.cond=uX (eL (cI [] n.rules).1.2 (cV v)) fs:=by
    rw[g3,UE (by omega),hstep]
   rw[bE (by simpa using ha0),aZ,n1,aA];dsimp only;rw[XI _ x.cond _ e6 a6k (fun t ht=>(k3 t ht).le (by omega)) (by
    have:(uX (eL (cI [] n.rules).1.2 (cV p)) fs).length*((rO y.shape [] fs).length+1)<=390625*25:=Cu k2 (by omega);omega),aA,hnx,n2,aA,mS,om,b8 ha0,ax]
   cases(sE y.shape f []).2 with
   |true=>rw[aO,aO,ih (v+1) fu _ (by omega) (by omega) (by omega)]
   |false=>rw[aZ,aZ,ih (v+1) fu _ (by omega) (by omega) (by omega)]
theorem a7y(n:aG)(fs:aJ)(f:aC)(hn:Ur n=true)(hr:oZ aK.wt n.rules<=1048576)(h2:mJ fs=true)(hf:f.wt<=1048576):s9 n fs f=some (VL n fs f):=by
 obtain⟨h1,h0,ht,e⟩:=RS hn;have Uo:=FS.ED (by have:=Cy h2;omega:oZ aC.wt fs<=1048576);have hok:AM n:=by rw[e];exact Lz _ h1 h0 hr
 have hN:n.nodes=fo (cI [] n.rules).1.2 n.facts:=congrArg aG.nodes e;have hA:n.av=iD (cI [] n.rules).1.1 n.facts:=congrArg aG.av e;have hE:n.ends=(cI [] n.rules).2:=congrArg aG.ends e;have hfA:iD n.av fs=iD (cI [] n.rules).1.1 fs:=by
  rw[hA];unfold iD;rw[pJ];rfl
 have hb1:=EJ [] (rR h1) (AP h1);have hpos:=(wV [] n.rules).1.pos;have hal:=hok.av;unfold s9;rw[OV n hok,aA,B7 fs Uo.1 Uo.args,aA];have a1:=a0e n fs f n fs (fun(fC:List Bool) (oU:bD)=>(eG n n fs fC oU (fun(nH:Int) (sw:b9)=>(some (⟨n.rules,n.ends,oU,sw,fs,nH⟩:aG))) fuel 1 n.bn n.nodes)) Uo hf n.av (fun a ha=>(hok.cQ a ha).1) hok.av n.av [] fuel rfl (by unfold fuel;omega);refine a1.trans ?_;rw[hfA];have a2:=a4x n fs f n fs (fun(nH:Int) (sw:b9)=>(some (⟨n.rules,n.ends,iD (cI [] n.rules).1.1 fs,sw,fs,nH⟩:aG))) h1 h0 h2 hN hA ((cI [] n.rules).1.2.length -1) 1 fuel n.bn (by omega) (bN _) (by unfold fuel;omega);have a3:(fo (cI [] n.rules).1.2 fs).take 1++n.nodes.drop 1=n.nodes:=by rw[hN];exact U9 _ _ _
 rw[a3]at a2;refine a2.trans ?_;unfold VL Cm;rw[hE]
def Mc(n:aG)(f:aC):aG×Bool:=bif Ur n&&(KO n.facts f).2 then(VL n (KO n.facts f).1 f,true)else(n,false)
def a13(n m:aG):Prop:=m=n\/∃fs t,uN m.rules=true/\m.rules=n.rules/\mJ fs=true/\m=Cm m.rules fs t
theorem NO(n:aG)(f:aC):a13 n (Mc n f).1:=by
 unfold Mc;cases hb:Ur n&&(KO n.facts f).2 with
 |false=>exact .inl rfl
 |true=>
  rw[aW]at hb;exact .inr ⟨_,_,(RS hb.1).1,rfl,Nn hb.2,rfl⟩
theorem a13.ok{n m:aG}(h:a13 n m)(hn:AM n):AM m:=by
 rcases h with rfl|⟨fs,t,h1,h2,h3,h4⟩
 ·exact hn
 ·rw[h4];exact Lz t h1 h3 (by rw[h2];exact hn.rules)
theorem a5F(n:aG)(f:aC)(h:AM n)(hf:f.wt<=1048576):nO n f=some (Mc n f):=by
 unfold nO Mc;rw[a4w n.facts f h.facts hf,aA,a2Z n h.rules h.facts,aA];cases hb:Ur n with
 |false=>rw[cF,aO,OV n h];rfl
 |true=>
  rw[bP,aZ];cases ha:(KO n.facts f).2 with
  |false=>rw[cF,aO,OV n h];rfl
  |true=>rw[bP,aZ,a7y n _ f hb h.rules (Nn ha) hf];rfl
theorem a4R(n:aG)(f:aC)(h:AM n)(hf:f.wt<=1048576):nM n f=some (Mc n f):=by
 unfold nM BZ Mc;rw[a1s n h.rules h.facts,aA];cases hb:Ur n with
 |false=>rw[cF,aO,O6 n h];rfl
 |true=>
  rw[bP,aZ,a4C n.facts f h.facts hf,aA];cases ha:(KO n.facts f).2 with
  |false=>rw[cF,aO,O6 n h];rfl
  |true=>rw[bP,aZ,a7e n _ f hb h.rules (Nn ha) hf];rfl
def LP:aJ->aG->Nat->aG×Nat
 | [],n,c=>(n,c)
 |f::l,n,c=>bif (Mc n f).2 then LP l (Mc n f).1 (c+1)else LP l n c
theorem a2W(a:aJ)(K:Int->Int->ah->bR->bD->b9->aJ->Option (aG×Int)):∀(l:aJ) (i:Nat) (n:aG) (c:Nat),AM n->(∀f∈l,f.wt<=1048576)->c+l.length<=1099511627000->
 fG a K l i (c:Int) n.bn n.rules n.ends n.av n.nodes n.facts=K (((LP l n c).2:Nat):Int) (LP l n c).1.bn (LP l n c).1.rules (LP l n c).1.ends (LP l n c).1.av (LP l n c).1.nodes (LP l n c).1.facts
 | [],i,n,c,_,_,_=>rfl
 |f::l,i,n,c,hn,hf,hc=>by
  simp only[aY]at hc;rw[fG,show(⟨n.rules,n.ends,n.av,n.nodes,n.facts,n.bn⟩:aG)=n from rfl,a5F n f hn (hf f (by simp)),aA,LP];cases(Mc n f).2 with
  |true=>rw[aO,aO,EO (by omega),a2W a K l (i+1) _ (c+1) ((NO n f).ok hn) (fun x hx=>hf x (by simp[hx])) (by omega)]
  |false=>rw[aZ,aZ,a2W a K l (i+1) n c hn (fun x hx=>hf x (by simp[hx])) (by omega)]
theorem a50(n:aG)(l:aJ)(hn:AM n)(hl:FS l):oN n l=some ((LP l n 0).1,(((LP l n 0).2:Nat):Int)):=by
 have h1:=hl.1;unfold oN;rw[OV n hn,aA];exact a2W l _ l 0 n 0 hn hl.2 (by omega)
theorem a1o(a:aJ)(K:Int->Int->ah->bR->bD->b9->aJ->Option (aG×Int)):∀(l:aJ) (i:Nat) (n:aG) (c:Nat),AM n->(∀f∈l,f.wt<=1048576)->c+l.length<=1099511627000->
 fF a K l i (c:Int) n.bn n.rules n.ends n.av n.nodes n.facts=K (((LP l n c).2:Nat):Int) (LP l n c).1.bn (LP l n c).1.rules (LP l n c).1.ends (LP l n c).1.av (LP l n c).1.nodes (LP l n c).1.facts
 | [],i,n,c,_,_,_=>rfl
 |f::l,i,n,c,hn,hf,hc=>by
  simp only[aY]at hc;rw[fF,show(⟨n.rules,n.ends,n.av,n.nodes,n.facts,n.bn⟩:aG)=n from rfl,a4R n f hn (hf f (by simp)),aA,LP];cases(Mc n f).2 with
  |true=>rw[aO,aO,EO (by omega),a1o a K l (i+1) _ (c+1) ((NO n f).ok hn) (fun x hx=>hf x (by simp[hx])) (by omega)]
  |false=>rw[aZ,aZ,a1o a K l (i+1) n c hn (fun x hx=>hf x (by simp[hx])) (by omega)]
theorem a4H(n:aG)(l:aJ)(hn:AM n)(hl:FS l):oI n l=some ((LP l n 0).1,(((LP l n 0).2:Nat):Int)):=by
 have h1:=hl.1;unfold oI;rw[O6 n hn,aA];exact a1o l _ l 0 n 0 hn hl.2 (by omega)
theorem Mn:mJ []=true:=rfl
theorem Tm{rs:ah}(h:uN rs=true):(⟨rs,(cI [⟨[],[]⟩] rs).2,(cI [⟨[],[]⟩] rs).1.1,(cI [⟨[],[]⟩] rs).1.2,[],0⟩:aG)=Cm rs [] 0:=by
 have hv:=rR h;unfold Cm;rw[Tq (xP [] hv),Tr hv];have e1:(cI [⟨[],[]⟩] rs).2=(cI [] rs).2:=by rw[oG,oG]
 have e2:(cI [⟨[],[]⟩] rs).1.1=(cI [] rs).1.1:=by rw[oG,oG]
 rw[e1,e2]
def a5u:aG:=⟨[],[],[],[],[],0⟩
def Zh(rs:ah)(fs:aJ):Int:=bif uN rs&&mJ fs then(LP fs (Cm rs [] 0) 0).1.bn else-1
theorem ZR(rs:ah)(h:oZ aK.wt rs<=1048576):iv rs=some (bif uN rs then(Cm rs [] 0,true)else(a5u,false)):=by
 rw[XD rs h];cases hb:uN rs with
 |false=>rfl
 |true=>rw[aO,aO,Tm hb]
theorem Yr(rs:ah)(hr:oZ aK.wt rs<=1048576)(hb:uN rs=true):rF rs [] 0=some (Cm rs [] 0):=
 W8 rs [] 0 hr hb ⟨by simp,fun f hf=>by cases hf⟩ (by simp)
theorem a5L(rs:ah)(fs:aJ)(hr:oZ aK.wt rs<=1048576)(hf:oZ aC.wt fs<=1048576):pE rs fs=some (Zh rs fs):=by
 unfold pE Zh;rw[ZR rs hr,aA];cases h1:uN rs with
 |false=>rfl
 |true=>
  rw[aO,bP,aZ,X6 fs hf,aA];cases h2:mJ fs with
  |false=>rfl
  |true=>rw[bP,aZ,a50 _ _ (Lz 0 h1 Mn hr) (FS.ED hf)];rfl
theorem a4Y(rs:ah)(fs:aJ)(hr:oZ aK.wt rs<=1048576)(hf:oZ aC.wt fs<=1048576):oy rs fs=some (Zh rs fs):=by
 unfold oy Zh;rw[a4D rs hr,aA];cases h1:uN rs with
 |false=>rfl
 |true=>
  rw[bP,aZ,Vz fs hf,aA];cases h2:mJ fs with
  |false=>rfl
  |true=>rw[bP,aZ,Yr rs hr h1,aA,a4H _ _ (Lz 0 h1 Mn hr) (FS.ED hf)];rfl
end Go.Cx
namespace Go.Cx
open Go.RowKit Go.Proofs Tryz
set_option maxRecDepth 100000
variable{Γ:vJ}{N:Nat->St->Prop}
def nV(aB:ah)(aU:aJ):Option Bool:=((tT aB 1048576).bind fun y1=>(bif decide ((y1:Int)<0)then(some true)else((tS aU y1).bind fun y4=>(bif decide ((y4:Int)<0)then(some true)else((oM aB).bind fun y7=>((oL aU).bind fun y9=>((pE y7 y9).bind fun Mf=>((oM aB).bind fun uC=>((oL aU).bind fun TP=>((oy uC TP).bind fun Ot=>(bif (Ot:Int) != Mf then(some false)else((oM aB).bind fun y20=>((tQ uC y20).bind fun mP=>(bif !(mP)then(some false)else((oL aU).bind fun SE=>((tP TP SE).bind fun nK=>(bif !(nK)then(some false)else(some true))))))))))))))))))
theorem yJ{aB:ah}{aU:aJ}{r:Bool}(h:nV aB aU=some r):Good prog 6 [D.sl (aB.map aK.c),D.sl (aU.map aC.c)] (D.bool r):=by
 refine gd func6 [[none]] 45 fun hr Γ hΓ=>?_
 rw[nV]at h;obtain⟨y1,h2,h⟩:=aE h;obtain⟨h3,h⟩|⟨h3,h⟩:=aM h
 ·have h:=aI h;subst h;exact(((aT.a [.dc (D.int .i64 y1)]).w (xw h2)).b h3).ret hΓ
 ·obtain⟨y4,h5,h⟩:=aE h;have mQ:=(((((aT.a [.dc (D.int .i64 y1)]).w (xw h2)).b h3).a [.dc (D.int .i64 y4)]).w (FA h5))
  obtain⟨h6,h⟩|⟨h6,h⟩:=aM h
  ·have h:=aI h;subst h;exact(mQ.b h6).ret hΓ
  ·obtain⟨y7,h8,h⟩:=aE h;obtain⟨y9,h10,h⟩:=aE h;obtain⟨Mf,h12,h⟩:=aE h;obtain⟨uC,h14,h⟩:=aE h;obtain⟨TP,h16,h⟩:=aE h;obtain⟨Ot,h18,h⟩:=aE h;have eH:=(((((((((((((mQ.b h6).a [.dc (D.fr 105 4 (y7.map aK.c))]).w (uT h8)).a [.dc (D.fr 53 2 (y9.map aC.c))]).w (uS h10)).a [.dc (D.int .i64 Mf)]).w (Dq h12)).a [.dc (D.fr 105 4 (uC.map aK.c))]).w (uT h14)).a [.dc (D.fr 53 2 (TP.map aC.c))]).w (uS h16)).a [.dc (D.int .i64 Ot)]).w (DC h18))
   obtain⟨h19,h⟩|⟨h19,h⟩:=aM h
   ·have h:=aI h;subst h;exact(eH.b h19).ret hΓ
   ·obtain⟨y20,h21,h⟩:=aE h;obtain⟨mP,h23,h⟩:=aE h;have kx:=(((((eH.b h19).a [.dc (D.fr 105 4 (y20.map aK.c))]).w (uT h21)).a [.dc (D.bool mP)]).w (F6 h23))
    obtain⟨h24,h⟩|⟨h24,h⟩:=aM h
    ·have h:=aI h;subst h;exact(kx.b h24).ret hΓ
    ·obtain⟨SE,h26,h⟩:=aE h;obtain⟨nK,h28,h⟩:=aE h;have kM:=(((((kx.b h24).a [.dc (D.fr 53 2 (SE.map aC.c))]).w (uS h26)).a [.dc (D.bool nK)]).w (F5 h28))
     obtain⟨h29,h⟩|⟨h29,h⟩:=aM h
     ·have h:=aI h;subst h;exact(kM.b h29).ret hΓ
     ·have h:=aI h;subst h;exact(kM.b h29).ret hΓ
end Go.Cx
namespace Go.Cx
open Go.RowKit Go.Proofs Tryz
namespace LawTriesFor
theorem both(rs:ah)(fs:aJ)(h:oZ aK.wt rs+oZ aC.wt fs<=1048576):∃s,pE rs fs=some s/\oy rs fs=some s:=
 ⟨_,a5L rs fs (by omega) (by omega),a4Y rs fs (by omega) (by omega)⟩
theorem a2D(rs:ah)(fs:aJ)(sC:eN (.sl (rs.map aK.c)))(hfs:eN (.sl (fs.map aC.c))):nV rs fs=some true:=by
 unfold nV;obtain⟨r0,e0,l0,w0⟩:=Ru rs sC 1048576 (by omega) (by omega);rw[e0,aA];by_cases c0:r0<0
 ·simp[c0]
 have n0:decide ((r0:Int)<0)=false:=bE c0;rw[n0,aZ];have w0:=w0 (by omega);obtain⟨r1,e1,l1,w1⟩:=Rt fs hfs r0 (by omega) (by omega);rw[e1,aA];by_cases c1:r1<0
 ·simp[c1]
 have n1:decide ((r1:Int)<0)=false:=bE c1;rw[n1,aZ];have w1:=w1 (by omega);have hw:oZ aK.wt rs+oZ aC.wt fs<=1048576:=by omega
 obtain⟨s,es,ei⟩:=both rs fs (by omega);simp only[es,ei,S2 rs (by omega),R3,S0 fs (by omega),R1,aA,za,bP,cF,aZ,aO,bne_self_eq_false,jf]
theorem WW(rs:ah)(fs:aJ):Good prog 6 [.sl (rs.map aK.c),.sl (fs.map aC.c)] (.bool true):=
 Good.a2I ⟨_,func6,rfl,by decide⟩ fun h=>yJ (a2D rs fs (h _ (by simp)) (h _ (by simp)))
end LawTriesFor
end Go.Cx
namespace Go.Cx
open Go.RowKit
inductive Sh where
 |int (k:IntKind)
 |str
 |bool
 |sl (row:List Sh)
mutual
inductive Kz:Sh->D->Prop
 |int (k:IntKind) (n:Int):Kz (.int k) (.int k n)
 |str (s:Bytes):Kz .str (.str s)
 |bool (b:Bool):Kz .bool (.bool b)
 |sl (row:List Sh) (rows:List aQ):(∀r∈rows,r9 row r)->Kz (.sl row) (.sl rows)
inductive r9:List Sh->List D->Prop
 |nil:r9 [] []
 |cons (s:Sh) (ss:List Sh) (d:D) (ds:aQ):Kz s d->r9 ss ds->r9 (s::ss) (d::ds)
end
theorem r9.app{s1 s2:List Sh}{d1 d2:aQ}(h1:r9 s1 d1)(h2:r9 s2 d2):r9 (s1++s2) (d1++d2):=by
 induction s1 generalizing d1 with
 |nil=>cases h1;exact h2
 |cons s s1 ih=>cases h1 with|cons _ _ d ds h h'=>exact .cons _ _ _ _ h (ih h')
theorem r9.length{s:List Sh}{d:aQ}(h:r9 s d):d.length=s.length:=by
 induction s generalizing d with
 |nil=>cases h;rfl
 |cons s ss ih=>cases h with|cons _ _ d ds h h'=>simp[ih h']
def OL(P:Program):Nat->List Field->List (List Sh)->Bool
 |_,[],[]=>true
 |off,f::fs,r::rs=>(f.offset==off)&&(r.length==P.cellsOf f.type)&&OL P (off+r.length) fs rs
 |_,_,_=>false
def zc(P:Program):Nat->TypeId->Option (List Sh)
 |0,_=>none
 |n+1,t=>match P.underlying t with
  |some .bool=>some [.bool]
  |some (.int k)=>some [.int k]
  |some .string=>some [.str]
  |some (.slice e)=>(zc P n e).bind fun r=>if r.length=P.cellsOf e/\0<r.length then some [.sl r]else none
  |some (.struct fs)=>(fs.toList.mapM fun f=>zc P n f.type).bind fun rs=>if OL P 0 fs.toList rs=true/\rs.flatten.length=P.cellsOf t then some rs.flatten else none
  |_=>none
theorem Q0{α β:Type}{f:α->Option β}:∀ {l:List α} {ys:List β},l.mapM f=some ys->ys.length=l.length/\∀(i:Nat) x,l[i]?=some x->∃y,ys[i]?=some y/\f x=some y:=by
 intro l
 induction l with
 |nil=>intro ys h;simp at h;subst h;simp
 |cons a l ih=>
  intro ys h;simp only[Ct,Option.bind_eq_bind,Option.pure_def]at h;cases ha:f a with
  |none=>simp[ha]at h
  |some b=>
   cases hl:l.mapM f with
   |none=>simp[ha,hl]at h
   |some bs=>
    simp[ha,hl]at h;subst h;obtain⟨h1,h2⟩:=ih hl;refine⟨by simp[h1],fun i x hx=>?_⟩;cases i with
    |zero=>simp at hx;subst hx;exact⟨b,by simp,ha⟩
    |succ i=>simp at hx;obtain⟨y,k1,k2⟩:=h2 i x hx;exact⟨y,by simpa using k1,k2⟩
section
variable{P:Program}{w:World}{H:Type}{enc:TypeId×Value->H}{base:Nat}{sp:Nat->Bool}{held:Bool}
theorem LA{a:Addr}{n:Nat}{cs:bZ}(h:w.cells? base a n=some cs):cs.length=n/\∀(j:Nat) c,cs[j]?=some c->w.cell? (a.add j)=some c:=by
 unfold World.cells? at h;split at h
 ·obtain⟨h1,h2⟩:=Q0 h;refine⟨by simpa using h1,fun j c hj=>?_⟩;have hlt:j<n:=by have:=(aF.1 hj).1;rw[h1]at this;simpa using this
  obtain⟨y,k1,k2⟩:=h2 j j (by simp[hlt]);rw[hj]at k1;cases k1;exact k2
 ·cases h
theorem a2E{k:IntKind}{n:Int}(h:(Lit.int k n).wf=true):rQ k n:=by
 simpa[Lit.wf,rQ]using h
theorem TG:∀(fuel:Nat) {t:TypeId} {cs:bZ} {d:DataW H} {ps:List MemPlace} {n:Nat} {Zb:List Sh},
 DataW.trod enc P w base sp held fuel t cs=some (d,ps)->zc P n t=some Zb->∃ds bs,kz w cs ds bs/\r9 Zb ds:=by
 intro fuel
 induction fuel with
 |zero=>intro t cs d ps n Zb h;simp[DataW.trod]at h
 |succ fuel ih=>
  intro t cs d ps n Zb h hf;cases n with
  |zero=>simp[zc]at hf
  |succ n=>
   simp only[zc]at hf;simp only[DataW.trod]at h;split at hf
   ·rename_i hu;cases hf;simp only[hu]at h;split at h<;>rename_i h1<;>try(simp at h1;done)
    all_goals try(cases h;done)
    all_goals simp at h1
    exact⟨[.bool _],[],.cons _ _ _ _ [] [] rfl (.bool _) .nil,.cons _ _ _ _ (.bool _) .nil⟩
   ·rename_i k hu;cases hf;simp only[hu]at h;split at h<;>rename_i h1<;>try(simp at h1;done)
    all_goals try(cases h;done)
    all_goals simp at h1
    rename_i k1 k2 m _;subst h1;split at h
    ·rename_i hc;obtain⟨rfl,hwf⟩:=hc;exact⟨[.int _ _],[],.cons _ _ _ _ [] [] rfl (.int _ _ (a2E hwf)) .nil,.cons _ _ _ _ (.int _ _) .nil⟩
    ·cases h
   ·rename_i hu;cases hf;simp only[hu]at h;split at h<;>rename_i h1<;>try(simp at h1;done)
    all_goals try(cases h;done)
    all_goals simp at h1
    split at h
    ·rename_i hc;exact⟨[.str _],[],.cons _ _ _ _ [] [] rfl (.str _ hc) .nil,.cons _ _ _ _ (.str _) .nil⟩
    ·cases h
   ·rename_i e hu;cases hr:zc P n e with
    |none=>simp[hr]at hf
    |some r=>
     simp only[hr,aA]at hf;split at hf
     ·rename_i hsz;cases hf;simp only[hu]at h;split at h<;>rename_i h1<;>try(simp at h1;done)
      all_goals try(cases h;done)
      all_goals simp at h1
      ·exact⟨[.sl []],[],.cons _ _ _ _ [] [] rfl .yC .nil,.cons _ _ _ _ (.sl _ _ (by simp)) .nil⟩
      ·rename_i a len cap
       try subst h1
       split at h
       ·rename_i hc;cases hm:(List.range len).mapM (fun i=>(w.cells? base (a.add (i*P.cellsOf e)) (P.cellsOf e)).bind (DataW.trod enc P w base sp held fuel e))with
        |none=>simp[hm]at h
        |some elems=>
         obtain⟨_,hall⟩:=Q0 hm;have hel:∀i,i<len->∃cs ds bs,w.cells? base (a.add (i*P.cellsOf e)) (P.cellsOf e)=some cs/\kz w cs ds bs/\r9 r ds:=by
          intro i hi;obtain⟨y,_,hy⟩:=hall i i (by simp[hi]);obtain⟨cs,hcs,hy⟩:=mU.1 hy;obtain⟨ds,bs,k1,k2⟩:=ih (d:=y.1) (ps:=y.2) hy hr;exact⟨cs,ds,bs,hcs,k1,k2⟩
         by_cases hl0:len=0
         ·subst hl0;exact⟨[.sl []],[],.cons _ _ _ _ [] [] rfl (.nY a cap hc.2.2) .nil,.cons _ _ _ _ (.sl _ _ (by simp)) .nil⟩
         ·
          obtain⟨cs0,Zz,bs0,VZ,hr0,a9H⟩:=hel 0 (by omega);obtain⟨hl1,Ye⟩:=LA VZ;have hpos:0<cs0.length:=by rw[hl1];omega
          have hc0:=Ye 0 cs0[0] (aa hpos);have ha0:(a.add (0*P.cellsOf e)).add 0=a:=by simp[Addr.add]
          rw[ha0]at hc0;obtain⟨b,off,spot⟩:=a;have a43:spot=none:=by
           cases spot with
           |none=>rfl
           |some x=>
            unfold World.cell? at hc0;split at hc0
            ·simp at hc0
            ·cases hc0
          subst a43;have hb:b<w.heap.size:=World.block_lt_of_cell? w _ hc0;have build:∀m,m<=len->∃(rows:List aQ) (cs:bZ) (bs:aX),rows.length=m/\cs.length=m*P.cellsOf e/\(∀(j:Nat) c,cs[j]?=some c->w.cell? ⟨b,off+j,none⟩=some c)/\
           kz w cs rows.flatten bs/\∀x∈rows,r9 r x:=by
           intro m
           induction m with
           |zero=>intro _;exact⟨[],[],[],rfl,by simp,by simp,.nil,by simp⟩
           |succ m ihm=>
            intro hm1;obtain⟨rows,cs,bs,q1,q2,q3,q4,q5⟩:=ihm (by omega);obtain⟨cs',ds',bs',g1,g2,g3⟩:=hel m (by omega);obtain⟨g4,g5⟩:=LA g1;refine⟨rows++[ds'],cs++cs',bs++bs',by simp[q1],by simp[q2,g4,jd],?_,?_,?_⟩
            ·intro j c hj;by_cases hlt:j<cs.length
             ·rw[au hlt]at hj;exact q3 j c hj
             ·rw[b7 (by omega)]at hj;have:=g5 _ c hj;rw[Addr.add_lit,Addr.add_lit,q2]at this;have e1:off+m*P.cellsOf e+(j-m*P.cellsOf e)=off+j:=by omega
              rw[e1]at this;exact this
            ·rw[kR];have:=q4.app g2;simpa using this
            ·intro x hx;rcases af.1 hx with hx|hx
             ·exact q5 x hx
             ·simp at hx;subst hx;exact g3
          obtain⟨rows,cs,bs,q1,q2,q3,q4,q5⟩:=build len (bN _);subst q1;refine⟨[.sl rows],b::bs,?_,.cons _ _ _ _ (.sl _ _ q5) .nil⟩;have:=kz.cons (w:=w) _ [] _ [] _ [] rfl (Rd.sl b off cap r.length rows cs bs hb hc.2.1 hc.2.2 (fun x hx=>(q5 x hx).length) q3 q4) .nil;simpa using this
       ·cases h
     ·cases hf
   ·rename_i fs hu;cases hr:fs.toList.mapM (fun f=>zc P n f.type)with
    |none=>simp[hr]at hf
    |some rs=>
     simp only[hr,aA]at hf;split at hf
     ·rename_i hok;cases hf;simp only[hu]at h;split at h
      ·rename_i hlen;cases hm:fs.toList.mapM (fun f=>DataW.trod enc P w base sp held fuel f.type ((cs.drop f.offset).take (P.cellsOf f.type)))with
       |none=>simp[hm]at h
       |some xs=>
        have go:∀(fl:List Field) (rl:List (List Sh)) (xl:List (DataW H×List MemPlace)) (off:Nat),fl.mapM (fun f=>zc P n f.type)=some rl->
         fl.mapM (fun f=>DataW.trod enc P w base sp held fuel f.type ((cs.drop f.offset).take (P.cellsOf f.type)))=some xl->OL P off fl rl=true->
         ∃ds bs,kz w ((cs.drop off).take rl.flatten.length) ds bs/\r9 rl.flatten ds:=by
         intro fl
         induction fl with
         |nil=>
          intro rl xl off h1 _ _;simp at h1;subst h1;exact⟨[],[],by simpa using kz.nil,.nil⟩
         |cons f fl ihf=>
          intro rl xl off h1 h2 h3;simp only[Ct,Option.bind_eq_bind,Option.pure_def]at h1 h2;cases a1:zc P n f.type with
          |none=>simp[a1]at h1
          |some r1=>
           cases a2:fl.mapM (fun f=>zc P n f.type)with
           |none=>simp[a1,a2]at h1
           |some rl'=>
            simp[a1,a2]at h1;subst h1;cases b1:DataW.trod enc P w base sp held fuel f.type ((cs.drop f.offset).take (P.cellsOf f.type))with
            |none=>simp[b1]at h2
            |some x1=>
             cases b2:fl.mapM (fun f=>DataW.trod enc P w base sp held fuel f.type ((cs.drop f.offset).take (P.cellsOf f.type)))with
             |none=>simp[b1,b2]at h2
             |some xl'=>
              simp only[OL,aW,cO]at h3;obtain⟨⟨o1,o2⟩,o3⟩:=h3;obtain⟨VS,Zu,k1,k2⟩:=ih (d:=x1.1) (ps:=x1.2) b1 a1;obtain⟨ds2,Y1,k3,k4⟩:=ihf rl' xl' (off+r1.length) a2 b2 o3;refine⟨VS++ds2,Zu++Y1,?_,by simpa using k2.app k4⟩;have e1:(cs.drop off).take (r1::rl').flatten.length=(cs.drop f.offset).take (P.cellsOf f.type)++(cs.drop (off+r1.length)).take rl'.flatten.length:=by
               rw[o1,<-o2,dw,bB,<-gH,List.take_add]
              rw[e1];exact k1.app k3
        obtain⟨ds,bs,k1,k2⟩:=go fs.toList rs xs 0 hr hm hok.1;rw[Cs,hok.2,<-hlen,List.take_length]at k1;exact⟨ds,bs,k1,k2⟩
      ·cases h
     ·cases hf
   ·cases hf
def TW(P:Program)(n:Nat)(t:TypeId)(d:D):Prop:=
 (zL P t=some true/\∃Zb cells,zc P n t=some Zb/\d=.agg cells/\r9 Zb cells)\/(zL P t=some false/\∃sh,zc P n t=some [sh]/\Kz sh d)
inductive Mk(P:Program)(n:Nat):List TypeId->List D->Prop
 |nil:Mk P n [] []
 |cons (t:TypeId) (ts:List TypeId) (d:D) (ds:aQ):TW P n t d->Mk P n ts ds->Mk P n (t::ts) (d::ds)
def PD(P:Program)(n:Nat)(t:TypeId):Bool:=
 match zL P t,zc P n t with
 |some true,some _=>(match P.underlying t with|some (.struct _)=>true|_=>false)
 |some false,some [_]=>true
 |_,_=>false
theorem Ws{n:Nat}{t:TypeId}{v:Value}{d:DataW H}{ps:List MemPlace}(hok:PD P n t=true)(hval:Value.okWide P w .any base t v)(h:DataW.Trod enc P w 0 sp held t v d ps):
 ∃x bs,Rd w v x bs/\TW P n t x:=by
 obtain⟨fuel,h⟩:=h;unfold PD at hok;split at hok
 ·rename_i Zb ht hf;split at hok
  ·rename_i fs hu;unfold Value.okWide at hval;simp only[hu]at hval;obtain⟨cs,rfl,_⟩:=hval;obtain⟨ds,bs,k1,k2⟩:=TG fuel h hf;refine⟨.agg ds,bs,?_,.inl ⟨ht,Zb,ds,hf,rfl,k2⟩⟩;have:=Rd.agg (w:=w) cs.toList ds bs k1;simpa using this
  ·cases hok
 ·rename_i sh ht hf;have hone:v.oneCell'=true:=by
   unfold zL at ht;split at ht<;>first
    | (cases ht;done)
    |skip
   rename_i dsc h1 h2 hu;unfold Value.okWide at hval;rw[hu]at hval;cases v with
   |agg cs=>
    cases dsc<;>first
     | (exfalso;exact h1 _ rfl)
     | (exfalso;exact h2 _ _ rfl)
     | (simp[Cell.okWide,Cell.ok,hu]at hval)
   |tuple vs=>
    cases dsc<;>first
     | (exfalso;exact h1 _ rfl)
     | (exfalso;exact h2 _ _ rfl)
     | (simp[Cell.okWide,Cell.ok,hu]at hval)
   |_=>rfl
  rw[NM hone]at h;obtain⟨ds,bs,k1,k2⟩:=TG fuel h hf;cases k2 with
  |cons _ _ x ds' hx hn=>
   cases hn;cases k1 with
   |cons _ _ _ _ b1 b2 _ hrd hn=>exact⟨x,b1,hrd,.inr ⟨ht,sh,hf,hx⟩⟩
 ·cases hok
theorem UF{n:Nat}:∀ {ts:List TypeId} {vs:bZ} {ds:List (DataW H)} {ps:List MemPlace},(∀t∈ts,PD P n t=true)->
 (∀(j:Nat) t v,ts[j]?=some t->vs[j]?=some v->Value.okWide P w .any base t v)->DataW.TrodAll enc P w 0 sp held ts vs ds ps->
 ∃xs bs,SI w vs xs bs/\Mk P n ts xs/\ds.length=ts.length:=by
 intro ts
 induction ts with
 |nil=>
  intro vs ds ps _ _ h;cases vs with
  |nil=>cases ds with
   |nil=>exact⟨[],[],.nil,.nil,rfl⟩
   |cons=>cases h
  |cons=>cases ds<;>cases h
 |cons t ts ih=>
  intro vs ds ps hok hval h;cases vs with
  |nil=>cases h
  |cons v vs=>
   cases ds with
   |nil=>cases h
   |cons d ds=>
    obtain⟨p,q,h1,h2,rfl⟩:=h;obtain⟨x,b1,k1,k2⟩:=Ws (hok t (by simp)) (hval 0 t v rfl rfl) h1;obtain⟨xs,b2,k3,k4,k5⟩:=ih (fun u hu=>hok u (by simp[hu])) (fun j u y hj hv=>hval (j+1) u y (by simpa using hj) (by simpa using hv)) h2;exact⟨x::xs,b1++b2,.cons _ _ _ _ _ _ k1 k3,.cons _ _ _ _ k2 k4,by simp[k5]⟩
theorem Md{W W':World}(hl:laidOutB P=true)(hb:Below W.heap.size W W')(YB:Nat->Bool):∀ {ts:List TypeId} {vs:bZ} {ds:List (DataW H)} {ps:List MemPlace},
 (∀t∈ts,P.readableRec t=true/\t<P.types.size)->DataW.TrodAll enc P W 0 (fun _=>true) true ts vs ds ps->(∀x∈ps,x.block<W.heap.size)->(∀x∈ps,YB x.block=true)->
 DataW.TrodAll enc P W' 0 YB true ts vs ds ps:=by
 intro ts
 induction ts with
 |nil=>intro vs ds ps _ h _ _;cases vs<;>cases ds<;>first|exact h|cases h
 |cons t ts ih=>
  intro vs ds ps ht h hlt hsp;cases vs with
  |nil=>cases h
  |cons v vs=>
   cases ds with
   |nil=>cases h
   |cons d ds=>
    obtain⟨p,q,h1,h2,rfl⟩:=h;refine⟨p,q,?_,ih (fun u hu=>ht u (by simp[hu])) h2 (fun x hx=>hlt x (by simp[hx])) (fun x hx=>hsp x (by simp[hx])),rfl⟩;exact WideElems.Trod_stays hl (ht t (by simp)).1 (ht t (by simp)).2 h1 (fun x hx=>hb.same (hlt x (by simp[hx]))) (fun x hx=>hsp x (by simp[hx]))
theorem BL.vc{w:World}{v:Value}{b:Bool}{bs ts us:aX}(h:BL w v (.bool b) bs ts us):v=.bool b:=by
 cases h with|v h=>cases h with|cell h=>cases h with|pure h=>cases h;rfl
theorem OC{f:FuncId}{fn:Func}{s:ChangeSpec}{n rt:Nat}{W:World}{args:Array Value}{ds gs:List (DataW H)}{before:List MemPlace}
 (hl:laidOutB P=true) (Sm:∀t∈fn.params.toList,PD P n t=true/\P.readableRec t=true/\t<P.types.size) (hres:fn.resultTypes= #[rt]) (hrt:P.underlying rt=some .bool)
 (hv:s.vars=[]) (hfn:∀ds:List (DataW H),ds.length=fn.params.toList.length->s.fn H ds= {results:=[.lit (.bool true)],args:=ds})
 (hvs:Nk W fun _=>False) (nq:∀xs,Mk P n fn.params.toList xs->Good P f xs (.bool true))
 (hval:∀(j:Nat) t v,fn.params[j]?=some t->args[j]?=some v->Value.okWide P W .any base t v)
 (hW:DataW.Whole enc P fn.params.toList s.vars false W args.toList ds gs before):
 Calls P f args W fun e W'=>∃v,e=.returned v/\s.post enc P fn false true false false W args v W':=by
 have hW':=hW;obtain⟨p,q,hA,hV,hpq,hz,_⟩:=hW;have hgs:gs=[]/\q=[]:=by
  rw[hv]at hV;cases gs with
  |nil=>exact⟨rfl,hV⟩
  |cons=>cases hV
 obtain⟨rfl,rfl⟩:=hgs;rw[dA]at hpq;subst hpq;obtain⟨xs,bs,k1,k2,k3⟩:=UF (fun t ht=>(Sm t ht).1) (fun j t v hj hv=>hval j t v (by simpa using hj) (by simpa using hv)) hA;have hc:=(nq xs k2).2 W (fun _=>0) args.toList bs hvs k1 (fun _ _=>rfl) (fun b hb=>absurd rfl hb) (fun _=>Cv _);rw[jc]at hc;refine hc.mono ?_;rintro e W' ⟨v,bs',ts,us,rfl,hb,hr,_⟩;refine⟨v,rfl,?_⟩;obtain rfl:=hr.vc;have hlt:=hW'.lt;have hfd:=hfn ds k3;have Vn:∀(b:Nat) (sp:Nat->Bool) (hd:Bool),DataW.TrodAll enc P W' b sp hd fn.resultTypes.toList ((Value.bool true).resultList fn.resultTypes.size) [.lit (.bool true)] []:=by
  intro b sp hd;rw[hres];exact⟨[],[],⟨1,by simp[DataW.trod,hrt,Value.cells]⟩,rfl,rfl⟩
 have hargs:∀YB:Nat->Bool,(∀x∈before,YB x.block=true)->DataW.TrodAll enc P W' 0 YB true fn.params.toList args.toList ds before:=
  fun YB hsp=>Md hl hb YB (fun t ht=>(Sm t ht).2) hA hlt hsp
 have hvars:∀YB:Nat->Bool,DataW.TrodVars enc P W' YB s.vars [] []:=fun YB=>by rw[hv];rfl
 unfold ChangeSpec.post;refine⟨ds,[],before,[],before,[],hW',?_,?_,?_,hb.frame _,fun h=>by cases h⟩
 ·rw[dA,hfd];exact Vn _ _ _
 ·rw[dA,hfd];exact hargs _ (fun x hx=>by simpa using hlt x hx)
 ·rw[dA,hfd];exact hvars _
end
end Go.Cx
namespace Go.Cx
open Go.RowKit
abbrev uY:=List Sh
theorem Tj{α:Type}{c:α->aQ}{row:uY}(hc:∀r,r9 row r->∃x,r=c x):∀ {rows:List aQ},(∀r∈rows,r9 row r)->∃l:List α,rows=l.map c:=by
 intro rows
 induction rows with
 |nil=>intro _;exact⟨[],rfl⟩
 |cons r rows ih=>
  intro h;obtain⟨x,rfl⟩:=hc r (h r (by simp));obtain⟨l,rfl⟩:=ih (fun s hs=>h s (by simp[hs]));exact⟨x::l,rfl⟩
theorem BN{α:Type}{c:α->aQ}{row:uY}(hc:∀r,r9 row r->∃x,r=c x){d:D}(h:Kz (.sl row) d):∃l:List α,d=.sl (l.map c):=by
 cases h with
 |sl _ rows hr=>
  obtain⟨l,rfl⟩:=Tj hc hr;exact⟨l,rfl⟩
theorem yf{d:D}(h:Kz .str d):∃s,d=.str s:=by cases h;exact⟨_,rfl⟩
theorem LI{k:IntKind}{d:D}(h:Kz (.int k) d):∃n,d=.int k n:=by cases h;exact⟨_,rfl⟩
theorem jJ{s:Sh}{ss:uY}{ds:aQ}(h:r9 (s::ss) ds):∃d r,ds=d::r/\Kz s d/\r9 ss r:=by
 cases h with|cons _ _ d r h1 h2=>exact⟨d,r,rfl,h1,h2⟩
theorem AV{ds:aQ}(h:r9 [] ds):ds=[]:=by cases h;rfl
theorem Ns(r:aQ)(h:r9 [.str] r):∃s,r=tx s:=by
 obtain⟨_,_,rfl,h1,h⟩:=jJ h;cases AV h;obtain⟨s,rfl⟩:=yf h1;exact⟨s,rfl⟩
abbrev a2n:List Sh:=[.str,.sl [.str]]
theorem Th(r:aQ)(h:r9 a2n r):∃x:aC,r=x.c:=by
 obtain⟨_,_,rfl,h1,h⟩:=jJ h;obtain⟨_,_,rfl,h2,h⟩:=jJ h;cases AV h;obtain⟨a,rfl⟩:=yf h1;obtain⟨b,rfl⟩:=BN Ns h2;exact⟨⟨a,b⟩,rfl⟩
abbrev XT:List Sh:=[.int .i64,.str,.sl [.str],.str,.str]
theorem Tg(r:aQ)(h:r9 XT r):∃x:aL,r=x.c:=by
 obtain⟨_,_,rfl,h1,h⟩:=jJ h;obtain⟨_,_,rfl,h2,h⟩:=jJ h;obtain⟨_,_,rfl,h3,h⟩:=jJ h;obtain⟨_,_,rfl,h4,h⟩:=jJ h;obtain⟨_,_,rfl,h5,h⟩:=jJ h;cases AV h;obtain⟨a,rfl⟩:=LI h1;obtain⟨b,rfl⟩:=yf h2;obtain⟨c,rfl⟩:=BN Ns h3;obtain⟨d,rfl⟩:=yf h4;obtain⟨e,rfl⟩:=yf h5;exact⟨⟨a,⟨b,c⟩,d,e⟩,rfl⟩
abbrev QM:List Sh:=[.int .i64,.str,.sl [.str]]
theorem PR(r:aQ)(h:r9 QM r):∃x:Action,r=x.c:=by
 obtain⟨_,_,rfl,h1,h⟩:=jJ h;obtain⟨_,_,rfl,h2,h⟩:=jJ h;obtain⟨_,_,rfl,h3,h⟩:=jJ h;cases AV h;obtain⟨a,rfl⟩:=LI h1;obtain⟨b,rfl⟩:=yf h2;obtain⟨c,rfl⟩:=BN Ns h3;exact⟨⟨a,⟨b,c⟩⟩,rfl⟩
abbrev a2o:List Sh:=[.str,.int .i64,.sl XT,.sl QM]
theorem Ti(r:aQ)(h:r9 a2o r):∃x:aK,r=x.c:=by
 obtain⟨_,_,rfl,h1,h⟩:=jJ h;obtain⟨_,_,rfl,h2,h⟩:=jJ h;obtain⟨_,_,rfl,h3,h⟩:=jJ h;obtain⟨_,_,rfl,h4,h⟩:=jJ h;cases AV h;obtain⟨a,rfl⟩:=yf h1;obtain⟨b,rfl⟩:=LI h2;obtain⟨c,rfl⟩:=BN Tg h3;obtain⟨d,rfl⟩:=BN PR h4;exact⟨⟨a,b,c,d⟩,rfl⟩
section
variable{P:Program}{n:Nat}{t:TypeId}{d:D}
theorem TW.cell{sh:Sh}(ha:zL P t=some false)(hf:zc P n t=some [sh])(h:TW P n t d):Kz sh d:=by
 rcases h with⟨h1,_⟩|⟨_,sh',h1,h2⟩
 ·rw[ha]at h1;cases h1
 ·rw[hf]at h1;cases h1;exact h2
end
end Go.Cx
namespace Go.Cx
open Go.ChangeShapes Go.WideShapes Go.ChangeAt Go.RowKit
def jp0(P:Program)(f:FuncId)(fn:Func)(s:ChangeSpec)(c:OpenClaim):Bool:=(c.wf (OpenSpec.ofChange s)&&laidOutB P&&mapsRowed P)
def jp1(P:Program)(f:FuncId)(fn:Func)(s:ChangeSpec)(c:OpenClaim):Bool:=(fn.params.all (P.readableRec ·)&&namedTie P c.named s.vars)&&((c.stops==[])&&(P.stops==[])&&(c.knobs==[])&&(P.stopKnobs==[]))&&((c.maps==(fn.params.toList++s.plain.varTypes P).any (P.mapsRec ·))&&(c.ifaces==(fn.params.toList++s.plain.varTypes P).any (P.ifacesRec ·))&&(c.mapsOut==P.mapsAmong fn.resultTypes.toList))&&((c.loops==(fn.params.toList++s.plain.varTypes P).any (P.loopsFrom ·))&&(c.wideKeys==(fn.params.toList++s.plain.varTypes P++fn.resultTypes.toList).any (P.wideKeysFrom ·)))&&(s.vars.all (P.varReadable ·)&&fn.resultTypes.all (fun t=>P.readableRec t&&decide (t<P.types.size))&&(c.ifacesOut==fn.resultTypes.toList.any (P.ifacesRec ·))&&(c.loopsOut==fn.resultTypes.toList.any (P.loopsFrom ·)))&&((c.kinds==(if c.domain.isEmpty then []else fn.params.toList.map fun t=>match P.underlying t with|some (.int k)=>some k|_=>none))&&(c.pinned==c.pinnedBy))&&((c.veiled==(fn.params.toList++s.plain.varTypes P++fn.resultTypes.toList).any (P.veiledRec ·))&&c.veiledFits P fn.params.toList (fn.params.toList++s.plain.varTypes P++fn.resultTypes.toList))
def jp2(P:Program)(f:FuncId)(fn:Func)(s:ChangeSpec)(c:OpenClaim):Bool:=(c.inPlace==P.inPlace f)&&(c.unfollowed==P.unfollowed f)&&(c.recurses==P.recurses f)&&(c.named==P.varsNamed f)
def jp3(P:Program)(f:FuncId)(fn:Func)(s:ChangeSpec)(c:OpenClaim):Bool:=(c.plainKeys==P.plainKeys)&&(c.shortTexts.isNone&&P.stopsHeard)&&P.mayEnter&&(c.lifted==P.liftsFinal)&&(P.make==some c.make)
theorem U2{P:Program}{f:FuncId}{fn:Func}{s:ChangeSpec}{c:OpenClaim}(h0:jp0 P f fn s c=true)(h1:jp1 P f fn s c=true)(h2:jp2 P f fn s c=true)(h3:jp3 P f fn s c=true):joinedFacts P f fn s c=true:=by
 unfold jp0 at h0;unfold jp1 at h1;unfold jp2 at h2;unfold jp3 at h3;unfold joinedFacts;simp only[aW]at h0 h1 h2 h3⊢;obtain⟨⟨aA1,aA2⟩,aA3⟩:=h0;obtain⟨⟨⟨⟨⟨⟨⟨aA4,aA5⟩,⟨⟨⟨aA6,aA7⟩,aA8⟩,aA9⟩⟩,⟨⟨aAE,aAF⟩,aAG⟩⟩,⟨aAH,aAI⟩⟩,⟨⟨⟨aAJ,aAK⟩,aAL⟩,aAM⟩⟩,⟨a8h,a8i⟩⟩,⟨a8j,a8k⟩⟩:=h1;obtain⟨⟨⟨aAA,aAB⟩,aAC⟩,aAD⟩:=h2;obtain⟨⟨⟨⟨a8b,⟨a8c,a8d⟩⟩,a8e⟩,a8f⟩,a8g⟩:=h3
 and_intros<;>assumption
end Go.Cx

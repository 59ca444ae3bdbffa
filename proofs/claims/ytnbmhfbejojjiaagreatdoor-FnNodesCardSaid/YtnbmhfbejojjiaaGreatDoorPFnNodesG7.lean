/- The structure of a network in plain words. No condition but bounds. -/
import Derived.Test.YtnbmhfbejojjiaaGreatDoorPFnNodesG6
import Derived.Test.YtnbmhfbejojjiaaGreatDoorPFnNodesG3
import Derived.ProofKit
set_option linter.unusedVariables false
set_option linter.unusedSimpArgs false
namespace Go.Cx
open Go.RowKit Go.Proofs Tryz
def VH(sh:aG):bS->Nat->Option Nat
 | [],_=>none
 |x::xs,i=>if x.shape=sh then some i else VH sh xs (i+1)
def VG(al:bS)(sh:aG):bS×Int:=match VH sh al 0 with
 |some i=>(al,dA i)
 |none=>(al++[⟨sh,[]⟩],dA al.length)
theorem IA{n:Nat}(h:n<=1099511627776):IntKind.i64.wrap (((n+1:Nat):Int)-1)=dA n:=by
 unfold dA;rw[dZ (nS.i64.2 (by omega))];omega
theorem a5U(n:aN)(sh:aG)(k:Option (aN×Int)):∀(l:bS) (i:Nat),kI n sh k l i=match VH sh l i with|some j=>some (n,dA j)|none=>k:=by
 intro l
 induction l with
 |nil=>intro i;rfl
 |cons x l ih=>
  intro i;rw[kI,Uh,aA,ih,VH];by_cases h:x.shape=sh
  ·rw[bB h,aI,bN h];rfl
  ·rw[bG h,aW,b9 h]
theorem sAl(n:aN)(sh:aG)(h:n.bM.length<=1048576):pN n sh=some (⟨n.rules,n.ends,(VG n.bM sh).1,n.nodes,n.facts,n.cS⟩,(VG n.bM sh).2):=by
 unfold pN;rw[sD (by omega),aI,a5U,jk (by omega) (by decide),aI];unfold VG;cases VH sh n.bM 0 with
 |some j=>rfl
 |none=>
  dsimp only;rw[show((n.bM.map ai.c)++[[D.str sh.rel,D.sl (sh.args.map tx),D.sl []]]).length=n.bM.length+1 by simp,IA (by omega)]
theorem a58(n:aN)(sh:aG)(k:Option (aN×Int)):∀(l:bS) (i:Nat),eL n sh k l i=match VH sh l i with|some j=>some (n,dA j)|none=>k:=by
 intro l
 induction l with
 |nil=>intro i;rfl
 |cons x l ih=>
  intro i;rw[eL,JL,aA,ih,VH];by_cases h:x.shape=sh
  ·rw[bB h,aI,bN h];rfl
  ·rw[bG h,aW,b9 h]
theorem iAl(n:aN)(sh:aG)(h:n.bM.length<=1048576):gT n sh=some (⟨n.rules,n.ends,(VG n.bM sh).1,n.nodes,n.facts,n.cS⟩,(VG n.bM sh).2):=by
 unfold gT;rw[sD (by omega),aI,a58,jk (by omega) (by decide),aI];unfold VG;cases VH sh n.bM 0 with
 |some j=>rfl
 |none=>
  dsimp only;rw[show((n.bM.map ai.c)++[[D.str sh.rel,D.sl (sh.args.map tx),D.sl []]]).length=n.bM.length+1 by simp,IA (by omega)]
def KZ(p:Int)(c:aH):bR->Nat->Option Nat
 | [],_=>none
 |x::xs,i=>if 0<i/\x.parent=p/\x.cond=c then some i else KZ p c xs (i+1)
def OH(al:bS)(c:aH):bS×Int:=if c.kind=1\/c.kind=2 then VG al (F8 c.pat)else(al, -1)
def IE(al:bS)(ns:bR)(p:Int)(c:aH):(bS×bR)×Int:=match KZ p c ns 0 with
 |some i=>((al,ns),dA i)
 |none=>(((OH al c).1,ns++[⟨p,c,(OH al c).2,[]⟩]),dA ns.length)
theorem Mt(p:Int)(c:aH)(ns:bR):KZ p c ns 0=KZ p c (ns.drop 1) 1:=by
 cases ns with
 |nil=>rfl
 |cons x ns=>rw[KZ,b9 (fun h=>by omega)];rfl
def Rc(n:aN)(z:(bS×bR)×Int):aN×Int:=(⟨n.rules,n.ends,z.1.1,z.1.2,n.facts,n.cS⟩,z.2)
theorem a5W(n:aN)(p:Int)(c:aH)(k:Option (aN×Int))(hn:n.nodes.length<=1048576):∀(d v fu:Nat),v+d=n.nodes.length+1->1<=v->d<fu->fZ n p c k fu (v:Int)=match KZ p c (n.nodes.drop v) v with|some j=>some (n,dA j)|none=>k:=by
 intro d
 induction d with
 |zero=>
  intro v fu hv h1 hf;obtain⟨fu,rfl⟩:∃m,fu=m+1:=⟨fu-1,by omega⟩
  rw[fZ,ar,bG (by omega),aW,tj (by omega)];rfl
 |succ d ih=>
  intro v fu hv h1 hf;obtain⟨fu,rfl⟩:∃m,fu=m+1:=⟨fu-1,by omega⟩
  by_cases hl:v<n.nodes.length
  ·have hx:n.nodes[v]?=some n.nodes[v]:=aV hl;have e3:iM n.nodes (v:Int)=some n.nodes[v]:=by unfold iM;rw[bB (by omega),aI];exact hx
   rw[s5 hl,KZ,fZ,ar,bB (by omega),aI,e3,aA,Jy (by omega),ih (v+1) fu (by omega) (by omega) (by omega),Ug,aA];generalize n.nodes[v]=x;by_cases hp:x.parent=p
   ·rw[show((x.parent:Int)==p)=true by simp[hp],aI];by_cases hc:x.cond=c
    ·rw[bB hc,aI,bN ⟨by omega,hp,hc⟩];rfl
    ·rw[bG hc,aW,b9 (fun h=>hc h.2.2)]
   ·rw[show((x.parent:Int)==p)=false by simp[hp],aW,b9 (fun h=>hp h.2.1)]
  ·rw[fZ,ar,bG (by omega),aW,tj (by omega)];rfl
theorem sCh(n:aN)(p:Int)(c:aH)(hn:n.nodes.length<=1048576)(ha:n.bM.length<=1048576)(hc:c.wt<=1048576):rP n p c=some (Rc n (IE n.bM n.nodes p c)):=by
 have hp:=aH.fE hc;have hargs:=aG.eo hp;unfold rP;have e:=a5W n p c;rw[show(1:Int)=((1:Nat):Int)from rfl,e _ hn n.nodes.length 1 fuel (by omega) (bL _) (by unfold fuel;omega),<-Mt,PE c (by omega),aA,a0O c.pat hp,aA,sAl n _ ha,aA];unfold IE OH Rc;cases KZ p c n.nodes 0 with
 |some j=>rfl
 |none=>
  dsimp only;rw[jk (by omega) (by decide),aI];by_cases h1:c.kind=1
  ·rw[show((c.kind:Int)==((1:Nat):Int))=true by simp[h1],aI,bN (.inl h1)];simp[IA,hn,show n.nodes.length<=1099511627776 by omega]
   first|done| (unfold dA;rw[dZ (nS.i64.2 (by omega))])
  ·rw[show((c.kind:Int)==((1:Nat):Int))=false by simp[h1],aW];by_cases h2:c.kind=2
   ·rw[show((c.kind:Int)==(2:Int))=true by simp[h2],aI,bN (.inr h2)];simp[IA,hn,show n.nodes.length<=1099511627776 by omega]
    first|done| (unfold dA;rw[dZ (nS.i64.2 (by omega))])
   ·rw[show((c.kind:Int)==(2:Int))=false by simp[h2],aW,b9 (by omega)]
    first|rw[jk (by omega) (by decide),aI]|rw[aA,jk (by omega) (by decide),aI]|skip
    simp[IA,hn,show n.nodes.length<=1099511627776 by omega]
    first|done| (unfold dA;rw[dZ (nS.i64.2 (by omega))])
theorem a5B(n:aN)(p:Int)(c:aH)(k:Option (aN×Int)):∀(l:bR) (i:Nat),cc n p c k l i=match KZ p c l i with|some j=>some (n,dA j)|none=>k:=by
 intro l
 induction l with
 |nil=>intro i;rfl
 |cons x l ih=>
  intro i;rw[cc,KZ,ih,Lr,aA];by_cases hi:0<i
  ·rw[bB (by omega),aI];by_cases hp:x.parent=p
   ·rw[show((x.parent:Int)==p)=true by simp[hp],aI];by_cases hc:x.cond=c
    ·rw[bB hc,aI,bN ⟨hi,hp,hc⟩];rfl
    ·rw[bG hc,aW,b9 (fun h=>hc h.2.2)]
   ·rw[show((x.parent:Int)==p)=false by simp[hp],aW,b9 (fun h=>hp h.2.1)]
  ·rw[bG (by omega),aW,b9 (fun h=>hi h.1)]
theorem iCh(n:aN)(p:Int)(c:aH)(hn:n.nodes.length<=1048576)(ha:n.bM.length<=1048576)(hc:c.wt<=1048576):jQ n p c=some (Rc n (IE n.bM n.nodes p c)):=by
 have hp:=aH.fE hc;have hargs:=aG.eo hp;unfold jQ;rw[sD (by omega),aI,a5B,Oj c (by omega),Zb c.pat hp,aA,iAl n _ ha,aA,aA];unfold IE OH Rc;cases KZ p c n.nodes 0 with
 |some j=>rfl
 |none=>
  dsimp only;rw[jk (by omega) (by decide),aI];by_cases h1:c.kind=1
  ·rw[show((c.kind:Int)==(1:Int))=true by simp[h1],aI,bN (.inl h1)];simp[IA,hn,show n.nodes.length<=1099511627776 by omega]
   first|done| (unfold dA;rw[dZ (nS.i64.2 (by omega))])
  ·rw[show((c.kind:Int)==(1:Int))=false by simp[h1],aW];by_cases h2:c.kind=2
   ·rw[show((c.kind:Int)==(2:Int))=true by simp[h2],aI,bN (.inr h2)];simp[IA,hn,show n.nodes.length<=1099511627776 by omega]
    first|done| (unfold dA;rw[dZ (nS.i64.2 (by omega))])
   ·rw[show((c.kind:Int)==(2:Int))=false by simp[h2],aW,b9 (by omega)]
    first|rw[jk (by omega) (by decide),aI]|rw[aA,jk (by omega) (by decide),aI]|skip
    simp[IA,hn,show n.nodes.length<=1099511627776 by omega]
    first|done| (unfold dA;rw[dZ (nS.i64.2 (by omega))])
def F9(s:(bS×bR)×Int)(c:aH):(bS×bR)×Int:=IE s.1.1 s.1.2 s.2 c
def Ge(z:(bS×bR)×bJ)(r:aJ):(bS×bR)×bJ:=(((gS r).foldl F9 (z.1,0)).1,z.2++[((gS r).foldl F9 (z.1,0)).2])
def root(tk:bE):Node:=⟨-1,⟨0,⟨[],[]⟩,[],[]⟩, -1,tk⟩
def iJ(tk:bE)(rs:au):(bS×bR)×bJ:=rs.foldl Ge (([],[root tk]),[])
theorem Vg(al:bS)(sh:aG):(VG al sh).1.length<=al.length+1:=by
 unfold VG;cases VH sh al 0<;>simp
theorem Vn(al:bS)(c:aH):(OH al c).1.length<=al.length+1:=by
 unfold OH;by_cases h:c.kind=1\/c.kind=2
 ·rw[bN h];exact Vg _ _
 ·rw[b9 h];exact Nat.le_succ _
theorem LW(al:bS)(ns:bR)(p:Int)(c:aH):(IE al ns p c).1.1.length<=al.length+1/\(IE al ns p c).1.2.length<=ns.length+1:=by
 unfold IE;cases KZ p c ns 0 with
 |some i=>exact⟨Nat.le_succ _,Nat.le_succ _⟩
 |none=>exact⟨Vn _ _,by simp⟩
theorem D0:∀(cs:af) (s:(bS×bR)×Int),(cs.foldl F9 s).1.1.length<=s.1.1.length+cs.length/\(cs.foldl F9 s).1.2.length<=s.1.2.length+cs.length
 | [],s=>⟨bL _,bL _⟩
 |c::cs,s=>by
  have h1:=LW s.1.1 s.1.2 s.2 c;have h2:=D0 cs (F9 s c);have h3:(F9 s c).1.1.length<=s.1.1.length+1/\(F9 s c).1.2.length<=s.1.2.length+1:=h1;rw[cm,aT];omega
theorem a2x(a:au)(i:Nat)(y:af)(k:Int->Int->au->bJ->bS->bR->aO->Option (aN×Bool)):∀(cs:af) (j:Nat) (v u:Int) (w3:au) (w4:bJ) (al:bS) (ns:bR) (w7:aO),(∀c∈cs,c.wt<=1048576)->al.length+cs.length<=1048576->ns.length+cs.length<=1048576->
 fy a i y k cs j v u w3 w4 al ns w7=k (cs.foldl F9 ((al,ns),v)).2 u w3 w4 (cs.foldl F9 ((al,ns),v)).1.1 (cs.foldl F9 ((al,ns),v)).1.2 w7:=by
 intro cs
 induction cs with
 |nil=>intros;rfl
 |cons c cs ih=>
  intro j v u w3 w4 al ns w7 hc ha hn;simp only[aT]at ha hn;have h1:=LW al ns v c;rw[fy,sCh _ v c (show ns.length<=1048576 by omega) (show al.length<=1048576 by omega) (hc c (by simp)),aA];unfold Rc;dsimp only;rw[ih _ _ _ _ _ _ _ _ (fun x hx=>hc x (by simp[hx])) (by omega) (by omega)];rfl
theorem a2B(a:au)(i:Nat)(y:af)(k:Int->Int->au->bJ->bS->bR->aO->Option aN):∀(cs:af) (j:Nat) (v u:Int) (w3:au) (w4:bJ) (al:bS) (ns:bR) (w7:aO),(∀c∈cs,c.wt<=1048576)->al.length+cs.length<=1048576->ns.length+cs.length<=1048576->
 iR a i y k cs j v u w3 w4 al ns w7=k (cs.foldl F9 ((al,ns),v)).2 u w3 w4 (cs.foldl F9 ((al,ns),v)).1.1 (cs.foldl F9 ((al,ns),v)).1.2 w7:=by
 intro cs
 induction cs with
 |nil=>intros;rfl
 |cons c cs ih=>
  intro j v u w3 w4 al ns w7 hc ha hn;simp only[aT]at ha hn;have h1:=LW al ns v c;rw[iR,iCh _ v c (show ns.length<=1048576 by omega) (show al.length<=1048576 by omega) (hc c (by simp)),aA];unfold Rc;dsimp only;rw[ih _ _ _ _ _ _ _ _ (fun x hx=>hc x (by simp[hx])) (by omega) (by omega)];rfl
theorem Km:∀(ts:aF) (N:aP) {p:aQ},p∈ts.foldl kJ N->p∈N\/(p.var∈ts/\mF p.var=true)
 | [],_,_,h=>.inl h
 |t::ts,N,p,h=>by
  rcases Km ts (kJ N t) h with h1|h1
  ·unfold kJ at h1;cases hv:mF t&& !CO N t with
   |false=>rw[hv]at h1;exact .inl h1
   |true=>
    rw[hv,aI]at h1;simp only[aY]at hv;rcases aZ.1 h1 with h2|h2
    ·exact .inl h2
    ·rw[cZ.1 h2];exact .inr ⟨by simp,hv.1⟩
  ·exact .inr ⟨by simp[h1.1],h1.2⟩
theorem GR{l:af}{v:Bytes}:v∈Ay l↔v∈vu l/\mF v=true:=by
 unfold Ay vu o9 iL;simp only[bq,gF];constructor
 ·rintro⟨c,hc,hm,hv⟩;exact⟨⟨c,hc,hm⟩,hv⟩
 ·rintro⟨⟨c,hc,hm⟩,hv⟩;exact⟨c,hc,hm,hv⟩
theorem Ra{r:aJ}(h:iA r=true):(nZ r).length<=6:=by
 have h1:((nZ r).map aQ.var).length<=(eb (Ay r.conds)).length:=by
  refine Kv _ _ (GU _ Pf.nil) fun x hx=>?_
  obtain⟨p,hp,rfl⟩:=cJ.1 hx;rcases Km _ _ hp with h1|h1
  ·cases h1
  ·exact rj.2 (GR.2 h1)
 rw[ar]at h1;exact dK h1 (Rn h)
theorem Ty{r:aJ}(h:iA r=true){v:Bytes}(hv:v∈Ay r.conds):∃i p,i<6/\(nZ r)[i]?=some p/\p.var=v/\Cy (nZ r) v=nmB i:=by
 obtain⟨ht,K3⟩:=GR.1 hv;obtain⟨p,hp,he⟩:=N8 _ [] ht K3;have hp':p∈nZ r:=hp;obtain⟨i,hi,Lf,hval,_⟩:=PV (Ik _ VF.nil) hp';refine⟨i,p,by have:=Ra h;unfold nZ at this;omega,Lf,he,?_⟩;rw[<-he];exact(MD (N:=nZ r) (GU (vu r.conds) Pf.nil) hp').trans hval
theorem Ga{r:aJ}(h:iA r=true){x:Bytes}(hx:x.length<=16)(hV:mF x=true->x∈Ay r.conds):(Cy (nZ r) x).length<=16:=by
 cases hv:mF x with
 |false=>rw[show Cy (nZ r) x=x from U4 hv];exact hx
 |true=>
  obtain⟨i,p,hi,_,_,e⟩:=Ty h (hV hv);rw[e];exact QU i hi
theorem Il:∀(l:aF),(∀x∈l,x.length<=16)->sM tw l<=17*l.length
 | [],_=>by simp[sM]
 |x::l,h=>by
  have h1:=Il l fun y hy=>h y (by simp[hy])
  have h2:=h x (by simp);rw[mo,aT];unfold tw at*;omega
theorem Ju{t:Bytes}(h:rD t=true):t.length<=16:=by have:=D3 h;omega
theorem Iz{c:aH}(h:n9 c=true):c.pat.rel.length<=8/\c.pat.args.length<=3/\(∀x∈c.pat.args,x.length<=16)/\c.left.length<=16/\c.right.length<=16:=by
 by_cases hk:c.kind=1\/c.kind=2
 ·obtain⟨hp,hl,hr⟩:=R2 h hk;have ht:=XH hp;unfold xk at hp;simp only[aY,bK]at hp;have:=HW hp.2.1;rw[hl,hr];exact⟨by omega,by omega,fun x hx=>Ju (ht x hx),by simp,by simp⟩
 ·obtain⟨_,hz,hl,hr⟩:=OL h (fun e=>hk (.inl e)) (fun e=>hk (.inr e));unfold Cr at hz;simp only[aY,cQ,bK]at hz;have h0:c.pat.args=[]:=cM (by omega);rw[hz.1,h0];exact⟨by simp,by simp,fun x hx=>(by cases hx),Ju hl,Ju hr⟩
theorem Jj{r:aJ}(h:iA r=true):∀c∈gS r,c.wt<=1048576:=by
 intro c' WC;obtain⟨c,hc,rfl⟩:=cJ.1 WC;obtain⟨h1,h2,h3,h4,h5⟩:=Iz (I7 h c hc);have hV:∀x∈c.pat.args++[c.left,c.right],mF x=true->x∈Ay r.conds:=fun x hx hv=>GR.2 ⟨bq.2 ⟨c,hc,hx⟩,hv⟩
 have a1:(Cy (nZ r) c.left).length<=16:=Ga h h4 (hV _ (by simp));have a2:(Cy (nZ r) c.right).length<=16:=Ga h h5 (hV _ (by simp));have a3:=Il (c.pat.args.map (Cy (nZ r))) (fun x hx=>by
  obtain⟨y,hy,rfl⟩:=cJ.1 hx;exact Ga h (h3 y hy) (hV y (by simp[hy])))
 rw[ar]at a3;unfold Jn aH.wt;dsimp only;unfold tw at*;omega
theorem wi{r:aJ}(h:iA r=true):(gS r).length<=4:=by unfold gS;rw[ar];exact Rm h
theorem Pj{r:aJ}{n:Nat}(h:r.wt<=n){a:Action}(ha:a∈r.cO):a.pat.args.length<=n:=by
 have h1:=aJ.FN h;have h2:=s4 (w:=Action.wt) ha;have h3:=rz tw a.pat.args;simp only[Action.wt]at h2;omega
theorem a06(p:aG)(h:p.args.length<=1099511627770):gr p=some p:=by
 unfold gr;rw[Uk p.args (by omega)];rfl
theorem ZR(p:aG)(h:p.args.length<=1099511627770):fq p=some p:=by
 unfold fq;rw[Lt p.args (by omega)];rfl
theorem a07(r:aJ)(h:r.wt<=1048576):qk r=some r:=by
 have h1:=aJ.qG h;have h2:=aJ.FN h;have h3:=rz aH.wt r.conds;have h4:=rz Action.wt r.cO;unfold qk;rw[IQ (c:=aH.c) (b:=80) (f:=nE) (g:=fun x=>x) (L:=nP r _) (k:=_) (by decide) (fun _ _=>rfl) (fun _ _ _ _=>rfl) _ _ _ (fun c hc=>PE c (by have:=aG.eo (aH.fE (aJ.og h hc));omega)) (by simp;omega)];rw[IQ (c:=Action.c) (b:=48) (f:=fun a:Action=>(gr a.pat).bind fun y=>some (⟨a.kind,y⟩:Action)) (g:=fun x=>x) (L:=lW r _ _) (k:=_) (by decide) (fun _ _=>rfl) (fun x xs i w=>by rw[lW];cases gr x.pat<;>rfl) _ _ _ (fun a ha=>by rw[a06 a.pat (by have:=Pj h ha;omega)];rfl) (by simp;omega)];simp
theorem UT(l:au)(h:sM aJ.wt l<=1048576):qW l=some l:=by
 have h3:=rz aJ.wt l;unfold qW;rw[IQ (c:=aJ.c) (b:=72) (f:=qk) (g:=fun x=>x) (L:=lV l _) (k:=_) (by decide) (fun _ _=>rfl) (fun _ _ _ _=>rfl) _ _ _ (fun r hr=>a07 r (by have:=s4 (w:=aJ.wt) hr;omega)) (by simp;omega)];simp
theorem TV(l:af)(h:l.length<=1048576)(hw:∀c∈l,c.wt<=1048576):p8 l=some l:=by
 unfold p8;rw[IQ (c:=aH.c) (b:=80) (f:=gy) (g:=fun x=>x) (L:=kR l _) (k:=_) (by decide) (fun _ _=>rfl) (fun _ _ _ _=>rfl) _ _ _ (fun c hc=>Oj c (by have:=aG.eo (aH.fE (hw c hc));omega)) (by simp;omega)];simp
theorem ZS(r:aJ)(h:r.wt<=1048576):nr r=some r:=by
 have h1:=aJ.qG h;have h2:=aJ.FN h;have h3:=rz aH.wt r.conds;have h4:=rz Action.wt r.cO;unfold nr;rw[TV r.conds (by omega) (fun c hc=>aJ.og h hc),aA];rw[IQ (c:=Action.c) (b:=48) (f:=fun a:Action=>(fq a.pat).bind fun y=>some (⟨a.kind,y⟩:Action)) (g:=fun x=>x) (L:=jD r _ _) (k:=_) (by decide) (fun _ _=>rfl) (fun x xs i w=>by rw[jD];cases fq x.pat<;>rfl) _ _ _ (fun a ha=>by rw[ZR a.pat (by have:=Pj h ha;omega)];rfl) (by simp;omega)];simp
theorem TW(l:au)(h:sM aJ.wt l<=1048576):p9 l=some l:=by
 have h3:=rz aJ.wt l;unfold p9;rw[IQ (c:=aJ.c) (b:=72) (f:=nr) (g:=fun x=>x) (L:=kU l _) (k:=_) (by decide) (fun _ _=>rfl) (fun _ _ _ _=>rfl) _ _ _ (fun r hr=>ZS r (by have:=s4 (w:=aJ.wt) hr;omega)) (by simp;omega)];simp
theorem a2w(a:au)(k:Int->au->bJ->bS->bR->aO->Option (aN×Bool)):∀(l:au) (i:Nat) (u:Int) (w2:au) (es:bJ) (al:bS) (ns:bR) (w6:aO),(∀r∈l,r.wt<=1048576/\iA r=true)->es.length+l.length<=1000->al.length+4*l.length<=1000->ns.length+4*l.length<=1000->
 fw a k l i u w2 es al ns w6=k u w2 (l.foldl Ge ((al,ns),es)).2 (l.foldl Ge ((al,ns),es)).1.1 (l.foldl Ge ((al,ns),es)).1.2 w6:=by
 intro l
 induction l with
 |nil=>intros;rfl
 |cons r l ih=>
  intro i u w2 es al ns w6 hr he ha hn;simp only[aT]at he ha hn;obtain⟨hw,hb⟩:=hr r (by simp);have h4:=wi hb;have hl:=D0 (gS r) ((al,ns),0);dsimp only at hl;rw[fw,a04 r hw,aA,sD (by omega),aI,a2x _ _ _ _ _ _ _ _ _ _ _ _ _ (Jj hb) (by omega) (by omega),jk (by omega) (by decide),aI,ih _ _ _ _ _ _ _ (fun x hx=>hr x (by simp[hx])) (by simp;omega) (by omega) (by omega)];rfl
theorem a0B(rs:au)(h:sM aJ.wt rs<=1048576):kX rs=some (bif tD rs then(⟨rs,(iJ [⟨[],[]⟩] rs).2,(iJ [⟨[],[]⟩] rs).1.1,(iJ [⟨[],[]⟩] rs).1.2,[],0⟩,true)else(⟨[],[],[],[],[],0⟩,false)):=by
 unfold kX;rw[a5V rs h,aA];cases hb:tD rs with
 |false=>rfl
 |true=>
  have h6:rs.length<=6:=by unfold tD at hb;simp only[aY,bK]at hb;omega
  rw[bn,aW,aI,UT rs h,aA,a2w _ _ _ _ _ _ _ _ _ _ (fun r hr=>⟨by have:=s4 (w:=aJ.wt) hr;omega,rJ hb r hr⟩) (by simp;omega) (by simp;omega) (by simp;omega)];rfl
theorem a2A(a:au)(k:Int->au->bJ->bS->bR->aO->Option aN):∀(l:au) (i:Nat) (u:Int) (w2:au) (es:bJ) (al:bS) (ns:bR) (w6:aO),(∀r∈l,r.wt<=1048576/\iA r=true)->es.length+l.length<=1000->al.length+4*l.length<=1000->ns.length+4*l.length<=1000->
 iQ a k l i u w2 es al ns w6=k u w2 (l.foldl Ge ((al,ns),es)).2 (l.foldl Ge ((al,ns),es)).1.1 (l.foldl Ge ((al,ns),es)).1.2 w6:=by
 intro l
 induction l with
 |nil=>intros;rfl
 |cons r l ih=>
  intro i u w2 es al ns w6 hr he ha hn;simp only[aT]at he ha hn;obtain⟨hw,hb⟩:=hr r (by simp);have h4:=wi hb;have hl:=D0 (gS r) ((al,ns),0);dsimp only at hl;rw[iQ,ZQ r hw,aA,sD (by omega),aI,a2B _ _ _ _ _ _ _ _ _ _ _ _ _ (Jj hb) (by omega) (by omega),jk (by omega) (by decide),aI,ih _ _ _ _ _ _ _ (fun x hx=>hr x (by simp[hx])) (by simp;omega) (by omega) (by omega)];rfl
theorem a5G(rs:au)(h:sM aJ.wt rs<=1048576)(hb:tD rs=true):pG rs=some ⟨rs,(iJ [] rs).2,(iJ [] rs).1.1,(iJ [] rs).1.2,[],0⟩:=by
 unfold pG;have h6:rs.length<=6:=by unfold tD at hb;simp only[aY,bK]at hb;omega
 rw[TW rs h,aA,a2A _ _ _ _ _ _ _ _ _ _ (fun r hr=>⟨by have:=s4 (w:=aJ.wt) hr;omega,rJ hb r hr⟩) (by simp;omega) (by simp;omega) (by simp;omega)];rfl
def Yr(al:bS)(ns:bR)(p:Int)(c:aH):(bS×bR)×Int:=match KZ p c ns 1 with
 |some i=>((al,ns),dA i)
 |none=>(((OH al c).1,ns++[⟨p,c,(OH al c).2,[]⟩]),dA (ns.length+1))
theorem Se(tk:bE)(al:bS)(ns:bR)(p:Int)(c:aH):IE al (root tk::ns) p c=(((Yr al ns p c).1.1,root tk::(Yr al ns p c).1.2),(Yr al ns p c).2):=by
 unfold IE Yr;rw[Mt,List.drop_succ_cons,BU];cases KZ p c ns 1<;>rfl
def rtC(s:(bS×bR)×Int)(c:aH):(bS×bR)×Int:=Yr s.1.1 s.1.2 s.2 c
def VR(z:(bS×bR)×bJ)(r:aJ):(bS×bR)×bJ:=(((gS r).foldl rtC (z.1,0)).1,z.2++[((gS r).foldl rtC (z.1,0)).2])
def Wy(rs:au):(bS×bR)×bJ:=rs.foldl VR (([],[]),[])
theorem Nn(tk:bE):∀(cs:af) (al:bS) (ns:bR) (v:Int),cs.foldl F9 ((al,root tk::ns),v)=(((cs.foldl rtC ((al,ns),v)).1.1,root tk::(cs.foldl rtC ((al,ns),v)).1.2),(cs.foldl rtC ((al,ns),v)).2)
 | [],_,_,_=>rfl
 |c::cs,al,ns,v=>by
  rw[cm,cm];show cs.foldl F9 (IE al (root tk::ns) v c)=_;rw[Se,Nn tk cs];rfl
theorem Np(tk:bE):∀(rs:au) (al:bS) (ns:bR) (es:bJ),rs.foldl Ge ((al,root tk::ns),es)=(((rs.foldl VR ((al,ns),es)).1.1,root tk::(rs.foldl VR ((al,ns),es)).1.2),(rs.foldl VR ((al,ns),es)).2)
 | [],_,_,_=>rfl
 |r::rs,al,ns,es=>by
  rw[cm,cm];have e:Ge ((al,root tk::ns),es) r=(((VR ((al,ns),es) r).1.1,root tk::(VR ((al,ns),es) r).1.2),(VR ((al,ns),es) r).2):=by
   unfold Ge VR;dsimp only;rw[Nn]
  rw[e,Np tk rs]
theorem jl(tk:bE)(rs:au):iJ tk rs=(((Wy rs).1.1,root tk::(Wy rs).1.2),(Wy rs).2):=Np tk rs [] [] []
theorem Gf(tk:bE){rs:au}(h:∀r∈rs,iA r=true)(h6:rs.length<=6):(iJ tk rs).1.2.length<=25:=by
 have main:∀(l:au) (z:(bS×bR)×bJ),(∀r∈l,iA r=true)->(l.foldl Ge z).1.2.length<=z.1.2.length+4*l.length:=by
  intro l
  induction l with
  |nil=>intro z _;exact bL _
  |cons r l ih=>
   intro z hl;have h1:=ih (Ge z r) (fun x hx=>hl x (by simp[hx]));have h2:=(D0 (gS r) (z.1,0)).2;have h3:=wi (hl r (by simp));have h4:(Ge z r).1.2.length=((gS r).foldl F9 (z.1,0)).1.2.length:=rfl;rw[cm,aT];dsimp only at h2;omega
 have:=main rs (([],[root tk]),[]) h;unfold iJ;simp only[aT,bW]at this;omega
end Go.Cx
namespace Go.Cx
open Go.RowKit Go.Proofs Tryz
def rB(x:Node):Int×aH:=(x.parent,x.cond)
theorem L8{a b:bR}(h:a.map rB=b.map rB):∀(k v:Nat),KP a k v=KP b k v
 |0,_=>rfl
 |k+1,v=>by
  have e:(a[v]?).map rB=(b[v]?).map rB:=by rw[<-bU,<-bU,h]
  unfold KP;cases ha:a[v]? with
  |none=>
   cases hb:b[v]? with
   |none=>rfl
   |some y=>rw[ha,hb]at e;cases e
  |some x=>
   cases hb:b[v]? with
   |none=>rw[ha,hb]at e;cases e
   |some y=>
    rw[ha,hb]at e;have e1:x.parent=y.parent:=(BX (qD e)).1;dsimp only;rw[e1,L8 h k]
theorem LZ{a b:bR}(h:a.map rB=b.map rB):yZ a=yZ b:=by
 funext i
 have e:(a[i]?).map rB=(b[i]?).map rB:=by rw[<-bU,<-bU,h]
 unfold yZ;cases ha:a[i]? with
 |none=>
  cases hb:b[i]? with
  |none=>rfl
  |some y=>rw[ha,hb]at e;cases e
 |some x=>
  cases hb:b[i]? with
  |none=>rw[ha,hb]at e;cases e
  |some y=>
   rw[ha,hb]at e;have e2:x.cond=y.cond:=(BX (qD e)).2;show some x.cond=some y.cond;rw[e2]
theorem yT{a b:bR}(h:a.map rB=b.map rB)(v:Int):eZ a v=eZ b v:=by
 have hl:a.length=b.length:=by have:=congrArg List.length h;simpa using this
 unfold eZ E7;rw[hl,L8 h,LZ h]
def qY(al:bS)(fs:aO):bS:=al.map fun a=>⟨a.shape,zZ a.shape [] fs⟩
def uJ(ns:bR)(fs:aO):bR->Nat->bR
 | [],_=>[]
 |x::xs,i=>⟨x.parent,x.cond,x.ot,AZ (eZ ns (dA i)) fs⟩::uJ ns fs xs (i+1)
def rA(ns:bR)(fs:aO):bR:=uJ ns fs ns 0
theorem Ex(ns:bR)(fs:aO):∀(l:bR) (i:Nat),(uJ ns fs l i).map rB=l.map rB
 | [],_=>rfl
 |x::l,i=>by rw[uJ,bC,Ex ns fs l];rfl
theorem R9(ns:bR)(fs:aO)(l:bR)(i:Nat):(uJ ns fs l i).length=l.length:=by
 have:=congrArg List.length (Ex ns fs l i);simpa using this
theorem setAt{α:Type}(pre l:List α)(x y:α):(pre++x::l).set pre.length y=pre++y::l:=by
 rw[qo _ _ (bL _),o6];rfl
structure FM(ns:List Node):Prop where
 len:ns.length<=1048576
 wt:∀x∈ns,x.cond.wt<=1048576
 path:∀i:Nat,(eZ ns (dA i)).length<=4
theorem Jh{ns:bR}{v:Int}{c:aH}(h:c∈eZ ns v):∃x∈ns,x.cond=c:=by
 unfold eZ at h;split at h
 ·unfold E7 at h;obtain⟨i,_,hc⟩:=bt.1 h;unfold yZ at hc;cases hx:ns[i]? with
  |none=>rw[hx]at hc;cases hc
  |some x=>rw[hx]at hc;exact⟨x,aD hx,qD hc⟩
 ·cases h
theorem Sq(n:aN)(fs y:aO)(k:bS->Option (aN×Unit))(hf:FS fs):∀(l pre:bS),(∀x∈l,x.shape.wt<=1048576)->eX n fs y k l pre.length (pre++l)=k (pre++qY l fs):=by
 intro l
 induction l with
 |nil=>intro pre _;rfl
 |cons x l ih=>
  intro pre hw;have hx:(pre++x::l)[pre.length]?=some x:=by simp
  have hlt:decide (pre.length<((pre++x::l).map ai.c).length)=true:=by simp
  rw[eX,hlt,aI,hx,aA,a1w x.shape [] fs (hw x (by simp)) PB.nil hf,aA,aI,setAt];have:=ih (pre++[⟨x.shape,zZ x.shape [] fs⟩]) (fun z hz=>hw z (by simp[hz]));rw[av,cy,cY]at this;rw[show pre++(⟨x.shape,zZ x.shape [] fs⟩:ai)::l=pre++([⟨x.shape,zZ x.shape [] fs⟩]++l)from rfl,this];simp[qY]
theorem Yx(n:aN)(fs y:aO)(q:bS)(k:Option (aN×Unit))(hf:FS fs)(h24:fs.length<=24)(ns:bR)(hp:FM ns):∀(l pre:bR),(pre++l).map rB=ns.map rB->
 dO n fs y q k l pre.length (pre++l)=some (⟨n.rules,n.ends,q,pre++uJ ns fs l pre.length,y,n.cS⟩,()):=by
 intro l
 induction l with
 |nil=>intro pre _;rfl
 |cons x l ih=>
  intro pre he;have hx:(pre++x::l)[pre.length]?=some x:=by simp
  have hlt:decide (pre.length<((pre++x::l).map Node.c).length)=true:=by simp
  have hlen:(pre++x::l).length=ns.length:=by have:=congrArg List.length he;simpa using this
  have hok:XW ⟨n.rules,n.ends,q,pre++x::l,y,n.cS⟩:=by
   refine⟨by show(pre++x::l).length<=1048576;rw[hlen];exact hp.len,fun z hz=>?_⟩;have hm:rB z∈ns.map rB:=by rw[<-he];exact cJ.2 ⟨z,hz,rfl⟩
   obtain⟨w,hw,e⟩:=cJ.1 hm;have:w.cond=z.cond:=(BX e).2;rw[<-this];exact hp.wt w hw
  have JH:eZ (pre++x::l) ((pre.length:Nat):Int)=eZ ns (dA pre.length):=yT he _;have OV:∀c∈eZ ns (dA pre.length),c.wt<=1048576:=by
   intro c hc;obtain⟨z,hz,e⟩:=Jh hc;rw[<-e];exact hp.wt z hz
  rw[dO,TZ _ _ hok,aA,JH,a2D _ fs OV (hp.path _) hf h24,aA,hlt,aI,hx,aA,setAt];have:=ih (pre++[⟨x.parent,x.cond,x.ot,AZ (eZ ns (dA pre.length)) fs⟩]) (by
   rw[<-he];simp[rB])
  rw[av,cy,cY]at this;rw[show pre++(⟨x.parent,x.cond,x.ot,AZ (eZ ns (dA pre.length)) fs⟩:Node)::l=pre++([⟨x.parent,x.cond,x.ot,AZ (eZ ns (dA pre.length)) fs⟩]++l)from rfl,this,uJ];simp
theorem a1u(n:aN)(fs:aO)(hf:FS fs)(h24:fs.length<=24)(ha:n.bM.length<=1048576)(hs:∀x∈n.bM,x.shape.wt<=1048576)(hp:FM n.nodes):jx n fs=some (⟨n.rules,n.ends,qY n.bM fs,rA n.nodes fs,fs,n.cS⟩,()):=by
 unfold jx;have h1:=Sq n fs fs;have hl:=hp.len;rw[NJ fs hf.1 (fun f WG=>by have:=aG.eo (hf.2 f WG);omega),aA,sD (by omega),aI];have e1:=Sq n fs fs (fun(eS:bS)=>(bif decide (n.nodes.length<=maxLen)then(dO n fs fs eS none n.nodes 0 n.nodes)else none)) hf n.bM [] hs;refine e1.trans ?_;rw[dM,sD (by omega),aI];exact Yx n fs fs _ none hf h24 n.nodes hp n.nodes [] rfl
end Go.Cx
namespace Go.Cx
open Go.RowKit Go.Proofs Tryz
theorem Nq(ns:bR):∀(k k' v:Nat),1<=v->v<=k->v<=k'->KP ns k v=KP ns k' v
 |0,_,v,h1,h2,_=>by omega
 |k+1,0,v,h1,_,h3=>by omega
 |k+1,k'+1,v,h1,h2,h3=>by
  unfold KP;cases hx:ns[v]? with
  |none=>rfl
  |some x=>
   dsimp only;by_cases hp:1<=x.parent/\x.parent<(v:Int)
   ·rw[bN hp,bN hp,Nq ns k k' x.parent.toNat (by omega) (by omega) (by omega)]
   ·rw[b9 hp,b9 hp]
theorem rS(ns:bR):eZ ns (dA 0)=[]:=by unfold eZ dA;rw[b9 (by omega)]
theorem tL{ns:bR}{i:Nat}{x:Node}(hx:ns[i]?=some x)(h1:1<=i){p:Nat}(hp:x.parent=dA p)(hpi:p<i):eZ ns (dA i)=eZ ns (dA p)++[x.cond]:=by
 have hl:=(aE.1 hx).1;unfold dA at hp;have e1:eZ ns (dA i)=E7 ns i i:=by unfold eZ dA;rw[bN (by omega)];rfl
 obtain⟨k,rfl⟩:∃k,i=k+1:=⟨i-1,by omega⟩
 rw[e1,Jg hx];by_cases h0:1<=p
 ·rw[bN (by omega)];have e2:eZ ns (dA p)=E7 ns p p:=by unfold eZ dA;rw[bN (by omega)];rfl
  rw[e2,hp,mH];unfold E7;rw[Nq ns k p p h0 (by omega) (bL _)]
 ·rw[b9 (by omega),show p=0 by omega,rS]
def OB(ns:bR):Prop:=∀(i:Nat) x,1<=i->ns[i]?=some x->∃p:Nat,x.parent=dA p/\p<i
theorem HY{ns:bR}(hb:OB ns)(m:bR):∀(n i:Nat),i<=n->i<ns.length->eZ (ns++m) (dA i)=eZ ns (dA i):=by
 intro n
 induction n with
 |zero=>
  intro i h1 _;rw[show i=0 by omega,rS,rS]
 |succ n ih=>
  intro i h1 h2;by_cases h0:i=0
  ·rw[h0,rS,rS]
  ·have hx:ns[i]?=some ns[i]:=aV h2;have hx':(ns++m)[i]?=some ns[i]:=by rw[aq h2];exact hx
   obtain⟨p,hp,hpi⟩:=hb i _ (by omega) hx;rw[tL hx (by omega) hp hpi,tL hx' (by omega) hp hpi,ih p (by omega) (by omega)]
structure Ae(R:List aH->Prop)(ns:List Node):Prop where
 pos:1<=ns.length
 below:OB ns
 path:∀i:Nat,1<=i->i<ns.length->R (eZ ns (dA i))
theorem Mu{p:Int}{c:aH}:∀ {l:bR} {i j:Nat},KZ p c l i=some j->∃x,l[j-i]?=some x/\i<=j/\0<j/\x.parent=p/\x.cond=c
 |x::l,i,j,h=>by
  unfold KZ at h;split at h
  ·rename_i hc;cases h;exact⟨x,by simp,bL _,hc.1,hc.2.1,hc.2.2⟩
  ·obtain⟨y,h1,h2,h3,h4,h5⟩:=Mu h;refine⟨y,?_,by omega,h3,h4,h5⟩;rw[show j-i=(j-(i+1))+1 by omega];exact h1
theorem Ae.step{R:af->Prop}{al:bS}{ns:bR}(h:Ae R ns){a:Nat}(ha:a<ns.length){c:aH}(hR:R (eZ ns (dA a)++[c])):
 Ae R (IE al ns (dA a) c).1.2/\∃b:Nat,(IE al ns (dA a) c).2=dA b/\b<(IE al ns (dA a) c).1.2.length/\eZ (IE al ns (dA a) c).1.2 (dA b)=eZ ns (dA a)++[c]:=by
 unfold IE;cases hc:KZ (dA a) c ns 0 with
 |some j=>
  obtain⟨x,h1,h2,h3,h4,h5⟩:=Mu hc;rw[tv]at h1;have hj:=(aE.1 h1).1;obtain⟨p,hp,WI⟩:=h.below j x (by omega) h1;have:p=a:=by rw[hp]at h4;unfold dA at h4;omega
  subst this;exact⟨h,j,rfl,hj,by rw[tL h1 (by omega) hp WI,h5]⟩
 |none=>
  dsimp only;have hbel:OB (ns++[⟨dA a,c,(OH al c).2,[]⟩]):=by
   intro i x h1 hx;by_cases hi:i<ns.length
   ·rw[aq hi]at hx;exact h.below i x h1 hx
   ·rw[ax (by omega)]at hx;have hi2:i=ns.length:=by
     have:=(aE.1 hx).1;simp at this;omega
    rw[hi2,o6]at hx;cases hx;exact⟨a,rfl,by omega⟩
  have hnew:eZ (ns++[⟨dA a,c,(OH al c).2,[]⟩]) (dA ns.length)=eZ ns (dA a)++[c]:=by
   have hx:(ns++[(⟨dA a,c,(OH al c).2,[]⟩:Node)])[ns.length]?=some ⟨dA a,c,(OH al c).2,[]⟩:=by simp
   have h1:=h.pos;rw[tL hx (by omega) (p:=a) rfl ha,HY h.below _ a a (bL _) ha]
  refine⟨⟨by simp,hbel,fun i h1 h2=>?_⟩,ns.length,rfl,by simp,hnew⟩;by_cases hi:i<ns.length
  ·rw[HY h.below _ i i (bL _) hi];exact h.path i h1 hi
  ·have:i=ns.length:=by simp at h2;omega
   rw[this,hnew];exact hR
theorem Ae.rule{R:af->Prop}:∀(cs:af) {al:bS} {ns:bR} {a:Nat},Ae R ns->a<ns.length->(∀j:Nat,1<=j->j<=cs.length->R (eZ ns (dA a)++cs.take j))->
 Ae R (cs.foldl F9 ((al,ns),dA a)).1.2/\∃b:Nat,(cs.foldl F9 ((al,ns),dA a)).2=dA b/\b<(cs.foldl F9 ((al,ns),dA a)).1.2.length/\eZ (cs.foldl F9 ((al,ns),dA a)).1.2 (dA b)=eZ ns (dA a)++cs
 | [],al,ns,a,h,ha,_=>⟨h,a,rfl,ha,by simp⟩
 |c::cs,al,ns,a,h,ha,hR=>by
  obtain⟨h1,b,h2,h3,h4⟩:=h.step (al:=al) ha (c:=c) (by have:=hR 1 (bL _) (by simp);simpa using this);have e:F9 ((al,ns),dA a) c=(((IE al ns (dA a) c).1.1,(IE al ns (dA a) c).1.2),dA b):=by
   show IE al ns (dA a) c=_;rw[<-h2]
  rw[cm,e];obtain⟨k1,d,k2,k3,k4⟩:=Ae.rule cs (al:=(IE al ns (dA a) c).1.1) h1 h3 (fun j E5 hj2=>by
   rw[h4,cY];have:=hR (j+1) (by omega) (by simp;omega);simpa using this)
  exact⟨k1,d,k2,k3,by rw[k4,h4];simp⟩
theorem Vo(al:bS)(ns:bR)(p:Int)(c:aH):∃m,(IE al ns p c).1.2=ns++m:=by
 unfold IE;cases KZ p c ns 0 with
 |some i=>exact⟨[],by simp⟩
 |none=>exact⟨[⟨p,c,(OH al c).2,[]⟩],rfl⟩
theorem Qe:∀(cs:af) (s:(bS×bR)×Int),∃m,(cs.foldl F9 s).1.2=s.1.2++m
 | [],s=>⟨[],by simp⟩
 |c::cs,s=>by
  obtain⟨m,h⟩:=Vo s.1.1 s.1.2 s.2 c;obtain⟨m2,h2⟩:=Qe cs (F9 s c);refine⟨m++m2,?_⟩;rw[cm,h2];show(IE s.1.1 s.1.2 s.2 c).1.2++m2=_;rw[h,cY]
def Ph(rs:au)(p:af):Prop:=∃r∈rs,∃j:Nat,1<=j/\j<=(gS r).length/\p=(gS r).take j
theorem No(all:au):∀(l:au) (al:bS) (ns:bR) (es:bJ),(∀r∈l,r∈all)->Ae (Ph all) ns->
 Ae (Ph all) (l.foldl Ge ((al,ns),es)).1.2/\(∃m,(l.foldl Ge ((al,ns),es)).1.2=ns++m)/\∃fs,(l.foldl Ge ((al,ns),es)).2=es++fs/\fs.length=l.length/\
  ∀(i:Nat) r,l[i]?=some r->∃b:Nat,fs[i]?=some (dA b)/\b<(l.foldl Ge ((al,ns),es)).1.2.length/\eZ (l.foldl Ge ((al,ns),es)).1.2 (dA b)=gS r
 | [],al,ns,es,_,h=>⟨h,⟨[],by simp⟩,[],by simp,rfl,fun i r hr=>by simp at hr⟩
 |r::l,al,ns,es,hm,h=>by
  obtain⟨h1,b,h2,h3,h4⟩:=Ae.rule (gS r) (al:=al) h (a:=0) (by have:=h.pos;omega) (fun j E5 hj2=>by
   rw[rS,dM];exact⟨r,hm r (by simp),j,E5,hj2,rfl⟩)
  obtain⟨m1,hm1⟩:=Qe (gS r) ((al,ns),dA 0);obtain⟨k1,⟨m2,hm2⟩,fs,k2,k3,k4⟩:=No all l ((gS r).foldl F9 ((al,ns),dA 0)).1.1 ((gS r).foldl F9 ((al,ns),dA 0)).1.2 (es++[dA b]) (fun x hx=>hm x (by simp[hx])) h1;have e:Ge ((al,ns),es) r=((((gS r).foldl F9 ((al,ns),dA 0)).1.1,((gS r).foldl F9 ((al,ns),dA 0)).1.2),es++[dA b]):=by
   rw[<-h2];rfl
  rw[cm,e];refine⟨k1,⟨m1++m2,by rw[hm2,hm1,cY]⟩,dA b::fs,by rw[k2];simp,by simp[k3],?_⟩;intro i x hx;cases i with
  |zero=>
   have:r=x:=by simpa using hx
   subst this;refine⟨b,rfl,by rw[hm2];simp;omega,?_⟩;rw[hm2,HY h1.below _ b b (bL _) h3,h4,rS];rfl
  |succ i=>exact k4 i x (by simpa using hx)
theorem Rl(R:af->Prop)(tk:bE):Ae R [root tk]:=
 ⟨bL _,fun i x h1 hx=>by
  have:=(aE.1 hx).1;simp at this;omega,fun i h1 h2=>by simp at h2;omega⟩
theorem D1(tk:bE)(rs:au):Ae (Ph rs) (iJ tk rs).1.2/\(iJ tk rs).2.length=rs.length/\∀(i:Nat) r,rs[i]?=some r->∃b:Nat,(iJ tk rs).2[i]?=some (dA b)/\b<(iJ tk rs).1.2.length/\eZ (iJ tk rs).1.2 (dA b)=gS r:=by
 obtain⟨h1,_,fs,h2,h3,h4⟩:=No rs rs [] [root tk] [] (fun r hr=>hr) (Rl _ tk);rw[dM]at h2;refine⟨h1,?_,?_⟩
 ·show(rs.foldl Ge (([],[root tk]),[])).2.length=_;rw[h2,h3]
 ·intro i r hr;obtain⟨b,k1,k2,k3⟩:=h4 i r hr;refine⟨b,?_,k2,k3⟩;show(rs.foldl Ge (([],[root tk]),[])).2[i]?=_;rw[h2];exact k1
theorem Nd{r:aJ}(h:iA r=true):∃c cs,gS r=c::cs/\c.kind=1:=by
 have hb:=ME h;cases hc:r.conds with
 |nil=>
  unfold iA at h;rw[hc]at h;simp at h
 |cons c cs=>
  refine⟨Jn (nZ r) c,cs.map (Jn (nZ r)),by unfold gS;rw[hc];rfl,?_⟩;exact(J0 (pre:=[]) (i:=0) (c:=c) (rest:=cs) (by rw[dM,<-hc];exact hb)).2.1 rfl
theorem Kz{rs:au}(h:∀r∈rs,iA r=true){p:af}(hp:Ph rs p):p.length<=4/\∃c cs,p=c::cs/\c.kind=1:=by
 obtain⟨r,hr,j,h1,h2,rfl⟩:=hp;have:=wi (h r hr);refine⟨by rw[cF];omega,?_⟩;obtain⟨c,cs,e,hk⟩:=Nd (h r hr);obtain⟨j,rfl⟩:∃k,j=k+1:=⟨j-1,by omega⟩
 exact⟨c,cs.take j,by rw[e];rfl,hk⟩
theorem Ru{c:aH}{cs:af}(hk:c.kind=1):AZ (c::cs) []=[]:=by
 have h0:∀(l:af),l.foldl (tg []) []=[]:=by
  intro l
  induction l with
  |nil=>rfl
  |cons x l ih=>rw[cm];exact ih
 unfold AZ;rw[cm];have:tg [] [⟨[],[]⟩] c=[]:=by
  unfold tg HX;rw[bB hk];rfl
 rw[this,h0]
theorem Nf{r:aJ}(h:iA r=true):∀c∈gS r,c.pat.rel.length<=8/\c.pat.args.length<=3/\∀x∈c.pat.args,x.length<=16:=by
 intro c' WC;obtain⟨c,hc,rfl⟩:=cJ.1 WC;obtain⟨h1,h2,h3,h4,h5⟩:=Iz (I7 h c hc);have hV:∀x∈c.pat.args++[c.left,c.right],mF x=true->x∈Ay r.conds:=fun x hx hv=>GR.2 ⟨bq.2 ⟨c,hc,hx⟩,hv⟩
 refine⟨h1,by show(c.pat.args.map _).length<=3;rw[ar];exact h2,fun x hx=>?_⟩;obtain⟨y,hy,rfl⟩:=cJ.1 hx;exact Ga h (h3 y hy) (hV y (by simp[hy]))
theorem Uo{p:aG}(h1:p.rel.length<=8)(h2:p.args.length<=3)(h3:∀x∈p.args,x.length<=16):(F8 p).wt<=1048576:=by
 have a3:=Il (p.args.map (Cy (p.args.foldl kJ []))) (fun x hx=>by
  obtain⟨y,hy,rfl⟩:=cJ.1 hx;exact Zy (by omega) (h3 y hy))
 rw[ar]at a3;show aG.wt ⟨p.rel,p.args.map (Cy (p.args.foldl kJ []))⟩<=1048576;unfold aG.wt;dsimp only;unfold tw at*;omega
def u9(al:bS):Prop:=∀x∈al,x.shape.wt<=1048576/\x.facts=[]
theorem OI{al:bS}{ns:bR}{p:Int}{c:aH}(h:u9 al)(hc:(F8 c.pat).wt<=1048576):u9 (IE al ns p c).1.1:=by
 unfold IE;cases KZ p c ns 0 with
 |some i=>exact h
 |none=>
  show u9 (OH al c).1;unfold OH;by_cases hk:c.kind=1\/c.kind=2
  ·rw[bN hk];unfold VG;cases VH (F8 c.pat) al 0 with
   |some i=>exact h
   |none=>
    intro x hx;rcases aZ.1 hx with hx|hx
    ·exact h x hx
    ·rw[cZ.1 hx];exact⟨hc,rfl⟩
  ·rw[b9 hk];exact h
theorem Js:∀(cs:af) (s:(bS×bR)×Int),u9 s.1.1->(∀c∈cs,(F8 c.pat).wt<=1048576)->u9 (cs.foldl F9 s).1.1
 | [],_,h,_=>h
 |c::cs,s,h,hc=>Js cs (F9 s c) (OI h (hc c (by simp))) (fun x hx=>hc x (by simp[hx]))
theorem yU(tk:bE){rs:au}(h:∀r∈rs,iA r=true):u9 (iJ tk rs).1.1:=by
 have main:∀(l:au) (z:(bS×bR)×bJ),(∀r∈l,iA r=true)->u9 z.1.1->u9 (l.foldl Ge z).1.1:=by
  intro l
  induction l with
  |nil=>intro z _ hz;exact hz
  |cons r l ih=>
   intro z hl hz;refine ih (Ge z r) (fun x hx=>hl x (by simp[hx])) ?_;exact Js (gS r) (z.1,0) hz (fun c hc=>by
    obtain⟨p1,p2,p3⟩:=Nf (hl r (by simp)) c hc;exact Uo p1 p2 p3)
 exact main rs _ h (fun x hx=>by cases hx)
theorem Ih(tk:bE){rs:au}(h:∀r∈rs,iA r=true)(h6:rs.length<=6):FM (iJ tk rs).1.2:=by
 have hp:=(D1 tk rs).1;have hl:=Gf tk h h6;refine⟨by omega,?_,?_⟩
 ·intro x hx;obtain⟨i,hi⟩:=di hx;have O7:=(aE.1 hi).1;by_cases h0:i=0
  ·subst h0;rw[jl]at hi;cases hi;unfold root aH.wt;simp[sM,tw]
  ·obtain⟨p,hpp,hpi⟩:=hp.below i x (by omega) hi;obtain⟨r,hr,j,j1,j2,e⟩:=hp.path i (by omega) O7;rw[tL hi (by omega) hpp hpi]at e;have hm:x.cond∈gS r:=cD (by rw[<-e];simp:x.cond∈(gS r).take j);exact Jj (h r hr) _ hm
 ·intro i;by_cases hi:1<=i/\i<(iJ tk rs).1.2.length
  ·exact(Kz h (hp.path i hi.1 hi.2)).1
  ·unfold eZ dA;rw[b9 (by omega)];simp
theorem ZP(rs:au)(fs:aO)(t:Int)(hr:sM aJ.wt rs<=1048576)(hb:tD rs=true)(hf:FS fs)(h24:fs.length<=24):uB rs fs t=some ⟨rs,(iJ [] rs).2,qY (iJ [] rs).1.1 fs,rA (iJ [] rs).1.2 fs,fs,t⟩:=by
 have h6:rs.length<=6:=by unfold tD at hb;simp only[aY,bK]at hb;omega
 have hv:=rJ hb;have hsh:=yU [] hv;have hal:(iJ [] rs).1.1.length<=1048576:=by
  have main:∀(l:au) (z:(bS×bR)×bJ),(∀r∈l,iA r=true)->(l.foldl Ge z).1.1.length<=z.1.1.length+4*l.length:=by
   intro l
   induction l with
   |nil=>intro z _;exact bL _
   |cons r l ih=>
    intro z hl;have h1:=ih (Ge z r) (fun x hx=>hl x (by simp[hx]));have h2:=(D0 (gS r) (z.1,0)).1;have h3:=wi (hl r (by simp));have h4:(Ge z r).1.1.length=((gS r).foldl F9 (z.1,0)).1.1.length:=rfl;rw[cm,aT];dsimp only at h2;omega
  have:=main rs (([],[root []]),[]) hv;unfold iJ;simp only[bW]at this;omega
 unfold uB;rw[a5G rs hr hb,aA,a1u _ fs hf h24 hal (fun x hx=>(hsh x hx).1) (Ih [] hv h6)];rfl
theorem R7{al:bS}(h:u9 al):qY al []=al:=by
 unfold qY;have:∀l:bS,(∀x∈l,x.facts=[])->l.map (fun a=>(⟨a.shape,zZ a.shape [] []⟩:ai))=l:=by
  intro l
  induction l with
  |nil=>intro _;rfl
  |cons x l ih=>
   intro hl;rw[bC,ih (fun y hy=>hl y (by simp[hy]))];have:=hl x (by simp);cases x;simp only at this;subst this;rfl
 exact this al fun x hx=>(h x hx).2
theorem Vp{al:bS}{ns:bR}{p:Int}{c:aH}(h:∀x∈ns,x.tokens=[]):∀x∈(Yr al ns p c).1.2,x.tokens=[]:=by
 unfold Yr;cases KZ p c ns 1 with
 |some i=>exact h
 |none=>
  intro x hx;rcases aZ.1 hx with hx|hx
  ·exact h x hx
  ·rw[cZ.1 hx]
theorem QZ:∀(cs:af) (s:(bS×bR)×Int),(∀x∈s.1.2,x.tokens=[])->∀x∈(cs.foldl rtC s).1.2,x.tokens=[]
 | [],_,h=>h
 |c::cs,s,h=>QZ cs (rtC s c) (Vp h)
theorem Wz(rs:au):∀x∈(Wy rs).1.2,x.tokens=[]:=by
 have main:∀(l:au) (z:(bS×bR)×bJ),(∀x∈z.1.2,x.tokens=[])->∀x∈(l.foldl VR z).1.2,x.tokens=[]:=by
  intro l
  induction l with
  |nil=>intro z hz;exact hz
  |cons r l ih=>intro z hz;exact ih (VR z r) (QZ (gS r) (z.1,0) hz)
 exact main rs _ (fun x hx=>by cases hx)
theorem J7(ns:bR):∀(l:bR) (i:Nat),(∀x∈l,x.tokens=[])->(∀j:Nat,i<=j->j<i+l.length->AZ (eZ ns (dA j)) []=[])->uJ ns [] l i=l
 | [],_,_,_=>rfl
 |x::l,i,ht,hp=>by
  rw[uJ,hp i (bL _) (by simp),J7 ns l (i+1) (fun y hy=>ht y (by simp[hy])) (fun j h1 h2=>hp j (by omega) (by simp only[aT];omega))];have:=ht x (by simp);cases x;simp only at this;subst this;rfl
theorem R8{rs:au}(h:∀r∈rs,iA r=true):rA (iJ [] rs).1.2 []=(iJ [⟨[],[]⟩] rs).1.2:=by
 have hp:=(D1 [] rs).1;have e:(iJ [] rs).1.2=root []::(Wy rs).1.2:=by rw[jl]
 have e2:(iJ [⟨[],[]⟩] rs).1.2=root [⟨[],[]⟩]::(Wy rs).1.2:=by rw[jl]
 have hlen:(iJ [] rs).1.2.length=(Wy rs).1.2.length+1:=by rw[e];rfl
 unfold rA;rw[e2];have h1:=J7 (iJ [] rs).1.2 (Wy rs).1.2 1 (Wz rs) (fun j j1 j2=>by
  obtain⟨_,c,cs,ec,hk⟩:=Kz h (hp.path j j1 (by rw[hlen];omega));rw[ec];exact Ru hk)
 have h2:uJ (iJ [] rs).1.2 [] (iJ [] rs).1.2 0=uJ (iJ [] rs).1.2 [] (root []::(Wy rs).1.2) 0:=by rw[<-e]
 rw[h2,uJ,h1,rS];rfl
end Go.Cx
namespace Go.Cx
open Go.RowKit Go.Proofs Tryz
def uQ(rs:au)(fs:aO)(t:Int):aN:=⟨rs,(iJ [] rs).2,qY (iJ [] rs).1.1 fs,rA (iJ [] rs).1.2 fs,fs,t⟩
def isB(n:aN):Bool:=tD n.rules&&(o7 n.facts&&(decide (0<=n.cS)&&RW n (uQ n.rules n.facts 0)))
theorem FS.U8{fs:aO}(h:sM aG.wt fs<=1048576):FS fs:=⟨by have:=rz aG.wt fs;omega,fun f hf=>by have:=s4 (w:=aG.wt) hf;omega⟩
theorem ZU(n:aN)(hr:sM aJ.wt n.rules<=1048576)(hf:sM aG.wt n.facts<=1048576):oz n=some (isB n):=by
 unfold oz isB;rw[a5A _ hr,a1q _ hf,aA,aA];cases h1:tD n.rules with
 |false=>rfl
 |true=>
  cases h2:o7 n.facts with
  |false=>rfl
  |true=>
   rw[ZP _ _ _ hr h1 (FS.U8 hf) (zA h2),aA,a5E,aA];simp only[aI,iw];by_cases h3:0<=n.cS
   ·rw[bB h3];rfl
   ·rw[bG h3];rfl
end Go.Cx
namespace Go.Cx
open Go.RowKit Go.Proofs Tryz
theorem Qf{fs:aO}(hf:FS fs):∀(cs:af) (l:bE) (n:Nat),(∀c∈cs,c.wt<=1048576)->(∀t∈l,TK n t)->∀t∈cs.foldl (tg fs) l,TK (n+cs.length) t
 | [],l,n,_,hl=>hl
 |c::cs,l,n,hc,hl=>by
  have:=Qf hf cs (tg fs l c) (n+1) (fun x hx=>hc x (by simp[hx])) (M4 hl (hc c (by simp)) hf);rw[aT,show n+(cs.length+1)=n+1+cs.length from by omega];exact this
end Go.Cx
namespace Go.Cx
open Go.RowKit Go.Proofs Tryz
theorem Kl(ns:bR)(fs:aO):∀(l:bR) (i j:Nat),(uJ ns fs l i)[j]?=(l[j]?).map fun x=>⟨x.parent,x.cond,x.ot,AZ (eZ ns (dA (i+j))) fs⟩
 | [],_,_=>by simp[uJ]
 |x::l,i,0=>by simp[uJ]
 |x::l,i,j+1=>by
  rw[uJ,fM,fM,Kl ns fs l (i+1) j,show i+1+j=i+(j+1)by omega]
end Go.Cx
namespace Go.Cx
open Go.RowKit Go.Proofs Tryz
theorem Kh{a b:Bytes}(h:tf a b>0):tf b a<0:=by
 unfold tf at h⊢;by_cases h1:Op.bytesLess a b=true
 ·rw[bN h1]at h;omega
 ·rw[b9 h1]at h;by_cases h2:a=b
  ·rw[bN h2]at h;omega
  ·have h3:Op.bytesLess b a=true:=by
    cases hb:Op.bytesLess b a with
    |true=>rfl
    |false=>exact absurd (Gx (by simpa using h1) hb) h2
   rw[bN h3];omega
theorem Kj{a b:Bytes}(h:tf a b=0):a=b:=cu fun hne=>Px hne h
theorem Ix{a b:Bytes}(h:tf a b<0):tf b a>0:=by
 unfold tf at h⊢;by_cases h1:Op.bytesLess a b=true
 ·have h3:=FQ h1;have h4:¬(Op.bytesLess b a=true):=by rw[h3];simp
  have h5:¬b=a:=fun e=>by subst e;rw[tR]at h1;cases h1
  rw[b9 h4,b9 h5];omega
 ·rw[b9 h1]at h;by_cases h2:a=b
  ·rw[bN h2]at h;omega
  ·rw[b9 h2]at h;omega
theorem Kc(a b:Bytes):(zE a b>0->zE b a<0)/\(zE a b=0->a=b)/\(zE a b<0->zE b a>0):=by
 have num:∀ {s:Bytes} {n:Nat},vS s=some n->Lib.decDigits n=s:=by
  intro s n h;unfold vS at h;split at h
  ·split at h
   ·split at h
    ·rename_i h2;cases h;exact h2
    ·cases h
   ·cases h
  ·cases h
 unfold zE;cases ha:vS a with
 |none=>
  cases hb:vS b with
  |none=>exact⟨Kh,Kj,Ix⟩
  |some y=>simp
 |some x=>
  cases hb:vS b with
  |none=>simp
  |some y=>
   simp only[EE];refine⟨fun h=>?_,fun h=>?_,fun h=>?_⟩
   ·split at h
    ·omega
    ·split at h
     ·rw[bN (by omega)];omega
     ·omega
   ·split at h
    ·omega
    ·split at h
     ·omega
     ·have:x=y:=by omega
      rw[<-num ha,<-num hb,this]
   ·split at h
    ·rw[b9 (by omega),bN (by omega)];omega
    ·split at h<;>omega
theorem J2{α:Type}{g:α->α->Int}(hg:∀a b,(g a b>0->g b a<0)/\(g a b=0->a=b)/\(g a b<0->g b a>0)):∀(a b:List α),
 (∀z,rQ g a b=some z->z≠0/\∃y,rQ g b a=some y/\(z>0->y<0)/\(z<0->y>0))/\(rQ g a b=none->rQ g b a=none/\(a.length=b.length->a=b))
 | [],[]=>⟨fun z h=>(by simp[rQ]at h),fun _=>⟨rfl,fun _=>rfl⟩⟩
 | [],y::ys=>⟨fun z h=>(by simp[rQ]at h),fun _=>⟨by simp[rQ],fun h=>by simp at h⟩⟩
 |x::xs,[]=>⟨fun z h=>(by simp[rQ]at h),fun _=>⟨by simp[rQ],fun h=>by simp at h⟩⟩
 |x::xs,y::ys=>by
  obtain⟨i1,i2⟩:=J2 hg xs ys;obtain⟨g1,g2,g3⟩:=hg x y;by_cases h0:g x y=0
  ·have e:=g2 h0;subst e;simp only[rQ,h0,ne_eq,not_true_eq_false,wz];exact⟨i1,fun h=>⟨(i2 h).1,fun hl=>by rw[(i2 h).2 (by simpa using hl)]⟩⟩
  ·have h1:g y x≠0:=by
    intro e;by_cases hp:g x y>0
    ·have:=g1 hp;omega
    ·have:=g3 (by omega);omega
   simp only[rQ,ne_eq,h0,h1,not_false_eq_true,oc];refine⟨fun z h=>?_,fun h=>by cases h⟩;cases h;exact⟨h0,_,rfl,g1,g3⟩
theorem Kg{α:Type}{g:α->α->Int}(hg:∀a b,(g a b>0->g b a<0)/\(g a b=0->a=b)/\(g a b<0->g b a>0))(a b:List α):(cmpL g a b>0->cmpL g b a<0)/\(cmpL g a b=0->a=b)/\(cmpL g a b<0->cmpL g b a>0):=by
 obtain⟨h1,h2⟩:=J2 hg a b;unfold cmpL;cases hd:rQ g a b with
 |some z=>
  obtain⟨hz,y,hy,p,q⟩:=h1 z hd;rw[hy];exact⟨p,fun e=>absurd e hz,q⟩
 |none=>
  obtain⟨h3,h4⟩:=h2 hd;rw[h3];simp only[EE];refine⟨fun h=>?_,fun h=>?_,fun h=>?_⟩
  ·split at h
   ·omega
   ·split at h
    ·rw[bN (by omega)];omega
    ·omega
  ·split at h
   ·omega
   ·split at h
    ·omega
    ·exact h4 (by omega)
  ·split at h
   ·rw[b9 (by omega),bN (by omega)];omega
   ·split at h<;>omega
theorem we(a b:aG):(pQ a b>0->pQ b a<0)/\(pQ a b=0->a=b)/\(pQ a b<0->pQ b a>0):=by
 obtain⟨h1,h2,h3⟩:=Kg Kc a.args b.args;unfold pQ;by_cases hr:a.rel=b.rel
 ·rw[b9 (by simpa using hr),b9 (by simpa using hr.symm)];refine⟨h1,fun h=>?_,h3⟩;cases a;cases b;simp only at hr h2 h;rw[hr,h2 h]
 ·have WJ:b.rel≠a.rel:=fun e=>hr e.symm
  rw[bN hr,bN WJ];exact⟨Kh,fun h=>absurd (Kj h) hr,Ix⟩
def CT(f:aG):aO->aO
 | []=>[f]
 |x::xs=>if pQ x f>0 then f::x::xs else x::CT f xs
theorem NL(f:aG):∀(l:aO) (x:aG),x∈CT f l↔x=f\/x∈l
 | [],x=>by simp[CT]
 |y::ys,x=>by
  rw[CT];split
  ·simp
  ·simp only[bH,NL f ys x];constructor
   ·rintro(h|h|h)<;>simp[h]
   ·rintro(h|h|h)<;>simp[h]
theorem JM(f:aG):∀(l:aO),(CT f l).length=l.length+1
 | []=>rfl
 |y::ys=>by rw[CT];split<;>simp[JM f ys]
theorem Kb{f:aG}(hf:sC f=true):∀(l:aO) (p:Option aG),chainB p l=true->f∉l->(∀q,p=some q->pQ q f<0)->chainB p (CT f l)=true
 | [],p,_,_,hp=>by
  cases p with
  |none=>simp[CT,chainB,hf]
  |some q=>simp[CT,chainB,hf,hp q rfl]
 |x::xs,p,h,hn,hp=>by
  simp only[bH,BY]at hn;have hx:chainB (some x) xs=true/\sC x=true/\(∀q,p=some q->pQ q x<0):=by
   cases p with
   |none=>simp[chainB]at h;exact⟨h.2,h.1,by simp⟩
   |some q=>
    simp only[chainB,aY,bK]at h;exact⟨by first|exact h.2.2|exact h.2,by first|exact h.1.1|exact h.1,fun q' e=>by cases e;first|exact h.1.2|exact h.2.1⟩
  rw[CT];split
  ·rename_i hgt;have h1:=(we x f).1 hgt;cases p with
   |none=>simp[chainB,hf,hx.2.1,h1,hx.1]
   |some q=>simp[chainB,hf,hx.2.1,h1,hx.1,hp q rfl]
  ·rename_i hle;have hlt:pQ x f<0:=by
    have:pQ x f≠0:=fun e=>hn.1 ((we x f).2.1 e).symm
    omega
   have ih:=Kb hf xs (some x) hx.1 hn.2 (fun q e=>by cases e;exact hlt);cases p with
   |none=>simp[chainB,hx.2.1,ih]
   |some q=>simp[chainB,hx.2.1,ih,hx.2.2 q rfl]
theorem Vj{f:aG}{l:aO}(hf:sC f=true)(hl:o7 l=true)(hn:f∉l)(h24:l.length≠24):o7 (CT f l)=true:=by
 unfold o7 at hl⊢;simp only[aY,bK]at hl⊢;exact⟨Kb hf l none hl.1 hn (by simp),by rw[JM];omega⟩
theorem a2k(a:aO)(f:aG)(K:Bool->aO->Option aO)(hf:f.args.length<=1099511627776):∀(rest:aO) (i:Nat) (v:Bool) (w:aO),(∀x∈rest,x.args.length<=1099511627776)->w.length+2*rest.length<=1048576->f∉rest->
 (v=true->cR a f K rest i v w=K true (w++rest))/\
 (v=false->(cR a f K rest i v w=K true (w++CT f rest))\/(cR a f K rest i v w=K false (w++rest)/\CT f rest=rest++[f])):=by
 intro rest
 induction rest with
 |nil=>intro i v w _ _ _;exact⟨fun h=>by subst h;simp[cR],fun h=>by subst h;exact .inr ⟨by simp[cR],rfl⟩⟩
 |cons x xs ih=>
  intro i v w hs hl hn;simp only[aT]at hl;simp only[bH,BY]at hn;have hx:=hs x (by simp);have hs':∀y∈xs,y.args.length<=1099511627776:=fun y hy=>hs y (by simp[hy])
  have cx:=Ce x hx;have cf:=Ce f hf;have nx:=fun w':aO=>fun h:w'.length<1099511627776=>jk (w:=w') (c:=aG.c) (y:=[D.str x.rel,D.sl (x.args.map tx)]) (b:=40) h (by decide)
  have nf:=fun w':aO=>fun h:w'.length<1099511627776=>jk (w:=w') (c:=aG.c) (y:=[D.str f.rel,D.sl (f.args.map tx)]) (b:=40) h (by decide)
  constructor
  ·intro h;subst h;rw[cR,bn,aW,cx,aA,nx w (by omega),aI,(ih (i+1) true (w++[x]) hs' (by simp;omega) hn.2).1 rfl];simp
  ·intro h;subst h;rw[cR,dF,aI,UR,aA];by_cases hgt:pQ x f>0
   ·left
    have e2:room (((w.map aG.c)++[[D.str f.rel,D.sl (f.args.map tx)]]).length+[[D.str x.rel,D.sl (x.args.map tx)]].length) 40=true:=by
     have:=nx (w++[f]) (by simp;omega);rw[b8]at this;exact this
    rw[bB (by omega:pQ x f>=0),aI,aA,bB hgt,aI,cf,aA,nf w (by omega),aI,cx,aA,e2,aI];rw[(ih (i+1) true (w++[f]++[x]) hs' (by simp;omega) hn.2).1 rfl,CT,bN hgt];simp
   ·have hlt:¬pQ x f>=0:=by
     have:pQ x f≠0:=fun e=>hn.1 ((we x f).2.1 e).symm
     omega
    rw[bG hlt,aW,cx,aA,nx w (by omega),aI];rw[CT,b9 hgt];rcases(ih (i+1) false (w++[x]) hs' (by simp;omega) hn.2).2 rfl with q|⟨q1,q2⟩
    ·left;rw[q];simp
    ·right;rw[q1,q2];simp
theorem a2j(l:aO)(f:aG)(hf:f.args.length<=1099511627776)(hl:∀x∈l,x.args.length<=1099511627776)(hn:l.length<=1000)(hm:f∉l):q8 l f=some (CT f l):=by
 unfold q8;rcases(a2k l f _ hf l 0 false [] hl (by simp;omega) hm).2 rfl with q|⟨q1,q2⟩
 ·rw[q];rfl
 ·rw[q1,q2];show(bif !false then _ else _)=_;rw[dF,aI,Ce f hf,aA,dM,jk (w:=l) (c:=aG.c) (y:=[D.str f.rel,D.sl (f.args.map tx)]) (by omega) (by decide),aI]
theorem Iy{a b c:Bytes}(h1:tf a b<0)(h2:tf b c<0):tf a c<0:=by
 have lt:∀ {x y:Bytes},tf x y<0->Op.bytesLess x y=true:=by
  intro x y h;unfold tf at h;split at h
  ·assumption
  ·split at h<;>omega
 have:=zB (lt h1) (lt h2);unfold tf;rw[bN this];omega
theorem Vs{x y:Int}:EE x y<0↔x<y:=by
 unfold EE;split
 ·omega
 ·split<;>omega
theorem OJ{a b c:Bytes}(h1:zE a b<0)(h2:zE b c<0):zE a c<0:=by
 unfold zE at*;cases ha:vS a<;>cases hb:vS b<;>cases hc:vS c<;>simp only[ha,hb,hc]at h1 h2⊢ <;>first|omega|exact Iy h1 h2| (rw[Vs]at*;omega)
theorem Vr{α:Type}(g:α->α->Int):cmpL g [] []=0:=rfl
theorem Vq{α:Type}(g:α->α->Int)(y:α)(ys:List α):cmpL g [] (y::ys)= -1:=by
 unfold cmpL rQ EE;simp<;>omega
theorem Pw{α:Type}(g:α->α->Int)(x:α)(xs:List α):cmpL g (x::xs) []=1:=by
 unfold cmpL rQ EE;simp<;>omega
theorem Pv{α:Type}(g:α->α->Int)(x y:α)(xs ys:List α):cmpL g (x::xs) (y::ys)=if g x y≠0 then g x y else cmpL g xs ys:=by
 unfold cmpL;rw[rQ];by_cases h:g x y≠0
 ·rw[bN h,bN h]
 ·rw[b9 h,b9 h,aT,aT];cases rQ g xs ys with
  |some z=>rfl
  |none=>
   show EE _ _=EE _ _;unfold EE
   congr 1
   ·rw[uj];omega
   ·congr 1
    rw[uj];omega
theorem Iw{α:Type}{g:α->α->Int}(h0:∀a b,g a b=0->a=b)(ht:∀a b c,g a b<0->g b c<0->g a c<0):∀(a b c:List α),cmpL g a b<0->cmpL g b c<0->cmpL g a c<0
 | [],[],c,h1,_=>by rw[Vr]at h1;omega
 |_::_,[],c,h1,_=>by rw[Pw]at h1;omega
 |_,y::ys,[],_,h2=>by rw[Pw]at h2;omega
 | [],y::ys,z::zs,_,_=>by rw[Vq];omega
 |x::xs,y::ys,z::zs,h1,h2=>by
  rw[Pv]at*;by_cases e1:g x y=0
  ·have:=h0 _ _ e1;subst this;rw[b9 (by omega)]at h1;by_cases e2:g x z=0
   ·rw[b9 (by omega)]at h2⊢;exact Iw h0 ht xs ys zs h1 h2
   ·rw[bN e2]at h2⊢;exact h2
  ·rw[bN e1]at h1;by_cases e2:g y z=0
   ·have:=h0 _ _ e2;subst this;rw[bN e1];exact h1
   ·rw[bN e2]at h2;have:=ht x y z h1 h2;rw[bN (by omega)];exact this
theorem OK{a b c:aG}(h1:pQ a b<0)(h2:pQ b c<0):pQ a c<0:=by
 unfold pQ at*;by_cases e1:a.rel=b.rel
 ·by_cases e2:b.rel=c.rel
  ·rw[b9 (by simpa using e1)]at h1;rw[b9 (by simpa using e2)]at h2;rw[b9 (by simpa using e1.trans e2)];exact Iw (fun a b=>(Kc a b).2.1) (fun _ _ _=>OJ) _ _ _ h1 h2
  ·rw[bN e2]at h2;rw[e1,bN e2];exact h2
 ·rw[bN e1]at h1;by_cases e2:b.rel=c.rel
  ·rw[<-e2,bN e1];exact h1
  ·rw[bN e2]at h2;have:=Iy h1 h2;have hne:a.rel≠c.rel:=fun e=>by rw[e,Ki]at this;omega
   rw[bN hne];exact this
theorem Kf(a:aG):¬pQ a a<0:=by
 intro h;have:=(we a a).2.2 h;omega
theorem Ke(a:aG):pQ a a=0:=by
 have h1:=Kf a;have h2:=(we a a).1;omega
theorem R1{a b:aO}:cmpL pQ a b=0↔a=b:=by
 constructor
 ·exact(Kg we a b).2.1
 ·rintro rfl
  induction a with
  |nil=>rfl
  |cons x xs ih=>rw[Pv,b9 (by simp[Ke]),ih]
theorem yI{p:Option aG}{x:aG}{xs:aO}(h:chainB p (x::xs)=true):sC x=true/\(∀q,p=some q->pQ q x<0)/\chainB (some x) xs=true:=by
 cases p with
 |none=>simp[chainB]at h;exact⟨h.1,by simp,h.2⟩
 |some q=>
  simp only[chainB,aY,bK]at h;exact⟨h.1.1,fun q' e=>by cases e;exact h.1.2,h.2⟩
theorem Gz:∀ {l:aO} {p:aG},chainB (some p) l=true->∀x∈l,pQ p x<0
 | [],_,_,_,h=>by cases h
 |y::ys,p,h,x,hx=>by
  obtain⟨_,h2,h3⟩:=yI h;have hp:=h2 p rfl;rcases bH.1 hx with rfl|hx
  ·exact hp
  ·exact OK hp (Gz h3 x hx)
theorem FR:∀ {l:aO} {p:Option aG},chainB p l=true->l.Nodup
 | [],_,_=>List.nodup_nil
 |x::xs,p,h=>by
  obtain⟨_,_,h3⟩:=yI h;rw[ed];exact⟨fun hx=>Kf x (Gz h3 x hx),FR h3⟩
theorem Mj{l:aO}(h:o7 l=true):l.Nodup:=by
 unfold o7 at h;simp only[aY]at h;exact FR h.1
theorem Hr:∀ {l:aO} {p:Option aG},chainB p l=true->∀x∈l,sC x=true
 | [],_,_,_,h=>by cases h
 |y::ys,p,h,x,hx=>by
  obtain⟨h1,_,h3⟩:=yI h;rcases bH.1 hx with rfl|hx
  ·exact h1
  ·exact Hr h3 x hx
end Go.Cx
namespace Go.Cx
open Go.RowKit Go.Proofs Tryz
def KD(A:bE):Prop:=A.Pairwise fun t u=>t.facts≠u.facts
theorem Ev{c:aH}{t u:aX}{f:aG}(h:u∈ext1 c t f):u.facts=t.facts++[f]:=by
 unfold ext1 at h;cases hm:(yD c.pat f t.bind).2 with
 |false=>rw[hm]at h;cases h
 |true=>rw[hm,aI]at h;rw[cZ.1 h]
theorem F2{c:aH}{fs:aO}{t u:aX}(h:u∈HX c fs t):(c.kind=1/\∃f∈fs,u.facts=t.facts++[f])\/(c.kind≠1/\u=t):=by
 unfold HX at h;by_cases hk:c.kind=1
 ·rw[bB hk,aI]at h;obtain⟨f,hf,hu⟩:=bq.1 h;exact .inl ⟨hk,f,hf,Ev hu⟩
 ·rw[bG hk,aW]at h;cases hh:JF c t.bind fs with
  |false=>rw[hh]at h;cases h
  |true=>rw[hh,aI]at h;exact .inr ⟨hk,cZ.1 h⟩
theorem Wu{c:aH}{fs:aO}{A:bE}(hf:fs.Nodup)(hA:KD A):KD (tg fs A c):=by
 unfold KD tg;rw[Au];refine⟨fun t _=>?_,?_⟩
 ·unfold HX;cases decide (c.kind=1)with
  |true=>
   rw[aI,Au];refine⟨fun f _=>?_,?_⟩
   ·unfold ext1;cases(yD c.pat f t.bind).2<;>simp
   ·exact List.Pairwise.imp (fun {f g} hne x hx y hy e=>by
     rw[Ev hx,Ev hy]at e;exact hne (by simpa using e)) hf
  |false=>cases JF c t.bind fs<;>simp
 ·exact List.Pairwise.imp (fun {t u} hne x hx y hy e=>by
   rcases F2 hx with⟨k,f,_,e1⟩|⟨k,e1⟩<;>rcases F2 hy with⟨k',g,_,e2⟩|⟨k',e2⟩
   ·rw[e1,e2]at e;exact hne (List.append_inj' e rfl).1
   ·exact k' k
   ·exact k k'
   ·rw[e1,e2]at e;exact hne e) hA
theorem KD.one(t:aX):KD [t]:=List.pairwise_singleton _ _
theorem Q7{fs:aO}(hf:fs.Nodup):∀(cs:af) {A:bE},KD A->KD (cs.foldl (tg fs) A)
 | [],_,h=>h
 |c::cs,_,h=>Q7 hf cs (Wu hf h)
theorem XI{cs:af}{fs:aO}(hf:fs.Nodup):KD (AZ cs fs):=Q7 hf cs (KD.one _)
theorem V0{ns:bR}{i p:Nat}{x:Node}(h1:1<=i)(hx:ns[i]?=some x)(hp:x.parent=dA p)(hpi:p<i)(fs:aO):AZ (eZ ns (dA i)) fs=tg fs (AZ (eZ ns (dA p)) fs) x.cond:=by
 rw[tL hx h1 hp hpi];unfold AZ;rw[List.foldl_append];rfl
end Go.Cx
namespace Go.Cx
open Go.RowKit Go.Proofs Tryz
end Go.Cx
namespace Go.Cx
open Go.RowKit Go.Proofs Tryz
structure a15(n:aN):Prop where
 rules:sM aJ.wt n.rules<=1048576
 facts:sM aG.wt n.facts<=1048576
 ends:n.ends.length<=1048576
 bM:n.bM.length<=1048576
 ot:∀a∈n.bM,a.shape.wt<=1048576/\FS a.facts
 nodes:n.nodes.length<=1048576
 node:∀x∈n.nodes,x.cond.wt<=1048576/\x.tokens.length<=1048576/\∀t∈x.tokens,TK 1048576 t
theorem Wf{rs:au}{fs:aO}{t:Int}(h1:tD rs=true)(h2:o7 fs=true):isB (uQ rs fs t)=decide (0<=t):=by
 unfold isB RW uQ;simp[h1,h2]
theorem GG{f:aG}(h:sC f=true):f.wt<=100:=by
 unfold sC at h;simp only[aY,bK,aj]at h;obtain⟨h1,h2,h3⟩:=h;have a1:=HW h2;have a2:=Il f.args (fun x hx=>by have:=Ct (h1 x hx);omega);unfold aG.wt tw;unfold tw at a2;omega
theorem ED{fs:aO}(h:o7 fs=true):∀f∈fs,sC f=true:=by
 unfold o7 at h;simp only[aY]at h;exact Hr h.1
theorem LC{α:Type}{w:α->Nat}{B:Nat}:∀(l:List α),(∀x∈l,w x<=B)->sM w l<=(B+1)*l.length
 | [],_=>by simp[sM]
 |x::l,h=>by
  have h1:=LC l fun y hy=>h y (by simp[hy])
  have h2:=h x (by simp);rw[mo,aT,Nat.mul_add];omega
theorem FP{fs:aO}(h:o7 fs=true):sM aG.wt fs<=2424:=by
 have h1:=LC (w:=aG.wt) (B:=100) fs fun f hf=>GG (ED h f hf)
 have h2:=zA h;have:(100+1)*fs.length<=(100+1)*24:=dS _ h2;omega
theorem wg(ns:bR)(fs:aO)(i:Nat):(rA ns fs)[i]?=(ns[i]?).map fun x=>⟨x.parent,x.cond,x.ot,AZ (eZ ns (dA i)) fs⟩:=by
 unfold rA;rw[Kl,cv]
theorem Cv(ns:bR)(fs:aO):(rA ns fs).length=ns.length:=R9 ns fs ns 0
theorem xC{rs:au}(h:tD rs=true):rs.length<=6:=by unfold tD at h;simp only[aY,bK]at h;omega
theorem Jt{rs:au}(tk:bE)(h:tD rs=true):(iJ tk rs).1.1.length<=24:=by
 have h6:=xC h;have main:∀(l:au) (z:(bS×bR)×bJ),(∀r∈l,iA r=true)->(l.foldl Ge z).1.1.length<=z.1.1.length+4*l.length:=by
  intro l
  induction l with
  |nil=>intro z _;exact bL _
  |cons r l ih=>
   intro z hl;have h1:=ih (Ge z r) (fun x hx=>hl x (by simp[hx]));have h2:=(D0 (gS r) (z.1,0)).1;have h3:=wi (hl r (by simp));have h4:(Ge z r).1.1.length=((gS r).foldl F9 (z.1,0)).1.1.length:=rfl;rw[cm,aT];dsimp only at h2;omega
 have:=main rs (([],[root tk]),[]) (rJ h);unfold iJ;simp only[bW]at this;omega
theorem Tz{rs:au}{fs:aO}(h1:tD rs=true)(h2:o7 fs=true){i:Nat}{x:Node}(hx:(rA (iJ [] rs).1.2 fs)[i]?=some x):x.cond.wt<=1048576/\x.tokens.length<=390625/\(∀t∈x.tokens,TK 4 t)/\KD x.tokens:=by
 have hv:=rJ h1;have hok:=Ih [] hv (xC h1);rw[wg]at hx;obtain⟨y,hy,rfl⟩:=zu.1 hx;have hFS:=FS.U8 (by have:=FP h2;omega:sM aG.wt fs<=1048576);have OV:∀c∈eZ (iJ [] rs).1.2 (dA i),c.wt<=1048576:=by
  intro c hc;obtain⟨z,hz,e⟩:=Jh hc;rw[<-e];exact hok.wt z hz
 refine⟨hok.wt y (aD hy),Uz (hok.path i) (zA h2),fun t ht=>?_,XI (Mj h2)⟩;exact(Qf hFS _ [⟨[],[]⟩] 0 OV Oz t ht).le (by have:=hok.path i;omega)
theorem Zp{rs:au}{fs:aO}(t:Int)(h1:tD rs=true)(h2:o7 fs=true)(hr:sM aJ.wt rs<=1048576):a15 (uQ rs fs t):=by
 have hv:=rJ h1;have h6:=xC h1;have hw:=FP h2;have hl:=Gf [] hv h6;refine⟨hr,by show sM aG.wt fs<=1048576;omega,?_,?_,?_,?_,?_⟩
 ·show(iJ [] rs).2.length<=1048576;rw[(D1 [] rs).2.1];omega
 ·show(qY (iJ [] rs).1.1 fs).length<=1048576;unfold qY;rw[ar];have:=Jt [] h1;omega
 ·intro a ha;obtain⟨y,hy,rfl⟩:=cJ.1 (show a∈(iJ [] rs).1.1.map _ from ha);refine⟨(yU [] hv y hy).1,?_,fun f hf=>?_⟩
  ·have:=Aq (fun f=>(yD y.shape f []).2) fs;have:=zA h2;show(zZ y.shape [] fs).length<=1048576;unfold zZ;omega
  ·have:=GG (ED h2 f (gF.1 hf).1);omega
 ·show(rA (iJ [] rs).1.2 fs).length<=1048576;rw[Cv];omega
 ·intro x hx;obtain⟨i,hi⟩:=di (show x∈rA (iJ [] rs).1.2 fs from hx);obtain⟨g1,g2,g3,_⟩:=Tz h1 h2 hi;exact⟨g1,by omega,fun t ht=>(g3 t ht).le (by omega)⟩
theorem Pm{α:Type}(l:List α)(i:Nat):iM l (dA i)=l[i]?:=by
 unfold iM dA;rw[bB (by omega),aI];rfl
end Go.Cx
namespace Go.Cx
open Go.RowKit Go.Proofs Tryz
structure Ren(h:Bytes->Bytes)(V:Bytes->Prop):Prop where
 var:∀v,V v->mF v=true
 a63:∀t,mF t=false->h t=t
 a7c:∀v,V v->mF (h v)=true
 inj:∀u v,V u->V v->h u=h v->u=v
structure RB(h:Bytes->Bytes)(V:Bytes->Prop)(b b':List aQ):Prop where
 len:b'.length=b.length
 get:∀v,V v->yO (h v) b'=yO v b
 ok:rK b=true
 ok':rK b'=true
structure RT(h:Bytes->Bytes)(V:Bytes->Prop)(t t':aX):Prop where
 facts:t'.facts=t.facts
 bind:RB h V t.bind t'.bind
inductive RL(R:aX->aX->Prop):List aX->List aX->Prop
 |nil:RL R [] []
 |cons {a b:aX} {l m:bE}:R a b->RL R l m->RL R (a::l) (b::m)
end Go.Cx
namespace Go.Cx
open Go.RowKit Go.Proofs Tryz
theorem Cu(A:bS)(fs:aO):(qY A fs).length=A.length:=by unfold qY;rw[ar]
theorem OQ(A:bS)(x:ai)(fs:aO):qY (A++[x]) fs=qY A fs++[⟨x.shape,zZ x.shape [] fs⟩]:=by unfold qY;rw[b8];rfl
theorem Kk{rs:au}(h:tD rs=true):(⟨rs,(iJ [⟨[],[]⟩] rs).2,(iJ [⟨[],[]⟩] rs).1.1,(iJ [⟨[],[]⟩] rs).1.2,[],0⟩:aN)=uQ rs [] 0:=by
 have hv:=rJ h;unfold uQ;rw[R7 (yU [] hv),R8 hv];have e1:(iJ [⟨[],[]⟩] rs).2=(iJ [] rs).2:=by rw[jl,jl]
 have e2:(iJ [⟨[],[]⟩] rs).1.1=(iJ [] rs).1.1:=by rw[jl,jl]
 rw[e1,e2]
def a3R:aN:=⟨[],[],[],[],[],0⟩
theorem X3(rs:au)(h:sM aJ.wt rs<=1048576):kX rs=some (bif tD rs then(uQ rs [] 0,true)else(a3R,false)):=by
 rw[a0B rs h];cases hb:tD rs with
 |false=>rfl
 |true=>rw[aI,aI,Kk hb]
end Go.Cx
namespace Go.Cx
open Go.RowKit Go.Proofs Tryz
end Go.Cx
namespace Go.Cx
open Go.RowKit Go.Proofs Tryz
end Go.Cx
namespace Go.Cx
open Go.RowKit Go.Proofs Tryz
structure Frg(rs:List aJ)(f:aG):Prop where
 ne:f.rel≠[]
 cond:∀r∈rs,∀c∈r.conds,c.pat.rel≠f.rel
theorem Ew(ns:bR)(fs:aO)(v:Int):eZ (rA ns fs) v=eZ ns v:=yT (by unfold rA;exact Ex ns fs ns 0) v
theorem JZ{rs:au}{fs:aO}{i:Nat}{x:Node}(h1:1<=i)(hx:(rA (iJ [] rs).1.2 fs)[i]?=some x):
 ∃(p:Nat) (y:Node),x.parent=dA p/\p<i/\(rA (iJ [] rs).1.2 fs)[p]?=some y/\x.tokens=tg fs y.tokens x.cond/\eZ (rA (iJ [] rs).1.2 fs) (dA i)=eZ (rA (iJ [] rs).1.2 fs) (dA p)++[x.cond]:=by
 rw[wg]at hx;obtain⟨z,hz,rfl⟩:=zu.1 hx;obtain⟨p,hp,hpi⟩:=(D1 [] rs).1.below i z h1 hz;have O7:=(aE.1 hz).1;obtain⟨y,hy⟩:∃y,(iJ [] rs).1.2[p]?=some y:=⟨_,aV (by omega)⟩
 refine⟨p,_,hp,hpi,by rw[wg,hy];rfl,V0 h1 hz hp hpi fs,?_⟩;rw[Ew,Ew];exact tL hz h1 hp hpi
theorem Ow{c:aH}{fs:aO}{A:bE}{u:aX}(h:u∈tg fs A c):(c.kind=1/\∃t∈A,∃f∈fs,u.facts=t.facts++[f])\/(c.kind≠1/\u∈A):=by
 obtain⟨t,ht,hu⟩:=bq.1 h;rcases F2 hu with⟨k,f,hf,e⟩|⟨k,e⟩
 ·exact .inl ⟨k,t,ht,f,hf,e⟩
 ·exact .inr ⟨k,e▸ht⟩
end Go.Cx
namespace Go.Cx
open Go.RowKit Go.Proofs Tryz
def eW(c:cU):Prop:=0<=c.i/\c.b.length<=4096
theorem Po(x:Int):0<=E1 .i64 x 255/\E1 .i64 x 255<=255:=by
 unfold E1;have h:(BitVec.ofInt IntKind.i64.bits x&&& BitVec.ofInt IntKind.i64.bits 255).toNat<=255:=by
  rw[BitVec.toNat_and];exact dK Nat.and_le_right (by decide)
 rw[dZ (nS.i64.2 (by omega))];omega
theorem a2c(c:cU)(h:eW c):∃c' x,nC c=some (c',x)/\eW c'/\0<=x/\x<=255:=by
 obtain⟨h1,h2⟩:=h;unfold nC;rw[ar];by_cases hi:c.i<(c.b.length:Int)
 ·have hlt:c.i.toNat<c.b.length:=by omega
  have e:iM c.b c.i=some c.b[c.i.toNat]:=by unfold iM;rw[bB h1,aI];exact aV hlt
  rw[bB hi,aI,e,aA];refine⟨_,_,rfl,⟨?_,h2⟩,Po _⟩;show 0<=IntKind.i64.wrap (c.i+1);rw[dZ (nS.i64.2 (by omega))];omega
 ·rw[bG hi,aW];exact⟨_,_,rfl,⟨h1,h2⟩,Po _⟩
theorem vr(c:cU)(n:Int)(h:eW c)(h0:0<n)(h1:n<=256):∃c' r,dV c n=some (c',r)/\eW c'/\0<=r/\r<n:=by
 obtain⟨c',x,e,hc,hx,hx2⟩:=a2c c h;unfold dV;have e1:decide (n<=0)=false:=by simp;omega
 have e2:decide (n<=256)=true:=by simp;omega
 have e3:(decide (0<=x)&&decide (0<n))=true:=by simp;omega
 rw[e1,aW,e2,aI,e,aA,e3,aI];exact⟨_,_,rfl,hc,Int.emod_nonneg _ (by omega),Int.emod_lt_of_pos _ h0⟩
theorem Ub(c:cU)(n:Int)(h:eW c)(h0:0<n)(h1:n<=256):∃c' b,oW c n=some (c',b)/\eW c':=by
 obtain⟨c',x,e,hc,_⟩:=vr c n h h0 h1;unfold oW;rw[e,aA];exact⟨_,_,rfl,hc⟩
theorem a0P(c:cU)(l:aF)(h:eW c)(h0:0<l.length)(h1:l.length<=256):∃c' s,rZ c l=some (c',s)/\eW c'/\s∈l:=by
 obtain⟨c',x,e,hc,hx,hx2⟩:=vr c (l.length:Int) h (by omega) (by omega);unfold rZ;rw[ar,e,aA];have hlt:x.toNat<l.length:=by omega
 have e2:iM l x=some l[x.toNat]:=by unfold iM;rw[bB hx,aI];exact aV hlt
 rw[e2,aA];exact⟨_,_,rfl,hc,lD hlt⟩
theorem UP(c:cU)(h:eW c):∃c' s,hO c=some (c',s)/\eW c'/\s.length<=16:=by
 unfold hO;obtain⟨c',s,e,hc,hs⟩:=a0P c ([[97],[98],[99],[49],[50]]:aF) h (by decide) (by decide);rw[e,aA];have:∀s∈([[97],[98],[99],[49],[50]]:aF),s.length<=16:=by decide
 exact⟨_,_,rfl,hc,this s hs⟩
theorem PJ(c:cU)(h:eW c):∃c' s,nD c=some (c',s)/\eW c'/\s.length<=16:=by
 unfold nD;obtain⟨c1,b,e,hc⟩:=Ub c 4 h (by decide) (by decide);rw[e,aA];cases b with
 |true=>
  obtain⟨c2,s,e2,Lc,hs⟩:=UP c1 hc;rw[aI,e2,aA];exact⟨_,_,rfl,Lc,hs⟩
 |false=>
  obtain⟨c2,s,e2,Lc,hs⟩:=a0P c1 ([[63,120],[63,121],[63,122]]:aF) hc (by decide) (by decide);rw[aW,e2,aA];have:∀s∈([[63,120],[63,121],[63,122]]:aF),s.length<=16:=by decide
  exact⟨_,_,rfl,Lc,this s hs⟩
theorem a2r(c:cU)(h:eW c):∃c' r n,oK c=some (c',(r,n))/\eW c'/\r.length<=16/\0<=n/\n<=2:=by
 unfold oK;obtain⟨c1,x,e,hc,hx,hx2⟩:=vr c 6 h (by decide) (by decide);rw[e,aA];have key:x=0\/x=1\/x=2\/x=3\/x=4\/x=5:=by omega
 rcases key with rfl|rfl|rfl|rfl|rfl|rfl<;>exact⟨c1,_,_,rfl,hc,by decide,by decide,by decide⟩
def zx(k:Nat)(p:aG):Prop:=p.rel.length<=16/\p.args.length<=k/\∀x∈p.args,x.length<=16
theorem LD:∀(l:aF),(∀x∈l,x.length<=16)->sM tw l<=17*l.length
 | [],_=>by simp[sM]
 |x::l,h=>by
  have h1:=LD l fun y hy=>h y (by simp[hy])
  have h2:=h x (by simp);rw[mo,aT];unfold tw at*;omega
theorem X2(y:cU×(Bytes×Int))(k:bJ->Int->Int->aF->Option (cU×aG)):∀(m:Nat) (fu:Nat) (v:Int) (c:cU) (w:aF),y.2.2-v=(m:Int)->m<fu->0<=v->y.2.2<=100->w.length+m<=1000->eW c->(∀x∈w,x.length<=16)->
 ∃c' w',jh y k fu v c.b c.i c.h w=k c'.b c'.i c'.h w'/\eW c'/\w'.length<=w.length+m/\∀x∈w',x.length<=16:=by
 intro m
 induction m with
 |zero=>
  intro fu v c w hv hf h0 hy hw hc hx;cases fu with
  |zero=>omega
  |succ fu=>
   have e:decide (v<y.2.2)=false:=by simp;omega
   rw[jh,e,aW];exact⟨c,w,rfl,hc,by omega,hx⟩
 |succ m ih=>
  intro fu v c w hv hf h0 hy hw hc hx;cases fu with
  |zero=>omega
  |succ fu=>
   have e:decide (v<y.2.2)=true:=by simp;omega
   obtain⟨c1,s,e2,hc1,hs⟩:=PJ c hc;have Sn:nD (⟨c.b,c.i,c.h⟩:cU)=some (c1,s):=e2;have e3:IntKind.i64.wrap (v+1)=v+1:=dZ (nS.i64.2 (by omega));rw[jh,e,aI,Sn,aA,jk (by omega) (by decide),aI,e3];obtain⟨c',w',q1,q2,q3,q4⟩:=ih fu (v+1) c1 (w++[s]) (by omega) (by omega) (by omega) hy (by simp;omega) hc1 (fun x QH=>by
    rcases aZ.1 QH with h|h
    ·exact hx x h
    ·simp at h;subst h;exact hs)
   exact⟨c',w',q1,q2,by simp at q3;omega,q4⟩
theorem PG(c:cU)(h:eW c):∃c' p,iz c=some (c',p)/\eW c'/\zx 2 p:=by
 unfold iz;obtain⟨c1,r,n,e,hc,hr,hn,hn2⟩:=a2r c h;rw[e,aA];obtain⟨c',w',q1,q2,q3,q4⟩:=X2 (c1,(r,n)) (fun a b d q=>some ((⟨a,b,d⟩:cU),(⟨r,q⟩:aG))) n.toNat fuel 0 c1 [] (by simp;omega) (by unfold fuel;omega) (by omega) (by simp;omega) (by simp;omega) hc (by simp);exact⟨_,_,q1,q2,hr,by show w'.length<=2;simp at q3;omega,q4⟩
theorem a2m(code:bJ)(h:code.length<=4096):∃c,uF code=some c/\eW c:=by
 unfold uF;have key:∀(k:Int->Option cU) (r:bJ) (i:Nat) (v:Int),∃z,mX code k r i v=k z:=by
  intro k r
  induction r with
  |nil=>intro i v;exact⟨v,rfl⟩
  |cons x r ih=>
   intro i v;rw[mX];cases decide ((i:Int)<4000)with
   |true=>exact ih _ _
   |false=>exact⟨v,rfl⟩
 obtain⟨z,e⟩:=key (fun z=>some (⟨code,0,z⟩:cU)) code 0 (IntKind.i64.wrap (851207+(IntKind.i64.wrap (3*((code.map yx).length:Int)))));rw[sD (by omega),aI,e];exact⟨_,rfl,by show(0:Int)<=0;omega,h⟩
end Go.Cx
namespace Go.Cx
open Go.RowKit Go.Proofs Tryz
theorem YW(c:cU)(l:bJ)(h:eW c)(h0:0<l.length)(h1:l.length<=256):∃c' s,pz c l=some (c',s)/\eW c'/\s∈l:=by
 obtain⟨c',x,e,hc,hx,hx2⟩:=vr c (l.length:Int) h (by omega) (by omega);unfold pz;rw[ar,e,aA];have hlt:x.toNat<l.length:=by omega
 have e2:iM l x=some l[x.toNat]:=by unfold iM;rw[bB hx,aI];exact aV hlt
 rw[e2,aA];exact⟨_,_,rfl,hc,lD hlt⟩
def Ys(j:Nat):Bytes:=if j<10 then [UInt8.ofNat (48+j)]else [UInt8.ofNat (48+j/10),UInt8.ofNat (48+j%10)]
theorem Vx{j:Nat}(h:j<100):Lib.decDigits j=Ys j:=by
 unfold Ys;by_cases h1:j<10
 ·rw[bN h1,Lib.decDigits,dif_pos h1]
 ·rw[b9 h1,Lib.decDigits,dif_neg h1,Lib.decDigits,dif_pos (by omega)];rfl
end Go.Cx
namespace Go.Cx
open Go.RowKit Go.Proofs Tryz
def BZ(c:aH):Prop:=zx 4 c.pat/\c.left.length<=16/\c.right.length<=16
def LR(a:Action):Prop:=zx 4 a.pat
def xA(n:Nat)(r:aJ):Prop:=r.name.length<=16/\(r.conds.length<=n/\∀c∈r.conds,BZ c)/\(r.cO.length<=n/\∀a∈r.cO,LR a)
theorem D4{α:Type}{w:α->Nat}{B:Nat}:∀(l:List α),(∀x∈l,w x<=B)->sM w l<=(B+1)*l.length
 | [],_=>by simp[sM]
 |x::l,h=>by
  have h1:=D4 l fun y hy=>h y (by simp[hy])
  have h2:=h x (by simp);rw[mo,aT,Nat.mul_add];omega
theorem zx.wt4{p:aG}(h:zx 4 p):tw p.rel+sM tw p.args<=100:=by
 have:=LD p.args h.2.2;have h1:=h.1;have h2:=h.2.1;unfold tw at*;omega
theorem BZ.wt{c:aH}(h:BZ c):c.wt<=200:=by
 have h1:=h.1.wt4;have h2:=h.2.1;have h3:=h.2.2;unfold aH.wt;unfold tw at*;omega
theorem LR.wt{a:Action}(h:LR a):a.wt<=200:=by
 have h1:=zx.wt4 h;unfold Action.wt;unfold tw at*;omega
theorem xA.wt{n:Nat}{r:aJ}(h:xA n r)(hn:n<=1000):r.wt<=1048576:=by
 obtain⟨h1,⟨h2,h3⟩,h4,h5⟩:=h;have c1:=D4 (w:=aH.wt) (B:=200) r.conds (fun x hx=>(h3 x hx).wt);have c2:=D4 (w:=Action.wt) (B:=200) r.cO (fun x hx=>(h5 x hx).wt);have d1:(200+1)*r.conds.length<=201*1000:=dS _ (by omega);have d2:(200+1)*r.cO.length<=201*1000:=dS _ (by omega);unfold aJ.wt;unfold tw at*;omega
def Ig(p:aG):Bool:=decide (p.rel.length<=16)&&(decide (p.args.length<=4)&&p.args.all fun x=>decide (x.length<=16))
theorem L4{p:aG}(h:Ig p=true):zx 4 p:=by
 unfold Ig at h;simp only[aY,bK,aj]at h;exact h
def ML(r:aJ):Bool:=(decide (r.name.length<=16)&&((decide (r.conds.length<=4)&&r.conds.all fun c=>Ig c.pat&&(decide (c.left.length<=16)&&decide (c.right.length<=16)))&&(decide (r.cO.length<=4)&&r.cO.all fun a=>Ig a.pat)))&&(decide (1<=r.conds.length)&&decide (1<=r.cO.length))
theorem Rq{r:aJ}(h:ML r=true):xA 4 r/\1<=r.conds.length/\1<=r.cO.length:=by
 unfold ML at h;simp only[aY,bK,aj]at h;obtain⟨⟨h1,⟨h2,h3⟩,h4,h5⟩,h6,h7⟩:=h;exact⟨⟨h1,⟨h2,fun c hc=>⟨L4 (h3 c hc).1,(h3 c hc).2⟩⟩,h4,fun a ha=>L4 (h5 a ha)⟩,h6,h7⟩
theorem a0Q(c:cU)(l r:Bytes)(h:eW c)(hl:l.length<=16)(hr:r.length<=16):∃c' x,sW c l r=some (c',x)/\eW c'/\BZ x:=by
 unfold sW;obtain⟨c1,k,e,hc,_⟩:=YW c [3,4,4,5] h (by decide) (by decide);rw[e,aA];exact⟨_,_,rfl,hc,⟨by simp,by simp,by simp⟩,hl,hr⟩
theorem a08(c:cU)(h:eW c):∃c' x,qj c=some (c',x)/\eW c'/\BZ x:=by
 unfold qj;obtain⟨c1,k,e,hc,_,_⟩:=vr c 5 h (by decide) (by decide);rw[e,aA];have one:∀k:Int,∃c' x,((iz c1).bind fun y4=>(some (y4.1,(⟨k,y4.2,[],[]⟩:aH))))=some (c',x)/\eW c'/\BZ x:=fun k=>by
  obtain⟨c2,p,e2,Lc,hp⟩:=PG c1 hc;rw[e2,aA];exact⟨_,_,rfl,Lc,⟨hp.1,by have:=hp.2.1;show p.args.length<=4;omega,hp.2.2⟩,by simp,by simp⟩
 cases(k==(0:Int))with
 |true=>rw[aI];exact one 1
 |false=>
  rw[aW];cases(k==(1:Int))with
  |true=>rw[aI];exact one 1
  |false=>
   rw[aW];cases(k==(2:Int))with
   |true=>rw[aI];exact one 2
   |false=>
    obtain⟨c2,l,e2,Lc,hl⟩:=PJ c1 hc;obtain⟨c3,r,e3,hc3,hr⟩:=PJ c2 Lc;obtain⟨c4,x,e4,hc4,hx⟩:=a0Q c3 l r hc3 hl hr;rw[aW,e2,aA,e3,aA,e4,aA];exact⟨_,_,rfl,hc4,hx⟩
def QN(s:Bytes):Bool:=match nO s with
 |some (r,_)=>ML r&&iA r
 |none=>false
def Mb(r:aJ):Prop:=xA 4 r/\iA r=true/\1<=r.conds.length/\1<=r.cO.length
theorem X4(K:aF)(c:cU)(m:Int)(h:eW c)(hm:0<m)(h0:0<K.length)(h1:K.length<=256)(hK:K.all QN=true):
 ∃c' r,((dV c (Lo m ((K.map tx).length:Int))).bind fun y1=>((iM K y1.2).bind fun x3=>((nO x3).bind fun y5=>(some (y1.1,y5.1)))))=some (c',r)/\eW c'/\Mb r:=by
 have hlen:((K.map tx).length:Int)=(K.length:Int):=by simp
 have hmin:0<Lo m ((K.map tx).length:Int)/\Lo m ((K.map tx).length:Int)<=(K.length:Int):=by
  unfold Lo;rw[hlen];split<;>omega
 obtain⟨c1,x,e,hc,hx,hx2⟩:=vr c _ h hmin.1 (by omega);have hlt:x.toNat<K.length:=by omega
 have e2:iM K x=some K[x.toNat]:=by unfold iM;rw[bB hx,aI];exact aV hlt
 have hk:=aj.1 hK _ (lD hlt);unfold QN at hk;rw[e,aA,e2,aA];cases hp:nO K[x.toNat]with
 |none=>rw[hp]at hk;cases hk
 |some p=>
  rw[hp]at hk;simp only[aY]at hk;obtain⟨q1,q2,q3⟩:=Rq hk.1;exact⟨_,_,rfl,hc,q1,hk.2,q2,q3⟩
theorem UY(c:cU)(m:Int)(h:eW c)(hm:0<m):∃c' r,mC c m=some (c',r)/\eW c'/\Mb r:=by
 unfold mC;refine X4 _ c m h hm ?_ ?_ ?_
 ·decide
 ·decide
 ·kernel_rfl
theorem X6(y1:cU×Int):∀(m:Nat) (fu:Nat) (v:Int) (c:cU) (w:af),v=(m:Int)->m<fu->m<=50->w.length+m<=100->eW c->(∀x∈w,BZ x)->
 ∃c' w',(∀k,gu y1 k fu v c.b c.i c.h w=k c'.b c'.i c'.h w')/\eW c'/\w'.length=w.length+m/\∀x∈w',BZ x:=by
 intro m
 induction m with
 |zero=>
  intro fu v c w hv hf hm hn hc hw;cases fu with
  |zero=>omega
  |succ fu=>
   have e:decide (v>0)=false:=by simp;omega
   exact⟨c,w,fun k=>by rw[gu,e,aW],hc,rfl,hw⟩
 |succ m ih=>
  intro fu v c w hv hf hm hn hc hw;cases fu with
  |zero=>omega
  |succ fu=>
   have e:decide (v>0)=true:=by simp;omega
   obtain⟨c1,x,e2,hc1,hx⟩:=a08 c hc;have Sn:qj (⟨c.b,c.i,c.h⟩:cU)=some (c1,x):=e2;have e3:IntKind.i64.wrap (v-1)=v-1:=dZ (nS.i64.2 (by omega));obtain⟨c',w',q1,q2,q3,q4⟩:=ih fu (v-1) c1 (w++[x]) (by omega) (by omega) (by omega) (by simp;omega) hc1 (fun y hy=>by
    rcases aZ.1 hy with h|h
    ·exact hw y h
    ·simp at h;subst h;exact hx)
   exact⟨c',w',fun k=>by rw[gu,e,aI,Sn,aA,jk (by omega) (by decide),aI,e3];exact q1 k,q2,by simp at q3;omega,q4⟩
theorem X7(y1:cU×Int)(q:af)(y:aF)(tA:cU×aG):∀(m:Nat) (fu:Nat) (v:Nat) (c:cU) (w:aF),w.length=v+m->m<fu->w.length<=100->eW c->(∀x∈w,x.length<=16)->
 ∃c' w',(∀k,cg y1 q y tA k fu (v:Int) c.b c.i c.h w=k c'.b c'.i c'.h w')/\eW c'/\w'.length=w.length/\∀x∈w',x.length<=16:=by
 intro m
 induction m with
 |zero=>
  intro fu v c w hv hf hm hc hw;cases fu with
  |zero=>omega
  |succ fu=>
   have e:decide ((v:Int)<((w.map tx).length:Int))=false:=by simp;omega
   exact⟨c,w,fun k=>by rw[cg,e,aW],hc,rfl,hw⟩
 |succ m ih=>
  intro fu v c w hv hf hm hc hw;cases fu with
  |zero=>omega
  |succ fu=>
   have e:decide ((v:Int)<((w.map tx).length:Int))=true:=by simp;omega
   have hlt:v<w.length:=by omega
   have e1:iM w (v:Int)=some w[v]:=by unfold iM;rw[bB (by omega),aI];exact aV hlt
   have hx:=hw w[v] (lD hlt);have e4:IntKind.i64.wrap ((v:Int)+1)=((v+1:Nat):Int):=by rw[dZ (nS.i64.2 (by omega))];rfl
   have st:∀k,cg y1 q y tA k (fu+1) (v:Int) c.b c.i c.h w=(bif mF w[v]then(bif !(y.contains w[v])then((hO (⟨c.b,c.i,c.h⟩:cU)).bind fun y83=>cg y1 q y tA k fu ((v+1:Nat):Int) y83.1.b y83.1.i y83.1.h (w.set (v:Int).toNat y83.2))else cg y1 q y tA k fu ((v+1:Nat):Int) c.b c.i c.h w)else cg y1 q y tA k fu ((v+1:Nat):Int) c.b c.i c.h w):=by
    intro k;rw[cg,e,aI,e1,aA,MI w[v] (by omega),aA,e4,Rp,aA]
   obtain⟨c0,w0,p1,p2,p3,p4⟩:=ih fu (v+1) c w (by omega) (by omega) hm hc hw;cases hv1:mF w[v]with
   |false=>exact⟨c0,w0,fun k=>by rw[st k,hv1,aW];exact p1 k,p2,p3,p4⟩
   |true=>
    cases K3:y.contains w[v]with
    |true=>exact⟨c0,w0,fun k=>by rw[st k,hv1,K3,aI,bn,aW];exact p1 k,p2,p3,p4⟩
    |false=>
     obtain⟨c1,s,e2,hc1,hs⟩:=UP c hc;have Sn:hO (⟨c.b,c.i,c.h⟩:cU)=some (c1,s):=e2;obtain⟨c',w',q1,q2,q3,q4⟩:=ih fu (v+1) c1 (w.set (v:Int).toNat s) (by simp;omega) (by omega) (by simpa using hm) hc1 (fun x QH=>by
      rcases s7 QH with h|h
      ·exact hw x h
      ·subst h;exact hs)
     exact⟨c',w',fun k=>by rw[st k,hv1,K3,aI,dF,aI,Sn,aA];exact q1 k,q2,by simpa using q3,q4⟩
theorem a2q(c:cU)(h:eW c):∃c' r,qX c=some (c',r)/\eW c'/\Mb r:=by
 unfold qX;obtain⟨c1,n,e1,hc1,_,_⟩:=vr c 4 h (by decide) (by decide);obtain⟨c2,p,e2,Lc,hp⟩:=PG c1 hc1;obtain⟨c3,m,e3,hc3,hm,hm2⟩:=vr c2 3 Lc (by decide) (by decide);rw[e1,aA,e2,aA,e3,aA];have hp4:zx 4 p:=⟨hp.1,by have:=hp.2.1;omega,hp.2.2⟩
 obtain⟨c4,cs,q1,hc4,OU,hsm⟩:=X6 (c1,n) m.toNat fuel m c3 [(⟨1,p,[],[]⟩:aH)] (by omega) (by unfold fuel;omega) (by omega) (by simp;omega) hc3 (fun x hx=>by
  simp at hx;subst hx;exact⟨hp4,by simp,by simp⟩)
 have hcs:1<=cs.length/\cs.length<=3:=by simp at OU;omega
 rw[q1];dsimp only;have hw0:(⟨[114],n,cs,[]⟩:aJ).wt<=1048576:=xA.wt (n:=4) ⟨by simp,⟨by show cs.length<=4;omega,hsm⟩,by simp,by simp⟩ (by decide);obtain⟨c5,q,e5,hc5,hq⟩:=PG c4 hc4;have e5':iz (⟨c4.b,c4.i,c4.h⟩:cU)=some (c5,q):=e5;rw[PC (⟨[114],n,cs,[]⟩:aJ) _ hw0,aA,e5',aA];dsimp only;obtain⟨c6,qa,r1,hc6,r3,r4⟩:=X7 (c1,n) cs (eb (xD (⟨[114],n,cs,[]⟩:aJ) ((cs.map aH.c).length:Int))) (c5,q) q.args.length fuel 0 c5 q.args (by simp) (by have:=hq.2.1;unfold fuel;omega) (by have:=hq.2.1;omega) hc5 hq.2.2;have r1':=r1;rw[show((0:Nat):Int)=0 from rfl]at r1';rw[r1'];obtain⟨c7,k,e7,hc7,_⟩:=YW c6 [1,1,2] hc6 (by decide) (by decide);have e7':pz (⟨c6.b,c6.i,c6.h⟩:cU) [1,1,2]=some (c7,k):=e7;obtain⟨c8,b,e8,hc8⟩:=Ub c7 6 hc7 (by decide) (by decide);have UM:∀n,n<=4->room n 48=true:=fun n hn=>I6 (by omega) (by decide)
 rw[e7',aA];dsimp only;rw[UM _ (by simp),aI,e8,aA];have hq4:zx 4 (⟨q.rel,qa⟩:aG):=⟨hq.1,by show qa.length<=4;have:=hq.2.1;omega,r4⟩
 have fin:∀(al:dN),1<=al.length->al.length<=2->(∀a∈al,LR a)->∃c' r,((lf (⟨[114],n,cs,al⟩:aJ)).bind fun XT=>(bif !(XT)then((mC c8 99).bind fun y95=>(some (y95.1,y95.2)))else(some (c8,(⟨[114],n,cs,al⟩:aJ)))))=some (c',r)/\eW c'/\Mb r:=by
  intro al ha1 ha2 ha;have hsr:xA 4 (⟨[114],n,cs,al⟩:aJ):=⟨by simp,⟨by show cs.length<=4;omega,hsm⟩,by show al.length<=4;omega,ha⟩
  rw[YY _ (hsr.wt (by decide)),aA];cases hr:iA (⟨[114],n,cs,al⟩:aJ)with
  |true=>exact⟨_,_,rfl,hc8,hsr,hr,hcs.1,ha1⟩
  |false=>
   obtain⟨c9,r,e9,hc9,hr9⟩:=UY c8 99 hc8 (by decide);rw[dF,aI,e9,aA];exact⟨_,_,rfl,hc9,hr9⟩
 cases b with
 |true=>
  dsimp only;rw[aI,UM _ (by simp),aI];exact fin _ (by simp) (by simp) (fun a ha=>by
   simp at ha;rcases ha with rfl|rfl
   ·exact hq4
   ·exact⟨by simp,by simp,by simp⟩)
 |false=>
  dsimp only;rw[aW];exact fin _ (by simp) (by simp) (fun a ha=>by
   simp at ha;subst ha;exact hq4)
theorem a09(c:cU)(h:eW c):∃c' r,js c=some (c',r)/\eW c'/\Mb r:=by
 unfold js;obtain⟨c1,b,e,hc⟩:=Ub c 3 h (by decide) (by decide);rw[e,aA];cases b with
 |true=>
  obtain⟨c2,r,e2,Lc,hr⟩:=a2q c1 hc;rw[aI,e2,aA];exact⟨_,_,rfl,Lc,hr⟩
 |false=>
  obtain⟨c2,r,e2,Lc,hr⟩:=UY c1 99 hc (by decide);rw[aW,e2,aA];exact⟨_,_,rfl,Lc,hr⟩
end Go.Cx
namespace Go.Cx
open Go.RowKit Go.Proofs Tryz
end Go.Cx
namespace Go.Cx
open Go.RowKit Go.Proofs Tryz
theorem a03(c:cU)(h:eW c):∃c' s,hO c=some (c',s)/\eW c'/\ke s=true:=by
 unfold hO;obtain⟨c',s,e,hc,hs⟩:=a0P c ([[97],[98],[99],[49],[50]]:aF) h (by decide) (by decide);rw[e,aA];have:∀s∈([[97],[98],[99],[49],[50]]:aF),ke s=true:=by decide
 exact⟨_,_,rfl,hc,this s hs⟩
theorem a2s(c:cU)(h:eW c):∃c' r n,oK c=some (c',(r,n))/\eW c'/\uL r=true/\r.length<=2/\0<=n/\n<=2:=by
 unfold oK;obtain⟨c1,x,e,hc,hx,hx2⟩:=vr c 6 h (by decide) (by decide);rw[e,aA];have key:x=0\/x=1\/x=2\/x=3\/x=4\/x=5:=by omega
 rcases key with rfl|rfl|rfl|rfl|rfl|rfl<;>exact⟨c1,_,_,rfl,hc,by decide,by decide,by decide,by decide⟩
theorem UU(y:cU×(Bytes×Int))(k:bJ->Int->Int->aF->Option (cU×aG)):∀(m:Nat) (fu:Nat) (v:Int) (c:cU) (w:aF),y.2.2-v=(m:Int)->m<fu->0<=v->y.2.2<=100->w.length+m<=1000->eW c->(∀x∈w,ke x=true)->
 ∃c' w',jg y k fu v c.b c.i c.h w=k c'.b c'.i c'.h w'/\eW c'/\w'.length<=w.length+m/\∀x∈w',ke x=true:=by
 intro m
 induction m with
 |zero=>
  intro fu v c w hv hf h0 hy hw hc hx;cases fu with
  |zero=>omega
  |succ fu=>
   have e:decide (v<y.2.2)=false:=by simp;omega
   rw[jg,e,aW];exact⟨c,w,rfl,hc,by omega,hx⟩
 |succ m ih=>
  intro fu v c w hv hf h0 hy hw hc hx;cases fu with
  |zero=>omega
  |succ fu=>
   have e:decide (v<y.2.2)=true:=by simp;omega
   obtain⟨c1,s,e2,hc1,hs⟩:=a03 c hc;have Sn:hO (⟨c.b,c.i,c.h⟩:cU)=some (c1,s):=e2;have e3:IntKind.i64.wrap (v+1)=v+1:=dZ (nS.i64.2 (by omega));rw[jg,e,aI,Sn,aA,jk (by omega) (by decide),aI,e3];obtain⟨c',w',q1,q2,q3,q4⟩:=ih fu (v+1) c1 (w++[s]) (by omega) (by omega) (by omega) hy (by simp;omega) hc1 (fun x QH=>by
    rcases aZ.1 QH with h|h
    ·exact hx x h
    ·simp at h;subst h;exact hs)
   exact⟨c',w',q1,q2,by simp at q3;omega,q4⟩
theorem X1(c:cU)(h:eW c):∃c' p,qi c=some (c',p)/\eW c'/\sC p=true/\p.rel.length<=2:=by
 unfold qi;obtain⟨c1,r,n,e,hc,hr,WJ,hn,hn2⟩:=a2s c h;rw[e,aA];obtain⟨c',w',q1,q2,q3,q4⟩:=UU (c1,(r,n)) (fun a b d q=>some ((⟨a,b,d⟩:cU),(⟨r,q⟩:aG))) n.toNat fuel 0 c1 [] (by simp;omega) (by unfold fuel;omega) (by omega) (by simp;omega) (by simp;omega) hc (by simp);refine⟨_,_,q1,q2,?_,WJ⟩;unfold sC;simp only[aY,bK,aj];exact⟨q4,hr,by simp at q3;omega⟩
theorem YV(a:aO)(f:aG)(K:Bool->aO->Option aO):∀(rest:aO) (i:Nat) (w:aO),(∀x∈rest,x.args.length<=1048576)->w.length+rest.length<=1048576->cR a f K rest i true w=K true (w++rest)
 | [],i,w,_,_=>by simp[cR]
 |x::xs,i,w,hs,hl=>by
  simp only[aT]at hl;rw[cR,bn,aW,Ce x (by have:=hs x (by simp);omega),aA,jk (w:=w) (c:=aG.c) (y:=[D.str x.rel,D.sl (x.args.map tx)]) (b:=40) (by omega) (by decide),aI,YV a f K xs (i+1) (w++[x]) (fun y hy=>hs y (by simp[hy])) (by simp;omega)];simp
theorem YU(a:aO)(f:aG)(K:Bool->aO->Option aO):∀(rest:aO) (p:Option aG) (i:Nat) (w:aO),(∀x∈rest,x.args.length<=1048576)->w.length+rest.length<=1048576->chainB p rest=true->f∈rest->cR a f K rest i false w=K true (w++rest)
 | [],_,_,_,_,_,_,h=>by cases h
 |x::xs,p,i,w,hs,hl,hc,hm=>by
  simp only[aT]at hl;obtain⟨_,_,h3⟩:=yI hc;have cx:=Ce x (by have:=hs x (by simp);omega);have rx:=jk (w:=w) (c:=aG.c) (y:=[D.str x.rel,D.sl (x.args.map tx)]) (b:=40) (by omega) (by decide);rw[cR,dF,aI,UR,aA];by_cases e:x=f
  ·rw[e,Ke,<-e];rw[bB (by omega:(0:Int)>=0),aI,aA,bG (by omega:¬(0:Int)>0),aW,cx,aA,rx,aI,YV a x K xs (i+1) (w++[x]) (fun y hy=>hs y (by simp[hy])) (by simp;omega)];simp
  ·have hxs:f∈xs:=by
    rcases bH.1 hm with q|q
    ·exact absurd q.symm e
    ·exact q
   have hlt:=Gz h3 f hxs;rw[bG (by omega),aW,cx,aA,rx,aI,YU a f K xs (some x) (i+1) (w++[x]) (fun y hy=>hs y (by simp[hy])) (by simp;omega) h3 hxs];simp
theorem a2p{l:aO}{f:aG}(hl:o7 l=true)(hf:sC f=true)(hn:l.length<24):∃l',q8 l f=some l'/\o7 l'=true/\l'.length<=l.length+1/\∀x∈l',x∈l\/x=f:=by
 have hargs:∀x∈l,x.args.length<=1048576:=fun x hx=>aG.eo (by have:=GG (ED hl x hx);omega)
 by_cases hm:f∈l
 ·refine⟨l,?_,hl,by omega,fun x hx=>.inl hx⟩;have hc:chainB none l=true:=by
   unfold o7 at hl;rw[aY]at hl;exact hl.1
  unfold q8;rw[YU l f _ l none 0 [] hargs (by simp;omega) hc hm];rfl
 ·refine⟨CT f l,a2j l f (by have:=aG.eo (n:=1048576) (by have:=GG hf;omega:f.wt<=1048576);omega) (fun x hx=>by have:=hargs x hx;omega) (by omega) hm,Vj hf hl hm (by omega),by rw[JM];omega,fun x hx=>?_⟩;rcases(NL f l x).1 hx with h|h
  ·exact .inr h
  ·exact .inl h
theorem a0N(k:bJ->Int->Int->aO->Option (cU×aO)):∀(m:Nat) (fu:Nat) (v:Int) (c:cU) (w:aO),v=(m:Int)->m<fu->w.length+m<=20->eW c->o7 w=true->(∀x∈w,x.rel.length<=2)->
 ∃c' w',kp k fu v c.b c.i c.h w=k c'.b c'.i c'.h w'/\eW c'/\o7 w'=true/\w'.length<=w.length+m/\∀x∈w',x.rel.length<=2:=by
 intro m
 induction m with
 |zero=>
  intro fu v c w hv hf hm hc hw hr;cases fu with
  |zero=>omega
  |succ fu=>
   have e:decide (v>0)=false:=by simp;omega
   rw[kp,e,aW];exact⟨c,w,rfl,hc,hw,by omega,hr⟩
 |succ m ih=>
  intro fu v c w hv hf hm hc hw hr;cases fu with
  |zero=>omega
  |succ fu=>
   have e:decide (v>0)=true:=by simp;omega
   obtain⟨c1,f,e2,hc1,hf1,WG⟩:=X1 c hc;have Sn:qi (⟨c.b,c.i,c.h⟩:cU)=some (c1,f):=e2;obtain⟨w1,e4,hw1,hl1,hm1⟩:=a2p hw hf1 (by omega);have e3:IntKind.i64.wrap (v-1)=v-1:=dZ (nS.i64.2 (by omega));rw[kp,e,aI,Sn,aA,e4,aA,e3];obtain⟨c',w',q1,q2,q3,q4,q5⟩:=ih fu (v-1) c1 w1 (by omega) (by omega) (by omega) hc1 hw1 (fun x hx=>by
    rcases hm1 x hx with h|h
    ·exact hr x h
    ·rw[h];exact WG)
   exact⟨c',w',q1,q2,q3,by omega,q5⟩
theorem a2v(c:cU)(n:Int)(h:eW c)(h0:0<=n)(hn:n<=19):∃c' l,uG c n=some (c',l)/\eW c'/\o7 l=true/\(l.length:Int)<=n/\∀x∈l,x.rel.length<=2:=by
 unfold uG;have e3:IntKind.i64.wrap (n+1)=n+1:=dZ (nS.i64.2 (by omega));obtain⟨c1,x,e,hc,hx,hx2⟩:=vr c (n+1) h (by omega) (by omega);rw[e3,e,aA];obtain⟨c',w',q1,q2,q3,q4,q5⟩:=a0N (fun a b d q=>some ((⟨a,b,d⟩:cU),q)) x.toNat fuel x c1 [] (by omega) (by unfold fuel;omega) (by simp;omega) hc rfl (by simp);exact⟨_,_,q1,q2,q3,by simp at q4;omega,q5⟩
theorem Ht(r:aJ)(n:Bytes):∀(cs:af) (i:Nat),pX ⟨n,r.prio,r.conds,r.cO⟩ cs i=pX r cs i
 | [],_=>rfl
 |c::cs,i=>by
  rw[pX,pX,Ht r n cs (i+1)];rfl
theorem PA{r:aJ}{n:Bytes}(h:iA r=true)(hn:uL n=true):iA ⟨n,r.prio,r.conds,r.cO⟩=true:=by
 unfold iA at h⊢;dsimp only;rw[Ht];simp only[aY]at h⊢;exact⟨⟨⟨⟨hn,h.1.1.1.2⟩,h.1.1.2⟩,h.1.2⟩,h.2.1,h.2.2.1,h.2.2.2⟩
theorem Mz:∀ {l:au} {k i:Nat} {r:aJ},(l.map aJ.name).Nodup->l[i]?=some r->zY r.name l k=((k+i:Nat):Int)
 | [],_,_,_,_,h=>by simp at h
 |x::xs,k,i,r,hn,h=>by
  rw[bC,ed]at hn;cases i with
  |zero=>
   simp at h;subst h;rw[zY];simp
  |succ i=>
   have hx:xs[i]?=some r:=by simpa using h
   have hne:¬x.name=r.name:=fun e=>hn.1 (by rw[e];exact cJ.2 ⟨r,aD hx,rfl⟩)
   rw[zY,show(x.name==r.name)=false from cT.2 hne,aW,Mz hn.2 hx]
   congr 1;omega
theorem Pk{all:au}(hn:(all.map aJ.name).Nodup):∀(l:au) (i:Nat),(∀r∈l,iA r=true)->(∀(j:Nat) r,l[j]?=some r->all[i+j]?=some r)->IC all l i=true
 | [],_,_,_=>rfl
 |r::l,i,hv,ha=>by
  have h0:=Mz (k:=0) hn (ha 0 r rfl);rw[IC,hv r (by simp),bB (by rw[h0];congr 1;omega),Pk hn l (i+1) (fun x hx=>hv x (by simp[hx])) (fun j x hx=>by rw[show i+1+j=i+(j+1)by omega];exact ha (j+1) x (by simpa using hx))];rfl
theorem Vi{l:au}(hn:(l.map aJ.name).Nodup)(hv:∀r∈l,iA r=true)(h6:l.length<=6):tD l=true:=by
 unfold tD;rw[Pk hn l 0 hv (fun j r hj=>by rw[cv];exact hj)];simp;omega
def VQ(m:Nat):Bytes:=[114,UInt8.ofNat (48+m)]
theorem Zz:∀m,m<=7->uL (VQ m)=true/\∀j,j<=7->VQ m=VQ j->m=j:=by decide
theorem UL{m:Nat}(h:m<=7):([114]:Bytes)++Lib.itoa (m:Int)=VQ m:=by
 have:Lib.itoa (m:Int)=Lib.decDigits m:=by unfold Lib.itoa;rw[b9 (by omega)];rfl
 rw[this,Vx (by omega)];unfold Ys VQ;rw[bN (by omega)];rfl
theorem a0M(k:bJ->Int->Int->au->Option (cU×au))(P:aJ->Prop)(hP:∀c c' r,eW c->js c=some (c',r)->P r):∀(m:Nat) (fu:Nat) (v:Int) (c:cU) (w:au),v=(m:Int)->m<fu->w.length+m<=6->eW c->(∀r∈w,iA r=true/\xA 4 r/\∃r0,P r0/\r.conds=r0.conds)->(w.map aJ.name).Nodup->(∀r∈w,∃j,m<j/\j<=7/\r.name=VQ j)->
 ∃c' w',kr k fu v c.b c.i c.h w=k c'.b c'.i c'.h w'/\eW c'/\w'.length<=w.length+m/\(∀r∈w',iA r=true/\xA 4 r/\∃r0,P r0/\r.conds=r0.conds)/\(w'.map aJ.name).Nodup:=by
 intro m
 induction m with
 |zero=>
  intro fu v c w hv hf hm hc hw hn hj;cases fu with
  |zero=>omega
  |succ fu=>
   have e:decide (v>0)=false:=by simp;omega
   rw[kr,e,aW];exact⟨c,w,rfl,hc,by omega,hw,hn⟩
 |succ m ih=>
  intro fu v c w hv hf hm hc hw hn hj;cases fu with
  |zero=>omega
  |succ fu=>
   have e:decide (v>0)=true:=by simp;omega
   obtain⟨c1,r,e2,hc1,hr⟩:=a09 c hc;have Sn:js (⟨c.b,c.i,c.h⟩:cU)=some (c1,r):=e2;have e3:IntKind.i64.wrap (v-1)=v-1:=dZ (nS.i64.2 (by omega));have e5:=a0D v (nS.i64.2 (by omega));have e6:([114]:Bytes)++Lib.itoa v=VQ (m+1):=by rw[hv];exact UL (by omega)
   have e7:decide (([114]:Bytes).length+(Lib.itoa v).length<=maxLen)=true:=by
    have:=congrArg List.length e6;rw[av]at this;rw[this];rfl
   have hnm:=Zz (m+1) (by omega);rw[kr,e,aI,Sn,aA,e5,aA,e7,aI,jk (by omega) (by decide),aI,e3,e6];have a1f:=PA hr.2.1 hnm.1;obtain⟨c',w',q1,q2,q3,q4,q5⟩:=ih fu (v-1) c1 (w++[⟨VQ (m+1),r.prio,r.conds,r.cO⟩]) (by omega) (by omega) (by simp;omega) hc1 (fun x hx=>by
    rcases aZ.1 hx with h|h
    ·exact hw x h
    ·rw[cZ.1 h];exact⟨a1f,⟨by show(VQ (m+1)).length<=16;unfold VQ;simp,hr.1.2⟩,r,hP c c1 r hc e2,rfl⟩) (by
    rw[b8,bD];refine⟨hn,by simp,fun a ha b hb e=>?_⟩;simp at hb;obtain⟨x,hx,rfl⟩:=cJ.1 ha;obtain⟨j,j1,j2,j3⟩:=hj x hx;have:=hnm.2 j j2 (by rw[<-j3,e,hb]);omega) (fun x hx=>by
    rcases aZ.1 hx with h|h
    ·obtain⟨j,j1,j2,j3⟩:=hj x h;exact⟨j,by omega,j2,j3⟩
    ·rw[cZ.1 h];exact⟨m+1,by omega,by omega,rfl⟩)
   exact⟨c',w',q1,q2,by simp at q3;omega,q4,q5⟩
theorem xA.wt4{r:aJ}(h:xA 4 r):r.wt<=10000:=by
 obtain⟨h1,⟨h2,h3⟩,h4,h5⟩:=h;have c1:=D4 (w:=aH.wt) (B:=200) r.conds (fun x hx=>(h3 x hx).wt);have c2:=D4 (w:=Action.wt) (B:=200) r.cO (fun x hx=>(h5 x hx).wt);have d1:(200+1)*r.conds.length<=201*4:=dS _ (by omega);have d2:(200+1)*r.cO.length<=201*4:=dS _ (by omega);unfold aJ.wt;unfold tw at*;omega
theorem a2t(P:aJ->Prop)(hP:∀c c' r,eW c->js c=some (c',r)->P r)(c:cU)(n:Int)(h:eW c)(h0:0<=n)(hn:n<=6):∃c' l,uI c n=some (c',l)/\eW c'/\tD l=true/\sM aJ.wt l<=1048576/\∀r∈l,∃r0,P r0/\r.conds=r0.conds:=by
 unfold uI;have e3:IntKind.i64.wrap (n+1)=n+1:=dZ (nS.i64.2 (by omega));obtain⟨c1,x,e,hc,hx,hx2⟩:=vr c (n+1) h (by omega) (by omega);rw[e3,e,aA];obtain⟨c',w',q1,q2,q3,q4,q5⟩:=a0M (fun a b d q=>some ((⟨a,b,d⟩:cU),q)) P hP x.toNat fuel x c1 [] (by omega) (by unfold fuel;omega) (by simp;omega) hc (by simp) (by simp) (by simp);have h6:w'.length<=6:=by simp at q3;omega
 refine⟨_,_,q1,q2,Vi q5 (fun r hr=>(q4 r hr).1) h6,?_,fun r hr=>(q4 r hr).2.2⟩;have h1:=D4 (w:=aJ.wt) (B:=10000) w' (fun r hr=>xA.wt4 (q4 r hr).2.1);have:(10000+1)*w'.length<=(10000+1)*6:=dS _ h6;omega
end Go.Cx
namespace Go.Cx
open Go.RowKit Go.Proofs Tryz
theorem UW(n:aN)(fs y:aO)(K:bS->Option aN)(hFS:FS fs)(A:bS)(hA:∀a∈A,a.shape.wt<=1048576)(hl:A.length<=1048576):∀(rest pre:bS) (fu:Nat),A=pre++rest->rest.length<fu->
 jj n fs y K fu (pre.length:Int) (qY pre fs++rest)=K (qY A fs)
 | [],pre,fu,e,hu=>by
  obtain⟨fu,rfl⟩:∃m,fu=m+1:=⟨fu-1,by simp at hu;omega⟩
  rw[eA]at e;rw[jj,eA,ar,Cu,bG (by omega),aW,e]
 |x::rest,pre,fu,e,hu=>by
  obtain⟨fu,rfl⟩:∃m,fu=m+1:=⟨fu-1,by simp at hu;omega⟩
  simp only[aT]at hu;have hlen:A.length=pre.length+(rest.length+1):=by rw[e];simp
  have hx:=hA x (by rw[e];simp);have ih:=UW n fs y K hFS A hA hl rest (pre++[x]) fu (by rw[e];simp) (by omega);have ND:iM (qY pre fs++x::rest) (pre.length:Int)=some x:=by
   have:=sv (a:=qY pre fs++x::rest) (pre:=qY pre fs) (xs:=rest) (x:=x) rfl;rw[Cu]at this;exact this
  have oZ:(qY pre fs++x::rest).set (pre.length:Int).toNat ⟨x.shape,zZ x.shape [] fs⟩=qY (pre++[x]) fs++rest:=by
   have:=setAt (qY pre fs) rest x ⟨x.shape,zZ x.shape [] fs⟩;rw[Cu]at this;rw[mH,this,OQ,cY];rfl
  rw[jj,ar,av,Cu,aT,bB (by omega),aI,ND,aA,a2f x.shape [] fs hx PB.nil hFS,aA,Jy (by omega),oZ];rw[av,cy]at ih;exact ih
theorem UX(n:aN)(fs y:aO)(q:bS)(K:bR->Option aN)(hf:FS fs)(h24:fs.length<=24)(ns:bR)(hp:FM ns):∀(rest pre:bR) (fu:Nat),(pre++rest).map rB=ns.map rB->rest.length<fu->
 iI n fs y q K fu (pre.length:Int) (pre++rest)=K (pre++uJ ns fs rest pre.length)
 | [],pre,fu,he,hu=>by
  obtain⟨fu,rfl⟩:∃m,fu=m+1:=⟨fu-1,by simp at hu;omega⟩
  rw[iI,eA,ar,bG (by omega),aW,uJ,eA]
 |x::rest,pre,fu,he,hu=>by
  obtain⟨fu,rfl⟩:∃m,fu=m+1:=⟨fu-1,by simp at hu;omega⟩
  simp only[aT]at hu;have hlen:(pre++x::rest).length=ns.length:=by have:=congrArg List.length he;simpa using this
  have hlt:=hp.len;have hok:XW ⟨n.rules,n.ends,q,pre++x::rest,y,n.cS⟩:=by
   refine⟨by show(pre++x::rest).length<=1048576;rw[hlen];exact hp.len,fun z hz=>?_⟩;have hm:rB z∈ns.map rB:=by rw[<-he];exact cJ.2 ⟨z,hz,rfl⟩
   obtain⟨w,hw,e⟩:=cJ.1 hm;have:w.cond=z.cond:=(BX e).2;rw[<-this];exact hp.wt w hw
  have JH:eZ (pre++x::rest) ((pre.length:Nat):Int)=eZ ns (dA pre.length):=yT he _;have OV:∀c∈eZ ns (dA pre.length),c.wt<=1048576:=by
   intro c hc;obtain⟨z,hz,e⟩:=Jh hc;rw[<-e];exact hp.wt z hz
  have ND:iM (pre++x::rest) (pre.length:Int)=some x:=sv rfl;have ih:=UX n fs y q K hf h24 ns hp rest (pre++[⟨x.parent,x.cond,x.ot,AZ (eZ ns (dA pre.length)) fs⟩]) fu (by rw[<-he];simp[rB]) (by omega);rw[av,aT]at hlen;rw[iI,ar,av,aT,bB (by omega),aI,a0I _ _ hok,aA];show((ny (eZ (pre++x::rest) (pre.length:Int)) fs).bind _)=_;rw[JH,a2y _ fs OV (hp.path _) hf h24,aA,ND,aA,Jy (by omega),mH,setAt];rw[av,cy,cY]at ih;rw[show pre++(⟨x.parent,x.cond,x.ot,AZ (eZ ns (dA pre.length)) fs⟩:Node)::rest=pre++([⟨x.parent,x.cond,x.ot,AZ (eZ ns (dA pre.length)) fs⟩]++rest)from rfl,ih,uJ];simp
theorem a0C(n:aN)(fs:aO)(hf:FS fs)(h24:fs.length<=24)(ha:n.bM.length<=1048576)(hs:∀x∈n.bM,x.shape.wt<=1048576)(hp:FM n.nodes):ql n fs=some ⟨n.rules,n.ends,qY n.bM fs,rA n.nodes fs,fs,n.cS⟩:=by
 have hl:=hp.len;unfold ql;rw[Jp fs hf.1 (fun f WG=>by have:=aG.eo (hf.2 f WG);omega),aA];have e1:=UW n fs fs (fun(si:bS)=>(iI n fs fs si (fun(pR:bR)=>(some (⟨n.rules,n.ends,si,pR,fs,n.cS⟩:aN))) fuel 0 n.nodes)) hf n.bM hs ha n.bM [] fuel rfl (by unfold fuel;omega);refine e1.trans ?_;have e2:=UX n fs fs (qY n.bM fs) (fun(pR:bR)=>(some (⟨n.rules,n.ends,qY n.bM fs,pR,fs,n.cS⟩:aN))) hf h24 n.nodes hp n.nodes [] fuel rfl (by unfold fuel;omega);exact e2
theorem Sr{rs:au}{fs:aO}(h1:tD rs=true)(h2:o7 fs=true)(hr:sM aJ.wt rs<=1048576):ql (uQ rs [] 0) fs=some (uQ rs fs 0):=by
 have hv:=rJ h1;have h6:=xC h1;have hFS:=FS.U8 (fs:=fs) (by have:=FP h2;omega);have e:uQ rs [] 0=⟨rs,(iJ [] rs).2,(iJ [] rs).1.1,(iJ [⟨[],[]⟩] rs).1.2,[],0⟩:=by
  rw[<-Kk h1]
  congr 1
  ·rw[jl,jl]
  ·rw[jl,jl]
 have hf:(iJ [⟨[],[]⟩] rs).1.2.map rB=(iJ [] rs).1.2.map rB:=by rw[jl,jl];rfl
 rw[e,a0C _ fs hFS (zA h2) (by show(iJ [] rs).1.1.length<=1048576;have:=Jt [] h1;omega) (fun x hx=>(yU [] hv x hx).1) (Ih [⟨[],[]⟩] hv h6)];unfold uQ;dsimp only;have:rA (iJ [⟨[],[]⟩] rs).1.2 fs=rA (iJ [] rs).1.2 fs:=by
  refine mI fun i=>?_
  rw[wg,wg,yT hf (dA i)];rw[jl,jl];cases i with
  |zero=>rfl
  |succ i=>rfl
 rw[this]
theorem a0A(P:aJ->Prop)(hP:∀c c' r,eW c->js c=some (c',r)->P r)(c:cU)(h:eW c):∃c' rs fs t,sZ c=some (c',uQ rs fs t)/\eW c'/\tD rs=true/\sM aJ.wt rs<=1048576/\o7 fs=true/\fs.length<=8/\(∀x∈fs,x.rel.length<=2)/\0<=t/\t<50/\∀r∈rs,∃r0,P r0/\r.conds=r0.conds:=by
 unfold sZ;obtain⟨c1,rs,e1,h1,r1,r2,r3⟩:=a2t P hP c 4 h (by decide) (by decide);obtain⟨c2,fs,e2,h2,f1,f2,f3⟩:=a2v c1 8 h1 (by decide) (by decide);obtain⟨c3,t,e3,h3,t0,t1⟩:=vr c2 50 h2 (by decide) (by decide);rw[e1,aA,X3 rs r2,r1,aI,aA];dsimp only;rw[e2,aA];dsimp only;rw[Sr r1 f1 r2,aA,e3,aA];exact⟨_,rs,fs,t,rfl,h3,r1,r2,f1,by omega,f3,t0,t1,r3⟩
theorem Ro(P:aJ->Prop)(hP:∀c c' r,eW c->js c=some (c',r)->P r)(code:bJ)(h:code.length<=4096):∃rs fs t,kD code=some (uQ rs fs t)/\tD rs=true/\sM aJ.wt rs<=1048576/\o7 fs=true/\fs.length<=8/\(∀x∈fs,x.rel.length<=2)/\0<=t/\t<50/\∀r∈rs,∃r0,P r0/\r.conds=r0.conds:=by
 unfold kD;obtain⟨c0,e0,h0⟩:=a2m code h;obtain⟨c1,rs,fs,t,e1,_,q⟩:=a0A P hP c0 h0;rw[e0,aA,e1,aA];exact⟨rs,fs,t,rfl,q⟩
end Go.Cx
namespace Go.Cx
open Go.RowKit Go.Proofs Tryz
theorem xj{a b:Bytes}(h:a.length+b.length<=1099511627776):decide ((a:Bytes).length+(b:Bytes).length<=maxLen)=true:=by unfold maxLen;simp;omega
theorem Yq(a b:Int):(a==b)=decide (a=b):=by rw[bg];simp
theorem Wg(sep:Bytes)(B:Nat):∀(xs:aF),(∀x∈xs,x.length<=B)->(Lib.joinTail sep xs).length<=xs.length*(sep.length+B):=by
 intro xs
 induction xs with
 |nil=>intro _;simp[Lib.joinTail]
 |cons x xs ih=>
  intro h;have h1:=ih fun y hy=>h y (by simp[hy])
  have h2:=h x (by simp);have:(Lib.joinTail sep (x::xs)).length=sep.length+x.length+(Lib.joinTail sep xs).length:=by simp[Lib.joinTail,n8]
  rw[this,aT,gU];omega
theorem Ti(sep:Bytes)(B:Nat)(xs:aF)(h:∀x∈xs,x.length<=B):(Lib.join xs sep).length<=xs.length*(sep.length+B):=by
 cases xs with
 |nil=>simp[Lib.join_nil]
 |cons x r=>
  have h1:=Wg sep B r fun y hy=>h y (by simp[hy])
  have h2:=h x (by simp);rw[Lib.join_cons,av,aT,gU];omega
theorem a25(xs:aF)(sep:Bytes)(h:(Lib.join xs sep).length<=1099511627776)(hn:xs.length<=1099511627776):vD xs sep=some (Lib.join xs sep):=by
 have h1:(Lib.join xs sep).length<=140737488355328:=by omega
 have h2:xs.length<=140737488355328:=by omega
 simp[vD,xa,Lv,h1,h2]
def Ya(p:aG):Bytes:=((p.rel++[40])++Lib.join p.args [44])++[41]
def RA(p:aG):Bytes:=bif xk p then Ya p else []
theorem Nb{p:aG}(h:xk p=true):p.rel.length<=8/\(Lib.join p.args [44]).length<=30/\p.args.length<=3:=by
 simp only[xk,aY,bK,aj]at h;have h1:=(HW h.2.1).2;have h2:=Ti [44] 9 p.args fun x hx=>(D3 (h.1 x hx)).2
 simp only[aT,bW]at h2;omega
theorem N7(p:aG):(RA p).length<=40:=by
 unfold RA;cases h:xk p with
 |false=>simp
 |true=>have:=Nb h;simp[Ya];omega
theorem a1z(p:aG)(h:p.wt<=1048576):jS p=some (RA p):=by
 unfold jS RA;rw[WS p h,aA];cases hp:xk p with
 |false=>rfl
 |true=>
  have:=Nb hp;rw[bn,aW,xj (by simp;omega),aI,a25 _ _ (by omega) (by omega),aA,xj (by simp;omega),aI,xj (by simp;omega),aI,aI];rfl
def Qc(k:Int):Bytes:=bif decide (k=3)then [32,61,32]else bif decide (k=4)then [32,33,61,32]else [32,60,32]
theorem L3(k:Int):(Qc k).length<=4:=by unfold Qc;cases decide (k=3)<;>cases decide (k=4)<;>simp
def fmtC(c:aH):Bytes:=bif n9 c then(bif decide (c.kind=1)then RA c.pat else bif decide (c.kind=2)then [110,111,116,32]++RA c.pat else(c.left++Qc c.kind)++c.right)else []
theorem Hs{c:aH}(h:n9 c=true)(h1:c.kind≠1)(h2:c.kind≠2):c.left.length<=9/\c.right.length<=9/\(c.kind=3\/c.kind=4\/c.kind=5):=by
 have hk:=A5 h;unfold n9 at h;rw[bG h1,bG h2]at h;simp only[qe,aW]at h;have h3:(decide (c.kind=3)||decide (c.kind=4)||decide (c.kind=5))=true:=by simp;omega
 rw[h3,aI]at h;simp only[aY]at h;exact⟨(D3 h.2.1).2,(D3 h.2.2).2,by omega⟩
theorem Ss(c:aH):(fmtC c).length<=44:=by
 have hp:=N7 c.pat;unfold fmtC;cases h:n9 c with
 |false=>simp
 |true=>
  rw[aI];by_cases h1:c.kind=1
  ·rw[bB h1,aI];omega
  ·rw[bG h1,aW];by_cases h2:c.kind=2
   ·rw[bB h2,aI];simp;omega
   ·rw[bG h2,aW];have:=Hs h h1 h2;have:=L3 c.kind;simp;omega
theorem a1y(c:aH)(h:c.wt<=1048576):oA c=some (fmtC c):=by
 have hp:=N7 c.pat;unfold oA fmtC;rw[QJ c h,aA,Yq,Yq,a1z c.pat (aH.fE h),aA,aA];cases hc:n9 c with
 |false=>rfl
 |true=>
  rw[bn,aW,aI];by_cases h1:c.kind=1
  ·rw[bB h1];rfl
  ·rw[bG h1,aW,aW];by_cases h2:c.kind=2
   ·rw[bB h2,aI,aI,xj (by simp;omega)];rfl
   ·rw[bG h2,aW,aW];have ht:=Hs hc h1 h2;have hs:=L3 c.kind;have e:iM ([[32,61,32],[32,33,61,32],[32,60,32]]:aF) (IntKind.i64.wrap (c.kind-3))=some (Qc c.kind):=by
     rcases ht.2.2 with hk|hk|hk<;>rw[hk]<;>rfl
    rw[e,aA,xj (by omega),aI,xj (by simp;omega),aI]
def QR(x:Node)(i:Int):Bytes:=bif decide (i=0)then [48,58,32]++(([91]++Lib.itoa (x.tokens.length:Int))++[93])else(((((Lib.itoa i++[32,60,45,32])++Lib.itoa x.parent)++[58,32])++fmtC x.cond)++[32])++(([91]++Lib.itoa (x.tokens.length:Int))++[93])
def QO(n:aN)(i:Int):Bytes:=match iM n.nodes i with|some x=>QR x i|none=>[]
end Go.Cx
namespace Go.Cx
open Go.RowKit Go.Proofs Tryz
theorem ZV(n:aN)(i:Int)(hl:n.nodes.length<=1048576)(hn:∀x∈n.nodes,x.cond.wt<=1048576/\x.tokens.length<=1048576)(hi:nS .i64 i)(hp:∀x∈n.nodes,nS .i64 x.parent):qM n i=some (QO n i):=by
 unfold qM QO;rw[ar];by_cases hin:0<=i/\i<(n.nodes.length:Int)
 ·have e1:decide (i<0)=false:=by simp;omega
  have e3:decide (i>=(n.nodes.length:Int))=false:=by simp;omega
  have hlt:i.toNat<n.nodes.length:=by omega
  have e2:iM n.nodes i=some n.nodes[i.toNat]:=by unfold iM;rw[bB hin.1,aI];exact aV hlt
  rw[e1,e2,aW,e3,aW,aA];generalize hx:n.nodes[i.toNat]=x;have QH:x∈n.nodes:=hx▸lD hlt;obtain⟨hw,ht⟩:=hn x QH;have i1:=xg i hi;have i2:=xg x.parent (hp x QH);have hti:nS .i64 ((x.tokens.length:Nat):Int):=nS.i64.2 (by omega);have i3:=xg _ hti;have i4:=Ss x.cond;rw[ar,RI,aA,xj (by simp;omega),aI,xj (by simp;omega),aI,Yq,xj (by simp;omega),aI,RI,aA,xj (by simp;omega),aI,RI,aA,xj (by simp;omega),aI,xj (by simp;omega),aI,a1y x.cond hw,aA,xj (by simp;omega),aI,xj (by simp;omega),aI,xj (by simp;omega),aI];simp only[QR];cases decide (i=0)<;>rfl
 ·by_cases h0:i<0
  ·have e2:iM n.nodes i=none:=by unfold iM;rw[bG (by omega)];rfl
   rw[bB h0,e2];rfl
  ·have e2:iM n.nodes i=none:=by unfold iM;rw[bB (by omega),aI,cB];omega
   have e3:decide (i>=(n.nodes.length:Int))=true:=by simp;omega
   rw[bG h0,aW,e3,e2];rfl
theorem Ts(x:Node)(i:Int)(h:i≠0):(QR x i==([]:Bytes))=false:=by
 unfold QR;rw[bG h,aW,cT];intro e;have:=congrArg List.length e;simp at this
end Go.Cx
namespace Go.Cx
open Go.RowKit Go.Proofs Tryz
set_option maxRecDepth 100000
variable{Γ:sO}{N:Nat->St->Prop}
def AH(aC:bJ):Option Bool:=(some (decide ((((aC.map yx).length:Int):Int)>4096)))
theorem Ag{aC:bJ}{r:Bool}(h:AH aC=some r):Good prog 10 [D.sl (aC.map yx)] (D.bool r):=by
 refine gd func10 [[none]] 6 fun hr Γ hΓ=>?_
 rw[AH]at h;cases h;exact aU.ret hΓ
end Go.Cx
namespace Go.Cx
open Go.RowKit Go.Proofs Tryz
set_option maxRecDepth 100000
variable{Γ:sO}{N:Nat->St->Prop}
def kB(y4:aN)(eE:Int)(i2:Nat)(jM:aX)(x882:Node)(x884:Node)(yR:Nat)(yV:Nat)(k3:Bool->Option Bool):bE->Nat->Bool->Option Bool
 | [],i3,Cj=>(k3 Cj)
 |Nv::LF,i3,Cj=>(bif Cj then(kB y4 eE i2 jM x882 x884 yR yV k3 LF (i3+1) true)else((fe Nv (⟨(jM.facts.take yV).drop yR,[]⟩:aX)).bind fun Nw=>(kB y4 eE i2 jM x882 x884 yR yV k3 LF (i3+1) ((Nw:Int)==0))))
def mQ(y4:aN)(eE:Int)(i2:Nat)(jM:aX)(x882:Node)(x884:Node)(k4:Bool->Option Bool):bE->Nat->Bool->Option Bool
 | [],i4,Ck=>(k4 Ck)
 |VT::XL,i4,Ck=>(bif Ck then(mQ y4 eE i2 jM x882 x884 k4 XL (i4+1) true)else((fe VT (⟨jM.facts,[]⟩:aX)).bind fun Nx=>(mQ y4 eE i2 jM x882 x884 k4 XL (i4+1) ((Nx:Int)==0))))
def kC(y4:aN)(eE:Int)(i2:Nat)(jM:aX)(x882:Node)(x884:Node)(k5:Bool->Option Bool):bE->Nat->Bool->Option Bool
 | [],i5,Cl=>(k5 Cl)
 |x5_::xs5,i5,Cl=>(bif Cl then(kC y4 eE i2 jM x882 x884 k5 xs5 (i5+1) true)else((fe x5_ (⟨jM.facts,[]⟩:aX)).bind fun Ny=>(kC y4 eE i2 jM x882 x884 k5 xs5 (i5+1) ((Ny:Int)==0))))
def gQ(y4:aN)(eE:Int)(x882:Node)(x884:Node)(k2:Option Bool):bE->Nat->Option Bool
 | [],i2=>(k2)
 |jM::uO,i2=>((iM y4.nodes eE).bind fun x1231=>(bif (x1231.cond.kind:Int)==1 then(bif decide ((((jM.facts.map aG.c).length:Int):Int)>0)then((yE (jM.facts.map aG.c).length none (some (D.int .i64 (IntKind.i64.wrap (((jM.facts.map aG.c).length:Int)-1))))).bind fun p=>(fun yR yV=>(bif decide (x884.tokens.length<=maxLen)then(kB y4 eE i2 jM x882 x884 yR yV (fun(O2:Bool)=>(bif !(O2)then(some false)else(gQ y4 eE x882 x884 k2 uO (i2+1)))) x884.tokens 0 false)else none)) p.1 p.2)else(bif decide (x884.tokens.length<=maxLen)then(mQ y4 eE i2 jM x882 x884 (fun(O3:Bool)=>(bif !(O3)then(some false)else(gQ y4 eE x882 x884 k2 uO (i2+1)))) x884.tokens 0 false)else none))else(bif decide (x884.tokens.length<=maxLen)then(kC y4 eE i2 jM x882 x884 (fun(O4:Bool)=>(bif !(O4)then(some false)else(gQ y4 eE x882 x884 k2 uO (i2+1)))) x884.tokens 0 false)else none)))
def ia(y4:aN)(k1:Option Bool):Nat->Int->Option Bool
 |0,_=>none
 |n1+1,eE=>(bif decide ((eE:Int)<((y4.nodes.map Node.c).length:Int))then((qg y4 eE).bind fun XS=>((iM y4.nodes eE).bind fun x882=>((iM y4.nodes x882.parent).bind fun x884=>(bif (((XS.map aH.c).length:Int):Int)==0 then(some false)else((iM XS (IntKind.i64.wrap (((XS.map aH.c).length:Int)-1))).bind fun x887=>((nv x887 x882.cond).bind fun a3M=>(bif !(a3M)then(some false)else((qM y4 eE).bind fun a3N=>(bif (a3N:Bytes)==([])then(some false)else(bif decide (x882.tokens.length<=maxLen)then(gQ y4 eE x882 x884 (ia y4 k1 n1 (IntKind.i64.wrap (eE+1))) x882.tokens 0)else none))))))))))else(k1))
def uD(aC:bJ):Option Bool:=((AH aC).bind fun y1=>(bif y1 then(some true)else((kD aC).bind fun y4=>((oz y4).bind fun y6=>(bif !(y6)then(some false)else(ia y4 (some true) fuel 1))))))
def Ff(y4:aN)(eE:Int):St:=⟨[(3,D.ptr 0 0),(4,D.int .i64 eE)],[Ob.box [D.acc 1,D.acc 2,D.acc 3,D.acc 4,D.acc 5,D.int .i64 y4.cS],Ob.row .uq 80 4 (y4.rules.map aJ.c),Ob.row .uq 3 1 (y4.ends.map mR),Ob.row .uq 93 3 (y4.bM.map ai.c),Ob.row .uq 50 8 (y4.nodes.map Node.c),Ob.row .uq 37 2 (y4.facts.map aG.c)]⟩
def Fg(y4:aN)(eE:Int)(x882:Node)(x884:Node)(dQ:Int):St:=⟨[(3,D.ptr 0 0),(4,D.int .i64 eE),(6,D.sl (x884.tokens.map aX.c)),(7,D.sl (x882.tokens.map aX.c)),(8,D.int .i64 dQ)],[Ob.box [D.acc 1,D.acc 2,D.acc 3,D.acc 4,D.acc 5,D.int .i64 y4.cS],Ob.row .uq 80 4 (y4.rules.map aJ.c),Ob.row .uq 3 1 (y4.ends.map mR),Ob.row .uq 93 3 (y4.bM.map ai.c),Ob.row .uq 50 8 (y4.nodes.map Node.c),Ob.row .uq 37 2 (y4.facts.map aG.c)]⟩
def Fh(y4:aN)(eE:Int)(i2:Nat)(jM:aX)(x882:Node)(x884:Node)(yR:Nat)(yV:Nat)(Cj:Bool)(dQ:Int):St:=⟨[(3,D.ptr 0 0),(4,D.int .i64 eE),(6,D.sl (x884.tokens.map aX.c)),(7,D.sl (x882.tokens.map aX.c)),(8,D.int .i64 (i2:Int)),(9,D.ptr 1 0),(10,D.bool Cj),(11,D.int .i64 dQ)],[Ob.box [D.acc 2,D.acc 3,D.acc 4,D.acc 5,D.acc 6,D.int .i64 y4.cS],Ob.box [D.sl (((jM.facts.map aG.c).take yV).drop yR),D.nil],Ob.row .uq 80 4 (y4.rules.map aJ.c),Ob.row .uq 3 1 (y4.ends.map mR),Ob.row .uq 93 3 (y4.bM.map ai.c),Ob.row .uq 50 8 (y4.nodes.map Node.c),Ob.row .uq 37 2 (y4.facts.map aG.c)]⟩
theorem ES(hΓ:Γ.nt=123){y4:aN}{eE:Int}{i2:Nat}{jM:aX}{x882:Node}{x884:Node}{yR:Nat}{yV:Nat}{r:Bool}{k3:Bool->Option Bool}(W8:∀(O2:Bool),k3 O2=some r->Ax Γ N f4 (.q [[none]] (D.bool r)) [1,1,1,1,0,1,0,0,1,0,0,1,1,1,1,1,0,0,1,0,0,1,1,1,1] ⟨[(3,D.ptr 0 0),(4,D.int .i64 eE),(6,D.sl (x884.tokens.map aX.c)),(7,D.sl (x882.tokens.map aX.c)),(8,D.int .i64 (i2:Int)),(10,D.bool O2)],[Ob.box [D.acc 1,D.acc 2,D.acc 3,D.acc 4,D.acc 5,D.int .i64 y4.cS],Ob.row .uq 80 4 (y4.rules.map aJ.c),Ob.row .uq 3 1 (y4.ends.map mR),Ob.row .uq 93 3 (y4.bM.map ai.c),Ob.row .uq 50 8 (y4.nodes.map Node.c),Ob.row .uq 37 2 (y4.facts.map aG.c)]⟩)(O8:x884.tokens.length<=maxLen):∀(rest:bE) (i3:Nat) (Cj:Bool),x884.tokens.drop i3=rest->kB y4 eE i2 jM x882 x884 yR yV k3 rest i3 Cj=some r->Ar Γ N f4 (.q [[none]] (D.bool r)) [1,1,1,1,0,1,0,0,1,0,0,1,1,1,1,1,0,0,1,0,0,1,1,1,0,1,0] (rest.length+1) (Fh y4 eE i2 jM x882 x884 yR yV Cj (i3:Int)):=by
 intro rest
 induction rest with
 |nil=>
  intro i3 Cj vo h;rw[kB]at h;refine aR fun N3 QB Kn=>?_
  exact((aU.ge aX.c vo).a [.hl 9 [3,4,6,7,8,10] [0,2,3,4,5,6]]).ex hΓ QB (W8 Cj h)
 |cons Nv LF ih3=>
  intro i3 Cj vo h;rw[kB]at h;refine aR fun N3 QB Kn=>?_
  have Xt:=((aU.lt aX.c vo).a [.n 7])
  obtain⟨h1258,h⟩|⟨h1258,h⟩:=aM h
  ·exact((Xt.r 8 h1258).a [.cn [3,4,6,7,8,9,10,11] [0,1,2,3,4,5,6]]).ct hΓ Kn (iS vo O8) (ih3 (i3+1) true (dn vo) h)
  ·obtain⟨Nw,h1260,h⟩:=aB h;exact(((((((Xt.r 3 h1258).l (bI aX.c 2 (dc vo) rfl)).r 3 h1258).a [.d (D.int .i64 Nw)]).w (show Good prog 20 [D.agg (aX.c Nv),D.agg [D.sl (((jM.facts.map aG.c).take yV).drop yR),D.sl ([])]] (D.int .i64 Nw)from by first| (simpa only[b8,bC,bf,bX,bY]using cw h1260)|exact cw h1260| (have t:=cw h1260;simp only[b8,bX,bY,aX.c]at t;exact t))).r 2 h1258).a [.cn [3,4,6,7,8,9,10,11] [0,1,2,3,4,5,6]]).ct hΓ Kn (iS vo O8) (ih3 (i3+1) ((Nw:Int)==0) (dn vo) h)
def Fi(y4:aN)(eE:Int)(i2:Nat)(jM:aX)(x882:Node)(x884:Node)(Ck:Bool)(dQ:Int):St:=⟨[(3,D.ptr 0 0),(4,D.int .i64 eE),(6,D.sl (x884.tokens.map aX.c)),(7,D.sl (x882.tokens.map aX.c)),(8,D.int .i64 (i2:Int)),(9,D.ptr 1 0),(10,D.bool Ck),(11,D.int .i64 dQ)],[Ob.box [D.acc 2,D.acc 3,D.acc 4,D.acc 5,D.acc 6,D.int .i64 y4.cS],Ob.box [D.sl (jM.facts.map aG.c),D.nil],Ob.row .uq 80 4 (y4.rules.map aJ.c),Ob.row .uq 3 1 (y4.ends.map mR),Ob.row .uq 93 3 (y4.bM.map ai.c),Ob.row .uq 50 8 (y4.nodes.map Node.c),Ob.row .uq 37 2 (y4.facts.map aG.c)]⟩
theorem ET(hΓ:Γ.nt=123){y4:aN}{eE:Int}{i2:Nat}{jM:aX}{x882:Node}{x884:Node}{r:Bool}{k4:Bool->Option Bool}(hE4:∀(O3:Bool),k4 O3=some r->Ax Γ N f4 (.q [[none]] (D.bool r)) [1,1,1,1,0,1,0,0,1,0,0,1,1,1,1,1,0,0,1,0,0,1,1,1,1] ⟨[(3,D.ptr 0 0),(4,D.int .i64 eE),(6,D.sl (x884.tokens.map aX.c)),(7,D.sl (x882.tokens.map aX.c)),(8,D.int .i64 (i2:Int)),(10,D.bool O3)],[Ob.box [D.acc 1,D.acc 2,D.acc 3,D.acc 4,D.acc 5,D.int .i64 y4.cS],Ob.row .uq 80 4 (y4.rules.map aJ.c),Ob.row .uq 3 1 (y4.ends.map mR),Ob.row .uq 93 3 (y4.bM.map ai.c),Ob.row .uq 50 8 (y4.nodes.map Node.c),Ob.row .uq 37 2 (y4.facts.map aG.c)]⟩)(hm4:x884.tokens.length<=maxLen):∀(rest:bE) (i4:Nat) (Ck:Bool),x884.tokens.drop i4=rest->mQ y4 eE i2 jM x882 x884 k4 rest i4 Ck=some r->Ar Γ N f4 (.q [[none]] (D.bool r)) [1,1,1,1,0,1,0,0,1,0,0,1,1,1,1,1,0,0,1,0,0,1,1,1,0,1,0] (rest.length+1) (Fi y4 eE i2 jM x882 x884 Ck (i4:Int)):=by
 intro rest
 induction rest with
 |nil=>
  intro i4 Ck IZ h;rw[mQ]at h;refine aR fun N4 Xe W9=>?_
  exact((aU.ge aX.c IZ).a [.hl 9 [3,4,6,7,8,10] [0,2,3,4,5,6]]).ex hΓ Xe (hE4 Ck h)
 |cons VT XL ih4=>
  intro i4 Ck IZ h;rw[mQ]at h;refine aR fun N4 Xe W9=>?_
  have Xu:=((aU.lt aX.c IZ).a [.n 7])
  obtain⟨h1283,h⟩|⟨h1283,h⟩:=aM h
  ·exact((Xu.r 8 h1283).a [.cn [3,4,6,7,8,9,10,11] [0,1,2,3,4,5,6]]).ct hΓ W9 (iS IZ hm4) (ih4 (i4+1) true (dn IZ) h)
  ·obtain⟨Nx,h1285,h⟩:=aB h;exact(((((((Xu.r 3 h1283).l (bI aX.c 2 (dc IZ) rfl)).r 3 h1283).a [.d (D.int .i64 Nx)]).w (show Good prog 20 [D.agg (aX.c VT),D.agg [D.sl (jM.facts.map aG.c),D.sl ([])]] (D.int .i64 Nx)from by first| (simpa only[b8,bC,bf,bX,bY]using cw h1285)|exact cw h1285| (have t:=cw h1285;simp only[b8,bX,bY,aX.c]at t;exact t))).r 2 h1283).a [.cn [3,4,6,7,8,9,10,11] [0,1,2,3,4,5,6]]).ct hΓ W9 (iS IZ hm4) (ih4 (i4+1) ((Nx:Int)==0) (dn IZ) h)
def Fj(y4:aN)(eE:Int)(i2:Nat)(jM:aX)(x882:Node)(x884:Node)(Cl:Bool)(dQ:Int):St:=⟨[(3,D.ptr 0 0),(4,D.int .i64 eE),(6,D.sl (x884.tokens.map aX.c)),(7,D.sl (x882.tokens.map aX.c)),(8,D.int .i64 (i2:Int)),(9,D.ptr 1 0),(10,D.bool Cl),(11,D.int .i64 dQ)],[Ob.box [D.acc 2,D.acc 3,D.acc 4,D.acc 5,D.acc 6,D.int .i64 y4.cS],Ob.box [D.sl (jM.facts.map aG.c),D.nil],Ob.row .uq 80 4 (y4.rules.map aJ.c),Ob.row .uq 3 1 (y4.ends.map mR),Ob.row .uq 93 3 (y4.bM.map ai.c),Ob.row .uq 50 8 (y4.nodes.map Node.c),Ob.row .uq 37 2 (y4.facts.map aG.c)]⟩
theorem EU(hΓ:Γ.nt=123){y4:aN}{eE:Int}{i2:Nat}{jM:aX}{x882:Node}{x884:Node}{r:Bool}{k5:Bool->Option Bool}(hE5:∀(O4:Bool),k5 O4=some r->Ax Γ N f4 (.q [[none]] (D.bool r)) [1,1,1,1,0,1,0,0,1,0,0,1,1,1,1,1,0,0,1,0,0,1,1,1,1] ⟨[(3,D.ptr 0 0),(4,D.int .i64 eE),(6,D.sl (x884.tokens.map aX.c)),(7,D.sl (x882.tokens.map aX.c)),(8,D.int .i64 (i2:Int)),(10,D.bool O4)],[Ob.box [D.acc 1,D.acc 2,D.acc 3,D.acc 4,D.acc 5,D.int .i64 y4.cS],Ob.row .uq 80 4 (y4.rules.map aJ.c),Ob.row .uq 3 1 (y4.ends.map mR),Ob.row .uq 93 3 (y4.bM.map ai.c),Ob.row .uq 50 8 (y4.nodes.map Node.c),Ob.row .uq 37 2 (y4.facts.map aG.c)]⟩)(hm5:x884.tokens.length<=maxLen):∀(rest:bE) (i5:Nat) (Cl:Bool),x884.tokens.drop i5=rest->kC y4 eE i2 jM x882 x884 k5 rest i5 Cl=some r->Ar Γ N f4 (.q [[none]] (D.bool r)) [1,1,1,1,0,1,0,0,1,0,0,1,1,1,1,1,0,0,1,0,0,1,1,1,0,1,0] (rest.length+1) (Fj y4 eE i2 jM x882 x884 Cl (i5:Int)):=by
 intro rest
 induction rest with
 |nil=>
  intro i5 Cl O6 h;rw[kC]at h;refine aR fun N5 hN5 hS5=>?_
  exact((aU.ge aX.c O6).a [.hl 9 [3,4,6,7,8,10] [0,2,3,4,5,6]]).ex hΓ hN5 (hE5 Cl h)
 |cons x5_ xs5 ih5=>
  intro i5 Cl O6 h;rw[kC]at h;refine aR fun N5 hN5 hS5=>?_
  have Xv:=((aU.lt aX.c O6).a [.n 7])
  obtain⟨h1308,h⟩|⟨h1308,h⟩:=aM h
  ·exact((Xv.r 8 h1308).a [.cn [3,4,6,7,8,9,10,11] [0,1,2,3,4,5,6]]).ct hΓ hS5 (iS O6 hm5) (ih5 (i5+1) true (dn O6) h)
  ·obtain⟨Ny,h1310,h⟩:=aB h;exact(((((((Xv.r 3 h1308).l (bI aX.c 2 (dc O6) rfl)).r 3 h1308).a [.d (D.int .i64 Ny)]).w (show Good prog 20 [D.agg (aX.c x5_),D.agg [D.sl (jM.facts.map aG.c),D.sl ([])]] (D.int .i64 Ny)from by first| (simpa only[b8,bC,bf,bX,bY]using cw h1310)|exact cw h1310| (have t:=cw h1310;simp only[b8,bX,bY,aX.c]at t;exact t))).r 2 h1308).a [.cn [3,4,6,7,8,9,10,11] [0,1,2,3,4,5,6]]).ct hΓ hS5 (iS O6 hm5) (ih5 (i5+1) ((Ny:Int)==0) (dn O6) h)
theorem ER(hΓ:Γ.nt=123){y4:aN}{eE:Int}{x882:Node}{x884:Node}{r:Bool}{k2:Option Bool}(Ak:k2=some r->Ax Γ N f4 (.q [[none]] (D.bool r)) [1,1,1,1,0,1,0,0,1,1] ⟨[(3,D.ptr 0 0),(4,D.int .i64 eE)],[Ob.box [D.acc 1,D.acc 2,D.acc 3,D.acc 4,D.acc 5,D.int .i64 y4.cS],Ob.row .uq 80 4 (y4.rules.map aJ.c),Ob.row .uq 3 1 (y4.ends.map mR),Ob.row .uq 93 3 (y4.bM.map ai.c),Ob.row .uq 50 8 (y4.nodes.map Node.c),Ob.row .uq 37 2 (y4.facts.map aG.c)]⟩)(hm2:x882.tokens.length<=maxLen):∀(rest:bE) (i2:Nat),x882.tokens.drop i2=rest->gQ y4 eE x882 x884 k2 rest i2=some r->Ar Γ N f4 (.q [[none]] (D.bool r)) [1,1,1,1,0,1,0,0,1,0,0,1,1,1,1,1,0] (rest.length+1) (Fg y4 eE x882 x884 (i2:Int)):=by
 intro rest
 induction rest with
 |nil=>
  intro i2 hd2 h;rw[gQ]at h;refine aR fun N2 um sL=>?_
  exact((aU.ge aX.c hd2).a [.hl 3 [3,4] [0,1,2,3,4,5]]).ex hΓ um (Ak h)
 |cons jM uO ih2=>
  intro i2 hd2 h;rw[gQ]at h;refine aR fun N2 um sL=>?_
  obtain⟨x1231,h1232,h⟩:=aB h;have Xw:=((((aU.lt aX.c hd2).l (bI aX.c 2 (dc hd2) rfl)).i (fc Node.c 8 h1232)).o 8 2 .uq (cH Node.c (dR h1232)))
  obtain⟨h1233,h⟩|⟨h1233,h⟩:=aM h
  ·have Xx:=(Xw.r 5 h1233)
   obtain⟨h1234,h⟩|⟨h1234,h⟩:=aM h
   ·obtain⟨⟨yR,yV⟩,h1237,h⟩:=aB h;obtain⟨h1262,h⟩:=bQ h;refine(((Xx.b h1234).w (show yE (jM.facts.map aG.c).length none (some (D.int .i64 (IntKind.i64.wrap (((jM.facts.map aG.c).length:Int)-1))))=some (yR,yV)/\((jM.facts.map aG.c).all fun r=>r.length==2)=true from⟨h1237,by simp[aj]⟩)).a [.cut yR yV,.cn [3,4,6,7,8,9,10,11] [0,6,1,2,3,4,5]]).lp hΓ (ES hΓ (fun O2 h=>?_) (ay h1262) x884.tokens 0 false rfl h);obtain⟨h1261,h⟩|⟨h1261,h⟩:=aM h
    ·have h:=aK h;subst h;exact(aU.b h1261).ret hΓ
    ·exact((aU.b h1261).a [.cn [3,4,6,7,8] [0,1,2,3,4,5]]).ct hΓ sL (iS hd2 hm2) (ih2 (i2+1) (dn hd2) h)
   ·obtain⟨h1287,h⟩:=bQ h;refine((Xx.b h1234).a [.cn [3,4,6,7,8,9,10,11] [0,6,1,2,3,4,5]]).lp hΓ (ET hΓ (fun O3 h=>?_) (ay h1287) x884.tokens 0 false rfl h);obtain⟨h1286,h⟩|⟨h1286,h⟩:=aM h
    ·have h:=aK h;subst h;exact(aU.b h1286).ret hΓ
    ·exact((aU.b h1286).a [.cn [3,4,6,7,8] [0,1,2,3,4,5]]).ct hΓ sL (iS hd2 hm2) (ih2 (i2+1) (dn hd2) h)
  ·obtain⟨h1312,h⟩:=bQ h;refine(((Xw.r 5 h1233).F 1).a [.cn [3,4,6,7,8,9,10,11] [0,6,1,2,3,4,5]]).lp hΓ (EU hΓ (fun O4 h=>?_) (ay h1312) x884.tokens 0 false rfl h);obtain⟨h1311,h⟩|⟨h1311,h⟩:=aM h
   ·have h:=aK h;subst h;exact(aU.b h1311).ret hΓ
   ·exact((aU.b h1311).a [.cn [3,4,6,7,8] [0,1,2,3,4,5]]).ct hΓ sL (iS hd2 hm2) (ih2 (i2+1) (dn hd2) h)
theorem EQ(hΓ:Γ.nt=123){y4:aN}{r:Bool}{k1:Option Bool}(eR:k1=some r->Ax Γ N f4 (.q [[none]] (D.bool r)) [1,1,1,1,1] ⟨[],[]⟩):∀(n1:Nat) (eE:Int),ia y4 k1 n1 eE=some r->Ar Γ N f4 (.q [[none]] (D.bool r)) [1,1,1,1,0,1,0] n1 (Ff y4 eE):=by
 intro n
 induction n with
 |zero=>intro eE h;simp[ia]at h
 |succ n1 ih1=>
  intro eE h;rw[ia]at h;refine aR fun N1 cW cL=>?_
  obtain⟨h879,h⟩|⟨h879,h⟩:=aM h
  ·obtain⟨XS,h881,h⟩:=aB h;obtain⟨x882,h883,h⟩:=aB h;obtain⟨x884,h885,h⟩:=aB h;have Xy:=((((((((((aU.b h879).g (pY h881)).a [.n 8]).i (fc Node.c 8 h883)).o 8 1 .uq (cH Node.c (dR h883))).i (fc Node.c 8 h885)).o 8 8 .uq (cH Node.c (dR h885))).i (fc Node.c 8 h883)).o 8 8 .uq (cH Node.c (dR h883))).a [.n 22])
   obtain⟨h886,h⟩|⟨h886,h⟩:=aM h
   ·have h:=aK h;subst h;exact((Xy.r 15 h886).T 6).ret hΓ
   ·obtain⟨x887,h888,h⟩:=aB h;obtain⟨a3M,h890,h⟩:=aB h;have Xz:=(((((((((((Xy.r 5 h886).i (fc aH.c 5 h888)).b h886).o 5 5 .uq (cH aH.c (dR h888))).r 4 h886).i (fc Node.c 8 h883)).r 2 h886).o 8 6 .uq (cH Node.c (dR h883))).b h886).g (vO h890)).r 2 h886)
    obtain⟨h891,h⟩|⟨h891,h⟩:=aM h
    ·have h:=aK h;subst h;exact((Xz.r 5 h891).T 1).ret hΓ
    ·obtain⟨a3N,h893,h⟩:=aB h;have Y0:=(((Xz.r 3 h891).g (Bl h893)).r 2 h891)
     obtain⟨h894,h⟩|⟨h894,h⟩:=aM h
     ·have h:=aK h;subst h;exact(Y0.b h894).ret hΓ
     ·obtain⟨h1313,h⟩:=bQ h;refine((Y0.b h894).a [.cn [3,4,6,7,8] [0,1,2,3,4,5]]).lp hΓ (ER hΓ (fun h=>?_) (ay h1313) x882.tokens 0 rfl h);exact(aU.a [.cn [3,4] [0,1,2,3,4,5]]).cf hΓ cL (ih1 (IntKind.i64.wrap (eE+1)) h)
  ·exact((aU.b h879).a [.hl 0 [] []]).ex hΓ cW (eR h)
theorem DR{aC:bJ}{r:Bool}(h:uD aC=some r):Good prog 4 [D.sl (aC.map yx)] (D.bool r):=by
 refine gd func4 [[none]] 123 fun hr Γ hΓ=>?_
 rw[uD]at h;obtain⟨y1,h2,h⟩:=aB h;obtain⟨h3,h⟩|⟨h3,h⟩:=aM h
 ·have h:=aK h;subst h;exact((aU.g (Ag h2)).b h3).ret hΓ
 ·obtain⟨y4,h5,h⟩:=aB h;obtain⟨y6,h7,h⟩:=aB h;have Y1:=((((aU.g (Ag h2)).b h3).g (wS h5)).g (B1 h7))
  obtain⟨h8,h⟩|⟨h8,h⟩:=aM h
  ·have h:=aK h;subst h;exact(Y1.b h8).ret hΓ
  ·refine((Y1.b h8).a [.cn [3,4] [5,0,1,2,3,4]]).lp hΓ (EQ hΓ (fun h=>?_) fuel 1 h);have h:=aK h;subst h;exact aU.ret hΓ
end Go.Cx
namespace Go.Cx
open Go.RowKit Go.Proofs Tryz
namespace LawFnNodes
theorem Q4{L:bE->Nat->Bool->Option Bool}{k:Bool->Option Bool}{F:aO}(qZ:∀i v,L [] i v=k v)
 (pS:∀x xs i v,L (x::xs) i v=bif v then L xs (i+1) true else((fe x (⟨F,[]⟩:aX)).bind fun y=>L xs (i+1) ((y:Int)==0))):
 ∀(rest:bE) (i:Nat) (v:Bool),L rest i v=k (v||rest.any fun x=>decide (x.facts=F))
 | [],i,v=>by rw[qZ];simp
 |x::xs,i,v=>by
  rw[pS];cases v with
  |true=>rw[aI,Q4 qZ pS xs];simp
  |false=>
   rw[aW,a1s,aA,Q4 qZ pS xs,v7,qd];have:((cmpL pQ x.facts F:Int)==0)=decide (x.facts=F):=by
    rw[bg];simp only[cQ,bK];exact R1
   show k ((cmpL pQ x.facts F==0)||_)=_;rw[this]
theorem Tl(n:aN)(v:Int)(x p:Node)(K:Option Bool)(hx:iM n.nodes v=some x)(hp:p.tokens.length<=1048576)(fs:aO)(ht:x.tokens=tg fs p.tokens x.cond)(hF:∀u∈x.tokens,u.facts.length<=1048576):∀(l:bE) (i:Nat),(∀u∈l,u∈x.tokens)->gQ n v x p K l i=K
 | [],i,_=>rfl
 |u::l,i,hl=>by
  have hu:=hl u (by simp);have ih:=fun i=>Tl n v x p K hx hp fs ht hF l i fun y hy=>hl y (by simp[hy])
  have hln:=hF u hu;have yB:decide (p.tokens.length<=maxLen)=true:=sD (by omega);have hst:=hu;rw[ht]at hst;rw[gQ,hx,aA,ar];rcases Ow hst with⟨hk,t,htm,f,hf,e⟩|⟨hk,hm⟩
  ·have e1:(x.cond.kind==1)=true:=by rw[hk];rfl
   have hlen:u.facts.length=t.facts.length+1:=by rw[e];simp
   have e2:IntKind.i64.wrap ((u.facts.length:Int)-1)=(t.facts.length:Int):=by rw[dZ (nS.i64.2 (by omega))];omega
   rw[e1,aI,bB (by omega),aI,e2,a2Y (by omega) (by omega),aA];dsimp only;rw[yB,aI,mH];have WD:(u.facts.take t.facts.length).drop 0=t.facts:=by rw[e];simp
   rw[Q4 (F:=(u.facts.take t.facts.length).drop 0) (L:=kB n v i u x p 0 t.facts.length _) (k:=_) (fun _ _=>rfl) (fun _ _ _ _=>rfl)];have:(p.tokens.any fun y=>decide (y.facts=(u.facts.take t.facts.length).drop 0))=true:=cP.2 ⟨t,htm,by rw[WD];simp⟩;rw[this,Bool.or_true,bn,aW];exact ih (i+1)
  ·have e1:(x.cond.kind==1)=false:=cT.2 hk;rw[e1,aW,yB,aI,Q4 (F:=u.facts) (L:=kC n v i u x p _) (k:=_) (fun _ _=>rfl) (fun _ _ _ _=>rfl)];have:(p.tokens.any fun y=>decide (y.facts=u.facts))=true:=cP.2 ⟨u,hm,by simp⟩;rw[this,Bool.or_true,bn,aW];exact ih (i+1)
theorem Zk{rs:au}{fs:aO}(t:Int)(h1:tD rs=true)(h2:o7 fs=true)(hr:sM aJ.wt rs<=1048576)(K:Option Bool):∀(m fu v:Nat),v+m=(uQ rs fs t).nodes.length->m<fu->1<=v->ia (uQ rs fs t) K fu (v:Int)=K:=by
 have hok:=Zp t h1 h2 hr;have hN:XW (uQ rs fs t):=⟨hok.nodes,fun x hx=>(hok.node x hx).1⟩
 have hlen:(uQ rs fs t).nodes.length<=25:=by
  show(rA (iJ [] rs).1.2 fs).length<=25;rw[Cv];exact Gf [] (rJ h1) (xC h1)
 intro m
 induction m with
 |zero=>
  intro fu v hv hf h0;cases fu with
  |zero=>omega
  |succ fu=>rw[ia,ar,bG (by omega),aW]
 |succ m ih=>
  intro fu v hv hf h0;cases fu with
  |zero=>omega
  |succ fu=>
   obtain⟨x,hx⟩:∃x,(uQ rs fs t).nodes[v]?=some x:=⟨_,aV (by omega)⟩
   obtain⟨p,y,e1,e2,e3,e4,e5⟩:=JZ h0 hx;have QH:=aD hx;have ND:iM (uQ rs fs t).nodes (v:Int)=some x:=by rw[show((v:Nat):Int)=dA v from rfl,Pm];exact hx
   have a4A:iM (uQ rs fs t).nodes x.parent=some y:=by rw[e1,Pm];exact e3
   have JH:eZ (uQ rs fs t).nodes (v:Int)=eZ (uQ rs fs t).nodes (dA p)++[x.cond]:=e5;generalize eZ (uQ rs fs t).nodes (dA p)=q at JH;have hq:q.length<=1048576:=by
    have hp:=(Ih [] (rJ h1) (xC h1)).path v;have:eZ (iJ [] rs).1.2 (dA v)=q++[x.cond]:=by rw[<-Ew (iJ [] rs).1.2 fs];exact JH
    rw[this]at hp;simp at hp;omega
   have a1V:iM (q++[x.cond]) (IntKind.i64.wrap ((((q++[x.cond]).map aH.c).length:Int)-1))=some x.cond:=by
    have e:IntKind.i64.wrap ((((q++[x.cond]).map aH.c).length:Int)-1)=(q.length:Int):=by
     rw[ar,av,cy,dZ (nS.i64.2 (by omega))];omega
    rw[e];exact sv (pre:=q) (xs:=[]) (x:=x.cond) rfl
   have hnl:=ZV (uQ rs fs t) (v:Int) hok.nodes (fun z hz=>⟨(hok.node z hz).1,(hok.node z hz).2.1⟩) (nS.i64.2 (by omega)) (fun z hz=>by
    obtain⟨i,hi⟩:=di hz;have hi':=(aE.1 hi).1;by_cases hi0:i=0
    ·subst hi0;have hi:(rA (iJ [] rs).1.2 fs)[0]?=some z:=hi;rw[wg,jl]at hi;cases hi;exact nS.i64.2 (by show-9223372036854775808<=(-1:Int)/\(-1:Int)<=_;omega)
    ·obtain⟨p',y',k1,k2,_⟩:=JZ (by omega) hi;rw[k1];unfold dA;exact nS.i64.2 (by omega))
   have hne:(QO (uQ rs fs t) (v:Int)==([]:Bytes))=false:=by
    unfold QO;rw[ND];exact Ts x _ (by omega)
   have htk:=(hok.node x QH).2;rw[ia,ar,bB (by omega),aI,TZ _ _ hN,aA,ND,aA,a4A,aA,JH];rw[show(((((q++[x.cond]).map aH.c).length:Int):Int)==0)=false by rw[ar,av,cy,cT];omega,aW,a1V,aA,Ug,aA,bB rfl,bn,aW,hnl,aA,hne,aW,sD (by have:=htk.1;omega),aI];have hy:=(hok.node y (aD e3)).2.1;rw[Tl _ _ x y _ ND hy fs e4 (fun u hu=>(htk.2 u hu).1) x.tokens 0 (fun _ h=>h),Jy (by omega)];exact ih fu (v+1) (by omega) (by omega) (by omega)
theorem Zl(code:bJ):uD code=some true:=by
 unfold uD AH;rw[aA,ar];by_cases hc:code.length<=4096
 ·rw[bG (by omega),aW];obtain⟨rs,fs,t,e1,r1,r2,f1,f2,_,t0,t1,_⟩:=Ro (fun _=>True) (fun _ _ _ _ _=>trivial) code hc;have hw:=FP f1;rw[e1,aA,ZU _ r2 (show sM aG.wt fs<=1048576 by omega),aA,Wf r1 f1,bB t0,bn,aW];have hl1:1<=(uQ rs fs t).nodes.length:=by
   show 1<=(rA (iJ [] rs).1.2 fs).length;rw[Cv,jl];simp
  have hlen:(uQ rs fs t).nodes.length<=25:=by
   show(rA (iJ [] rs).1.2 fs).length<=25;rw[Cv];exact Gf [] (rJ r1) (xC r1)
  exact Zk t r1 f1 r2 (some true) ((uQ rs fs t).nodes.length -1) fuel 1 (by omega) (by unfold fuel;omega) (by omega)
 ·rw[bB (by omega),aI]
theorem Tm(code:bJ):Good prog 4 [D.sl (code.map yx)] (.bool true):=DR (Zl code)
end LawFnNodes
end Go.Cx
namespace Go.Cx
open Go.RowKit
inductive Sh where
 |int (k:IntKind)
 |str
 |bool
 |sl (row:List Sh)
mutual
inductive K8:Sh->D->Prop
 |int (k:IntKind) (n:Int):K8 (.int k) (.int k n)
 |str (s:Bytes):K8 .str (.str s)
 |bool (b:Bool):K8 .bool (.bool b)
 |sl (row:List Sh) (rows:List aL):(∀r∈rows,s8 row r)->K8 (.sl row) (.sl rows)
inductive s8:List Sh->List D->Prop
 |nil:s8 [] []
 |cons (s:Sh) (ss:List Sh) (d:D) (ds:aL):K8 s d->s8 ss ds->s8 (s::ss) (d::ds)
end
theorem s8.app{s1 s2:List Sh}{d1 d2:aL}(h1:s8 s1 d1)(h2:s8 s2 d2):s8 (s1++s2) (d1++d2):=by
 induction s1 generalizing d1 with
 |nil=>cases h1;exact h2
 |cons s s1 ih=>cases h1 with|cons _ _ d ds h h'=>exact .cons _ _ _ _ h (ih h')
theorem s8.length{s:List Sh}{d:aL}(h:s8 s d):d.length=s.length:=by
 induction s generalizing d with
 |nil=>cases h;rfl
 |cons s ss ih=>cases h with|cons _ _ d ds h h'=>simp[ih h']
def M5(P:Program):Nat->List Field->List (List Sh)->Bool
 |_,[],[]=>true
 |off,f::fs,r::rs=>(f.offset==off)&&(r.length==P.cellsOf f.type)&&M5 P (off+r.length) fs rs
 |_,_,_=>false
def yP(P:Program):Nat->TypeId->Option (List Sh)
 |0,_=>none
 |n+1,t=>match P.underlying t with
  |some .bool=>some [.bool]
  |some (.int k)=>some [.int k]
  |some .string=>some [.str]
  |some (.slice e)=>(yP P n e).bind fun r=>if r.length=P.cellsOf e/\0<r.length then some [.sl r]else none
  |some (.struct fs)=>(fs.toList.mapM fun f=>yP P n f.type).bind fun rs=>if M5 P 0 fs.toList rs=true/\rs.flatten.length=P.cellsOf t then some rs.flatten else none
  |_=>none
theorem NU{α β:Type}{f:α->Option β}:∀ {l:List α} {ys:List β},l.mapM f=some ys->ys.length=l.length/\∀(i:Nat) x,l[i]?=some x->∃y,ys[i]?=some y/\f x=some y:=by
 intro l
 induction l with
 |nil=>intro ys h;simp at h;subst h;simp
 |cons a l ih=>
  intro ys h;simp only[BV,Option.bind_eq_bind,Option.pure_def]at h;cases ha:f a with
  |none=>simp[ha]at h
  |some b=>
   cases hl:l.mapM f with
   |none=>simp[ha,hl]at h
   |some bs=>
    simp[ha,hl]at h;subst h;obtain⟨h1,h2⟩:=ih hl;refine⟨by simp[h1],fun i x hx=>?_⟩;cases i with
    |zero=>simp at hx;subst hx;exact⟨b,by simp,ha⟩
    |succ i=>simp at hx;obtain⟨y,k1,k2⟩:=h2 i x hx;exact⟨y,by simpa using k1,k2⟩
section
variable{P:Program}{w:World}{H:Type}{enc:TypeId×Value->H}{base:Nat}{sp:Nat->Bool}{held:Bool}
theorem Iv{a:Addr}{n:Nat}{cs:bp}(h:w.cells? base a n=some cs):cs.length=n/\∀(j:Nat) c,cs[j]?=some c->w.cell? (a.add j)=some c:=by
 unfold World.cells? at h;split at h
 ·obtain⟨h1,h2⟩:=NU h;refine⟨by simpa using h1,fun j c hj=>?_⟩;have hlt:j<n:=by have:=(aE.1 hj).1;rw[h1]at this;simpa using this
  obtain⟨y,k1,k2⟩:=h2 j j (by simp[hlt]);rw[hj]at k1;cases k1;exact k2
 ·cases h
theorem Zm{k:IntKind}{n:Int}(h:(Lit.int k n).wf=true):nS k n:=by
 simpa[Lit.wf,nS]using h
theorem Qi:∀(fuel:Nat) {t:TypeId} {cs:bp} {d:DataW H} {ps:List MemPlace} {n:Nat} {XD:List Sh},
 DataW.trod enc P w base sp held fuel t cs=some (d,ps)->yP P n t=some XD->∃ds bs,jv w cs ds bs/\s8 XD ds:=by
 intro fuel
 induction fuel with
 |zero=>intro t cs d ps n XD h;simp[DataW.trod]at h
 |succ fuel ih=>
  intro t cs d ps n XD h hf;cases n with
  |zero=>simp[yP]at hf
  |succ n=>
   simp only[yP]at hf;simp only[DataW.trod]at h;split at hf
   ·rename_i hu;cases hf;simp only[hu]at h;split at h<;>rename_i h1<;>try(simp at h1;done)
    all_goals try(cases h;done)
    all_goals simp at h1
    exact⟨[.bool _],[],.cons _ _ _ _ [] [] rfl (.bool _) .nil,.cons _ _ _ _ (.bool _) .nil⟩
   ·rename_i k hu;cases hf;simp only[hu]at h;split at h<;>rename_i h1<;>try(simp at h1;done)
    all_goals try(cases h;done)
    all_goals simp at h1
    rename_i k1 k2 m _;subst h1;split at h
    ·rename_i hc;obtain⟨rfl,hwf⟩:=hc;exact⟨[.int _ _],[],.cons _ _ _ _ [] [] rfl (.int _ _ (Zm hwf)) .nil,.cons _ _ _ _ (.int _ _) .nil⟩
    ·cases h
   ·rename_i hu;cases hf;simp only[hu]at h;split at h<;>rename_i h1<;>try(simp at h1;done)
    all_goals try(cases h;done)
    all_goals simp at h1
    split at h
    ·rename_i hc;exact⟨[.str _],[],.cons _ _ _ _ [] [] rfl (.str _ hc) .nil,.cons _ _ _ _ (.str _) .nil⟩
    ·cases h
   ·rename_i e hu;cases hr:yP P n e with
    |none=>simp[hr]at hf
    |some r=>
     simp only[hr,aA]at hf;split at hf
     ·rename_i hsz;cases hf;simp only[hu]at h;split at h<;>rename_i h1<;>try(simp at h1;done)
      all_goals try(cases h;done)
      all_goals simp at h1
      ·exact⟨[.sl []],[],.cons _ _ _ _ [] [] rfl .vW .nil,.cons _ _ _ _ (.sl _ _ (by simp)) .nil⟩
      ·rename_i a len cap
       try subst h1
       split at h
       ·rename_i hc;cases hm:(List.range len).mapM (fun i=>(w.cells? base (a.add (i*P.cellsOf e)) (P.cellsOf e)).bind (DataW.trod enc P w base sp held fuel e))with
        |none=>simp[hm]at h
        |some elems=>
         obtain⟨_,hall⟩:=NU hm;have hel:∀i,i<len->∃cs ds bs,w.cells? base (a.add (i*P.cellsOf e)) (P.cellsOf e)=some cs/\jv w cs ds bs/\s8 r ds:=by
          intro i hi;obtain⟨y,_,hy⟩:=hall i i (by simp[hi]);obtain⟨cs,hcs,hy⟩:=mJ.1 hy;obtain⟨ds,bs,k1,k2⟩:=ih (d:=y.1) (ps:=y.2) hy hr;exact⟨cs,ds,bs,hcs,k1,k2⟩
         by_cases hl0:len=0
         ·subst hl0;exact⟨[.sl []],[],.cons _ _ _ _ [] [] rfl (.mT a cap hc.2.2) .nil,.cons _ _ _ _ (.sl _ _ (by simp)) .nil⟩
         ·
          obtain⟨cs0,Vy,bs0,OU,hr0,a6s⟩:=hel 0 (by omega);obtain⟨hl1,ND⟩:=Iv OU;have hpos:0<cs0.length:=by rw[hl1];omega
          have hc0:=ND 0 cs0[0] (aV hpos);have ha0:(a.add (0*P.cellsOf e)).add 0=a:=by simp[Addr.add]
          rw[ha0]at hc0;obtain⟨b,off,spot⟩:=a;have a1i:spot=none:=by
           cases spot with
           |none=>rfl
           |some x=>
            unfold World.cell? at hc0;split at hc0
            ·simp at hc0
            ·cases hc0
          subst a1i;have hb:b<w.heap.size:=World.block_lt_of_cell? w _ hc0;have build:∀m,m<=len->∃(rows:List aL) (cs:bp) (bs:aS),rows.length=m/\cs.length=m*P.cellsOf e/\(∀(j:Nat) c,cs[j]?=some c->w.cell? ⟨b,off+j,none⟩=some c)/\
           jv w cs rows.flatten bs/\∀x∈rows,s8 r x:=by
           intro m
           induction m with
           |zero=>intro _;exact⟨[],[],[],rfl,by simp,by simp,.nil,by simp⟩
           |succ m ihm=>
            intro hm1;obtain⟨rows,cs,bs,q1,q2,q3,q4,q5⟩:=ihm (by omega);obtain⟨cs',ds',bs',g1,g2,g3⟩:=hel m (by omega);obtain⟨g4,g5⟩:=Iv g1;refine⟨rows++[ds'],cs++cs',bs++bs',by simp[q1],by simp[q2,g4,gU],?_,?_,?_⟩
            ·intro j c hj;by_cases hlt:j<cs.length
             ·rw[aq hlt]at hj;exact q3 j c hj
             ·rw[ax (by omega)]at hj;have:=g5 _ c hj;rw[Addr.add_lit,Addr.add_lit,q2]at this;have e1:off+m*P.cellsOf e+(j-m*P.cellsOf e)=off+j:=by omega
              rw[e1]at this;exact this
            ·rw[kN];have:=q4.app g2;simpa using this
            ·intro x hx;rcases aZ.1 hx with hx|hx
             ·exact q5 x hx
             ·simp at hx;subst hx;exact g3
          obtain⟨rows,cs,bs,q1,q2,q3,q4,q5⟩:=build len (bL _);subst q1;refine⟨[.sl rows],b::bs,?_,.cons _ _ _ _ (.sl _ _ q5) .nil⟩;have:=jv.cons (w:=w) _ [] _ [] _ [] rfl (Rd.sl b off cap r.length rows cs bs hb hc.2.1 hc.2.2 (fun x hx=>(q5 x hx).length) q3 q4) .nil;simpa using this
       ·cases h
     ·cases hf
   ·rename_i fs hu;cases hr:fs.toList.mapM (fun f=>yP P n f.type)with
    |none=>simp[hr]at hf
    |some rs=>
     simp only[hr,aA]at hf;split at hf
     ·rename_i hok;cases hf;simp only[hu]at h;split at h
      ·rename_i hlen;cases hm:fs.toList.mapM (fun f=>DataW.trod enc P w base sp held fuel f.type ((cs.drop f.offset).take (P.cellsOf f.type)))with
       |none=>simp[hm]at h
       |some xs=>
        have go:∀(fl:List Field) (rl:List (List Sh)) (xl:List (DataW H×List MemPlace)) (off:Nat),fl.mapM (fun f=>yP P n f.type)=some rl->
         fl.mapM (fun f=>DataW.trod enc P w base sp held fuel f.type ((cs.drop f.offset).take (P.cellsOf f.type)))=some xl->M5 P off fl rl=true->
         ∃ds bs,jv w ((cs.drop off).take rl.flatten.length) ds bs/\s8 rl.flatten ds:=by
         intro fl
         induction fl with
         |nil=>
          intro rl xl off h1 _ _;simp at h1;subst h1;exact⟨[],[],by simpa using jv.nil,.nil⟩
         |cons f fl ihf=>
          intro rl xl off h1 h2 h3;simp only[BV,Option.bind_eq_bind,Option.pure_def]at h1 h2;cases a1:yP P n f.type with
          |none=>simp[a1]at h1
          |some r1=>
           cases a2:fl.mapM (fun f=>yP P n f.type)with
           |none=>simp[a1,a2]at h1
           |some rl'=>
            simp[a1,a2]at h1;subst h1;cases b1:DataW.trod enc P w base sp held fuel f.type ((cs.drop f.offset).take (P.cellsOf f.type))with
            |none=>simp[b1]at h2
            |some x1=>
             cases b2:fl.mapM (fun f=>DataW.trod enc P w base sp held fuel f.type ((cs.drop f.offset).take (P.cellsOf f.type)))with
             |none=>simp[b1,b2]at h2
             |some xl'=>
              simp only[M5,aY,cQ]at h3;obtain⟨⟨o1,o2⟩,o3⟩:=h3;obtain⟨Jz,XZ,k1,k2⟩:=ih (d:=x1.1) (ps:=x1.2) b1 a1;obtain⟨ds2,VI,k3,k4⟩:=ihf rl' xl' (off+r1.length) a2 b2 o3;refine⟨Jz++ds2,XZ++VI,?_,by simpa using k2.app k4⟩;have e1:(cs.drop off).take (r1::rl').flatten.length=(cs.drop f.offset).take (P.cellsOf f.type)++(cs.drop (off+r1.length)).take rl'.flatten.length:=by
               rw[o1,<-o2,eC,av,<-gE,List.take_add]
              rw[e1];exact k1.app k3
        obtain⟨ds,bs,k1,k2⟩:=go fs.toList rs xs 0 hr hm hok.1;rw[BU,hok.2,<-hlen,List.take_length]at k1;exact⟨ds,bs,k1,k2⟩
      ·cases h
     ·cases hf
   ·cases hf
def SR(P:Program)(n:Nat)(t:TypeId)(d:D):Prop:=
 (xq P t=some true/\∃XD cells,yP P n t=some XD/\d=.agg cells/\s8 XD cells)\/(xq P t=some false/\∃sh,yP P n t=some [sh]/\K8 sh d)
inductive KW(P:Program)(n:Nat):List TypeId->List D->Prop
 |nil:KW P n [] []
 |cons (t:TypeId) (ts:List TypeId) (d:D) (ds:aL):SR P n t d->KW P n ts ds->KW P n (t::ts) (d::ds)
def Ml(P:Program)(n:Nat)(t:TypeId):Bool:=
 match xq P t,yP P n t with
 |some true,some _=>(match P.underlying t with|some (.struct _)=>true|_=>false)
 |some false,some [_]=>true
 |_,_=>false
theorem U9{n:Nat}{t:TypeId}{v:Value}{d:DataW H}{ps:List MemPlace}(hok:Ml P n t=true)(hval:Value.okWide P w .any base t v)(h:DataW.Trod enc P w 0 sp held t v d ps):
 ∃x bs,Rd w v x bs/\SR P n t x:=by
 obtain⟨fuel,h⟩:=h;unfold Ml at hok;split at hok
 ·rename_i XD ht hf;split at hok
  ·rename_i fs hu;unfold Value.okWide at hval;simp only[hu]at hval;obtain⟨cs,rfl,_⟩:=hval;obtain⟨ds,bs,k1,k2⟩:=Qi fuel h hf;refine⟨.agg ds,bs,?_,.inl ⟨ht,XD,ds,hf,rfl,k2⟩⟩;have:=Rd.agg (w:=w) cs.toList ds bs k1;simpa using this
  ·cases hok
 ·rename_i sh ht hf;have hone:v.oneCell'=true:=by
   unfold xq at ht;split at ht<;>first
    | (cases ht;done)
    |skip
   rename_i dsc h1 h2 hu;unfold Value.okWide at hval;rw[hu]at hval;cases v with
   |agg cs=>
    cases dsc<;>first
     | (exfalso;exact h1 _ rfl)
     | (exfalso;exact h2 _ _ rfl)
     | (simp[Cell.okWide,Cell.ok,hu]at hval)
   |tuple vs=>
    cases dsc<;>first
     | (exfalso;exact h1 _ rfl)
     | (exfalso;exact h2 _ _ rfl)
     | (simp[Cell.okWide,Cell.ok,hu]at hval)
   |_=>rfl
  rw[Kx hone]at h;obtain⟨ds,bs,k1,k2⟩:=Qi fuel h hf;cases k2 with
  |cons _ _ x ds' hx hn=>
   cases hn;cases k1 with
   |cons _ _ _ _ b1 b2 _ hrd hn=>exact⟨x,b1,hrd,.inr ⟨ht,sh,hf,hx⟩⟩
 ·cases hok
theorem Re{n:Nat}:∀ {ts:List TypeId} {vs:bp} {ds:List (DataW H)} {ps:List MemPlace},(∀t∈ts,Ml P n t=true)->
 (∀(j:Nat) t v,ts[j]?=some t->vs[j]?=some v->Value.okWide P w .any base t v)->DataW.TrodAll enc P w 0 sp held ts vs ds ps->
 ∃xs bs,Pg w vs xs bs/\KW P n ts xs/\ds.length=ts.length:=by
 intro ts
 induction ts with
 |nil=>
  intro vs ds ps _ _ h;cases vs with
  |nil=>cases ds with
   |nil=>exact⟨[],[],.nil,.nil,rfl⟩
   |cons=>cases h
  |cons=>cases ds<;>cases h
 |cons t ts ih=>
  intro vs ds ps hok hval h;cases vs with
  |nil=>cases h
  |cons v vs=>
   cases ds with
   |nil=>cases h
   |cons d ds=>
    obtain⟨p,q,h1,h2,rfl⟩:=h;obtain⟨x,b1,k1,k2⟩:=U9 (hok t (by simp)) (hval 0 t v rfl rfl) h1;obtain⟨xs,b2,k3,k4,k5⟩:=ih (fun u hu=>hok u (by simp[hu])) (fun j u y hj hv=>hval (j+1) u y (by simpa using hj) (by simpa using hv)) h2;exact⟨x::xs,b1++b2,.cons _ _ _ _ _ _ k1 k3,.cons _ _ _ _ k2 k4,by simp[k5]⟩
theorem KO{W W':World}(hl:laidOutB P=true)(hb:Below W.heap.size W W')(PK:Nat->Bool):∀ {ts:List TypeId} {vs:bp} {ds:List (DataW H)} {ps:List MemPlace},
 (∀t∈ts,P.readableRec t=true/\t<P.types.size)->DataW.TrodAll enc P W 0 (fun _=>true) true ts vs ds ps->(∀x∈ps,x.block<W.heap.size)->(∀x∈ps,PK x.block=true)->
 DataW.TrodAll enc P W' 0 PK true ts vs ds ps:=by
 intro ts
 induction ts with
 |nil=>intro vs ds ps _ h _ _;cases vs<;>cases ds<;>first|exact h|cases h
 |cons t ts ih=>
  intro vs ds ps ht h hlt hsp;cases vs with
  |nil=>cases h
  |cons v vs=>
   cases ds with
   |nil=>cases h
   |cons d ds=>
    obtain⟨p,q,h1,h2,rfl⟩:=h;refine⟨p,q,?_,ih (fun u hu=>ht u (by simp[hu])) h2 (fun x hx=>hlt x (by simp[hx])) (fun x hx=>hsp x (by simp[hx])),rfl⟩;exact WideElems.Trod_stays hl (ht t (by simp)).1 (ht t (by simp)).2 h1 (fun x hx=>hb.same (hlt x (by simp[hx]))) (fun x hx=>hsp x (by simp[hx]))
theorem wM.uA{w:World}{v:Value}{b:Bool}{bs ts us:aS}(h:wM w v (.bool b) bs ts us):v=.bool b:=by
 cases h with|v h=>cases h with|cell h=>cases h with|pure h=>cases h;rfl
theorem Jw{W W':World}(hl:laidOutB P=true)(hb:Below W.heap.size W W')(PK:Nat->Bool):∀ {ns:List String} {ds:List (DataW H)} {ps:List MemPlace},
 (∀n∈ns,∀g t,P.globalNamed n=some g->(P.globals[g]?).map (·.type)=some t->P.readableRec t=true/\t<P.types.size)->DataW.TrodVars enc P W (fun _=>true) ns ds ps->(∀x∈ps,x.block<W.heap.size)->(∀x∈ps,PK x.block=true)->
 DataW.TrodVars enc P W' PK ns ds ps/\ds.length=ns.length:=by
 intro ns
 induction ns with
 |nil=>intro ds ps _ h _ _;cases ds<;>first|exact⟨h,rfl⟩|cases h
 |cons n ns ih=>
  intro ds ps ht h hlt hsp;cases ds with
  |nil=>cases h
  |cons d ds=>
   obtain⟨g,t,cs,fuel,p,q,h1,h2,h3,h4,h5,rfl⟩:=h;obtain⟨i1,i2⟩:=ih (fun m hm=>ht m (by simp[hm])) h5 (fun x hx=>hlt x (by simp[hx])) (fun x hx=>hsp x (by simp[hx]));obtain⟨r1,r2⟩:=ht n (by simp) g t h1 h2;refine⟨⟨g,t,cs,fuel,p,q,h1,h2,?_,?_,i1,rfl⟩,by simp[i2]⟩
   ·unfold World.var? at h3⊢;rw[h1,aA]at h3⊢;have hg:g<W.heap.size:=by
     split at h3
     ·rename_i cs' t' z h6;exact(az.1 h6).1
     ·cases h3
    rw[hb.block g hg];exact h3
   ·exact DataW.trod_stays (kids_book hl r1) (book_sized r1) (fun h=>by cases h) ⟨r2,book_self t⟩ h4 (fun x hx=>hb.same (hlt x (by simp[hx]))) (fun x hx=>hsp x (by simp[hx]))
theorem KL{f:FuncId}{fn:Func}{s:ChangeSpec}{n rt:Nat}{W:World}{args:Array Value}{ds gs:List (DataW H)}{before:List MemPlace}
 (hl:laidOutB P=true) (QD:∀t∈fn.params.toList,Ml P n t=true/\P.readableRec t=true/\t<P.types.size) (hres:fn.resultTypes= #[rt]) (hrt:P.underlying rt=some .bool)
 (hv:∀n∈s.vars,∀g t,P.globalNamed n=some g->(P.globals[g]?).map (·.type)=some t->P.readableRec t=true/\t<P.types.size)
 (hfn:∀ds gs:List (DataW H),ds.length=fn.params.toList.length->gs.length=s.vars.length->s.fn H (ds++gs)= {results:=[.lit (.bool true)],args:=ds,vars:=gs})
 (hvs:K9 W fun _=>False) (mD:∀xs,KW P n fn.params.toList xs->Good P f xs (.bool true))
 (hval:∀(j:Nat) t v,fn.params[j]?=some t->args[j]?=some v->Value.okWide P W .any base t v)
 (hW:DataW.Whole enc P fn.params.toList s.vars false W args.toList ds gs before):
 Calls P f args W fun e W'=>∃v,e=.returned v/\s.post enc P fn false true false false W args v W':=by
 have hW':=hW;obtain⟨p,q,hA,hV,hpq,hz,_⟩:=hW;obtain⟨xs,bs,k1,k2,k3⟩:=Re (fun t ht=>(QD t ht).1) (fun j t v hj hv=>hval j t v (by simpa using hj) (by simpa using hv)) hA;have hc:=(mD xs k2).2 W (fun _=>0) args.toList bs hvs k1 (fun _ _=>rfl) (fun b hb=>absurd rfl hb) (fun _=>BW _);rw[jN]at hc;refine hc.mono ?_;rintro e W' ⟨v,bs',ts,us,rfl,hb,hr,_⟩;refine⟨v,rfl,?_⟩;obtain rfl:=hr.uA;have hlt:=hW'.lt;rw[hpq]at hlt;have TF:∀(b:Nat) (sp:Nat->Bool) (hd:Bool),DataW.TrodAll enc P W' b sp hd fn.resultTypes.toList ((Value.bool true).resultList fn.resultTypes.size) [.lit (.bool true)] []:=by
  intro b sp hd;rw[hres];exact⟨[],[],⟨1,by simp[DataW.trod,hrt,Value.cells]⟩,rfl,rfl⟩
 have a1W:∀x∈p,x.block<W.heap.size:=fun x hx=>hlt x (by simp[hx])
 have a1X:∀x∈q,x.block<W.heap.size:=fun x hx=>hlt x (by simp[hx])
 have hargs:∀PK:Nat->Bool,(∀x∈p,PK x.block=true)->DataW.TrodAll enc P W' 0 PK true fn.params.toList args.toList ds p:=
  fun PK hsp=>KO hl hb PK (fun t ht=>(QD t ht).2) hA a1W hsp
 have hvars:∀PK:Nat->Bool,(∀x∈q,PK x.block=true)->DataW.TrodVars enc P W' PK s.vars gs q/\gs.length=s.vars.length:=
  fun PK hsp=>Jw hl hb PK hv hV a1X hsp
 have hfd:=hfn ds gs k3 (hvars (fun _=>true) (fun _ _=>rfl)).2;unfold ChangeSpec.post;refine⟨ds,gs,before,[],p,q,hW',?_,?_,?_,hb.frame _,fun h=>by cases h⟩
 ·rw[hfd];exact TF _ _ _
 ·rw[hfd];exact hargs _ (fun x hx=>by simpa using a1W x hx)
 ·rw[hfd];exact(hvars _ (fun x hx=>by simpa using a1X x hx)).1
end
end Go.Cx
namespace Go.Cx
open Go.RowKit
abbrev w5:=List Sh
theorem R3{α:Type}{c:α->aL}{row:w5}(hc:∀r,s8 row r->∃x,r=c x):∀ {rows:List aL},(∀r∈rows,s8 row r)->∃l:List α,rows=l.map c:=by
 intro rows
 induction rows with
 |nil=>intro _;exact⟨[],rfl⟩
 |cons r rows ih=>
  intro h;obtain⟨x,rfl⟩:=hc r (h r (by simp));obtain⟨l,rfl⟩:=ih (fun s hs=>h s (by simp[hs]));exact⟨x::l,rfl⟩
theorem Vt{α:Type}{c:α->aL}{row:w5}(hc:∀r,s8 row r->∃x,r=c x){d:D}(h:K8 (.sl row) d):∃l:List α,d=.sl (l.map c):=by
 cases h with
 |sl _ rows hr=>
  obtain⟨l,rfl⟩:=R3 hc hr;exact⟨l,rfl⟩
theorem Si{k:IntKind}{d:D}(h:K8 (.int k) d):∃n,d=.int k n:=by cases h;exact⟨_,rfl⟩
theorem OM{s:Sh}{ss:w5}{ds:aL}(h:s8 (s::ss) ds):∃d r,ds=d::r/\K8 s d/\s8 ss r:=by
 cases h with|cons _ _ d r h1 h2=>exact⟨d,r,rfl,h1,h2⟩
theorem R4{ds:aL}(h:s8 [] ds):ds=[]:=by cases h;rfl
theorem Vu(r:aL)(h:s8 [.int .u8] r):∃s,r=yx s:=by
 obtain⟨_,_,rfl,h1,h⟩:=OM h;cases R4 h;obtain⟨s,rfl⟩:=Si h1;exact⟨s,rfl⟩
section
variable{P:Program}{n:Nat}{t:TypeId}{d:D}
theorem SR.cell{sh:Sh}(ha:xq P t=some false)(hf:yP P n t=some [sh])(h:SR P n t d):K8 sh d:=by
 rcases h with⟨h1,_⟩|⟨_,sh',h1,h2⟩
 ·rw[ha]at h1;cases h1
 ·rw[hf]at h1;cases h1;exact h2
end
end Go.Cx
namespace Go.Cx
open Go.ChangeShapes Go.WideShapes Go.ChangeAt Go.RowKit
def jp0(P:Program)(f:FuncId)(fn:Func)(s:ChangeSpec)(c:OpenClaim):Bool:=(c.wf (OpenSpec.ofChange s)&&laidOutB P&&mapsRowed P)
def jp1(P:Program)(f:FuncId)(fn:Func)(s:ChangeSpec)(c:OpenClaim):Bool:=(fn.params.all (P.readableRec ·)&&namedTie P c.named s.vars)&&((c.stops==[])&&(P.stops==[])&&(c.knobs==[])&&(P.stopKnobs==[]))&&((c.maps==(fn.params.toList++s.plain.varTypes P).any (P.mapsRec ·))&&(c.ifaces==(fn.params.toList++s.plain.varTypes P).any (P.ifacesRec ·))&&(c.mapsOut==P.mapsAmong fn.resultTypes.toList))&&((c.loops==(fn.params.toList++s.plain.varTypes P).any (P.loopsFrom ·))&&(c.wideKeys==(fn.params.toList++s.plain.varTypes P++fn.resultTypes.toList).any (P.wideKeysFrom ·)))&&(s.vars.all (P.varReadable ·)&&fn.resultTypes.all (fun t=>P.readableRec t&&decide (t<P.types.size))&&(c.ifacesOut==fn.resultTypes.toList.any (P.ifacesRec ·))&&(c.loopsOut==fn.resultTypes.toList.any (P.loopsFrom ·)))&&((c.kinds==(if c.domain.isEmpty then []else fn.params.toList.map fun t=>match P.underlying t with|some (.int k)=>some k|_=>none))&&(c.pinned==c.pinnedBy))&&((c.veiled==(fn.params.toList++s.plain.varTypes P++fn.resultTypes.toList).any (P.veiledRec ·))&&c.veiledFits P fn.params.toList (fn.params.toList++s.plain.varTypes P++fn.resultTypes.toList))
def jp2(P:Program)(f:FuncId)(fn:Func)(s:ChangeSpec)(c:OpenClaim):Bool:=(c.inPlace==P.inPlace f)&&(c.unfollowed==P.unfollowed f)&&(c.recurses==P.recurses f)&&(c.named==P.varsNamed f)
def jp3(P:Program)(f:FuncId)(fn:Func)(s:ChangeSpec)(c:OpenClaim):Bool:=(c.plainKeys==P.plainKeys)&&(c.shortTexts.isNone&&P.stopsHeard)&&P.mayEnter&&(c.lifted==P.liftsFinal)&&(P.make==some c.make)
theorem RQ{P:Program}{f:FuncId}{fn:Func}{s:ChangeSpec}{c:OpenClaim}(h0:jp0 P f fn s c=true)(h1:jp1 P f fn s c=true)(h2:jp2 P f fn s c=true)(h3:jp3 P f fn s c=true):joinedFacts P f fn s c=true:=by
 unfold jp0 at h0;unfold jp1 at h1;unfold jp2 at h2;unfold jp3 at h3;unfold joinedFacts;simp only[aY]at h0 h1 h2 h3⊢;obtain⟨⟨a7d,a7e⟩,a7f⟩:=h0;obtain⟨⟨⟨⟨⟨⟨⟨a7g,a7h⟩,⟨⟨⟨a7i,a7j⟩,a7k⟩,a7l⟩⟩,⟨⟨a7q,a7r⟩,a7s⟩⟩,⟨a7t,a7u⟩⟩,⟨⟨⟨a7v,a7w⟩,a7x⟩,a7y⟩⟩,⟨a6G,a6H⟩⟩,⟨a6I,a6J⟩⟩:=h1;obtain⟨⟨⟨a7m,a7n⟩,a7o⟩,a7p⟩:=h2;obtain⟨⟨⟨⟨a6A,⟨a6B,a6C⟩⟩,a6D⟩,a6E⟩,a6F⟩:=h3
 and_intros<;>assumption
end Go.Cx

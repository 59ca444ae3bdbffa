/- The structure of a network in plain words. No condition but bounds. -/
import Derived.Test.YtbeaohmbmfjabaaGreatDoorPTakeFromNetworkG7
import Derived.Test.YtbeaohmbmfjabaaGreatDoorPTakeFromNetworkG3
import Derived.Test.YtbeaohmbmfjabaaGreatDoorPTakeFromNetworkG4
import Derived.ProofKit
set_option linter.unusedVariables false
set_option linter.unusedSimpArgs false
namespace Go.Cx
open Go.RowKit Go.Proofs Tryz
def Yw(sh:aE):b8->Nat->Option Nat
 | [],_=>none
 |x::xs,i=>if x.shape=sh then some i else Yw sh xs (i+1)
def Xo(al:b8)(sh:aE):b8×Int:=match Yw sh al 0 with
 |some i=>(al,dD i)
 |none=>(al++[⟨sh,[]⟩],dD al.length)
theorem P5{n:Nat}(h:n<=1099511627776):IntKind.i64.wrap (((n+1:Nat):Int)-1)=dD n:=by
 unfold dD;rw[gU (tM.i64.2 (by omega))];omega
theorem aDA(n:aF)(sh:aE)(k:Option (aF×Int)):∀(l:b8) (i:Nat),lf n sh k l i=match Yw sh l i with|some j=>some (n,dD j)|none=>k:=by
 intro l
 induction l with
 |nil=>intro i;rfl
 |cons x l ih=>
  intro i;rw[lf,XH,aA,ih,Yw];by_cases h:x.shape=sh
  ·rw[bW h,aW,bP h];rfl
  ·rw[bB h,ah,bH h]
theorem sAl(n:aF)(sh:aE)(h:n.ay.length<=1048576):tJ n sh=some (⟨n.rules,n.ends,(Xo n.ay sh).1,n.nodes,n.facts,n.cK⟩,(Xo n.ay sh).2):=by
 unfold tJ;rw[wW (by omega),aW,aDA,ot (by omega) (by decide),aW];unfold Xo;cases Yw sh n.ay 0 with
 |some j=>rfl
 |none=>
  dsimp only;rw[show((n.ay.map aP.c)++[[D.str sh.rel,D.sl (sh.args.map tx),D.sl []]]).length=n.ay.length+1 by simp,P5 (by omega)]
theorem aCn(n:aF)(sh:aE)(k:Option (aF×Int)):∀(l:b8) (i:Nat),eT n sh k l i=match Yw sh l i with|some j=>some (n,dD j)|none=>k:=by
 intro l
 induction l with
 |nil=>intro i;rfl
 |cons x l ih=>
  intro i;rw[eT,QX,aA,ih,Yw];by_cases h:x.shape=sh
  ·rw[bW h,aW,bP h];rfl
  ·rw[bB h,ah,bH h]
theorem iAl(n:aF)(sh:aE)(h:n.ay.length<=1048576):iL n sh=some (⟨n.rules,n.ends,(Xo n.ay sh).1,n.nodes,n.facts,n.cK⟩,(Xo n.ay sh).2):=by
 unfold iL;rw[wW (by omega),aW,aCn,ot (by omega) (by decide),aW];unfold Xo;cases Yw sh n.ay 0 with
 |some j=>rfl
 |none=>
  dsimp only;rw[show((n.ay.map aP.c)++[[D.str sh.rel,D.sl (sh.args.map tx),D.sl []]]).length=n.ay.length+1 by simp,P5 (by omega)]
def Rn(p:Int)(c:aN):az->Nat->Option Nat
 | [],_=>none
 |x::xs,i=>if 0<i/\x.parent=p/\x.cond=c then some i else Rn p c xs (i+1)
def Rm(al:b8)(c:aN):b8×Int:=if c.kind=1\/c.kind=2 then Xo al (vN c.pat)else(al, -1)
def Nq(al:b8)(ns:az)(p:Int)(c:aN):(b8×az)×Int:=match Rn p c ns 0 with
 |some i=>((al,ns),dD i)
 |none=>(((Rm al c).1,ns++[⟨p,c,(Rm al c).2,[]⟩]),dD ns.length)
theorem UW(p:Int)(c:aN)(ns:az):Rn p c ns 0=Rn p c (ns.drop 1) 1:=by
 cases ns with
 |nil=>rfl
 |cons x ns=>rw[Rn,bH (fun h=>by omega)];rfl
def Zd(n:aF)(z:(b8×az)×Int):aF×Int:=(⟨n.rules,n.ends,z.1.1,z.1.2,n.facts,n.cK⟩,z.2)
theorem aDC(n:aF)(p:Int)(c:aN)(k:Option (aF×Int))(hn:n.nodes.length<=1048576):∀(d v fu:Nat),v+d=n.nodes.length+1->1<=v->d<fu->gA n p c k fu (v:Int)=match Rn p c (n.nodes.drop v) v with|some j=>some (n,dD j)|none=>k:=by
 intro d
 induction d with
 |zero=>
  intro v fu hv h1 hf;obtain⟨fu,rfl⟩:∃m,fu=m+1:=⟨fu-1,by omega⟩
  rw[gA,aZ,bB (by omega),ah,lN (by omega)];rfl
 |succ d ih=>
  intro v fu hv h1 hf;obtain⟨fu,rfl⟩:∃m,fu=m+1:=⟨fu-1,by omega⟩
  by_cases hl:v<n.nodes.length
  ·have hx:n.nodes[v]?=some n.nodes[v]:=ai hl;have e3:mC n.nodes (v:Int)=some n.nodes[v]:=by unfold mC;rw[bW (by omega),aW];exact hx
   rw[mW hl,Rn,gA,aZ,bW (by omega),aW,e3,aA,KG (by omega),ih (v+1) fu (by omega) (by omega) (by omega),a2g,aA];generalize n.nodes[v]=x;by_cases hp:x.parent=p
   ·rw[show((x.parent:Int)==p)=true by simp[hp],aW];by_cases hc:x.cond=c
    ·rw[bW hc,aW,bP ⟨by omega,hp,hc⟩];rfl
    ·rw[bB hc,ah,bH (fun h=>hc h.2.2)]
   ·rw[show((x.parent:Int)==p)=false by simp[hp],ah,bH (fun h=>hp h.2.1)]
  ·rw[gA,aZ,bB (by omega),ah,lN (by omega)];rfl
theorem sCh(n:aF)(p:Int)(c:aN)(hn:n.nodes.length<=1048576)(ha:n.ay.length<=1048576)(hc:c.wt<=1048576):w8 n p c=some (Zd n (Nq n.ay n.nodes p c)):=by
 have hp:=aN.fC hc;have hargs:=aE.eF hp;unfold w8;have e:=aDC n p c;rw[show(1:Int)=((1:Nat):Int)from rfl,e _ hn n.nodes.length 1 fuel (by omega) (bR _) (by unfold fuel;omega),<-UW,Te c (by omega),aA,a8F c.pat hp,aA,sAl n _ ha,aA];unfold Nq Rm Zd;cases Rn p c n.nodes 0 with
 |some j=>rfl
 |none=>
  dsimp only;rw[ot (by omega) (by decide),aW];by_cases h1:c.kind=1
  ·rw[show((c.kind:Int)==((1:Nat):Int))=true by simp[h1],aW,bP (.inl h1)];simp[P5,hn,show n.nodes.length<=1099511627776 by omega]
   first|done| (unfold dD;rw[gU (tM.i64.2 (by omega))])
  ·rw[show((c.kind:Int)==((1:Nat):Int))=false by simp[h1],ah];by_cases h2:c.kind=2
   ·rw[show((c.kind:Int)==(2:Int))=true by simp[h2],aW,bP (.inr h2)];simp[P5,hn,show n.nodes.length<=1099511627776 by omega]
    first|done| (unfold dD;rw[gU (tM.i64.2 (by omega))])
   ·rw[show((c.kind:Int)==(2:Int))=false by simp[h2],ah,bH (by omega)]
    first|rw[ot (by omega) (by decide),aW]|rw[aA,ot (by omega) (by decide),aW]|skip
    simp[P5,hn,show n.nodes.length<=1099511627776 by omega]
    first|done| (unfold dD;rw[gU (tM.i64.2 (by omega))])
theorem aCp(n:aF)(p:Int)(c:aN)(k:Option (aF×Int)):∀(l:az) (i:Nat),dA n p c k l i=match Rn p c l i with|some j=>some (n,dD j)|none=>k:=by
 intro l
 induction l with
 |nil=>intro i;rfl
 |cons x l ih=>
  intro i;rw[dA,Rn,ih,TD,aA];by_cases hi:0<i
  ·rw[bW (by omega),aW];by_cases hp:x.parent=p
   ·rw[show((x.parent:Int)==p)=true by simp[hp],aW];by_cases hc:x.cond=c
    ·rw[bW hc,aW,bP ⟨hi,hp,hc⟩];rfl
    ·rw[bB hc,ah,bH (fun h=>hc h.2.2)]
   ·rw[show((x.parent:Int)==p)=false by simp[hp],ah,bH (fun h=>hp h.2.1)]
  ·rw[bB (by omega),ah,bH (fun h=>hi h.1)]
theorem iCh(n:aF)(p:Int)(c:aN)(hn:n.nodes.length<=1048576)(ha:n.ay.length<=1048576)(hc:c.wt<=1048576):kY n p c=some (Zd n (Nq n.ay n.nodes p c)):=by
 have hp:=aN.fC hc;have hargs:=aE.eF hp;unfold kY;rw[wW (by omega),aW,aCp,TB c (by omega),a7Y c.pat hp,aA,iAl n _ ha,aA,aA];unfold Nq Rm Zd;cases Rn p c n.nodes 0 with
 |some j=>rfl
 |none=>
  dsimp only;rw[ot (by omega) (by decide),aW];by_cases h1:c.kind=1
  ·rw[show((c.kind:Int)==(1:Int))=true by simp[h1],aW,bP (.inl h1)];simp[P5,hn,show n.nodes.length<=1099511627776 by omega]
   first|done| (unfold dD;rw[gU (tM.i64.2 (by omega))])
  ·rw[show((c.kind:Int)==(1:Int))=false by simp[h1],ah];by_cases h2:c.kind=2
   ·rw[show((c.kind:Int)==(2:Int))=true by simp[h2],aW,bP (.inr h2)];simp[P5,hn,show n.nodes.length<=1099511627776 by omega]
    first|done| (unfold dD;rw[gU (tM.i64.2 (by omega))])
   ·rw[show((c.kind:Int)==(2:Int))=false by simp[h2],ah,bH (by omega)]
    first|rw[ot (by omega) (by decide),aW]|rw[aA,ot (by omega) (by decide),aW]|skip
    simp[P5,hn,show n.nodes.length<=1099511627776 by omega]
    first|done| (unfold dD;rw[gU (tM.i64.2 (by omega))])
def IG(s:(b8×az)×Int)(c:aN):(b8×az)×Int:=Nq s.1.1 s.1.2 s.2 c
def KC(z:(b8×az)×bJ)(r:aO):(b8×az)×bJ:=(((gY r).foldl IG (z.1,0)).1,z.2++[((gY r).foldl IG (z.1,0)).2])
def root(tk:af):Node:=⟨-1,⟨0,⟨[],[]⟩,[],[]⟩, -1,tk⟩
def cc(tk:af)(rs:au):(b8×az)×bJ:=rs.foldl KC (([],[root tk]),[])
theorem a3n(al:b8)(sh:aE):(Xo al sh).1.length<=al.length+1:=by
 unfold Xo;cases Yw sh al 0<;>simp
theorem a3t(al:b8)(c:aN):(Rm al c).1.length<=al.length+1:=by
 unfold Rm;by_cases h:c.kind=1\/c.kind=2
 ·rw[bP h];exact a3n _ _
 ·rw[bH h];exact Nat.le_succ _
theorem Sr(al:b8)(ns:az)(p:Int)(c:aN):(Nq al ns p c).1.1.length<=al.length+1/\(Nq al ns p c).1.2.length<=ns.length+1:=by
 unfold Nq;cases Rn p c ns 0 with
 |some i=>exact⟨Nat.le_succ _,Nat.le_succ _⟩
 |none=>exact⟨a3t _ _,by simp⟩
theorem II:∀(cs:aj) (s:(b8×az)×Int),(cs.foldl IG s).1.1.length<=s.1.1.length+cs.length/\(cs.foldl IG s).1.2.length<=s.1.2.length+cs.length
 | [],s=>⟨bR _,bR _⟩
 |c::cs,s=>by
  have h1:=Sr s.1.1 s.1.2 s.2 c;have h2:=II cs (IG s c);have h3:(IG s c).1.1.length<=s.1.1.length+1/\(IG s c).1.2.length<=s.1.2.length+1:=h1;rw[di,aK];omega
theorem aAb(a:au)(i:Nat)(y:aj)(k:Int->Int->au->bJ->b8->az->aQ->Option (aF×Bool)):∀(cs:aj) (j:Nat) (v u:Int) (w3:au) (w4:bJ) (al:b8) (ns:az) (w7:aQ),(∀c∈cs,c.wt<=1048576)->al.length+cs.length<=1048576->ns.length+cs.length<=1048576->
 gQ a i y k cs j v u w3 w4 al ns w7=k (cs.foldl IG ((al,ns),v)).2 u w3 w4 (cs.foldl IG ((al,ns),v)).1.1 (cs.foldl IG ((al,ns),v)).1.2 w7:=by
 intro cs
 induction cs with
 |nil=>intros;rfl
 |cons c cs ih=>
  intro j v u w3 w4 al ns w7 hc ha hn;simp only[aK]at ha hn;have h1:=Sr al ns v c;rw[gQ,sCh _ v c (show ns.length<=1048576 by omega) (show al.length<=1048576 by omega) (hc c (by simp)),aA];unfold Zd;dsimp only;rw[ih _ _ _ _ _ _ _ _ (fun x hx=>hc x (by simp[hx])) (by omega) (by omega)];rfl
theorem a9r(a:au)(i:Nat)(y:aj)(k:Int->Int->au->bJ->b8->az->aQ->Option aF):∀(cs:aj) (j:Nat) (v u:Int) (w3:au) (w4:bJ) (al:b8) (ns:az) (w7:aQ),(∀c∈cs,c.wt<=1048576)->al.length+cs.length<=1048576->ns.length+cs.length<=1048576->
 jW a i y k cs j v u w3 w4 al ns w7=k (cs.foldl IG ((al,ns),v)).2 u w3 w4 (cs.foldl IG ((al,ns),v)).1.1 (cs.foldl IG ((al,ns),v)).1.2 w7:=by
 intro cs
 induction cs with
 |nil=>intros;rfl
 |cons c cs ih=>
  intro j v u w3 w4 al ns w7 hc ha hn;simp only[aK]at ha hn;have h1:=Sr al ns v c;rw[jW,iCh _ v c (show ns.length<=1048576 by omega) (show al.length<=1048576 by omega) (hc c (by simp)),aA];unfold Zd;dsimp only;rw[ih _ _ _ _ _ _ _ _ (fun x hx=>hc x (by simp[hx])) (by omega) (by omega)];rfl
theorem S7:∀(ts:aI) (N:aT) {p:aS},p∈ts.foldl jR N->p∈N\/(p.var∈ts/\lH p.var=true)
 | [],_,_,h=>.inl h
 |t::ts,N,p,h=>by
  rcases S7 ts (jR N t) h with h1|h1
  ·unfold jR at h1;cases hv:lH t&& !Hh N t with
   |false=>rw[hv]at h1;exact .inl h1
   |true=>
    rw[hv,aW]at h1;simp only[aY]at hv;rcases ar.1 h1 with h2|h2
    ·exact .inl h2
    ·rw[dw.1 h2];exact .inr ⟨by simp,hv.1⟩
  ·exact .inr ⟨by simp[h1.1],h1.2⟩
theorem NR{l:aj}{v:Bytes}:v∈F6 l↔v∈AY l/\lH v=true:=by
 unfold F6 AY qk jS;simp only[cC,fY];constructor
 ·rintro⟨c,hc,hm,hv⟩;exact⟨⟨c,hc,hm⟩,hv⟩
 ·rintro⟨⟨c,hc,hm⟩,hv⟩;exact⟨c,hc,hm,hv⟩
theorem Zb{r:aO}(h:nv r=true):(qG r).length<=6:=by
 have h1:((qG r).map aS.var).length<=(fD (F6 r.conds)).length:=by
  refine SI _ _ (Dk _ Vh.nil) fun x hx=>?_
  obtain⟨p,hp,rfl⟩:=cH.1 hx;rcases S7 _ _ hp with h1|h1
  ·cases h1
  ·exact wK.2 (NR.2 h1)
 rw[aZ]at h1;exact cQ h1 (Zo h)
theorem a25{r:aO}(h:nv r=true){v:Bytes}(hv:v∈F6 r.conds):∃i p,i<6/\(qG r)[i]?=some p/\p.var=v/\Ey (qG r) v=nmB i:=by
 obtain⟨ht,Ut⟩:=NR.1 hv;obtain⟨p,hp,he⟩:=NC _ [] ht Ut;have hp':p∈qG r:=hp;obtain⟨i,hi,T3,hval,_⟩:=OZ (Eo _ Xm.nil) hp';refine⟨i,p,by have:=Zb h;unfold qG at this;omega,T3,he,?_⟩;rw[<-he];exact(NX (N:=qG r) (Dk (AY r.conds) Vh.nil) hp').trans hval
theorem NY{r:aO}(h:nv r=true){x:Bytes}(hx:x.length<=16)(hV:lH x=true->x∈F6 r.conds):(Ey (qG r) x).length<=16:=by
 cases hv:lH x with
 |false=>rw[show Ey (qG r) x=x from Qn hv];exact hx
 |true=>
  obtain⟨i,p,hi,_,_,e⟩:=a25 h (hV hv);rw[e];exact YM i hi
theorem Pp:∀(l:aI),(∀x∈l,x.length<=16)->jw tw l<=17*l.length
 | [],_=>by simp[jw]
 |x::l,h=>by
  have h1:=Pp l fun y hy=>h y (by simp[hy])
  have h2:=h x (by simp);rw[qL,aK];unfold tw at*;omega
theorem R8{t:Bytes}(h:qI t=true):t.length<=16:=by have:=a00 h;omega
theorem QA{c:aN}(h:sD c=true):c.pat.rel.length<=8/\c.pat.args.length<=3/\(∀x∈c.pat.args,x.length<=16)/\c.left.length<=16/\c.right.length<=16:=by
 by_cases hk:c.kind=1\/c.kind=2
 ·obtain⟨hp,hl,hr⟩:=Z0 h hk;have ht:=YY hp;unfold ye at hp;simp only[aY,bI]at hp;have:=SG hp.2.1;rw[hl,hr];exact⟨by omega,by omega,fun x hx=>R8 (ht x hx),by simp,by simp⟩
 ·obtain⟨_,hz,hl,hr⟩:=WA h (fun e=>hk (.inl e)) (fun e=>hk (.inr e));unfold I6 at hz;simp only[aY,cj,bI]at hz;have h0:c.pat.args=[]:=cZ (by omega);rw[hz.1,h0];exact⟨by simp,by simp,fun x hx=>(by cases hx),R8 hl,R8 hr⟩
theorem NV{r:aO}(h:nv r=true):∀c∈gY r,c.wt<=1048576:=by
 intro c' hc';obtain⟨c,hc,rfl⟩:=cH.1 hc';obtain⟨h1,h2,h3,h4,h5⟩:=QA (P3 h c hc);have hV:∀x∈c.pat.args++[c.left,c.right],lH x=true->x∈F6 r.conds:=fun x hx hv=>NR.2 ⟨cC.2 ⟨c,hc,hx⟩,hv⟩
 have a1:(Ey (qG r) c.left).length<=16:=NY h h4 (hV _ (by simp));have a2:(Ey (qG r) c.right).length<=16:=NY h h5 (hV _ (by simp));have a3:=Pp (c.pat.args.map (Ey (qG r))) (fun x hx=>by
  obtain⟨y,hy,rfl⟩:=cH.1 hx;exact NY h (h3 y hy) (hV y (by simp[hy])))
 rw[aZ]at a3;unfold R1 aN.wt;dsimp only;unfold tw at*;omega
theorem BJ{r:aO}(h:nv r=true):(gY r).length<=4:=by unfold gY;rw[aZ];exact Zn h
theorem Xn{r:aO}{n:Nat}(h:r.wt<=n){a:Action}(ha:a∈r.cr):a.pat.args.length<=n:=by
 have h1:=aO.MC h;have h2:=iP (w:=Action.wt) ha;have h3:=gV tw a.pat.args;simp only[Action.wt]at h2;omega
theorem a2X(p:aE)(h:p.args.length<=1099511627770):eN p=some p:=by
 unfold eN;rw[a2k p.args (by omega)];rfl
theorem a1f(p:aE)(h:p.args.length<=1099511627770):eA p=some p:=by
 unfold eA;rw[TF p.args (by omega)];rfl
theorem a7y(r:aO)(h:r.wt<=1048576):uw r=some r:=by
 have h1:=aO.tg h;have h2:=aO.MC h;have h3:=gV aN.wt r.conds;have h4:=gV Action.wt r.cr;unfold uw;rw[Fu (c:=aN.c) (b:=80) (f:=jv) (g:=fun x=>x) (L:=pZ r _) (k:=_) (by decide) (fun _ _=>rfl) (fun _ _ _ _=>rfl) _ _ _ (fun c hc=>Te c (by have:=aE.eF (aN.fC (aO.ru h hc));omega)) (by simp;omega)];rw[Fu (c:=Action.c) (b:=48) (f:=fun a:Action=>(eN a.pat).bind fun y=>some (⟨a.kind,y⟩:Action)) (g:=fun x=>x) (L:=nS r _ _) (k:=_) (by decide) (fun _ _=>rfl) (fun x xs i w=>by rw[nS];cases eN x.pat<;>rfl) _ _ _ (fun a ha=>by rw[a2X a.pat (by have:=Xn h ha;omega)];rfl) (by simp;omega)];simp
theorem VL(l:au)(h:jw aO.wt l<=1048576):qh l=some l:=by
 have h3:=gV aO.wt l;unfold qh;rw[Fu (c:=aO.c) (b:=72) (f:=uw) (g:=fun x=>x) (L:=nR l _) (k:=_) (by decide) (fun _ _=>rfl) (fun _ _ _ _=>rfl) _ _ _ (fun r hr=>a7y r (by have:=iP (w:=aO.wt) hr;omega)) (by simp;omega)];simp
theorem a1e(l:aj)(h:l.length<=1048576)(hw:∀c∈l,c.wt<=1048576):sM l=some l:=by
 unfold sM;rw[Fu (c:=aN.c) (b:=80) (f:=er) (g:=fun x=>x) (L:=mG l _) (k:=_) (by decide) (fun _ _=>rfl) (fun _ _ _ _=>rfl) _ _ _ (fun c hc=>TB c (by have:=aE.eF (aN.fC (hw c hc));omega)) (by simp;omega)];simp
theorem a7M(r:aO)(h:r.wt<=1048576):qZ r=some r:=by
 have h1:=aO.tg h;have h2:=aO.MC h;have h3:=gV aN.wt r.conds;have h4:=gV Action.wt r.cr;unfold qZ;rw[a1e r.conds (by omega) (fun c hc=>aO.ru h hc),aA];rw[Fu (c:=Action.c) (b:=48) (f:=fun a:Action=>(eA a.pat).bind fun y=>some (⟨a.kind,y⟩:Action)) (g:=fun x=>x) (L:=kE r _ _) (k:=_) (by decide) (fun _ _=>rfl) (fun x xs i w=>by rw[kE];cases eA x.pat<;>rfl) _ _ _ (fun a ha=>by rw[a1f a.pat (by have:=Xn h ha;omega)];rfl) (by simp;omega)];simp
theorem Uv(l:au)(h:jw aO.wt l<=1048576):pQ l=some l:=by
 have h3:=gV aO.wt l;unfold pQ;rw[Fu (c:=aO.c) (b:=72) (f:=qZ) (g:=fun x=>x) (L:=mI l _) (k:=_) (by decide) (fun _ _=>rfl) (fun _ _ _ _=>rfl) _ _ _ (fun r hr=>a7M r (by have:=iP (w:=aO.wt) hr;omega)) (by simp;omega)];simp
theorem aAa(a:au)(k:Int->au->bJ->b8->az->aQ->Option (aF×Bool)):∀(l:au) (i:Nat) (u:Int) (w2:au) (es:bJ) (al:b8) (ns:az) (w6:aQ),(∀r∈l,r.wt<=1048576/\nv r=true)->es.length+l.length<=1000->al.length+4*l.length<=1000->ns.length+4*l.length<=1000->
 gP a k l i u w2 es al ns w6=k u w2 (l.foldl KC ((al,ns),es)).2 (l.foldl KC ((al,ns),es)).1.1 (l.foldl KC ((al,ns),es)).1.2 w6:=by
 intro l
 induction l with
 |nil=>intros;rfl
 |cons r l ih=>
  intro i u w2 es al ns w6 hr he ha hn;simp only[aK]at he ha hn;obtain⟨hw,hb⟩:=hr r (by simp);have h4:=BJ hb;have hl:=II (gY r) ((al,ns),0);dsimp only at hl;rw[gP,a7x r hw,aA,wW (by omega),aW,aAb _ _ _ _ _ _ _ _ _ _ _ _ _ (NV hb) (by omega) (by omega),ot (by omega) (by decide),aW,ih _ _ _ _ _ _ _ (fun x hx=>hr x (by simp[hx])) (by simp;omega) (by omega) (by omega)];rfl
theorem a7z(rs:au)(h:jw aO.wt rs<=1048576):oo rs=some (bif zF rs then(⟨rs,(cc [⟨[],[]⟩] rs).2,(cc [⟨[],[]⟩] rs).1.1,(cc [⟨[],[]⟩] rs).1.2,[],0⟩,true)else(⟨[],[],[],[],[],0⟩,false)):=by
 unfold oo;rw[aDB rs h,aA];cases hb:zF rs with
 |false=>rfl
 |true=>
  have h6:rs.length<=6:=by unfold zF at hb;simp only[aY,bI]at hb;omega
  rw[bQ,ah,aW,VL rs h,aA,aAa _ _ _ _ _ _ _ _ _ _ (fun r hr=>⟨by have:=iP (w:=aO.wt) hr;omega,tf hb r hr⟩) (by simp;omega) (by simp;omega) (by simp;omega)];rfl
theorem a9q(a:au)(k:Int->au->bJ->b8->az->aQ->Option aF):∀(l:au) (i:Nat) (u:Int) (w2:au) (es:bJ) (al:b8) (ns:az) (w6:aQ),(∀r∈l,r.wt<=1048576/\nv r=true)->es.length+l.length<=1000->al.length+4*l.length<=1000->ns.length+4*l.length<=1000->
 jV a k l i u w2 es al ns w6=k u w2 (l.foldl KC ((al,ns),es)).2 (l.foldl KC ((al,ns),es)).1.1 (l.foldl KC ((al,ns),es)).1.2 w6:=by
 intro l
 induction l with
 |nil=>intros;rfl
 |cons r l ih=>
  intro i u w2 es al ns w6 hr he ha hn;simp only[aK]at he ha hn;obtain⟨hw,hb⟩:=hr r (by simp);have h4:=BJ hb;have hl:=II (gY r) ((al,ns),0);dsimp only at hl;rw[jV,a7L r hw,aA,wW (by omega),aW,a9r _ _ _ _ _ _ _ _ _ _ _ _ _ (NV hb) (by omega) (by omega),ot (by omega) (by decide),aW,ih _ _ _ _ _ _ _ (fun x hx=>hr x (by simp[hx])) (by simp;omega) (by omega) (by omega)];rfl
theorem aCv(rs:au)(h:jw aO.wt rs<=1048576)(hb:zF rs=true):sR rs=some ⟨rs,(cc [] rs).2,(cc [] rs).1.1,(cc [] rs).1.2,[],0⟩:=by
 unfold sR;have h6:rs.length<=6:=by unfold zF at hb;simp only[aY,bI]at hb;omega
 rw[Uv rs h,aA,a9q _ _ _ _ _ _ _ _ _ _ (fun r hr=>⟨by have:=iP (w:=aO.wt) hr;omega,tf hb r hr⟩) (by simp;omega) (by simp;omega) (by simp;omega)];rfl
def chR(al:b8)(ns:az)(p:Int)(c:aN):(b8×az)×Int:=match Rn p c ns 1 with
 |some i=>((al,ns),dD i)
 |none=>(((Rm al c).1,ns++[⟨p,c,(Rm al c).2,[]⟩]),dD (ns.length+1))
theorem a0t(tk:af)(al:b8)(ns:az)(p:Int)(c:aN):Nq al (root tk::ns) p c=(((chR al ns p c).1.1,root tk::(chR al ns p c).1.2),(chR al ns p c).2):=by
 unfold Nq chR;rw[UW,List.drop_succ_cons,Fz];cases Rn p c ns 1<;>rfl
def rtC(s:(b8×az)×Int)(c:aN):(b8×az)×Int:=chR s.1.1 s.1.2 s.2 c
def rtR(z:(b8×az)×bJ)(r:aO):(b8×az)×bJ:=(((gY r).foldl rtC (z.1,0)).1,z.2++[((gY r).foldl rtC (z.1,0)).2])
def rtB(rs:au):(b8×az)×bJ:=rs.foldl rtR (([],[]),[])
theorem VR(tk:af):∀(cs:aj) (al:b8) (ns:az) (v:Int),cs.foldl IG ((al,root tk::ns),v)=(((cs.foldl rtC ((al,ns),v)).1.1,root tk::(cs.foldl rtC ((al,ns),v)).1.2),(cs.foldl rtC ((al,ns),v)).2)
 | [],_,_,_=>rfl
 |c::cs,al,ns,v=>by
  rw[di,di];show cs.foldl IG (Nq al (root tk::ns) v c)=_;rw[a0t,VR tk cs];rfl
theorem VT(tk:af):∀(rs:au) (al:b8) (ns:az) (es:bJ),rs.foldl KC ((al,root tk::ns),es)=(((rs.foldl rtR ((al,ns),es)).1.1,root tk::(rs.foldl rtR ((al,ns),es)).1.2),(rs.foldl rtR ((al,ns),es)).2)
 | [],_,_,_=>rfl
 |r::rs,al,ns,es=>by
  rw[di,di];have e:KC ((al,root tk::ns),es) r=(((rtR ((al,ns),es) r).1.1,root tk::(rtR ((al,ns),es) r).1.2),(rtR ((al,ns),es) r).2):=by
   unfold KC rtR;dsimp only;rw[VR]
  rw[e,VT tk rs]
theorem zL(tk:af)(rs:au):cc tk rs=(((rtB rs).1.1,root tk::(rtB rs).1.2),(rtB rs).2):=VT tk rs [] [] []
theorem Ds(tk:af){rs:au}(h:∀r∈rs,nv r=true)(h6:rs.length<=6):(cc tk rs).1.2.length<=25:=by
 have main:∀(l:au) (z:(b8×az)×bJ),(∀r∈l,nv r=true)->(l.foldl KC z).1.2.length<=z.1.2.length+4*l.length:=by
  intro l
  induction l with
  |nil=>intro z _;exact bR _
  |cons r l ih=>
   intro z hl;have h1:=ih (KC z r) (fun x hx=>hl x (by simp[hx]));have h2:=(II (gY r) (z.1,0)).2;have h3:=BJ (hl r (by simp));have h4:(KC z r).1.2.length=((gY r).foldl IG (z.1,0)).1.2.length:=rfl;rw[di,aK];dsimp only at h2;omega
 have:=main rs (([],[root tk]),[]) h;unfold cc;simp only[aK,bK]at this;omega
end Go.Cx
namespace Go.Cx
open Go.RowKit Go.Proofs Tryz
def w9(x:Node):Int×aN:=(x.parent,x.cond)
theorem SW{a b:az}(h:a.map w9=b.map w9):∀(k v:Nat),Rc a k v=Rc b k v
 |0,_=>rfl
 |k+1,v=>by
  have e:(a[v]?).map w9=(b[v]?).map w9:=by rw[<-bz,<-bz,h]
  unfold Rc;cases ha:a[v]? with
  |none=>
   cases hb:b[v]? with
   |none=>rfl
   |some y=>rw[ha,hb]at e;cases e
  |some x=>
   cases hb:b[v]? with
   |none=>rw[ha,hb]at e;cases e
   |some y=>
    rw[ha,hb]at e;have e1:x.parent=y.parent:=(kW (qV e)).1;dsimp only;rw[e1,SW h k]
theorem Ss{a b:az}(h:a.map w9=b.map w9):Cg a=Cg b:=by
 funext i
 have e:(a[i]?).map w9=(b[i]?).map w9:=by rw[<-bz,<-bz,h]
 unfold Cg;cases ha:a[i]? with
 |none=>
  cases hb:b[i]? with
  |none=>rfl
  |some y=>rw[ha,hb]at e;cases e
 |some x=>
  cases hb:b[i]? with
  |none=>rw[ha,hb]at e;cases e
  |some y=>
   rw[ha,hb]at e;have e2:x.cond=y.cond:=(kW (qV e)).2;show some x.cond=some y.cond;rw[e2]
theorem A6{a b:az}(h:a.map w9=b.map w9)(v:Int):eb a v=eb b v:=by
 have hl:a.length=b.length:=by have:=congrArg List.length h;simpa using this
 unfold eb K7;rw[hl,SW h,Ss h]
def jQ(al:b8)(fs:aQ):b8:=al.map fun a=>⟨a.shape,uS a.shape [] fs⟩
def tN(ns:az)(fs:aQ):az->Nat->az
 | [],_=>[]
 |x::xs,i=>⟨x.parent,x.cond,x.cP,yI (eb ns (dD i)) fs⟩::tN ns fs xs (i+1)
def gW(ns:az)(fs:aQ):az:=tN ns fs ns 0
theorem Lf(ns:az)(fs:aQ):∀(l:az) (i:Nat),(tN ns fs l i).map w9=l.map w9
 | [],_=>rfl
 |x::l,i=>by rw[tN,bG,Lf ns fs l];rfl
theorem ZC(ns:az)(fs:aQ)(l:az)(i:Nat):(tN ns fs l i).length=l.length:=by
 have:=congrArg List.length (Lf ns fs l i);simpa using this
theorem setAt{α:Type}(pre l:List α)(x y:α):(pre++x::l).set pre.length y=pre++y::l:=by
 rw[mc _ _ (bR _),oz];rfl
structure I7(ns:List Node):Prop where
 len:ns.length<=1048576
 wt:∀x∈ns,x.cond.wt<=1048576
 path:∀i:Nat,(eb ns (dD i)).length<=4
theorem Qx{ns:az}{v:Int}{c:aN}(h:c∈eb ns v):∃x∈ns,x.cond=c:=by
 unfold eb at h;split at h
 ·unfold K7 at h;obtain⟨i,_,hc⟩:=cD.1 h;unfold Cg at hc;cases hx:ns[i]? with
  |none=>rw[hx]at hc;cases hc
  |some x=>rw[hx]at hc;exact⟨x,aC hx,qV hc⟩
 ·cases h
theorem a15(n:aF)(fs y:aQ)(k:b8->Option (aF×Unit))(hf:FS fs):∀(l pre:b8),(∀x∈l,x.shape.wt<=1048576)->ed n fs y k l pre.length (pre++l)=k (pre++jQ l fs):=by
 intro l
 induction l with
 |nil=>intro pre _;rfl
 |cons x l ih=>
  intro pre hw;have hx:(pre++x::l)[pre.length]?=some x:=by simp
  have hlt:decide (pre.length<((pre++x::l).map aP.c).length)=true:=by simp
  rw[ed,hlt,aW,hx,aA,a9h x.shape [] fs (hw x (by simp)) PB.nil hf,aA,aW,setAt];have:=ih (pre++[⟨x.shape,uS x.shape [] fs⟩]) (fun z hz=>hw z (by simp[hz]));rw[aX,fN,bY]at this;rw[show pre++(⟨x.shape,uS x.shape [] fs⟩:aP)::l=pre++([⟨x.shape,uS x.shape [] fs⟩]++l)from rfl,this];simp[jQ]
theorem a6j(n:aF)(fs y:aQ)(q:b8)(k:Option (aF×Unit))(hf:FS fs)(h24:fs.length<=24)(ns:az)(hp:I7 ns):∀(l pre:az),(pre++l).map w9=ns.map w9->
 eC n fs y q k l pre.length (pre++l)=some (⟨n.rules,n.ends,q,pre++tN ns fs l pre.length,y,n.cK⟩,()):=by
 intro l
 induction l with
 |nil=>intro pre _;rfl
 |cons x l ih=>
  intro pre he;have hx:(pre++x::l)[pre.length]?=some x:=by simp
  have hlt:decide (pre.length<((pre++x::l).map Node.c).length)=true:=by simp
  have hlen:(pre++x::l).length=ns.length:=by have:=congrArg List.length he;simpa using this
  have hok:NOk ⟨n.rules,n.ends,q,pre++x::l,y,n.cK⟩:=by
   refine⟨by show(pre++x::l).length<=1048576;rw[hlen];exact hp.len,fun z hz=>?_⟩;have hm:w9 z∈ns.map w9:=by rw[<-he];exact cH.2 ⟨z,hz,rfl⟩
   obtain⟨w,hw,e⟩:=cH.1 hm;have:w.cond=z.cond:=(kW e).2;rw[<-this];exact hp.wt w hw
  have a9M:eb (pre++x::l) ((pre.length:Nat):Int)=eb ns (dD pre.length):=A6 he _;have WV:∀c∈eb ns (dD pre.length),c.wt<=1048576:=by
   intro c hc;obtain⟨z,hz,e⟩:=Qx hc;rw[<-e];exact hp.wt z hz
  rw[eC,a7U _ _ hok,aA,a9M,a9u _ fs WV (hp.path _) hf h24,aA,hlt,aW,hx,aA,setAt];have:=ih (pre++[⟨x.parent,x.cond,x.cP,yI (eb ns (dD pre.length)) fs⟩]) (by
   rw[<-he];simp[w9])
  rw[aX,fN,bY]at this;rw[show pre++(⟨x.parent,x.cond,x.cP,yI (eb ns (dD pre.length)) fs⟩:Node)::l=pre++([⟨x.parent,x.cond,x.cP,yI (eb ns (dD pre.length)) fs⟩]++l)from rfl,this,tN];simp
theorem a5f(n:aF)(fs:aQ)(hf:FS fs)(h24:fs.length<=24)(ha:n.ay.length<=1048576)(hs:∀x∈n.ay,x.shape.wt<=1048576)(hp:I7 n.nodes):j8 n fs=some (⟨n.rules,n.ends,jQ n.ay fs,gW n.nodes fs,fs,n.cK⟩,()):=by
 unfold j8;have h1:=a15 n fs fs;have hl:=hp.len;rw[zz fs hf.1 (fun f hf2=>by have:=aE.eF (hf.2 f hf2);omega),aA,wW (by omega),aW];have e1:=a15 n fs fs (fun(iI:b8)=>(bif decide (n.nodes.length<=maxLen)then(eC n fs fs iI none n.nodes 0 n.nodes)else none)) hf n.ay [] hs;refine e1.trans ?_;rw[cN,wW (by omega),aW];exact a6j n fs fs _ none hf h24 n.nodes hp n.nodes [] rfl
end Go.Cx
namespace Go.Cx
open Go.RowKit Go.Proofs Tryz
theorem Vb(ns:az):∀(k k' v:Nat),1<=v->v<=k->v<=k'->Rc ns k v=Rc ns k' v
 |0,_,v,h1,h2,_=>by omega
 |k+1,0,v,h1,_,h3=>by omega
 |k+1,k'+1,v,h1,h2,h3=>by
  unfold Rc;cases hx:ns[v]? with
  |none=>rfl
  |some x=>
   dsimp only;by_cases hp:1<=x.parent/\x.parent<(v:Int)
   ·rw[bP hp,bP hp,Vb ns k k' x.parent.toNat (by omega) (by omega) (by omega)]
   ·rw[bH hp,bH hp]
theorem wA(ns:az):eb ns (dD 0)=[]:=by unfold eb dD;rw[bH (by omega)]
theorem xm{ns:az}{i:Nat}{x:Node}(hx:ns[i]?=some x)(h1:1<=i){p:Nat}(hp:x.parent=dD p)(hpi:p<i):eb ns (dD i)=eb ns (dD p)++[x.cond]:=by
 have hl:=(aH.1 hx).1;unfold dD at hp;have e1:eb ns (dD i)=K7 ns i i:=by unfold eb dD;rw[bP (by omega)];rfl
 obtain⟨k,rfl⟩:∃k,i=k+1:=⟨i-1,by omega⟩
 rw[e1,Qw hx];by_cases h0:1<=p
 ·rw[bP (by omega)];have e2:eb ns (dD p)=K7 ns p p:=by unfold eb dD;rw[bP (by omega)];rfl
  rw[e2,hp,o4];unfold K7;rw[Vb ns k p p h0 (by omega) (bR _)]
 ·rw[bH (by omega),show p=0 by omega,wA]
def Vr(ns:az):Prop:=∀(i:Nat) x,1<=i->ns[i]?=some x->∃p:Nat,x.parent=dD p/\p<i
theorem OS{ns:az}(hb:Vr ns)(m:az):∀(n i:Nat),i<=n->i<ns.length->eb (ns++m) (dD i)=eb ns (dD i):=by
 intro n
 induction n with
 |zero=>
  intro i h1 _;rw[show i=0 by omega,wA,wA]
 |succ n ih=>
  intro i h1 h2;by_cases h0:i=0
  ·rw[h0,wA,wA]
  ·have hx:ns[i]?=some ns[i]:=ai h2;have hx':(ns++m)[i]?=some ns[i]:=by rw[b9 h2];exact hx
   obtain⟨p,hp,hpi⟩:=hb i _ (by omega) hx;rw[xm hx (by omega) hp hpi,xm hx' (by omega) hp hpi,ih p (by omega) (by omega)]
structure Et(R:List aN->Prop)(ns:List Node):Prop where
 pos:1<=ns.length
 below:Vr ns
 path:∀i:Nat,1<=i->i<ns.length->R (eb ns (dD i))
theorem UX{p:Int}{c:aN}:∀ {l:az} {i j:Nat},Rn p c l i=some j->∃x,l[j-i]?=some x/\i<=j/\0<j/\x.parent=p/\x.cond=c
 |x::l,i,j,h=>by
  unfold Rn at h;split at h
  ·rename_i hc;cases h;exact⟨x,by simp,bR _,hc.1,hc.2.1,hc.2.2⟩
  ·obtain⟨y,h1,h2,h3,h4,h5⟩:=UX h;refine⟨y,?_,by omega,h3,h4,h5⟩;rw[show j-i=(j-(i+1))+1 by omega];exact h1
theorem Et.step{R:aj->Prop}{al:b8}{ns:az}(h:Et R ns){a:Nat}(ha:a<ns.length){c:aN}(hR:R (eb ns (dD a)++[c])):
 Et R (Nq al ns (dD a) c).1.2/\∃b:Nat,(Nq al ns (dD a) c).2=dD b/\b<(Nq al ns (dD a) c).1.2.length/\eb (Nq al ns (dD a) c).1.2 (dD b)=eb ns (dD a)++[c]:=by
 unfold Nq;cases hc:Rn (dD a) c ns 0 with
 |some j=>
  obtain⟨x,h1,h2,h3,h4,h5⟩:=UX hc;rw[Aw]at h1;have hj:=(aH.1 h1).1;obtain⟨p,hp,hpj⟩:=h.below j x (by omega) h1;have:p=a:=by rw[hp]at h4;unfold dD at h4;omega
  subst this;exact⟨h,j,rfl,hj,by rw[xm h1 (by omega) hp hpj,h5]⟩
 |none=>
  dsimp only;have hbel:Vr (ns++[⟨dD a,c,(Rm al c).2,[]⟩]):=by
   intro i x h1 hx;by_cases hi:i<ns.length
   ·rw[b9 hi]at hx;exact h.below i x h1 hx
   ·rw[bE (by omega)]at hx;have hi2:i=ns.length:=by
     have:=(aH.1 hx).1;simp at this;omega
    rw[hi2,oz]at hx;cases hx;exact⟨a,rfl,by omega⟩
  have hnew:eb (ns++[⟨dD a,c,(Rm al c).2,[]⟩]) (dD ns.length)=eb ns (dD a)++[c]:=by
   have hx:(ns++[(⟨dD a,c,(Rm al c).2,[]⟩:Node)])[ns.length]?=some ⟨dD a,c,(Rm al c).2,[]⟩:=by simp
   have h1:=h.pos;rw[xm hx (by omega) (p:=a) rfl ha,OS h.below _ a a (bR _) ha]
  refine⟨⟨by simp,hbel,fun i h1 h2=>?_⟩,ns.length,rfl,by simp,hnew⟩;by_cases hi:i<ns.length
  ·rw[OS h.below _ i i (bR _) hi];exact h.path i h1 hi
  ·have:i=ns.length:=by simp at h2;omega
   rw[this,hnew];exact hR
theorem Et.rule{R:aj->Prop}:∀(cs:aj) {al:b8} {ns:az} {a:Nat},Et R ns->a<ns.length->(∀j:Nat,1<=j->j<=cs.length->R (eb ns (dD a)++cs.take j))->
 Et R (cs.foldl IG ((al,ns),dD a)).1.2/\∃b:Nat,(cs.foldl IG ((al,ns),dD a)).2=dD b/\b<(cs.foldl IG ((al,ns),dD a)).1.2.length/\eb (cs.foldl IG ((al,ns),dD a)).1.2 (dD b)=eb ns (dD a)++cs
 | [],al,ns,a,h,ha,_=>⟨h,a,rfl,ha,by simp⟩
 |c::cs,al,ns,a,h,ha,hR=>by
  obtain⟨h1,b,h2,h3,h4⟩:=h.step (al:=al) ha (c:=c) (by have:=hR 1 (bR _) (by simp);simpa using this);have e:IG ((al,ns),dD a) c=(((Nq al ns (dD a) c).1.1,(Nq al ns (dD a) c).1.2),dD b):=by
   show Nq al ns (dD a) c=_;rw[<-h2]
  rw[di,e];obtain⟨k1,d,k2,k3,k4⟩:=Et.rule cs (al:=(Nq al ns (dD a) c).1.1) h1 h3 (fun j K4 hj2=>by
   rw[h4,bY];have:=hR (j+1) (by omega) (by simp;omega);simpa using this)
  exact⟨k1,d,k2,k3,by rw[k4,h4];simp⟩
theorem a3u(al:b8)(ns:az)(p:Int)(c:aN):∃m,(Nq al ns p c).1.2=ns++m:=by
 unfold Nq;cases Rn p c ns 0 with
 |some i=>exact⟨[],by simp⟩
 |none=>exact⟨[⟨p,c,(Rm al c).2,[]⟩],rfl⟩
theorem YX:∀(cs:aj) (s:(b8×az)×Int),∃m,(cs.foldl IG s).1.2=s.1.2++m
 | [],s=>⟨[],by simp⟩
 |c::cs,s=>by
  obtain⟨m,h⟩:=a3u s.1.1 s.1.2 s.2 c;obtain⟨m2,h2⟩:=YX cs (IG s c);refine⟨m++m2,?_⟩;rw[di,h2];show(Nq s.1.1 s.1.2 s.2 c).1.2++m2=_;rw[h,bY]
def Xk(rs:au)(p:aj):Prop:=∃r∈rs,∃j:Nat,1<=j/\j<=(gY r).length/\p=(gY r).take j
theorem VS(all:au):∀(l:au) (al:b8) (ns:az) (es:bJ),(∀r∈l,r∈all)->Et (Xk all) ns->
 Et (Xk all) (l.foldl KC ((al,ns),es)).1.2/\(∃m,(l.foldl KC ((al,ns),es)).1.2=ns++m)/\∃fs,(l.foldl KC ((al,ns),es)).2=es++fs/\fs.length=l.length/\
  ∀(i:Nat) r,l[i]?=some r->∃b:Nat,fs[i]?=some (dD b)/\b<(l.foldl KC ((al,ns),es)).1.2.length/\eb (l.foldl KC ((al,ns),es)).1.2 (dD b)=gY r
 | [],al,ns,es,_,h=>⟨h,⟨[],by simp⟩,[],by simp,rfl,fun i r hr=>by simp at hr⟩
 |r::l,al,ns,es,hm,h=>by
  obtain⟨h1,b,h2,h3,h4⟩:=Et.rule (gY r) (al:=al) h (a:=0) (by have:=h.pos;omega) (fun j K4 hj2=>by
   rw[wA,cN];exact⟨r,hm r (by simp),j,K4,hj2,rfl⟩)
  obtain⟨m1,hm1⟩:=YX (gY r) ((al,ns),dD 0);obtain⟨k1,⟨m2,hm2⟩,fs,k2,k3,k4⟩:=VS all l ((gY r).foldl IG ((al,ns),dD 0)).1.1 ((gY r).foldl IG ((al,ns),dD 0)).1.2 (es++[dD b]) (fun x hx=>hm x (by simp[hx])) h1;have e:KC ((al,ns),es) r=((((gY r).foldl IG ((al,ns),dD 0)).1.1,((gY r).foldl IG ((al,ns),dD 0)).1.2),es++[dD b]):=by
   rw[<-h2];rfl
  rw[di,e];refine⟨k1,⟨m1++m2,by rw[hm2,hm1,bY]⟩,dD b::fs,by rw[k2];simp,by simp[k3],?_⟩;intro i x hx;cases i with
  |zero=>
   have:r=x:=by simpa using hx
   subst this;refine⟨b,rfl,by rw[hm2];simp;omega,?_⟩;rw[hm2,OS h1.below _ b b (bR _) h3,h4,wA];rfl
  |succ i=>exact k4 i x (by simpa using hx)
theorem Zm(R:aj->Prop)(tk:af):Et R [root tk]:=
 ⟨bR _,fun i x h1 hx=>by
  have:=(aH.1 hx).1;simp at this;omega,fun i h1 h2=>by simp at h2;omega⟩
theorem zK(tk:af)(rs:au):Et (Xk rs) (cc tk rs).1.2/\(cc tk rs).2.length=rs.length/\∀(i:Nat) r,rs[i]?=some r->∃b:Nat,(cc tk rs).2[i]?=some (dD b)/\b<(cc tk rs).1.2.length/\eb (cc tk rs).1.2 (dD b)=gY r:=by
 obtain⟨h1,_,fs,h2,h3,h4⟩:=VS rs rs [] [root tk] [] (fun r hr=>hr) (Zm _ tk);rw[cN]at h2;refine⟨h1,?_,?_⟩
 ·show(rs.foldl KC (([],[root tk]),[])).2.length=_;rw[h2,h3]
 ·intro i r hr;obtain⟨b,k1,k2,k3⟩:=h4 i r hr;refine⟨b,?_,k2,k3⟩;show(rs.foldl KC (([],[root tk]),[])).2[i]?=_;rw[h2];exact k1
theorem VH{r:aO}(h:nv r=true):∃c cs,gY r=c::cs/\c.kind=1:=by
 have hb:=Tc h;cases hc:r.conds with
 |nil=>
  unfold nv at h;rw[hc]at h;simp at h
 |cons c cs=>
  refine⟨R1 (qG r) c,cs.map (R1 (qG r)),by unfold gY;rw[hc];rfl,?_⟩;exact(QB (pre:=[]) (i:=0) (c:=c) (rest:=cs) (by rw[cN,<-hc];exact hb)).2.1 rfl
theorem Zp{rs:au}(h:∀r∈rs,nv r=true){p:aj}(hp:Xk rs p):p.length<=4/\∃c cs,p=c::cs/\c.kind=1:=by
 obtain⟨r,hr,j,h1,h2,rfl⟩:=hp;have:=BJ (h r hr);refine⟨by rw[cL];omega,?_⟩;obtain⟨c,cs,e,hk⟩:=VH (h r hr);obtain⟨j,rfl⟩:∃k,j=k+1:=⟨j-1,by omega⟩
 exact⟨c,cs.take j,by rw[e];rfl,hk⟩
theorem Ox{r:aO}(h:nv r=true):∀c∈gY r,c.pat.rel.length<=8/\c.pat.args.length<=3/\∀x∈c.pat.args,x.length<=16:=by
 intro c' hc';obtain⟨c,hc,rfl⟩:=cH.1 hc';obtain⟨h1,h2,h3,h4,h5⟩:=QA (P3 h c hc);have hV:∀x∈c.pat.args++[c.left,c.right],lH x=true->x∈F6 r.conds:=fun x hx hv=>NR.2 ⟨cC.2 ⟨c,hc,hx⟩,hv⟩
 refine⟨h1,by show(c.pat.args.map _).length<=3;rw[aZ];exact h2,fun x hx=>?_⟩;obtain⟨y,hy,rfl⟩:=cH.1 hx;exact NY h (h3 y hy) (hV y (by simp[hy]))
theorem a2p{p:aE}(h1:p.rel.length<=8)(h2:p.args.length<=3)(h3:∀x∈p.args,x.length<=16):(vN p).wt<=1048576:=by
 have a3:=Pp (p.args.map (Ey (p.args.foldl jR []))) (fun x hx=>by
  obtain⟨y,hy,rfl⟩:=cH.1 hx;exact a7u (by omega) (h3 y hy))
 rw[aZ]at a3;show aE.wt ⟨p.rel,p.args.map (Ey (p.args.foldl jR []))⟩<=1048576;unfold aE.wt;dsimp only;unfold tw at*;omega
def zX(al:b8):Prop:=∀x∈al,x.shape.wt<=1048576/\x.facts=[]
theorem W8{al:b8}{ns:az}{p:Int}{c:aN}(h:zX al)(hc:(vN c.pat).wt<=1048576):zX (Nq al ns p c).1.1:=by
 unfold Nq;cases Rn p c ns 0 with
 |some i=>exact h
 |none=>
  show zX (Rm al c).1;unfold Rm;by_cases hk:c.kind=1\/c.kind=2
  ·rw[bP hk];unfold Xo;cases Yw (vN c.pat) al 0 with
   |some i=>exact h
   |none=>
    intro x hx;rcases ar.1 hx with hx|hx
    ·exact h x hx
    ·rw[dw.1 hx];exact⟨hc,rfl⟩
  ·rw[bH hk];exact h
theorem R6:∀(cs:aj) (s:(b8×az)×Int),zX s.1.1->(∀c∈cs,(vN c.pat).wt<=1048576)->zX (cs.foldl IG s).1.1
 | [],_,h,_=>h
 |c::cs,s,h,hc=>R6 cs (IG s c) (W8 h (hc c (by simp))) (fun x hx=>hc x (by simp[hx]))
theorem Ca(tk:af){rs:au}(h:∀r∈rs,nv r=true):zX (cc tk rs).1.1:=by
 have main:∀(l:au) (z:(b8×az)×bJ),(∀r∈l,nv r=true)->zX z.1.1->zX (l.foldl KC z).1.1:=by
  intro l
  induction l with
  |nil=>intro z _ hz;exact hz
  |cons r l ih=>
   intro z hl hz;refine ih (KC z r) (fun x hx=>hl x (by simp[hx])) ?_;exact R6 (gY r) (z.1,0) hz (fun c hc=>by
    obtain⟨p1,p2,p3⟩:=Ox (hl r (by simp)) c hc;exact a2p p1 p2 p3)
 exact main rs _ h (fun x hx=>by cases hx)
theorem Pn(tk:af){rs:au}(h:∀r∈rs,nv r=true)(h6:rs.length<=6):I7 (cc tk rs).1.2:=by
 have hp:=(zK tk rs).1;have hl:=Ds tk h h6;refine⟨by omega,?_,?_⟩
 ·intro x hx;obtain⟨i,hi⟩:=cq hx;have Vk:=(aH.1 hi).1;by_cases h0:i=0
  ·subst h0;rw[zL]at hi;cases hi;unfold root aN.wt;simp[jw,tw]
  ·obtain⟨p,hpp,hpi⟩:=hp.below i x (by omega) hi;obtain⟨r,hr,j,j1,j2,e⟩:=hp.path i (by omega) Vk;rw[xm hi (by omega) hpp hpi]at e;have hm:x.cond∈gY r:=cF (by rw[<-e];simp:x.cond∈(gY r).take j);exact NV (h r hr) _ hm
 ·intro i;by_cases hi:1<=i/\i<(cc tk rs).1.2.length
  ·exact(Zp h (hp.path i hi.1 hi.2)).1
  ·unfold eb dD;rw[bH (by omega)];simp
theorem a7K(rs:au)(fs:aQ)(t:Int)(hr:jw aO.wt rs<=1048576)(hb:zF rs=true)(hf:FS fs)(h24:fs.length<=24):yS rs fs t=some ⟨rs,(cc [] rs).2,jQ (cc [] rs).1.1 fs,gW (cc [] rs).1.2 fs,fs,t⟩:=by
 have h6:rs.length<=6:=by unfold zF at hb;simp only[aY,bI]at hb;omega
 have hv:=tf hb;have hsh:=Ca [] hv;have hal:(cc [] rs).1.1.length<=1048576:=by
  have main:∀(l:au) (z:(b8×az)×bJ),(∀r∈l,nv r=true)->(l.foldl KC z).1.1.length<=z.1.1.length+4*l.length:=by
   intro l
   induction l with
   |nil=>intro z _;exact bR _
   |cons r l ih=>
    intro z hl;have h1:=ih (KC z r) (fun x hx=>hl x (by simp[hx]));have h2:=(II (gY r) (z.1,0)).1;have h3:=BJ (hl r (by simp));have h4:(KC z r).1.1.length=((gY r).foldl IG (z.1,0)).1.1.length:=rfl;rw[di,aK];dsimp only at h2;omega
  have:=main rs (([],[root []]),[]) hv;unfold cc;simp only[bK]at this;omega
 unfold yS;rw[aCv rs hr hb,aA,a5f _ fs hf h24 hal (fun x hx=>(hsh x hx).1) (Pn [] hv h6)];rfl
end Go.Cx
namespace Go.Cx
open Go.RowKit Go.Proofs Tryz
def Ln(rs:au)(fs:aQ)(t:Int):aF:=⟨rs,(cc [] rs).2,jQ (cc [] rs).1.1 fs,gW (cc [] rs).1.2 fs,fs,t⟩
def isB(n:aF):Bool:=zF n.rules&&(pG n.facts&&(decide (0<=n.cK)&&Ra n (Ln n.rules n.facts 0)))
theorem FS.Dm{fs:aQ}(h:jw aE.wt fs<=1048576):FS fs:=⟨by have:=gV aE.wt fs;omega,fun f hf=>by have:=iP (w:=aE.wt) hf;omega⟩
theorem a7Q(n:aF)(hr:jw aO.wt n.rules<=1048576)(hf:jw aE.wt n.facts<=1048576):sI n=some (isB n):=by
 unfold sI isB;rw[aCo _ hr,a5b _ hf,aA,aA];cases h1:zF n.rules with
 |false=>rfl
 |true=>
  cases h2:pG n.facts with
  |false=>rfl
  |true=>
   rw[a7K _ _ _ hr h1 (FS.Dm hf) (xo h2),aA,aCt,aA];simp only[aW,fE];by_cases h3:0<=n.cK
   ·rw[bW h3];rfl
   ·rw[bB h3];rfl
def wo(x:Node):Int×Int×aN:=(x.parent,x.cP,x.cond)
theorem a2B{a b:az}(h:a.map wo=b.map wo):a.map w9=b.map w9:=by
 have:=congrArg (List.map fun t:Int×Int×aN=>(t.1,t.2.2)) h;rw[qj,qj]at this;exact this
def a06(ns:az)(fs:aQ):az->Nat->Bool
 | [],_=>true
 |x::xs,i=>decide (x.tokens=yI (eb ns (dD i)) fs)&&a06 ns fs xs (i+1)
theorem S3(fs:aQ):∀(a b:b8),a.map aP.shape=b.map aP.shape->((a.all fun x=>decide (x.facts=uS x.shape [] fs))=true↔a=jQ b fs)
 | [],[],_=>⟨fun _=>rfl,fun _=>rfl⟩
 | [],_::_,h=>by simp at h
 |_::_,[],h=>by simp at h
 |x::a,y::b,h=>by
  rw[bG,bG]at h;obtain⟨h1,h2⟩:=zP h;have ih:=S3 fs a b h2;rw[dG,aY,bI,ih];show _↔x::a=⟨y.shape,uS y.shape [] fs⟩::jQ b fs;constructor
  ·rintro⟨q1,q2⟩;rw[<-h1,<-q1,<-q2]
  ·intro q;obtain⟨q1,q2⟩:=zP q;exact⟨by rw[q1],q2⟩
theorem S5(ns:az)(fs:aQ):∀(a b:az) (i:Nat),a.map wo=b.map wo->(a06 ns fs a i=true↔a=tN ns fs b i)
 | [],[],_,_=>⟨fun _=>rfl,fun _=>rfl⟩
 | [],_::_,_,h=>by simp at h
 |_::_,[],_,h=>by simp at h
 |x::a,y::b,i,h=>by
  rw[bG,bG]at h;obtain⟨h1,h2⟩:=zP h;have ih:=S5 ns fs a b (i+1) h2;have e1:x.parent=y.parent:=(kW h1).1;have e2:x.cP=y.cP:=(kW (kW h1).2).1;have e3:x.cond=y.cond:=(kW (kW h1).2).2;unfold a06 tN;rw[aY,bI,ih];constructor
  ·rintro⟨q1,q2⟩;rw[<-e1,<-e2,<-e3,<-q1,<-q2]
  ·intro q;obtain⟨q1,q2⟩:=zP q;exact⟨by rw[q1],q2⟩
theorem a6I(n:aF)(k:Option Bool)(hf:FS n.facts):∀(l:b8) (i:Nat),(∀x∈l,x.shape.wt<=1048576)->jc n k l i=bif l.all (fun x=>decide (x.facts=uS x.shape [] n.facts))then k else some false
 | [],_,_=>rfl
 |x::l,i,h=>by
  rw[jc,a82 x.shape [] n.facts (h x (by simp)) PB.nil hf,aA,Tj,aA,a6I n k hf l _ (fun y hy=>h y (by simp[hy])),dG];cases decide (x.facts=uS x.shape [] n.facts)<;>rfl
theorem a6J(n:aF)(k:Option Bool)(hf:FS n.facts)(h24:n.facts.length<=24)(hp:I7 n.nodes):∀(l:az) (i:Nat),jd n k l i=bif a06 n.nodes n.facts l i then k else some false
 | [],_=>rfl
 |x::l,i=>by
  have WV:∀c∈eb n.nodes ((i:Nat):Int),c.wt<=1048576:=by
   intro c hc;obtain⟨z,hz,e⟩:=Qx hc;rw[<-e];exact hp.wt z hz
  rw[jd,a8B n _ ⟨hp.len,hp.wt⟩,aA,aAd _ n.facts WV (hp.path i) hf h24,aA,a4z,aA,a6J n k hf h24 hp l,a06];show(bif !decide (x.tokens=yI (eb n.nodes (dD i)) n.facts)then some false else _)=_;cases decide (x.tokens=yI (eb n.nodes (dD i)) n.facts)<;>rfl
theorem a83(n:aF)(hr:jw aO.wt n.rules<=1048576)(hf:jw aE.wt n.facts<=1048576):tF n=some (isB n):=by
 unfold tF isB;rw[a7z _ hr,a6A _ hf,aA,aA];cases h1:zF n.rules with
 |false=>rfl
 |true=>
  cases h2:pG n.facts with
  |false=>rfl
  |true=>
   have h6:n.rules.length<=6:=by unfold zF at h1;simp only[aY,bI]at h1;omega
   have hv:=tf h1;simp only[aW,bQ,ah,fE];rw[aAR,aA];have hroot:(cc [⟨[],[]⟩] n.rules).1.2.map wo=(cc [] n.rules).1.2.map wo:=by rw[zL,zL];rfl
   have hA:(cc [⟨[],[]⟩] n.rules).1.1=(cc [] n.rules).1.1:=by rw[zL,zL]
   have hE:(cc [⟨[],[]⟩] n.rules).2=(cc [] n.rules).2:=by rw[zL,zL]
   have hmem:Ra n (Ln n.rules n.facts 0)=(decide (n.ends=(cc [] n.rules).2)&&(decide (n.ay=jQ (cc [] n.rules).1.1 n.facts)&&decide (n.nodes=gW (cc [] n.rules).1.2 n.facts))):=by
    unfold Ra Ln;simp
   by_cases hform:QL n ⟨n.rules,(cc [⟨[],[]⟩] n.rules).2,(cc [⟨[],[]⟩] n.rules).1.1,(cc [⟨[],[]⟩] n.rules).1.2,[],0⟩=true
   ·rw[hform];unfold QL at hform;simp only[aY,bI]at hform;obtain⟨f1,f2,f3⟩:=hform;have f2':n.nodes.map wo=(cc [] n.rules).1.2.map wo:=by rw[<-hroot];exact f2
    have f1':n.ay.map aP.shape=(cc [] n.rules).1.1.map aP.shape:=by rw[<-hA];exact f1
    have f3':n.ends=(cc [] n.rules).2:=by rw[<-hE];exact f3
    have a6z:=Pn [] hv h6;have hfn:=a2B f2';have hok:I7 n.nodes:=by
     refine⟨by have:=congrArg List.length f2';rw[aZ,aZ]at this;rw[this];exact a6z.len,fun x hx=>?_,fun i=>by rw[A6 hfn];exact a6z.path i⟩;have hm:w9 x∈(cc [] n.rules).1.2.map w9:=by rw[<-hfn];exact cH.2 ⟨x,hx,rfl⟩
     obtain⟨w,hw,e⟩:=cH.1 hm;have:w.cond=x.cond:=(kW e).2;rw[<-this];exact a6z.wt w hw
    have hsh:∀x∈n.ay,x.shape.wt<=1048576:=by
     intro x hx;have hm:x.shape∈(cc [] n.rules).1.1.map aP.shape:=by rw[<-f1'];exact cH.2 ⟨x,hx,rfl⟩
     obtain⟨w,hw,e⟩:=cH.1 hm;rw[<-e];exact(Ca [] hv w hw).1
    have g1:=S3 n.facts n.ay _ f1';have g2:=S5 n.nodes n.facts n.nodes _ 0 f2';have g3:tN n.nodes n.facts (cc [] n.rules).1.2 0=gW (cc [] n.rules).1.2 n.facts:=by
     unfold gW;have:∀(l:az) (i:Nat),tN n.nodes n.facts l i=tN (cc [] n.rules).1.2 n.facts l i:=by
      intro l
      induction l with
      |nil=>intro i;rfl
      |cons x l ih=>intro i;rw[tN,tN,ih,A6 hfn]
     exact this _ _
    rw[g3]at g2;rw[hmem,bW f3',fE,a6I n _ (FS.Dm hf) _ _ hsh,a6J n _ (FS.Dm hf) (xo h2) hok];have k1:(n.ay.all fun x=>decide (x.facts=uS x.shape [] n.facts))=decide (n.ay=jQ (cc [] n.rules).1.1 n.facts):=by rw[bh,g1,bI]
    have k2:a06 n.nodes n.facts n.nodes 0=decide (n.nodes=gW (cc [] n.rules).1.2 n.facts):=by rw[bh,g2,bI]
    rw[k1,k2];by_cases h3:0<=n.cK
    ·rw[bW h3,bB (by omega)];cases decide (n.ay=jQ (cc [] n.rules).1.1 n.facts)<;>cases decide (n.nodes=gW (cc [] n.rules).1.2 n.facts)<;>rfl
    ·rw[bB h3,bW (by omega)];rfl
   ·have hfalse:QL n ⟨n.rules,(cc [⟨[],[]⟩] n.rules).2,(cc [⟨[],[]⟩] n.rules).1.1,(cc [⟨[],[]⟩] n.rules).1.2,[],0⟩=false:=by
     cases hq:QL n ⟨n.rules,(cc [⟨[],[]⟩] n.rules).2,(cc [⟨[],[]⟩] n.rules).1.1,(cc [⟨[],[]⟩] n.rules).1.2,[],0⟩with
     |true=>exact absurd hq hform
     |false=>rfl
    rw[hfalse];have hm:Ra n (Ln n.rules n.facts 0)=false:=by
     cases hq:Ra n (Ln n.rules n.facts 0)with
     |false=>rfl
     |true=>
      exfalso;rw[hmem]at hq;simp only[aY,bI]at hq;obtain⟨q1,q2,q3⟩:=hq;apply hform;unfold QL;simp only[aY,bI];have r1:n.ay.map aP.shape=(cc [⟨[],[]⟩] n.rules).1.1.map aP.shape:=by rw[hA,q2];unfold jQ;rw[qj];rfl
      have r2:n.nodes.map wo=(cc [⟨[],[]⟩] n.rules).1.2.map wo:=by
       rw[hroot,q3];have:∀(ns l:az) (i:Nat),(tN ns n.facts l i).map wo=l.map wo:=by
        intro ns l
        induction l with
        |nil=>intro i;rfl
        |cons x l ih=>intro i;rw[tN,bG,ih];rfl
       exact this _ _ _
      exact⟨r1,r2,by rw[hE];exact q1⟩
    rw[hm,yK];rfl
end Go.Cx
namespace Go.Cx
open Go.RowKit Go.Proofs Tryz
theorem YZ{fs:aQ}(hf:FS fs):∀(cs:aj) (l:af) (n:Nat),(∀c∈cs,c.wt<=1048576)->(∀t∈l,TK n t)->∀t∈cs.foldl (xh fs) l,TK (n+cs.length) t
 | [],l,n,_,hl=>hl
 |c::cs,l,n,hc,hl=>by
  have:=YZ hf cs (xh fs l c) (n+1) (fun x hx=>hc x (by simp[hx])) (TS hl (hc c (by simp)) hf);rw[aK,show n+(cs.length+1)=n+1+cs.length from by omega];exact this
theorem zI{α:Type}{m:α->Nat}{B:Nat}:∀(l:List α),(∀x∈l,m x<=B)->hY m l<=B*l.length
 | [],_=>by simp[hY]
 |x::l,h=>by
  have h1:=zI l fun y hy=>h y (by simp[hy])
  have h2:=h x (by simp);rw[uX,aK,Nat.mul_add];omega
theorem SF{n:Nat}(l:aQ)(hl:l.length<=n)(hf:∀f∈l,f.wt<=1048576):hY aE.iH l<=6291462*n:=by
 have:=zI (m:=aE.iH) (B:=6291462) l fun f hf'=>by have:=aE.nZ f;have:=hf f hf';omega
 exact cQ this (eG _ hl)
theorem ZZ(l:aT)(h:PB l):hY aS.iH l<=2*1048576:=by
 have:=zI (m:=aS.iH) (B:=2) l fun f _=>by simp[aS.iH]
 exact cQ this (eG _ h.1)
theorem TK.iH{t:aJ}(h:TK 4 t):t.iH<=100000000:=by
 have h1:=SF (n:=4) t.facts h.1 h.2.1;have h2:=ZZ t.bind h.2.2;unfold aJ.iH;omega
end Go.Cx
namespace Go.Cx
open Go.RowKit Go.Proofs Tryz
theorem S4(ns:az)(fs:aQ):∀(l:az) (i j:Nat),(tN ns fs l i)[j]?=(l[j]?).map fun x=>⟨x.parent,x.cond,x.cP,yI (eb ns (dD (i+j))) fs⟩
 | [],_,_=>by simp[tN]
 |x::l,i,0=>by simp[tN]
 |x::l,i,j+1=>by
  rw[tN,eZ,eZ,S4 ns fs l (i+1) j,show i+1+j=i+(j+1)by omega]
end Go.Cx
namespace Go.Cx
open Go.RowKit Go.Proofs Tryz
def findF(f:aE):aQ->Nat->Int
 | [],_=> -1
 |x::xs,i=>if x=f then(i:Int)else findF f xs (i+1)
theorem OK(f:aE):∀(l:aQ) (i:Nat),decide (findF f l i>=0)=decide (f∈l)
 | [],i=>by simp[findF]
 |x::xs,i=>by
  rw[findF];by_cases h:x=f
  ·rw[bP h];subst h;simp
  ·rw[bH h,OK f xs (i+1)];have:f≠x:=fun e=>h e.symm
   simp[this]
theorem a81(l:aQ)(f:aE):uK l f=some (findF f l 0):=by
 unfold uK;have:∀(r:aQ) (i:Nat),kM l f (some (-1)) r i=some (findF f r i):=by
  intro r
  induction r with
  |nil=>intro i;rfl
  |cons x xs ih=>
   intro i;rw[kM,XG,aA,ih,findF];by_cases h:x=f
   ·rw[bW h,bP h,aW]
   ·rw[bB h,bH h,ah]
 exact this l 0
theorem a7N(l:aQ)(f:aE):tq l f=some (findF f l 0):=by
 unfold tq;have:∀(r:aQ) (i:Nat),k8 l f (some (-1)) r i=some (findF f r i):=by
  intro r
  induction r with
  |nil=>intro i;rfl
  |cons x xs ih=>
   intro i;rw[k8,a1h,aA,ih,findF];by_cases h:x=f
   ·rw[bW h,bP h,aW]
   ·rw[bB h,bH h,ah]
 exact this l 0
theorem Rv{a b:Bytes}(h:yG a b>0):yG b a<0:=by
 unfold yG at h⊢;by_cases h1:Op.bytesLess a b=true
 ·rw[bP h1]at h;omega
 ·rw[bH h1]at h;by_cases h2:a=b
  ·rw[bP h2]at h;omega
  ·have h3:Op.bytesLess b a=true:=by
    cases hb:Op.bytesLess b a with
    |true=>rfl
    |false=>exact absurd (KM (by simpa using h1) hb) h2
   rw[bP h3];omega
theorem Ry{a b:Bytes}(h:yG a b=0):a=b:=jO fun hne=>Xx hne h
theorem Q8{a b:Bytes}(h:yG a b<0):yG b a>0:=by
 unfold yG at h⊢;by_cases h1:Op.bytesLess a b=true
 ·have h3:=ME h1;have h4:¬(Op.bytesLess b a=true):=by rw[h3];simp
  have h5:¬b=a:=fun e=>by subst e;rw[xp]at h1;cases h1
  rw[bH h4,bH h5];omega
 ·rw[bH h1]at h;by_cases h2:a=b
  ·rw[bP h2]at h;omega
  ·rw[bH h2]at h;omega
theorem Rs(a b:Bytes):(DI a b>0->DI b a<0)/\(DI a b=0->a=b)/\(DI a b<0->DI b a>0):=by
 have num:∀ {s:Bytes} {n:Nat},A5 s=some n->Lib.decDigits n=s:=by
  intro s n h;unfold A5 at h;split at h
  ·split at h
   ·split at h
    ·rename_i h2;cases h;exact h2
    ·cases h
   ·cases h
  ·cases h
 unfold DI;cases ha:A5 a with
 |none=>
  cases hb:A5 b with
  |none=>exact⟨Rv,Ry,Q8⟩
  |some y=>simp
 |some x=>
  cases hb:A5 b with
  |none=>simp
  |some y=>
   simp only[KN];refine⟨fun h=>?_,fun h=>?_,fun h=>?_⟩
   ·split at h
    ·omega
    ·split at h
     ·rw[bP (by omega)];omega
     ·omega
   ·split at h
    ·omega
    ·split at h
     ·omega
     ·have:x=y:=by omega
      rw[<-num ha,<-num hb,this]
   ·split at h
    ·rw[bH (by omega),bP (by omega)];omega
    ·split at h<;>omega
theorem QD{α:Type}{g:α->α->Int}(hg:∀a b,(g a b>0->g b a<0)/\(g a b=0->a=b)/\(g a b<0->g b a>0)):∀(a b:List α),
 (∀z,vS g a b=some z->z≠0/\∃y,vS g b a=some y/\(z>0->y<0)/\(z<0->y>0))/\(vS g a b=none->vS g b a=none/\(a.length=b.length->a=b))
 | [],[]=>⟨fun z h=>(by simp[vS]at h),fun _=>⟨rfl,fun _=>rfl⟩⟩
 | [],y::ys=>⟨fun z h=>(by simp[vS]at h),fun _=>⟨by simp[vS],fun h=>by simp at h⟩⟩
 |x::xs,[]=>⟨fun z h=>(by simp[vS]at h),fun _=>⟨by simp[vS],fun h=>by simp at h⟩⟩
 |x::xs,y::ys=>by
  obtain⟨i1,i2⟩:=QD hg xs ys;obtain⟨g1,g2,g3⟩:=hg x y;by_cases h0:g x y=0
  ·have e:=g2 h0;subst e;simp only[vS,h0,ne_eq,not_true_eq_false,DB];exact⟨i1,fun h=>⟨(i2 h).1,fun hl=>by rw[(i2 h).2 (by simpa using hl)]⟩⟩
  ·have h1:g y x≠0:=by
    intro e;by_cases hp:g x y>0
    ·have:=g1 hp;omega
    ·have:=g3 (by omega);omega
   simp only[vS,ne_eq,h0,h1,not_false_eq_true,rq];refine⟨fun z h=>?_,fun h=>by cases h⟩;cases h;exact⟨h0,_,rfl,g1,g3⟩
theorem Ru{α:Type}{g:α->α->Int}(hg:∀a b,(g a b>0->g b a<0)/\(g a b=0->a=b)/\(g a b<0->g b a>0))(a b:List α):(cmpL g a b>0->cmpL g b a<0)/\(cmpL g a b=0->a=b)/\(cmpL g a b<0->cmpL g b a>0):=by
 obtain⟨h1,h2⟩:=QD hg a b;unfold cmpL;cases hd:vS g a b with
 |some z=>
  obtain⟨hz,y,hy,p,q⟩:=h1 z hd;rw[hy];exact⟨p,fun e=>absurd e hz,q⟩
 |none=>
  obtain⟨h3,h4⟩:=h2 hd;rw[h3];simp only[KN];refine⟨fun h=>?_,fun h=>?_,fun h=>?_⟩
  ·split at h
   ·omega
   ·split at h
    ·rw[bP (by omega)];omega
    ·omega
  ·split at h
   ·omega
   ·split at h
    ·omega
    ·exact h4 (by omega)
  ·split at h
   ·rw[bH (by omega),bP (by omega)];omega
   ·split at h<;>omega
theorem Ny(a b:aE):(tS a b>0->tS b a<0)/\(tS a b=0->a=b)/\(tS a b<0->tS b a>0):=by
 obtain⟨h1,h2,h3⟩:=Ru Rs a.args b.args;unfold tS;by_cases hr:a.rel=b.rel
 ·rw[bH (by simpa using hr),bH (by simpa using hr.symm)];refine⟨h1,fun h=>?_,h3⟩;cases a;cases b;simp only at hr h2 h;rw[hr,h2 h]
 ·have hr2:b.rel≠a.rel:=fun e=>hr e.symm
  rw[bP hr,bP hr2];exact⟨Rv,fun h=>absurd (Ry h) hr,Q8⟩
theorem Q9{a b c:Bytes}(h1:yG a b<0)(h2:yG b c<0):yG a c<0:=by
 have lt:∀ {x y:Bytes},yG x y<0->Op.bytesLess x y=true:=by
  intro x y h;unfold yG at h;split at h
  ·assumption
  ·split at h<;>omega
 have:=DF (lt h1) (lt h2);unfold yG;rw[bP this];omega
theorem a3x{x y:Int}:KN x y<0↔x<y:=by
 unfold KN;split
 ·omega
 ·split<;>omega
theorem W9{a b c:Bytes}(h1:DI a b<0)(h2:DI b c<0):DI a c<0:=by
 unfold DI at*;cases ha:A5 a<;>cases hb:A5 b<;>cases hc:A5 c<;>simp only[ha,hb,hc]at h1 h2⊢ <;>first|omega|exact Q9 h1 h2| (rw[a3x]at*;omega)
theorem a3w{α:Type}(g:α->α->Int):cmpL g [] []=0:=rfl
theorem a3v{α:Type}(g:α->α->Int)(y:α)(ys:List α):cmpL g [] (y::ys)= -1:=by
 unfold cmpL vS KN;simp<;>omega
theorem Xw{α:Type}(g:α->α->Int)(x:α)(xs:List α):cmpL g (x::xs) []=1:=by
 unfold cmpL vS KN;simp<;>omega
theorem Xv{α:Type}(g:α->α->Int)(x y:α)(xs ys:List α):cmpL g (x::xs) (y::ys)=if g x y≠0 then g x y else cmpL g xs ys:=by
 unfold cmpL;rw[vS];by_cases h:g x y≠0
 ·rw[bP h,bP h]
 ·rw[bH h,bH h,aK,aK];cases vS g xs ys with
  |some z=>rfl
  |none=>
   show KN _ _=KN _ _;unfold KN
   congr 1
   ·rw[vW];omega
   ·congr 1
    rw[vW];omega
theorem Q7{α:Type}{g:α->α->Int}(h0:∀a b,g a b=0->a=b)(ht:∀a b c,g a b<0->g b c<0->g a c<0):∀(a b c:List α),cmpL g a b<0->cmpL g b c<0->cmpL g a c<0
 | [],[],c,h1,_=>by rw[a3w]at h1;omega
 |_::_,[],c,h1,_=>by rw[Xw]at h1;omega
 |_,y::ys,[],_,h2=>by rw[Xw]at h2;omega
 | [],y::ys,z::zs,_,_=>by rw[a3v];omega
 |x::xs,y::ys,z::zs,h1,h2=>by
  rw[Xv]at*;by_cases e1:g x y=0
  ·have:=h0 _ _ e1;subst this;rw[bH (by omega)]at h1;by_cases e2:g x z=0
   ·rw[bH (by omega)]at h2⊢;exact Q7 h0 ht xs ys zs h1 h2
   ·rw[bP e2]at h2⊢;exact h2
  ·rw[bP e1]at h1;by_cases e2:g y z=0
   ·have:=h0 _ _ e2;subst this;rw[bP e1];exact h1
   ·rw[bP e2]at h2;have:=ht x y z h1 h2;rw[bP (by omega)];exact this
theorem Q6{a b c:aE}(h1:tS a b<0)(h2:tS b c<0):tS a c<0:=by
 unfold tS at*;by_cases e1:a.rel=b.rel
 ·by_cases e2:b.rel=c.rel
  ·rw[bH (by simpa using e1)]at h1;rw[bH (by simpa using e2)]at h2;rw[bH (by simpa using e1.trans e2)];exact Q7 (fun a b=>(Rs a b).2.1) (fun _ _ _=>W9) _ _ _ h1 h2
  ·rw[bP e2]at h2;rw[e1,bP e2];exact h2
 ·rw[bP e1]at h1;by_cases e2:b.rel=c.rel
  ·rw[<-e2,bP e1];exact h1
  ·rw[bP e2]at h2;have:=Q9 h1 h2;have hne:a.rel≠c.rel:=fun e=>by rw[e,Rx]at this;omega
   rw[bP hne];exact this
theorem Rt(a:aE):¬tS a a<0:=by
 intro h;have:=(Ny a a).2.2 h;omega
theorem Yz(a:aE):tS a a=0:=by
 have h1:=Rt a;have h2:=(Ny a a).1;omega
theorem IA{a b:aQ}:cmpL tS a b=0↔a=b:=by
 constructor
 ·exact(Ru Ny a b).2.1
 ·rintro rfl
  induction a with
  |nil=>rfl
  |cons x xs ih=>rw[Xv,bH (by simp[Yz]),ih]
theorem zY{p:Option aE}{x:aE}{xs:aQ}(h:chainB p (x::xs)=true):yB x=true/\(∀q,p=some q->tS q x<0)/\chainB (some x) xs=true:=by
 cases p with
 |none=>simp[chainB]at h;exact⟨h.1,by simp,h.2⟩
 |some q=>
  simp only[chainB,aY,bI]at h;exact⟨h.1.1,fun q' e=>by cases e;exact h.1.2,h.2⟩
theorem Ro:∀ {l:aQ} {p:aE},chainB (some p) l=true->∀x∈l,tS p x<0
 | [],_,_,_,h=>by cases h
 |y::ys,p,h,x,hx=>by
  obtain⟨_,h2,h3⟩:=zY h;have hp:=h2 p rfl;rcases bM.1 hx with rfl|hx
  ·exact hp
  ·exact Q6 hp (Ro h3 x hx)
theorem MF:∀ {l:aQ} {p:Option aE},chainB p l=true->l.Nodup
 | [],_,_=>List.nodup_nil
 |x::xs,p,h=>by
  obtain⟨_,_,h3⟩:=zY h;rw[eP];exact⟨fun hx=>Rt x (Ro h3 x hx),MF h3⟩
theorem Of{l:aQ}(h:pG l=true):l.Nodup:=by
 unfold pG at h;simp only[aY]at h;exact MF h.1
theorem Oh:∀ {l:aQ} {p:Option aE},chainB p l=true->∀x∈l,yB x=true
 | [],_,_,_,h=>by cases h
 |y::ys,p,h,x,hx=>by
  obtain⟨h1,_,h3⟩:=zY h;rcases bM.1 hx with rfl|hx
  ·exact h1
  ·exact Oh h3 x hx
def PJ(f:aE)(l:aQ):aQ:=l.filter fun x=> !decide (x=f)
theorem UY{p:Option aE}{x:aE}{xs:aQ}(h:chainB (some x) xs=true)(hp:∀q,p=some q->tS q x<0):chainB p xs=true:=by
 cases xs with
 |nil=>cases p<;>rfl
 |cons y ys=>
  obtain⟨h1,h2,h3⟩:=zY h;cases p with
  |none=>simp[chainB,h1,h3]
  |some q=>simp[chainB,h1,h3,Q6 (hp q rfl) (h2 x rfl)]
theorem Q5(f:aE):∀(l:aQ) (p:Option aE),chainB p l=true->chainB p (PJ f l)=true
 | [],_,h=>h
 |x::xs,p,h=>by
  obtain⟨h1,h2,h3⟩:=zY h;have ih:=Q5 f xs;unfold PJ at*;by_cases e:x=f
  ·rw[iJ (by simp[e])];exact ih p (UY h3 h2)
  ·rw[iK (by simp[e])];have:=ih (some x) h3;cases p with
   |none=>simp[chainB,h1,this]
   |some q=>simp[chainB,h1,this,h2 q rfl]
theorem a3p{l:aQ}(f:aE)(h:pG l=true):pG (PJ f l)=true:=by
 unfold pG at h⊢;simp only[aY,bI]at h⊢;exact⟨Q5 f l none h.1,cQ (mZ _ _) h.2⟩
def PV(l:aQ)(f:aE):aQ×Bool:=if pG l=true/\f∈l then(PJ f l,true)else(l,false)
end Go.Cx
namespace Go.Cx
open Go.RowKit Go.Proofs Tryz
theorem Zr{p:aE}(h:ye p=true)(hl:p.args.length<=5):Cov (vN p) p:=by
 have hT:∀t∈p.args,qI t=true:=YY h;refine⟨Zs h hl,h,rfl,unB (p.args.foldl jR []),?_,fun y hy=>?_⟩
 ·rw[Lt,qj];have:p.args.map (unB (p.args.foldl jR [])∘Ey (p.args.foldl jR []))=p.args.map id:=by
   apply mB;intro t ht;exact aAh hl ht (hT t ht)
  rw[this,List.map_id]
 ·refine OX fun q hq e=>?_
  obtain⟨i,hi,_,hpv,_⟩:=OZ (Eo p.args Xm.nil) hq;have h5:=CU p.args;have:=BF (TR i (by omega));rw[<-hpv,e,hy]at this;cases this
theorem SD{p f:aE}{b:aT}(hl:p.args.length<=5)(hm:(uW p f b).2=true):(uW (vN p) f []).2=true:=by
 unfold uW at hm;cases hc:(ye p&&(yB f&&(ol b&&(p.rel==f.rel&&decide (p.args.length=f.args.length)))))with
 |false=>rw[hc]at hm;cases hm
 |true=>
  rw[hc,aW]at hm;simp only[aY,bI,cj]at hc;obtain⟨c1,c2,c3,c4,c5⟩:=hc;obtain⟨h,_,h2,h3⟩:=Bz p.args f.args b c5 (fun x hx=>(Rq (UP c3) x hx).1) hm;exact a3z (Zr c1 hl) (Qk.2 ⟨c1,c2,c4,h,h2,h3⟩)
theorem QI{c:aN}(hl:c.pat.args.length<=5)(t:aJ):∀fs:aQ,(uS (vN c.pat) [] fs).flatMap (ext1 c t)=fs.flatMap (ext1 c t)
 | []=>rfl
 |f::fs=>by
  have ih:=QI hl t fs;unfold uS at*;cases hm:(uW (vN c.pat) f []).2 with
  |true=>rw[iK (by rw[hm]),dM,dM,ih]
  |false=>
   have h0:ext1 c t f=[]:=by
    unfold ext1;cases h2:(uW c.pat f t.bind).2 with
    |false=>rfl
    |true=>rw[SD hl h2]at hm;cases hm
   rw[iJ (by simp[hm]),dM,h0,ih];rfl
theorem ZD{p:aE}{b:aT}(hl:p.args.length<=5)(fs:aQ):uS p b (uS (vN p) [] fs)=uS p b fs:=by
 unfold uS;rw[xV];apply yL;intro f _;cases h:(uW p f b).2 with
 |false=>rfl
 |true=>rw[SD hl h];rfl
theorem Ze{c:aN}(hl:c.pat.args.length<=5)(fs:aQ)(A:af):xh (uS (vN c.pat) [] fs) A c=xh fs A c:=by
 unfold xh
 congr 1
 funext t
 unfold NU OO;rw[QI hl,ZD hl]
theorem a2E{c:aN}(h1:c.kind≠1)(h2:c.kind≠2)(fs:aQ)(A:af):xh [] A c=xh fs A c:=by
 unfold xh
 congr 1
 funext t
 unfold NU OO;rw[bB h1,bB h2];rfl
def KD(A:af):Prop:=A.Pairwise fun t u=>t.facts≠u.facts
theorem Le{c:aN}{t u:aJ}{f:aE}(h:u∈ext1 c t f):u.facts=t.facts++[f]:=by
 unfold ext1 at h;cases hm:(uW c.pat f t.bind).2 with
 |false=>rw[hm]at h;cases h
 |true=>rw[hm,aW]at h;rw[dw.1 h]
theorem Qp{c:aN}{fs:aQ}{t u:aJ}(h:u∈NU c fs t):(c.kind=1/\∃f∈fs,u.facts=t.facts++[f])\/(c.kind≠1/\u=t):=by
 unfold NU at h;by_cases hk:c.kind=1
 ·rw[bW hk,aW]at h;obtain⟨f,hf,hu⟩:=cC.1 h;exact .inl ⟨hk,f,hf,Le hu⟩
 ·rw[bB hk,ah]at h;cases hh:OO c t.bind fs with
  |false=>rw[hh]at h;cases h
  |true=>rw[hh,aW]at h;exact .inr ⟨hk,dw.1 h⟩
theorem a4m{c:aN}{fs:aQ}{A:af}(hf:fs.Nodup)(hA:KD A):KD (xh fs A c):=by
 unfold KD xh;rw[F4];refine⟨fun t _=>?_,?_⟩
 ·unfold NU;cases decide (c.kind=1)with
  |true=>
   rw[aW,F4];refine⟨fun f _=>?_,?_⟩
   ·unfold ext1;cases(uW c.pat f t.bind).2<;>simp
   ·exact List.Pairwise.imp (fun {f g} hne x hx y hy e=>by
     rw[Le hx,Le hy]at e;exact hne (by simpa using e)) hf
  |false=>cases OO c t.bind fs<;>simp
 ·exact List.Pairwise.imp (fun {t u} hne x hx y hy e=>by
   rcases Qp hx with⟨k,f,_,e1⟩|⟨k,e1⟩<;>rcases Qp hy with⟨k',g,_,e2⟩|⟨k',e2⟩
   ·rw[e1,e2]at e;exact hne (List.append_inj' e rfl).1
   ·exact k' k
   ·exact k k'
   ·rw[e1,e2]at e;exact hne e) hA
theorem KD.one(t:aJ):KD [t]:=List.pairwise_singleton _ _
theorem Y4{fs:aQ}(hf:fs.Nodup):∀(cs:aj) {A:af},KD A->KD (cs.foldl (xh fs) A)
 | [],_,h=>h
 |c::cs,_,h=>Y4 hf cs (a4m hf h)
theorem a5A{cs:aj}{fs:aQ}(hf:fs.Nodup):KD (yI cs fs):=Y4 hf cs (KD.one _)
def YS(t:aJ)(l:af):af:=l.filter fun u=>decide (t.facts=u.facts)
def RV(l:af)(t:aJ):Bool:=l.any fun u=>decide (u.facts=t.facts)
def NL(now old:af):Nat:=(now.filter fun t=>RV old t).length
theorem SL{t:aJ}:∀ {l:af},KD l->(YS t l).length=(bif RV l t then 1 else 0)
 | [],_=>rfl
 |u::l,h=>by
  unfold KD at h;rw[k6]at h;have ih:=SL (t:=t) (l:=l) h.2;unfold YS RV at*;by_cases e:t.facts=u.facts
  ·rw[iK (by simp[e]),uc,bW e.symm,Bool.true_or,aW,aK,ih];have:(l.any fun u=>decide (u.facts=t.facts))=false:=by
    rw[CM];intro w hw;have:=h.1 w hw;rw[<-e]at this;simp only[bI];exact fun e2=>this e2.symm
   rw[this];rfl
  ·rw[iJ (by simp[e]),uc,bB (fun h=>e h.symm),pF,ih]
def P7(al:b8)(x:Node):Prop:=(x.cond.kind=1\/x.cond.kind=2->∃a:Nat,x.cP=dD a/\∃y,al[a]?=some y/\y.shape=vN x.cond.pat)/\(¬(x.cond.kind=1\/x.cond.kind=2)->x.cP= -1)
theorem P7.mono{al:b8}{x:Node}(h:P7 al x)(m:b8):P7 (al++m) x:=⟨fun hk=>by
 obtain⟨a,h1,y,h2,h3⟩:=h.1 hk;exact⟨a,h1,y,by rw[b9 (aH.1 h2).1];exact h2,h3⟩,h.2⟩
theorem UJ{sh:aE}:∀ {l:b8} {i j:Nat},Yw sh l i=some j->∃x,l[j-i]?=some x/\i<=j/\x.shape=sh
 |x::l,i,j,h=>by
  unfold Yw at h;split at h
  ·rename_i hc;cases h;exact⟨x,by simp,bR _,hc⟩
  ·obtain⟨y,h1,h2,h3⟩:=UJ h;refine⟨y,?_,by omega,h3⟩;rw[show j-i=(j-(i+1))+1 by omega];exact h1
theorem a6c(al:b8)(sh:aE):(∃m,(Xo al sh).1=al++m)/\∃a:Nat,(Xo al sh).2=dD a/\∃y,(Xo al sh).1[a]?=some y/\y.shape=sh:=by
 unfold Xo;cases h:Yw sh al 0 with
 |some i=>
  obtain⟨x,h1,_,h3⟩:=UJ h;exact⟨⟨[],by simp⟩,i,rfl,x,by simpa using h1,h3⟩
 |none=>exact⟨⟨_,rfl⟩,al.length,rfl,⟨sh,[]⟩,by simp,rfl⟩
theorem a6f(al:b8)(c:aN)(p:Int)(tk:af):(∃m,(Rm al c).1=al++m)/\P7 (Rm al c).1 ⟨p,c,(Rm al c).2,tk⟩:=by
 unfold Rm;by_cases hk:c.kind=1\/c.kind=2
 ·rw[bP hk];obtain⟨h1,h2⟩:=a6c al (vN c.pat);exact⟨h1,fun _=>h2,fun h=>absurd hk h⟩
 ·rw[bH hk];exact⟨⟨[],by simp⟩,fun h=>absurd h hk,fun _=>rfl⟩
theorem a6g{al:b8}{ns:az}{p:Int}{c:aN}(h:∀x∈ns,P7 al x):∀x∈(Nq al ns p c).1.2,P7 (Nq al ns p c).1.1 x:=by
 unfold Nq;cases Rn p c ns 0 with
 |some i=>exact h
 |none=>
  obtain⟨⟨m,hm⟩,h2⟩:=a6f al c p [];intro x hx;rcases ar.1 hx with hx|hx
  ·show P7 (Rm al c).1 x;rw[hm];exact(h x hx).mono m
  ·rw[dw.1 hx];exact h2
theorem a2s:∀(cs:aj) (s:(b8×az)×Int),(∀x∈s.1.2,P7 s.1.1 x)->∀x∈(cs.foldl IG s).1.2,P7 (cs.foldl IG s).1.1 x
 | [],_,h=>h
 |c::cs,s,h=>a2s cs (IG s c) (a6g h)
theorem a2t:∀(l:au) (z:(b8×az)×bJ),(∀x∈z.1.2,P7 z.1.1 x)->∀x∈(l.foldl KC z).1.2,P7 (l.foldl KC z).1.1 x
 | [],_,h=>h
 |r::l,z,h=>a2t l (KC z r) (a2s (gY r) (z.1,0) h)
theorem a56(tk:af)(rs:au):∀x∈(cc tk rs).1.2,P7 (cc tk rs).1.1 x:=
 a2t rs (([],[root tk]),[]) (fun x hx=>by
  rw[dw.1 hx];exact⟨fun h=>by simp[root]at h,fun _=>rfl⟩)
theorem a2y{tk:af}{rs:au}{i:Nat}{x:Node}(h1:1<=i)(hx:(cc tk rs).1.2[i]?=some x):∃r∈rs,x.cond∈gY r:=by
 have hp:=(zK tk rs).1;obtain⟨p,hpp,hpi⟩:=hp.below i x h1 hx;obtain⟨r,hr,j,j1,j2,e⟩:=hp.path i h1 (aH.1 hx).1;rw[xm hx h1 hpp hpi]at e;exact⟨r,hr,cF (by rw[<-e];simp:x.cond∈(gY r).take j)⟩
theorem a35{ns:az}{i p:Nat}{x:Node}(h1:1<=i)(hx:ns[i]?=some x)(hp:x.parent=dD p)(hpi:p<i)(fs:aQ):yI (eb ns (dD i)) fs=xh fs (yI (eb ns (dD p)) fs) x.cond:=by
 rw[xm hx h1 hp hpi];unfold yI;rw[List.foldl_append];rfl
end Go.Cx
namespace Go.Cx
open Go.RowKit Go.Proofs Tryz
theorem a6F(a:aQ)(f:aE)(K:aQ->Option aQ):∀(rest:aQ) (i:Nat) (w:aQ),(∀x∈rest,x.args.length<=1048576)->w.length+rest.length<=1048576->fW a f K rest i w=K (w++PJ f rest)
 | [],i,w,_,_=>by rw[fW];simp[PJ]
 |x::xs,i,w,hs,hl=>by
  simp only[aK]at hl;have ih:=a6F a f K xs (i+1);unfold PJ at*;rw[fW,XG,aA];by_cases e:x=f
  ·rw[bW e,bQ,ah,iJ (by simp[e]),ih w (fun y hy=>hs y (by simp[hy])) (by omega)]
  ·rw[bB e,cg,aW,Tf x (by have:=hs x (by simp);omega),aA,ot (w:=w) (c:=aE.c) (y:=[D.str x.rel,D.sl (x.args.map tx)]) (by omega) (by decide),aW,iK (by simp[e]),ih (w++[x]) (fun y hy=>hs y (by simp[hy])) (by simp;omega)];simp
theorem aAX(l:aQ)(f:aE)(hl:jw aE.wt l<=1048576):r9 l f=some (PV l f):=by
 have hm:∀x∈l,x.args.length<=1048576:=fun x hx=>by have:=aE.eF (n:=1048576) (p:=x) (by have:=iP (w:=aE.wt) hx;omega);omega
 have hlen:=gV aE.wt l;have cp:=Dr l (by omega) hm;unfold r9 PV;rw[a6A l hl,aA];cases h1:pG l with
 |false=>rw[cg,aW,cp,aA,bH (by simp)]
 |true=>
  have hd:decide (findF f l 0<0)= !decide (f∈l):=by
   rw[<-OK f l 0,<-decide_not]
   congr 1
   rw[vW];omega
  rw[bQ,ah,a81,aA,hd];by_cases h3:f∈l
  ·rw[bW h3,bQ,ah,bP ⟨rfl,h3⟩];unfold wJ;rw[a6F l f _ l 0 [] hm (by simp;omega)];rfl
  ·rw[bB h3,cg,aW,cp,aA,bH (by simp[h3])]
theorem Oi{f:aE}:∀ {l:aQ} (i:Nat),f∈l->∃pre post,l=pre++f::post/\f∉pre/\findF f l i=((i+pre.length:Nat):Int)
 | [],_,h=>by cases h
 |x::xs,i,h=>by
  by_cases e:x=f
  ·subst e;exact⟨[],xs,rfl,by simp,by rw[findF,bP rfl];rfl⟩
  ·have hx:f∈xs:=by
    rcases bM.1 h with h|h
    ·exact absurd h.symm e
    ·exact h
   obtain⟨pre,post,h1,h2,h3⟩:=Oi (i+1) hx;refine⟨x::pre,post,by rw[h1];rfl,?_,?_⟩
   ·simp only[bM,KI];exact⟨fun h=>e h.symm,h2⟩
   ·rw[findF,bH e,h3,aK,show i+1+pre.length=i+(pre.length+1)by omega]
theorem OJ{f:aE}:∀ {l:aQ},f∉l->PJ f l=l
 | [],_=>rfl
 |x::xs,h=>by
  simp only[bM,KI]at h;have ih:=OJ (l:=xs) h.2;unfold PJ at*;rw[iK (by simp only[nx,kX];exact fun e=>h.1 e.symm),ih]
theorem a0x{f:aE}{pre post:aQ}(h1:f∉pre)(h2:f∉post):PJ f (pre++f::post)=pre++post:=by
 have e1:=OJ h1;have e2:=OJ h2;unfold PJ at*;rw[BO,iJ (by simp),e1,e2]
theorem a9n(l:aQ)(f:aE)(hl:jw aE.wt l<=1048576):qo l f=some (PV l f):=by
 have hm:∀x∈l,x.args.length<=1048576:=fun x hx=>by have:=aE.eF (n:=1048576) (p:=x) (by have:=iP (w:=aE.wt) hx;omega);omega
 have hlen:=gV aE.wt l;have cp:=zz l (by omega) hm;unfold qo PV;rw[a7N,aA,a5b l hl,aA];cases h1:pG l with
 |false=>rw[cg,aW,cp,aA,bH (by simp)]
 |true=>
  have hd:decide (findF f l 0<0)= !decide (f∈l):=by
   rw[<-OK f l 0,<-decide_not]
   congr 1
   rw[vW];omega
  rw[bQ,ah,hd];by_cases h3:f∈l
  ·rw[bW h3,bQ,ah,bP ⟨rfl,h3⟩];obtain⟨pre,post,e1,e2,e3⟩:=Oi 0 h3;have hnd:=Of h1;have e4:f∉post:=by
    rw[e1,bN]at hnd;exact(eP.1 hnd.2.1).1
   rw[cm]at e3;have hl1:l.length=pre.length+(post.length+1):=by rw[e1];simp
   have hw:IntKind.i64.wrap (findF f l 0+1)=((pre.length+1:Nat):Int):=by rw[e3];exact KG (by omega)
   have p1:Cw ((l.map aE.c).length) none (some (D.int .i64 (findF f l 0)))=some (0,pre.length):=by
    rw[aAG (by omega) (by rw[aZ];omega),e3];rfl
   have p2:Cw ((l.map aE.c).length) (some (D.int .i64 (IntKind.i64.wrap (findF f l 0+1)))) none=some (pre.length+1,l.length):=by
    rw[hw];unfold Cw;rw[aZ];simp only[bP (show 0<=((pre.length+1:Nat):Int)/\((pre.length+1:Nat):Int).toNat<=l.length from⟨by omega,by omega⟩)];rfl
   have t1:(l.take pre.length).drop 0=pre:=by rw[e1];simp
   have t2:(l.take l.length).drop (pre.length+1)=post:=by
    rw[D9,e1,List.drop_append,lN (by omega),show pre.length+1-pre.length=1 by omega];rfl
   rw[p1,aA];dsimp only;rw[t1,zz pre (by omega) (fun x hx=>hm x (by rw[e1];simp[hx])),aA,p2,aA];dsimp only;rw[t2,zz post (by omega) (fun x hx=>hm x (by rw[e1];simp[hx])),aA,Hz (by simp;omega) (by decide),aW];have e5:PJ f l=pre++post:=by rw[e1];exact a0x e2 e4
   rw[e5]
  ·rw[bB h3,cg,aW,cp,aA,bH (by simp[h3])]
end Go.Cx
namespace Go.Cx
open Go.RowKit Go.Proofs Tryz
structure G4(n:aF):Prop where
 rules:jw aO.wt n.rules<=1048576
 facts:jw aE.wt n.facts<=1048576
 ends:n.ends.length<=1048576
 ay:n.ay.length<=1048576
 cP:∀a∈n.ay,a.shape.wt<=1048576/\FS a.facts
 nodes:n.nodes.length<=1048576
 node:∀x∈n.nodes,x.cond.wt<=1048576/\x.tokens.length<=1048576/\∀t∈x.tokens,TK 1048576 t
theorem FS.args{fs:aQ}(h:FS fs):∀f∈fs,f.args.length<=1048576:=fun f hf=>aE.eF (h.2 f hf)
theorem G4.Dm{n:aF}(h:n.wt<=1048576):G4 n:=by
 have h0:=h;unfold aF.wt at h0;have a1:=gV zw n.ends;have a2:=gV aP.wt n.ay;have a3:=gV Node.wt n.nodes;refine⟨by omega,by omega,by omega,by omega,fun a ha=>?_,by omega,fun x hx=>?_⟩
 ·have h1:a.wt<=1048576:=by have:=iP (w:=aP.wt) ha;omega
  unfold aP.wt at h1;exact⟨by unfold aE.wt;omega,FS.Dm (by omega)⟩
 ·have h1:x.wt<=1048576:=by have:=iP (w:=Node.wt) hx;omega
  unfold Node.wt at h1;have h2:=gV aJ.wt x.tokens;refine⟨by unfold aN.wt;omega,by omega,fun t ht=>?_⟩;have h3:t.wt<=1048576:=by have:=iP (w:=aJ.wt) ht;omega
  unfold aJ.wt at h3;have h4:=gV aE.wt t.facts;have h5:=gV aS.wt t.bind;refine⟨by omega,fun f hf=>by have:=iP (w:=aE.wt) hf;omega,by omega,fun p hp=>?_⟩;have h6:p.wt<=1048576:=by have:=iP (w:=aS.wt) hp;omega
  unfold aS.wt tw at h6;omega
theorem a4s(l:af)(hl:l.length<=1048576)(h:∀t∈l,TK 1048576 t):jh l=some l:=by
 unfold jh;rw[Fu (c:=aJ.c) (b:=48) (f:=rU) (g:=fun x=>x) (L:=jM l _) (k:=_) (by decide) (fun _ _=>rfl) (fun _ _ _ _=>rfl) _ _ _ (fun t ht=>a2W t (h t ht)) (by simp;omega)];simp
theorem a4K(l:af)(hl:l.length<=1048576)(h:∀t∈l,TK 1048576 t):lU l=some l:=by
 unfold lU;rw[Fu (c:=aJ.c) (b:=48) (f:=fun t:aJ=>(cv t.facts).bind fun y=>(jE t.bind).bind fun z=>some (⟨y,z⟩:aJ)) (g:=fun x=>x) (L:=iV l _) (k:=_) (by decide) (fun _ _=>rfl) (fun x xs i w=>by
  rw[iV];cases cv x.facts with
  |none=>rfl
  |some a=>cases jE x.bind<;>rfl) _ _ _ (fun t ht=>by
  have hk:=h t ht;rw[zz t.facts hk.1 (fun f hf=>aE.eF (hk.2.1 f hf)),aA,Wk t.bind (by have:=hk.2.2.1;omega)];rfl) (by simp;omega)]
 simp
theorem aAU(l:bJ)(h:l.length<=1048576):xK l=some l:=by
 unfold xK;rw[Hz (by simp;omega) (by decide),aW,cN]
theorem a9m(l:bJ)(h:l.length<=1048576):tv l=some l:=by
 unfold tv;rw[Hz (by simp;omega) (by decide),aW,cN]
theorem XD(n:aF)(h:G4 n):rW n=some n:=by
 have hF:=FS.Dm h.facts;have h1:=h.ay;have h2:=h.nodes;unfold rW;rw[VL n.rules h.rules,aA,aAU n.ends h.ends,aA,Dr n.facts hF.1 hF.args,aA];rw[Fu (c:=aP.c) (b:=64) (f:=fun a:aP=>(eN a.shape).bind fun y=>(eS a.facts).bind fun z=>some (⟨y,z⟩:aP)) (g:=fun x=>x) (L:=nV n _ _ _ _) (k:=_) (by decide) (fun _ _=>rfl) (fun x xs i w=>by
  rw[nV];cases eN x.shape with
  |none=>rfl
  |some a=>cases eS x.facts<;>rfl) _ _ _ (fun a ha=>by
  obtain⟨g1,g2⟩:=h.cP a ha;rw[a2X a.shape (by have:=aE.eF g1;omega),aA,Dr a.facts g2.1 g2.args];rfl) (by simp;omega)]
 rw[Fu (c:=Node.c) (b:=120) (f:=fun x:Node=>(jv x.cond).bind fun y=>(jh x.tokens).bind fun z=>some (⟨x.parent,y,x.cP,z⟩:Node)) (g:=fun x=>x) (L:=nW n _ _ _ _ _) (k:=_) (by decide) (fun _ _=>rfl) (fun x xs i w=>by
  rw[nW];cases jv x.cond with
  |none=>rfl
  |some a=>cases jh x.tokens<;>rfl) _ _ _ (fun x hx=>by
  obtain⟨g1,g2,g3⟩:=h.node x hx;rw[Te x.cond (by have:=aE.eF (aN.fC g1);omega),aA,a4s x.tokens g2 g3];rfl) (by simp;omega)]
 simp
theorem Wj(n:aF)(h:G4 n):kD n=some n:=by
 have hF:=FS.Dm h.facts;have h1:=h.ay;have h2:=h.nodes;unfold kD;rw[Uv n.rules h.rules,aA,a9m n.ends h.ends,aA,zz n.facts hF.1 hF.args,aA];rw[Fu (c:=aP.c) (b:=64) (f:=fun a:aP=>(eA a.shape).bind fun y=>(cv a.facts).bind fun z=>some (⟨y,z⟩:aP)) (g:=fun x=>x) (L:=iA n _ _ _ _) (k:=_) (by decide) (fun _ _=>rfl) (fun x xs i w=>by
  rw[iA];cases eA x.shape with
  |none=>rfl
  |some a=>cases cv x.facts<;>rfl) _ _ _ (fun a ha=>by
  obtain⟨g1,g2⟩:=h.cP a ha;rw[a1f a.shape (by have:=aE.eF g1;omega),aA,zz a.facts g2.1 g2.args];rfl) (by simp;omega)]
 rw[Fu (c:=Node.c) (b:=120) (f:=fun x:Node=>(er x.cond).bind fun y=>(lU x.tokens).bind fun z=>some (⟨x.parent,y,x.cP,z⟩:Node)) (g:=fun x=>x) (L:=iB n _ _ _ _ _) (k:=_) (by decide) (fun _ _=>rfl) (fun x xs i w=>by
  rw[iB];cases er x.cond with
  |none=>rfl
  |some a=>cases lU x.tokens<;>rfl) _ _ _ (fun x hx=>by
  obtain⟨g1,g2,g3⟩:=h.node x hx;rw[TB x.cond (by have:=aE.eF (aN.fC g1);omega),aA,a4K x.tokens g2 g3];rfl) (by simp;omega)]
 simp
theorem Wl{n:aF}(h:isB n=true):zF n.rules=true/\pG n.facts=true/\0<=n.cK/\n=Ln n.rules n.facts n.cK:=by
 unfold isB Ra Ln at h;simp only[aY,bI]at h;obtain⟨b1,b2,b0,_,b3,_,b5,b4⟩:=h;refine⟨b1,b2,b0,?_⟩;unfold Ln;cases n;simp only at b3 b4 b5⊢;rw[<-b3,<-b4,<-b5]
theorem Ug{f:aE}(h:yB f=true):f.wt<=100:=by
 unfold yB at h;simp only[aY,bI,bA]at h;obtain⟨h1,h2,h3⟩:=h;have a1:=SG h2;have a2:=Pp f.args (fun x hx=>by have:=I9 (h1 x hx);omega);unfold aE.wt tw;unfold tw at a2;omega
theorem Pz{fs:aQ}(h:pG fs=true):∀f∈fs,yB f=true:=by
 unfold pG at h;simp only[aY]at h;exact Oh h.1
theorem SZ{α:Type}{w:α->Nat}{B:Nat}:∀(l:List α),(∀x∈l,w x<=B)->jw w l<=(B+1)*l.length
 | [],_=>by simp[jw]
 |x::l,h=>by
  have h1:=SZ l fun y hy=>h y (by simp[hy])
  have h2:=h x (by simp);rw[qL,aK,Nat.mul_add];omega
theorem DD{fs:aQ}(h:pG fs=true):jw aE.wt fs<=2424:=by
 have h1:=SZ (w:=aE.wt) (B:=100) fs fun f hf=>Ug (Pz h f hf)
 have h2:=xo h;have:(100+1)*fs.length<=(100+1)*24:=eG _ h2;omega
theorem yC(ns:az)(fs:aQ)(i:Nat):(gW ns fs)[i]?=(ns[i]?).map fun x=>⟨x.parent,x.cond,x.cP,yI (eb ns (dD i)) fs⟩:=by
 unfold gW;rw[S4,cm]
theorem Dg(ns:az)(fs:aQ):(gW ns fs).length=ns.length:=ZC ns fs ns 0
theorem BW{rs:au}(h:zF rs=true):rs.length<=6:=by unfold zF at h;simp only[aY,bI]at h;omega
theorem R7{rs:au}(tk:af)(h:zF rs=true):(cc tk rs).1.1.length<=24:=by
 have h6:=BW h;have main:∀(l:au) (z:(b8×az)×bJ),(∀r∈l,nv r=true)->(l.foldl KC z).1.1.length<=z.1.1.length+4*l.length:=by
  intro l
  induction l with
  |nil=>intro z _;exact bR _
  |cons r l ih=>
   intro z hl;have h1:=ih (KC z r) (fun x hx=>hl x (by simp[hx]));have h2:=(II (gY r) (z.1,0)).1;have h3:=BJ (hl r (by simp));have h4:(KC z r).1.1.length=((gY r).foldl IG (z.1,0)).1.1.length:=rfl;rw[di,aK];dsimp only at h2;omega
 have:=main rs (([],[root tk]),[]) (tf h);unfold cc;simp only[bK]at this;omega
theorem Ht{rs:au}{fs:aQ}(h1:zF rs=true)(h2:pG fs=true){i:Nat}{x:Node}(hx:(gW (cc [] rs).1.2 fs)[i]?=some x):x.cond.wt<=1048576/\x.tokens.length<=390625/\(∀t∈x.tokens,TK 4 t)/\KD x.tokens:=by
 have hv:=tf h1;have hok:=Pn [] hv (BW h1);rw[yC]at hx;obtain⟨y,hy,rfl⟩:=E1.1 hx;have hFS:=FS.Dm (by have:=DD h2;omega:jw aE.wt fs<=1048576);have WV:∀c∈eb (cc [] rs).1.2 (dD i),c.wt<=1048576:=by
  intro c hc;obtain⟨z,hz,e⟩:=Qx hc;rw[<-e];exact hok.wt z hz
 refine⟨hok.wt y (aC hy),a34 (hok.path i) (xo h2),fun t ht=>?_,a5A (Of h2)⟩;exact(YZ hFS _ [⟨[],[]⟩] 0 WV X3 t ht).le (by have:=hok.path i;omega)
theorem X0{rs:au}{fs:aQ}(t:Int)(h1:zF rs=true)(h2:pG fs=true)(hr:jw aO.wt rs<=1048576):G4 (Ln rs fs t):=by
 have hv:=tf h1;have h6:=BW h1;have hw:=DD h2;have hl:=Ds [] hv h6;refine⟨hr,by show jw aE.wt fs<=1048576;omega,?_,?_,?_,?_,?_⟩
 ·show(cc [] rs).2.length<=1048576;rw[(zK [] rs).2.1];omega
 ·show(jQ (cc [] rs).1.1 fs).length<=1048576;unfold jQ;rw[aZ];have:=R7 [] h1;omega
 ·intro a ha;obtain⟨y,hy,rfl⟩:=cH.1 (show a∈(cc [] rs).1.1.map _ from ha);refine⟨(Ca [] hv y hy).1,?_,fun f hf=>?_⟩
  ·have:=mZ (fun f=>(uW y.shape f []).2) fs;have:=xo h2;show(uS y.shape [] fs).length<=1048576;unfold uS;omega
  ·have:=Ug (Pz h2 f (fY.1 hf).1);omega
 ·show(gW (cc [] rs).1.2 fs).length<=1048576;rw[Dg];omega
 ·intro x hx;obtain⟨i,hi⟩:=cq (show x∈gW (cc [] rs).1.2 fs from hx);obtain⟨g1,g2,g3,_⟩:=Ht h1 h2 hi;exact⟨g1,by omega,fun t ht=>(g3 t ht).le (by omega)⟩
def adT(now old:af):Nat:=now.length-NL now old
theorem Uy(now old:af):NL now old<=now.length:=mZ _ _
theorem Qa(t:aJ)(l old:af):NL (t::l) old=(bif RV old t then 1 else 0)+NL l old:=by
 unfold NL;cases h:RV old t with
 |true=>rw[iK (by rw[h]),aK,aW];omega
 |false=>rw[iJ (by simp[h]),ah];omega
def stepT(al:b8)(f:aE)(x:Node)(now old:af)(t:Int):Int:=
 if x.cP<0 then IntKind.i64.wrap (t+((adT now old:Nat):Int))else match mC al x.cP with
  |none=>t
  |some y=>bif (uW y.shape f []).2 then IntKind.i64.wrap (IntKind.i64.wrap (t+IntKind.i64.wrap (((adT now old:Nat):Int)*((y.facts.length:Nat):Int)))+((NL now old:Nat):Int))else IntKind.i64.wrap (t+IntKind.i64.wrap (((adT now old:Nat):Int)*((y.facts.length:Nat):Int)))
def KF(ns:az)(p:Int):af:=match mC ns p with|some x=>x.tokens|none=>[]
def trN(N0 N1:az)(al:b8)(f:aE):az->Int->Int
 | [],t=>t
 |x::xs,t=>trN N0 N1 al f xs (stepT al f x (KF N1 x.parent) (KF N0 x.parent) t)
theorem YR(a b:af)(i1:Nat)(x:aJ)(k:Int->Option (Int×Int)):∀(l:af) (i v:Nat),v+l.length<=1099511627000->lF a b i1 x k l i (v:Int)=k ((v+(YS x l).length:Nat):Int)
 | [],i,v,_=>rfl
 |y::l,i,v,h=>by
  simp only[aK]at h;have ih:=YR a b i1 x k l (i+1);unfold YS at*;rw[lF,aAM,aA];by_cases e:x.facts=y.facts
  ·rw[show((cmpL tS x.facts y.facts:Int)==0)=true by simp[IA.2 e],aW,KG (by omega),ih (v+1) (by omega),iK (by simp[e]),aK]
   congr 2;omega
  ·rw[show((cmpL tS x.facts y.facts:Int)==0)=false by
    have:cmpL tS x.facts y.facts≠0:=fun h=>e (IA.1 h)
    simp[this],ah,ih v (by omega),iJ (by simp[e])]
theorem Tg(a b:af)(k:Int->Option (Int×Int))(hK:KD b)(hb:b.length<=1048576):∀(l:af) (i v:Nat),v+l.length<=1099500000000->nY a b k l i (v:Int)=k ((v+NL l b:Nat):Int)
 | [],i,v,_=>rfl
 |x::l,i,v,h=>by
  simp only[aK]at h;have hx:=SL (t:=x) hK;rw[nY,wW (by omega),aW,YR a b i x _ b 0 v (by omega),hx,Qa];cases RV b x with
  |true=>rw[aW,Tg a b k hK hb l (i+1) (v+1) (by omega)];congr 2;omega
  |false=>rw[ah,Tg a b k hK hb l (i+1) (v+0) (by omega)];congr 2;omega
theorem aAV(now old:af)(hK:KD old)(h1:now.length<=1048576)(h2:old.length<=1048576):xL now old=some (((NL now old:Nat):Int),((adT now old:Nat):Int)):=by
 have hle:=Uy now old;unfold xL;have:=Tg now old (fun(M0:Int)=>(some (M0,IntKind.i64.wrap (((now.map aJ.c).length:Int)-M0)))) hK h2 now 0 0 (by omega);rw[show(0:Int)=((0:Nat):Int)from rfl,this,cm,aZ,gU (tM.i64.2 (by omega))];unfold adT
 congr 2
 omega
theorem a9j(l:af)(t:aJ):u7 l t=some (RV l t):=by
 unfold u7;have:∀(r:af) (i:Nat),kF l t (some false) r i=some (RV r t):=by
  intro r
  induction r with
  |nil=>intro i;rfl
  |cons x r ih=>
   intro i;rw[kF,a9e,aA,ih];unfold RV;rw[uc];by_cases e:x.facts=t.facts
   ·rw[show((cmpL tS x.facts t.facts:Int)==0)=true by simp[IA.2 e],aW,bW e,Bool.true_or]
   ·rw[show((cmpL tS x.facts t.facts:Int)==0)=false by
     have:cmpL tS x.facts t.facts≠0:=fun h=>e (IA.1 h)
     simp[this],ah,bB e,pF]
 exact this l 0
theorem a1b(n:aF)(f:aE)(y3:aF×Unit)(u:Int)(i1:Nat)(x xx y:Node)(k:Int->Int->Option aF)(hy:mC n.nodes x.parent=some y):∀(l:af) (i a b:Nat),a+l.length<=1099511627000->b+l.length<=1099511627000->
 jk n f y3 u i1 x xx k l i (a:Int) (b:Int)=k ((a+NL l y.tokens:Nat):Int) ((b+adT l y.tokens:Nat):Int)
 | [],i,a,b,_,_=>rfl
 |t::l,i,a,b,h1,h2=>by
  simp only[aK]at h1 h2;have ih:=a1b n f y3 u i1 x xx y k hy l (i+1);have hle:=Uy l y.tokens;rw[jk,hy,aA,a9j,aA];unfold adT at*;rw[Qa,aK];cases RV y.tokens t with
  |true=>
   rw[aW,aW,KG (by omega),ih (a+1) b (by omega) (by omega)]
   congr 2<;>omega
  |false=>
   rw[ah,ah,KG (by omega),ih a (b+1) (by omega) (by omega)]
   congr 2<;>omega
def aBT(N0 N1:az)(al:b8)(x:Node):Prop:=(∃p0 p1,mC N0 x.parent=some p0/\mC N1 x.parent=some p1/\p1.tokens.length<=1048576)/\(x.cP<0\/∃y,mC al x.cP=some y/\y.shape.wt<=1048576)
theorem a1a(n:aF)(f:aE)(y3:aF×Unit)(k:Int->Option aF)(hf:f.wt<=1048576):∀(l:az) (i:Nat) (u:Int),1<=i->(∀x∈l,aBT n.nodes y3.1.nodes y3.1.ay x)->fA n f y3 k l i u=k (trN n.nodes y3.1.nodes y3.1.ay f l u)
 | [],_,_,_,_=>rfl
 |x::l,i,u,hi,hU=>by
  have ih:=a1a n f y3 k hf l (i+1);have hU':=fun z (hz:z∈l)=>hU z (by simp[hz])
  obtain⟨⟨p0,p1,e0,e1,hl⟩,ha⟩:=hU x (by simp);rw[fA,show(((i:Nat):Int)==0)=false by simp;omega,ah,e1,aA,wW (by omega),aW];rw[show(0:Int)=((0:Nat):Int)from rfl,a1b n f y3 u i x p1 p0 _ e0 p1.tokens 0 0 0 (by omega) (by omega),cm,cm,trN];unfold stepT;rw[show KF y3.1.nodes x.parent=p1.tokens by unfold KF;rw[e1],show KF n.nodes x.parent=p0.tokens by unfold KF;rw[e0]];by_cases hal:x.cP<0
  ·rw[bW (by simpa using hal),aW,bP hal,ih _ (by omega) hU']
  ·rw[bB (by simpa using hal),ah,bH hal];rcases ha with ha|⟨y,hy,hyw⟩
   ·exact absurd ha hal
   ·rw[hy,aA,a7R y.shape f [] hyw hf PB.nil,aA,aZ];dsimp only;cases(uW y.shape f []).2 with
    |true=>rw[aW,aW,ih _ (by omega) hU']
    |false=>rw[ah,ah,ih _ (by omega) hU']
theorem B2{α:Type}(l:List α)(i:Nat):mC l (dD i)=l[i]?:=by
 unfold mC dD;rw[bW (by omega),aW];rfl
theorem a26{rs:au}{fs0 fs:aQ}(h1:zF rs=true)(h0:pG fs0=true)(h2:pG fs=true){i:Nat}(hi:1<=i){x:Node}(hx:(cc [] rs).1.2[i]?=some x):
 ∃(p:Nat) (q:Node),p<i/\x.parent=dD p/\(cc [] rs).1.2[p]?=some q/\(gW (cc [] rs).1.2 fs0)[p]?=some ⟨q.parent,q.cond,q.cP,yI (eb (cc [] rs).1.2 (dD p)) fs0⟩/\(gW (cc [] rs).1.2 fs)[p]?=some ⟨q.parent,q.cond,q.cP,yI (eb (cc [] rs).1.2 (dD p)) fs⟩/\
  x.cond.pat.args.length<=3/\x.cond.wt<=1048576/\((x.cP<0/\x.cond.kind≠1/\x.cond.kind≠2)\/∃(a:Nat) (y:aP),x.cP=dD a/\(cc [] rs).1.1[a]?=some y/\y.shape=vN x.cond.pat/\y.shape.wt<=1048576):=by
 have hv:=tf h1;obtain⟨p,hp,hpi⟩:=(zK [] rs).1.below i x hi hx;have Vk:=(aH.1 hx).1;have hq:=ai (show p<(cc [] rs).1.2.length by omega);obtain⟨r,hr,hc⟩:=a2y hi hx;have hal:=a56 [] rs x (aC hx);refine⟨p,_,hpi,hp,hq,by rw[yC,hq];rfl,by rw[yC,hq];rfl,(Ox (hv r hr) _ hc).2.1,NV (hv r hr) _ hc,?_⟩;by_cases hk:x.cond.kind=1\/x.cond.kind=2
 ·obtain⟨a,e1,y,e2,e3⟩:=hal.1 hk;exact .inr ⟨a,y,e1,e2,e3,(Ca [] hv y (aC e2)).1⟩
 ·exact .inl ⟨by rw[hal.2 hk];decide,fun e=>hk (.inl e),fun e=>hk (.inr e)⟩
def a0u(n:aF)(fs:aQ)(f:aE):aF:=Ln n.rules fs (trN n.nodes (gW (cc [] n.rules).1.2 fs) (jQ (cc [] n.rules).1.1 fs) f ((gW (cc [] n.rules).1.2 fs).drop 1) n.cK)
theorem aCq(n:aF)(fs:aQ)(f:aE)(hn:isB n=true)(hr:jw aO.wt n.rules<=1048576)(h2:pG fs=true)(hf:f.wt<=1048576):ve n fs f=some (a0u n fs f):=by
 obtain⟨h1,h0,ht,e⟩:=Wl hn;have hv:=tf h1;have h6:=BW h1;have hFS:=FS.Dm (by have:=DD h2;omega:jw aE.wt fs<=1048576);have hok:G4 n:=by rw[e];exact X0 _ h1 h0 hr
 have hN:n.nodes=gW (cc [] n.rules).1.2 n.facts:=congrArg aF.nodes e;have hA:n.ay=jQ (cc [] n.rules).1.1 n.facts:=congrArg aF.ay e;have hE:n.ends=(cc [] n.rules).2:=congrArg aF.ends e;have hform:n.nodes.map w9=(cc [] n.rules).1.2.map w9:=by rw[hN];exact Lf _ _ _ _
 have hp0:=Pn [] hv h6;have a74:I7 n.nodes:=by
  refine⟨hok.nodes,fun x hx=>(hok.node x hx).1,fun i=>?_⟩;rw[A6 hform];exact hp0.path i
 have hfA:jQ n.ay fs=jQ (cc [] n.rules).1.1 fs:=by
  rw[hA];unfold jQ;rw[qj];rfl
 have hfN:gW n.nodes fs=gW (cc [] n.rules).1.2 fs:=by
  have key:∀(l m:az) (i:Nat),l.map wo=m.map wo->tN n.nodes fs l i=tN (cc [] n.rules).1.2 fs m i:=by
   intro l
   induction l with
   |nil=>intro m i hm;cases m with
    |nil=>rfl
    |cons y m=>simp at hm
   |cons x l ih=>intro m i hm;cases m with
    |nil=>simp at hm
    |cons y m=>
     rw[bG,bG]at hm;obtain⟨q1,q2⟩:=zP hm;have e1:x.parent=y.parent:=(kW q1).1;have e2:x.cP=y.cP:=(kW (kW q1).2).1;have e3:x.cond=y.cond:=(kW (kW q1).2).2;rw[tN,tN,ih m (i+1) q2,A6 hform,e1,e2,e3]
  refine key _ _ 0 ?_;rw[hN];have:∀(ns l:az) (i:Nat),(tN ns n.facts l i).map wo=l.map wo:=by
   intro ns l
   induction l with
   |nil=>intro i;rfl
   |cons x l ih=>intro i;rw[tN,bG,ih];rfl
  exact this _ _ _
 unfold ve;rw[Wj n hok,aA,a5f n fs hFS (xo h2) hok.ay (fun x hx=>(hok.cP x hx).1) a74,aA,hfA,hfN];have hlen:=Dg (cc [] n.rules).1.2 fs;have aEh:=Ds [] hv h6;dsimp only;rw[wW (by omega),aW];have tK:gW (cc [] n.rules).1.2 fs=(gW (cc [] n.rules).1.2 fs).take 1++(gW (cc [] n.rules).1.2 fs).drop 1:=(cA 1 _).symm;cases hns:gW (cc [] n.rules).1.2 fs with
 |nil=>
  have:=(zK [] n.rules).1.pos;rw[hns]at hlen;simp at hlen;omega
 |cons x0 l=>
  rw[fA,show(((0:Nat):Int)==0)=true from rfl,aW,a1a n f _ _ hf l 1 _ (bR _) (fun x hx=>?_)]
  ·unfold a0u Ln;rw[hns,hE];rfl
  ·obtain⟨i,hi⟩:=cq hx;have hi2:(gW (cc [] n.rules).1.2 fs)[i+1]?=some x:=by rw[hns];exact hi
   rw[yC]at hi2;obtain⟨z,hz,rfl⟩:=E1.1 hi2;obtain⟨p,q,_,e1,_,e3,e4,_,_,e7⟩:=a26 h1 h0 h2 (i:=i+1) (by omega) hz;have g4:=(Ht h1 h2 e4).2.1;have u3:=(show mC n.nodes z.parent=(gW (cc [] n.rules).1.2 n.facts)[p]? by rw[e1,B2,hN]).trans e3;have u4:=(show mC (x0::l) z.parent=(gW (cc [] n.rules).1.2 fs)[p]? by rw[e1,B2,hns]).trans e4;refine⟨⟨_,_,u3,u4,by omega⟩,?_⟩
   ·rcases e7 with⟨e7,_⟩|⟨a,y,e7,e8,_,e10⟩
    ·exact .inl e7
    ·refine .inr ⟨⟨y.shape,uS y.shape [] fs⟩,?_,e10⟩;show mC (jQ (cc [] n.rules).1.1 fs) z.cP=_;rw[e7,B2];unfold jQ;rw[bz,e8];rfl
end Go.Cx
namespace Go.Cx
open Go.RowKit Go.Proofs Tryz
structure Ren(h:Bytes->Bytes)(V:Bytes->Prop):Prop where
 var:∀v,V v->lH v=true
 aDh:∀t,lH t=false->h t=t
 aFC:∀v,V v->lH (h v)=true
 inj:∀u v,V u->V v->h u=h v->u=v
structure RB(h:Bytes->Bytes)(V:Bytes->Prop)(b b':List aS):Prop where
 len:b'.length=b.length
 get:∀v,V v->lJ (h v) b'=lJ v b
 ok:ol b=true
 ok':ol b'=true
structure RT(h:Bytes->Bytes)(V:Bytes->Prop)(t t':aJ):Prop where
 facts:t'.facts=t.facts
 bind:RB h V t.bind t'.bind
inductive RL(R:aJ->aJ->Prop):List aJ->List aJ->Prop
 |nil:RL R [] []
 |cons {a b:aJ} {l m:af}:R a b->RL R l m->RL R (a::l) (b::m)
end Go.Cx
namespace Go.Cx
open Go.RowKit Go.Proofs Tryz
def K3(f:aE)(A:b8):List Bool:=A.map fun a=>(uW a.shape f []).2
theorem Df(A:b8)(fs:aQ):(jQ A fs).length=A.length:=by unfold jQ;rw[aZ]
theorem WO(A:b8)(x:aP)(fs:aQ):jQ (A++[x]) fs=jQ A fs++[⟨x.shape,uS x.shape [] fs⟩]:=by unfold jQ;rw[bS];rfl
theorem a6B(n:aF)(fs:aQ)(f:aE)(y1:aF)(y3:aQ)(K:List Bool->b8->Option aF)(hFS:FS fs)(hf:f.wt<=1048576)(A:b8)(hA:∀a∈A,a.shape.wt<=1048576)(hl:A.length<=1048576):∀(rest pre:b8) (fu:Nat),A=pre++rest->rest.length<fu->
 iz n fs f y1 y3 K fu (pre.length:Int) (K3 f pre) (jQ pre fs++rest)=K (K3 f A) (jQ A fs)
 | [],pre,fu,e,hu=>by
  obtain⟨fu,rfl⟩:∃m,fu=m+1:=⟨fu-1,by simp at hu;omega⟩
  rw[cM]at e;rw[iz,cM,aZ,Df,bB (by omega),ah,e]
 |x::rest,pre,fu,e,hu=>by
  obtain⟨fu,rfl⟩:∃m,fu=m+1:=⟨fu-1,by simp at hu;omega⟩
  simp only[aK]at hu;have hlen:A.length=pre.length+(rest.length+1):=by rw[e];simp
  have hx:=hA x (by rw[e];simp);have ih:=a6B n fs f y1 y3 K hFS hf A hA hl rest (pre++[x]) fu (by rw[e];simp) (by omega);have hat:mC (jQ pre fs++x::rest) (pre.length:Int)=some x:=by
   have:=zQ (a:=jQ pre fs++x::rest) (pre:=jQ pre fs) (xs:=rest) (x:=x) rfl;rw[Df]at this;exact this
  have qT:(jQ pre fs++x::rest).set (pre.length:Int).toNat ⟨x.shape,uS x.shape [] fs⟩=jQ (pre++[x]) fs++rest:=by
   have:=setAt (jQ pre fs) rest x ⟨x.shape,uS x.shape [] fs⟩;rw[Df]at this;rw[o4,this,WO,bY];rfl
  have hh:K3 f pre++[(uW x.shape f []).2]=K3 f (pre++[x]):=by unfold K3;rw[bS];rfl
  have hpl:(K3 f pre).length=pre.length:=by unfold K3;rw[aZ]
  rw[iz,aZ,aX,Df,aK,bW (by omega),aW,hat,aA,a84 x.shape f [] hx hf PB.nil,aA,Hz (by simp;omega) (by decide),aW,a82 x.shape [] fs hx PB.nil hFS,aA,KG (by omega),qT,hh];rw[aX,fN]at ih;exact ih
theorem YK{N0 N1:az}{v:Nat}(hl:N0.length=N1.length)(hv:v<=N1.length)(j:Nat):(N1.take v++N0.drop v)[j]?=if j<v then N1[j]? else N0[j]?:=by
 have h1:(N1.take v).length=v:=by rw[cL];omega
 by_cases h:j<v
 ·rw[bP h,b9 (by omega),cI,bP h]
 ·rw[bH h,bE (by omega),h1,dl]
  congr 1;omega
theorem a4g{N0 N1:az}{v:Nat}(hl:N0.length=N1.length)(hv:v<N1.length){y:Node}(hy:N1[v]?=some y):(N1.take v++N0.drop v).set v y=N1.take (v+1)++N0.drop (v+1):=by
 have h1:(N1.take v).length=v:=by rw[cL];omega
 rw[mW (by omega:v<N0.length)];have:=setAt (N1.take v) (N0.drop (v+1)) (N0[v]'(by omega)) y;rw[h1]at this;rw[this,List.take_add_one,hy];simp
theorem ZW(S:az)(a b:aQ):(gW S b).take 1++(gW S a).drop 1=gW S a:=by
 have h:(gW S b).take 1=(gW S a).take 1:=by
  apply o5;intro i;rw[cI,cI];by_cases hi:i<1
  ·rw[bP hi,bP hi,show i=0 by omega,yC,yC,wA];rfl
  ·rw[bH hi,bH hi]
 rw[h,cA]
theorem aAL(n:aF)(fs:aQ)(f:aE)(y1:aF)(y3:aQ)(K:Int->az->Option aF)(h1:zF n.rules=true)(h0:pG n.facts=true)(h2:pG fs=true)(hN:n.nodes=gW (cc [] n.rules).1.2 n.facts)(hA:n.ay=jQ (cc [] n.rules).1.1 n.facts):
 ∀(d v fu:Nat) (u:Int),v+d=(cc [] n.rules).1.2.length->1<=v->d<fu->
  eX n y1 y3 (K3 f n.ay) (jQ (cc [] n.rules).1.1 fs) K fu (v:Int) u ((gW (cc [] n.rules).1.2 fs).take v++n.nodes.drop v)=
   K (trN n.nodes (gW (cc [] n.rules).1.2 fs) (jQ (cc [] n.rules).1.1 fs) f ((gW (cc [] n.rules).1.2 fs).drop v) u) (gW (cc [] n.rules).1.2 fs):=by
 have hl0:n.nodes.length=(cc [] n.rules).1.2.length:=by rw[hN,Dg]
 have hl1:=Dg (cc [] n.rules).1.2 fs;have Vl:n.nodes.length=(gW (cc [] n.rules).1.2 fs).length:=by omega
 have hFS:=FS.Dm (by have:=DD h2;omega:jw aE.wt fs<=1048576);intro d
 induction d with
 |zero=>
  intro v fu u hv _ hfu;obtain⟨fu,rfl⟩:∃m,fu=m+1:=⟨fu-1,by omega⟩
  have e1:(gW (cc [] n.rules).1.2 fs).take v++n.nodes.drop v=gW (cc [] n.rules).1.2 fs:=by
   rw[lN (by omega),cM,oy (by omega)]
  rw[eX,e1,aZ,bB (by omega),ah,lN (by omega)];rfl
 |succ d ih=>
  intro v fu u hv hv1 hfu;obtain⟨fu,rfl⟩:∃m,fu=m+1:=⟨fu-1,by omega⟩
  have hvl:v<(cc [] n.rules).1.2.length:=by omega
  have hx:=ai hvl;generalize hxx:(cc [] n.rules).1.2[v]=x at hx;obtain⟨p,q,hpv,e1,_,e3,e4,e5,e6,e7⟩:=a26 h1 h0 h2 hv1 hx;have hx0:n.nodes[v]?=some ⟨x.parent,x.cond,x.cP,yI (eb (cc [] n.rules).1.2 (dD v)) n.facts⟩:=by rw[hN,yC,hx];rfl
  have hx1:(gW (cc [] n.rules).1.2 fs)[v]?=some ⟨x.parent,x.cond,x.cP,yI (eb (cc [] n.rules).1.2 (dD v)) fs⟩:=by rw[yC,hx];rfl
  have hb1:=Ds [] (tf h1) (BW h1);have m1:mC ((gW (cc [] n.rules).1.2 fs).take v++n.nodes.drop v) (v:Int)=some ⟨x.parent,x.cond,x.cP,yI (eb (cc [] n.rules).1.2 (dD v)) n.facts⟩:=by
   rw[show(v:Int)=dD v from rfl,B2,YK Vl (by omega),bH (by omega),hx0]
  have m2:mC ((gW (cc [] n.rules).1.2 fs).take v++n.nodes.drop v) x.parent=some ⟨q.parent,q.cond,q.cP,yI (eb (cc [] n.rules).1.2 (dD p)) fs⟩:=by
   rw[e1,B2,YK Vl (by omega),bP hpv,e4]
  have m3:mC n.nodes x.parent=some ⟨q.parent,q.cond,q.cP,yI (eb (cc [] n.rules).1.2 (dD p)) n.facts⟩:=by rw[e1,B2,hN,e3]
  have m4:mC (gW (cc [] n.rules).1.2 fs) x.parent=some ⟨q.parent,q.cond,q.cP,yI (eb (cc [] n.rules).1.2 (dD p)) fs⟩:=by rw[e1,B2,e4]
  obtain⟨_,k2,k3,_⟩:=Ht h1 h2 e4;obtain⟨_,j2,_,j4⟩:=Ht h1 h0 e3;dsimp only at k2 k3 j2 j4;have hstep:=a35 hv1 hx e1 hpv fs;have hlen:((gW (cc [] n.rules).1.2 fs).take v++n.nodes.drop v).length=(cc [] n.rules).1.2.length:=by
   rw[aX,cL,wH];omega
  have Um:(gW (cc [] n.rules).1.2 fs).drop v=⟨x.parent,x.cond,x.cP,yI (eb (cc [] n.rules).1.2 (dD v)) fs⟩::(gW (cc [] n.rules).1.2 fs).drop (v+1):=by
   rw[mW (by omega)]
   congr 1
   exact qV ((ai (by omega)).symm.trans hx1)
  have qT:=a4g Vl (by omega) hx1;have t4:KF (gW (cc [] n.rules).1.2 fs) x.parent=yI (eb (cc [] n.rules).1.2 (dD p)) fs:=by unfold KF;rw[m4]
  have t3:KF n.nodes x.parent=yI (eb (cc [] n.rules).1.2 (dD p)) n.facts:=by unfold KF;rw[m3]
  rw[eX,aZ,hlen,bW (by omega),aW,m1,aA];dsimp only;rw[m2,aA,m3,aA];dsimp only;rw[aAV _ _ j4 (by omega) (by omega),aA,Um,trN,t4,t3,KG (by omega)];unfold stepT;dsimp only;rcases e7 with⟨g1,g2,g3⟩|⟨a,y,g1,g2,g3,g4⟩
  ·rw[bW (by simpa using g1),aW,a2b _ x.cond [] e6 ⟨by simp,fun f hf=>by cases hf⟩ (fun t ht=>(k3 t ht).le (by omega)) (by simp;omega),aA,a2E g2 g3 fs,<-hstep,o4,qT,ih (v+1) fu _ (by omega) (by omega) (by omega),bP g1]
  ·have ha0:¬x.cP<0:=by rw[g1];unfold dD;omega
   have n1:mC (jQ (cc [] n.rules).1.1 fs) x.cP=some ⟨y.shape,uS y.shape [] fs⟩:=by
    rw[g1,B2];unfold jQ;rw[bz,g2];rfl
   have n2:mC (K3 f n.ay) x.cP=some (uW y.shape f []).2:=by
    rw[g1,B2,hA];unfold K3 jQ;rw[qj,bz,g2];rfl
   have hfl:(uS y.shape [] fs).length<=24:=by
    unfold uS;exact cQ (mZ _ _) (xo h2)
   have aC0:FS (uS y.shape [] fs):=⟨by omega,fun f hf=>hFS.2 f (fY.1 hf).1⟩
   have hnx:xh (uS y.shape [] fs) (yI (eb (cc [] n.rules).1.2 (dD p)) fs) x.cond=yI (eb (cc [] n.rules).1.2 (dD v)) fs:=by
    rw[g3,Ze (by omega),hstep]
   rw[bB (by simpa using ha0),ah,n1,aA];dsimp only;rw[a2b _ x.cond _ e6 aC0 (fun t ht=>(k3 t ht).le (by omega)) (by
    have:(yI (eb (cc [] n.rules).1.2 (dD p)) fs).length*((uS y.shape [] fs).length+1)<=390625*25:=G1 k2 (by omega);omega),aA,hnx,n2,aA,o4,qT,bH ha0,aZ]
   cases(uW y.shape f []).2 with
   |true=>rw[aW,aW,ih (v+1) fu _ (by omega) (by omega) (by omega)]
   |false=>rw[ah,ah,ih (v+1) fu _ (by omega) (by omega) (by omega)]
theorem aDD(n:aF)(fs:aQ)(f:aE)(hn:isB n=true)(hr:jw aO.wt n.rules<=1048576)(h2:pG fs=true)(hf:f.wt<=1048576):uR n fs f=some (a0u n fs f):=by
 obtain⟨h1,h0,ht,e⟩:=Wl hn;have hFS:=FS.Dm (by have:=DD h2;omega:jw aE.wt fs<=1048576);have hok:G4 n:=by rw[e];exact X0 _ h1 h0 hr
 have hN:n.nodes=gW (cc [] n.rules).1.2 n.facts:=congrArg aF.nodes e;have hA:n.ay=jQ (cc [] n.rules).1.1 n.facts:=congrArg aF.ay e;have hE:n.ends=(cc [] n.rules).2:=congrArg aF.ends e;have hfA:jQ n.ay fs=jQ (cc [] n.rules).1.1 fs:=by
  rw[hA];unfold jQ;rw[qj];rfl
 have hb1:=Ds [] (tf h1) (BW h1);have hpos:=(zK [] n.rules).1.pos;have hal:=hok.ay;unfold uR;rw[XD n hok,aA,Dr fs hFS.1 hFS.args,aA];have a1:=a6B n fs f n fs (fun(iI:List Bool) (wB:b8)=>(eX n n fs iI wB (fun(oZ:Int) (vM:az)=>(some (⟨n.rules,n.ends,wB,vM,fs,oZ⟩:aF))) fuel 1 n.cK n.nodes)) hFS hf n.ay (fun a ha=>(hok.cP a ha).1) hok.ay n.ay [] fuel rfl (by unfold fuel;omega);refine a1.trans ?_;rw[hfA];have a2:=aAL n fs f n fs (fun(oZ:Int) (vM:az)=>(some (⟨n.rules,n.ends,jQ (cc [] n.rules).1.1 fs,vM,fs,oZ⟩:aF))) h1 h0 h2 hN hA ((cc [] n.rules).1.2.length -1) 1 fuel n.cK (by omega) (bR _) (by unfold fuel;omega);have a3:(gW (cc [] n.rules).1.2 fs).take 1++n.nodes.drop 1=n.nodes:=by rw[hN];exact ZW _ _ _
 rw[a3]at a2;refine a2.trans ?_;unfold a0u Ln;rw[hE]
def Zy(n:aF)(f:aE):aF×Bool:=bif isB n&&(PV n.facts f).2 then(a0u n (PV n.facts f).1 f,true)else(n,false)
theorem Sn{l:aQ}{f:aE}(h:(PV l f).2=true):pG (PV l f).1=true:=by
 unfold PV at h⊢;split at h
 ·rename_i hc;rw[bP hc];exact a3p f hc.1
 ·cases h
def a6Z(n m:aF):Prop:=m=n\/∃fs t,zF m.rules=true/\m.rules=n.rules/\pG fs=true/\m=Ln m.rules fs t
theorem Zz(n:aF)(f:aE):a6Z n (Zy n f).1:=by
 unfold Zy;cases hb:isB n&&(PV n.facts f).2 with
 |false=>exact .inl rfl
 |true=>
  rw[aY]at hb;exact .inr ⟨_,_,(Wl hb.1).1,rfl,Sn hb.2,rfl⟩
theorem a4i{rs:au}{fs:aQ}(t:Int)(h1:zF rs=true)(h2:pG fs=true)(hr:jw aO.wt rs<=1048576):aF.AT (Ln rs fs t)<=4611686018427387000:=by
 have hok:=X0 t h1 h2 hr;have hv:=tf h1;have h6:=BW h1;have h24:=xo h2;have hl:=Ds [] hv h6;have a1:=p8 aO.iH aO.wt rs (fun y=>aO.nZ y);have a2:=zI (m:=fun _:Int=>1) (B:=1) (cc [] rs).2 (fun _ _=>bR _);rw[(zK [] rs).2.1]at a2;have a3:=zI (m:=aP.iH) (B:=6291468+6291462*24) (jQ (cc [] rs).1.1 fs) (fun a ha=>by
  obtain⟨g1,g2⟩:=hok.cP a ha;have b1:=aE.nZ a.shape;have b3:a.facts.length<=24:=by
   obtain⟨y,_,rfl⟩:=cH.1 ha;exact cQ (mZ _ _) h24
  have b2:=SF (n:=24) a.facts b3 g2.2;unfold aP.iH;unfold aE.iH at b1;omega)
 have a4:=zI (m:=Node.iH) (B:=6291468+100000000*390625) (gW (cc [] rs).1.2 fs) (fun x hx=>by
  obtain⟨i,hi⟩:=cq hx;obtain⟨g1,g2,g3,_⟩:=Ht h1 h2 hi;have b1:=aE.nZ x.cond.pat;have b0:=aN.fC g1;have b2:=zI (m:=aJ.iH) (B:=100000000) x.tokens (fun u hu=>(g3 u hu).iH);have b3:100000000*x.tokens.length<=100000000*390625:=eG _ g2;unfold Node.iH;unfold aE.iH at b1;omega)
 have a5:=p8 aE.iH aE.wt fs (fun y=>aE.nZ y);have a6:=DD h2;have a7:=R7 [] h1;rw[Df]at a3;rw[Dg]at a4;have c3:(6291468+6291462*24)*(cc [] rs).1.1.length<=(6291468+6291462*24)*24:=eG _ a7;have c4:(6291468+100000000*390625)*(cc [] rs).1.2.length<=(6291468+100000000*390625)*25:=eG _ hl;unfold aF.AT Ln;dsimp only;omega
theorem a6Z.iH{n m:aF}(h:a6Z n m)(hw:n.wt<=1048576):(aF.AT m:Int)<=4611686018427387000:=by
 rcases h with rfl|⟨fs,t,h1,h2,h3,h4⟩
 ·have:=aF.Pj m;omega
 ·rw[h4];have:=a4i t h1 h3 (by rw[h2];exact(G4.Dm hw).rules);omega
theorem aAc(n:aF)(f:aE)(h:G4 n)(hf:f.wt<=1048576):jL n f=some (Zy n f):=by
 unfold jL Zy;rw[aAX n.facts f h.facts,aA,a83 n h.rules h.facts,aA];cases hb:isB n with
 |false=>rw[cg,aW,XD n h];rfl
 |true=>
  rw[bQ,ah];cases ha:(PV n.facts f).2 with
  |false=>rw[cg,aW,XD n h];rfl
  |true=>rw[bQ,ah,aDD n _ f hb h.rules (Sn ha) hf];rfl
theorem a9s(n:aF)(f:aE)(h:G4 n)(hf:f.wt<=1048576):gM n f=some (Zy n f):=by
 unfold gM CS Zy;rw[a7Q n h.rules h.facts,aA];cases hb:isB n with
 |false=>rw[cg,aW,Wj n h];rfl
 |true=>
  rw[bQ,ah,a9n n.facts f h.facts,aA];cases ha:(PV n.facts f).2 with
  |false=>rw[cg,aW,Wj n h];rfl
  |true=>rw[bQ,ah,aCq n _ f hb h.rules (Sn ha) hf];rfl
end Go.Cx
namespace Go.Cx
open Go.RowKit Go.Proofs Tryz
set_option maxRecDepth 100000
variable{Γ:vP}{N:Nat->St->Prop}
def jl(aB:aF)(aV:aE):Option Bool:=((sx aB 1048576).bind fun y1=>(bif decide ((y1:Int)<0)then(some true)else((rN aV y1).bind fun y4=>(bif decide ((y4:Int)<0)then(some true)else((kw aB).bind fun y7=>((lK aV).bind fun y9=>((jL y7 y9).bind fun Re=>((kw aB).bind fun rp=>((lK aV).bind fun Vp=>((gM rp Vp).bind fun P6=>((kq P6.1 Re.1).bind fun y19=>(bif !(y19)then(some false)else(bif (P6.2:Bool) != Re.2 then(some false)else((kw aB).bind fun y23=>((kq rp y23).bind fun Xg=>(bif !(Xg)then(some false)else((lK aV).bind fun y28=>((rL Vp y28).bind fun y30=>(bif !(y30)then(some false)else((kJ rp 1).bind fun BL=>((qd Vp BL.2).bind fun y35=>(bif decide ((y35.2:Int)<0)then(some false)else((kq P6.1 Re.1).bind fun Nr=>(bif !(Nr)then(some false)else((kJ P6.1 1).bind fun nw=>((kI (⟨nw.1.rules,nw.1.ends,nw.1.ay,nw.1.nodes,nw.1.facts,P6.1.cK⟩:aF) 1).bind fun F0=>(bif decide ((F0:Int)<0)then(some false)else(bif (F0:Int) != nw.2 then(some false)else((kw aB).bind fun y47=>((lK aV).bind fun Ju=>((gM y47 Ju).bind fun y51=>((kq y51.1 Re.1).bind fun y53=>(bif !(y53)then(some false)else(bif (y51.2:Bool) != Re.2 then(some false)else((kI (⟨nw.1.rules,nw.1.ends,nw.1.ay,nw.1.nodes,nw.1.facts,P6.1.cK⟩:aF) 1).bind fun y57=>(bif decide ((y57:Int)<0)then(some false)else(bif (y57:Int) != nw.2 then(some false)else(some true))))))))))))))))))))))))))))))))))))))
theorem xZ{aB:aF}{aV:aE}{r:Bool}(h:jl aB aV=some r):Good prog 9 [D.agg (aF.c aB),D.agg (aE.c aV)] (D.bool r):=by
 refine gd func9 [[none]] 119 fun hr Γ hΓ=>?_
 rw[jl]at h;obtain⟨y1,h2,h⟩:=aD h;obtain⟨h3,h⟩|⟨h3,h⟩:=aL h
 ·have h:=aG h;subst h;exact(((aU.a [.dc (D.int .i64 y1)]).w (z6 h2)).b h3).ret hΓ
 ·obtain⟨y4,h5,h⟩:=aD h;have jz:=(((((aU.a [.dc (D.int .i64 y1)]).w (z6 h2)).b h3).a [.dc (D.int .i64 y4)]).w (Bn h5))
  obtain⟨h6,h⟩|⟨h6,h⟩:=aL h
  ·have h:=aG h;subst h;exact(jz.b h6).ret hΓ
  ·obtain⟨y7,h8,h⟩:=aD h;obtain⟨y9,h10,h⟩:=aD h;obtain⟨Re,h12,h⟩:=aD h;obtain⟨rp,h14,h⟩:=aD h;obtain⟨Vp,h16,h⟩:=aD h;obtain⟨P6,h18,h⟩:=aD h;obtain⟨y19,h20,h⟩:=aD h;have dJ:=(((((((((((((jz.b h6).a [.n 10]).gs (qP h8)).gs (qB h10)).g (B7 h12)).a [.dc (D.agg [D.fr 105 4 (rp.rules.map aO.c),D.fr 3 1 (rp.ends.map dZ),D.fr 111 3 (rp.ay.map aP.c),D.fr 118 8 (rp.nodes.map Node.c),D.fr 53 2 (rp.facts.map aE.c),D.int .i64 rp.cK])]).w (qP h14)).a [.dc (D.agg [D.str Vp.rel,D.fr 9 1 (Vp.args.map tx)])]).w (qB h16)).a [.dc (D.gb [D.agg [D.fr 105 4 (P6.1.rules.map aO.c),D.fr 3 1 (P6.1.ends.map dZ),D.fr 111 3 (P6.1.ay.map aP.c),D.fr 118 8 (P6.1.nodes.map Node.c),D.fr 53 2 (P6.1.facts.map aE.c),D.int .i64 P6.1.cK],D.bool P6.2])]).w (vR h18)).a [.dc (D.bool y19)]).w (qN h20))
   obtain⟨h21,h⟩|⟨h21,h⟩:=aL h
   ·have h:=aG h;subst h;exact((dJ.r 4 h21).T 1).ret hΓ
   ·have kT:=(dJ.r 4 h21)
    obtain⟨h22,h⟩|⟨h22,h⟩:=aL h
    ·have h:=aG h;subst h;exact(kT.b h22).ret hΓ
    ·obtain⟨y23,h24,h⟩:=aD h;obtain⟨Xg,h26,h⟩:=aD h;have jN:=(((((kT.b h22).a [.n 3]).g (qP h24)).a [.dc (D.bool Xg)]).w (qN h26))
     obtain⟨h27,h⟩|⟨h27,h⟩:=aL h
     ·have h:=aG h;subst h;exact(jN.b h27).ret hΓ
     ·obtain⟨y28,h29,h⟩:=aD h;obtain⟨y30,h31,h⟩:=aD h;have uY:=(((((jN.b h27).a [.n 3]).g (qB h29)).a [.dc (D.bool y30)]).w (Bm h31))
      obtain⟨h32,h⟩|⟨h32,h⟩:=aL h
      ·have h:=aG h;subst h;exact(uY.b h32).ret hΓ
      ·obtain⟨BL,h34,h⟩:=aD h;obtain⟨y35,h36,h⟩:=aD h;have wX:=((((uY.b h32).w (xu h34)).w (Gq h36)).a [.gv [8,9,10,11,12] [(4,BL.1.rules.map aO.c),(1,BL.1.ends.map dZ),(3,BL.1.ay.map aP.c),(8,BL.1.nodes.map Node.c),(2,BL.1.facts.map aE.c)] (D.int .i64 BL.2),.gv [14] [(1,y35.1.args.map tx)] (D.int .i64 y35.2)])
       obtain⟨h37,h⟩|⟨h37,h⟩:=aL h
       ·have h:=aG h;subst h;exact((wX.r 5 h37).T 5).ret hΓ
       ·obtain⟨Nr,h39,h⟩:=aD h;have AG:=((((wX.r 3 h37).a [.dc (D.bool Nr)]).w (qN h39)).r 2 h37)
        obtain⟨h40,h⟩|⟨h40,h⟩:=aL h
        ·have h:=aG h;subst h;exact((AG.r 4 h40).T 1).ret hΓ
        ·obtain⟨nw,h42,h⟩:=aD h;obtain⟨F0,h44,h⟩:=aD h;have D3:=(((((AG.r 4 h40).b h22).w (xu h42)).a [.gv [16,17,18,19,20] [(4,nw.1.rules.map aO.c),(1,nw.1.ends.map dZ),(3,nw.1.ay.map aP.c),(8,nw.1.nodes.map Node.c),(2,nw.1.facts.map aE.c)] (D.int .i64 nw.2),.dc (D.int .i64 F0)]).w (show Good prog 21 [D.agg [D.sl (nw.1.rules.map aO.c),D.sl (nw.1.ends.map dZ),D.sl (nw.1.ay.map aP.c),D.sl (nw.1.nodes.map Node.c),D.sl (nw.1.facts.map aE.c),D.int .i64 P6.1.cK],D.int .i64 1] (D.int .i64 F0)from by first| (simpa only[bS,bG,bV,dH,cz]using iM h44)|exact iM h44| (have t:=iM h44;simp only[bS,dH,cz,aF.c]at t;exact t)))
         obtain⟨h45,h⟩|⟨h45,h⟩:=aL h
         ·have h:=aG h;subst h;exact(D3.b h45).ret hΓ
         ·obtain⟨h46,h⟩|⟨h46,h⟩:=aL h
          ·have h:=aG h;subst h;exact((D3.b h45).b h46).ret hΓ
          ·obtain⟨y47,h48,h⟩:=aD h;obtain⟨Ju,h50,h⟩:=aD h;obtain⟨y51,h52,h⟩:=aD h;obtain⟨y53,h54,h⟩:=aD h;have Hw:=((((((((D3.b h45).b h46).a [.n 10]).gs (qP h48)).gs (qB h50)).g (vR h52)).a [.dc (D.bool y53)]).w (qN h54))
           obtain⟨h55,h⟩|⟨h55,h⟩:=aL h
           ·have h:=aG h;subst h;exact((Hw.r 4 h55).T 1).ret hΓ
           ·have yc:=(Hw.r 4 h55)
            obtain⟨h56,h⟩|⟨h56,h⟩:=aL h
            ·have h:=aG h;subst h;exact(yc.b h56).ret hΓ
            ·obtain⟨y57,h58,h⟩:=aD h;have Cv:=(((yc.b h56).a [.dc (D.int .i64 y57)]).w (show Good prog 21 [D.agg [D.sl (nw.1.rules.map aO.c),D.sl (nw.1.ends.map dZ),D.sl (nw.1.ay.map aP.c),D.sl (nw.1.nodes.map Node.c),D.sl (nw.1.facts.map aE.c),D.int .i64 P6.1.cK],D.int .i64 1] (D.int .i64 y57)from by first| (simpa only[bS,bG,bV,dH,cz]using iM h58)|exact iM h58| (have t:=iM h58;simp only[bS,dH,cz,aF.c]at t;exact t)))
             obtain⟨h59,h⟩|⟨h59,h⟩:=aL h
             ·have h:=aG h;subst h;exact(Cv.b h59).ret hΓ
             ·obtain⟨h60,h⟩|⟨h60,h⟩:=aL h
              ·have h:=aG h;subst h;exact((Cv.b h59).b h60).ret hΓ
              ·have h:=aG h;subst h;exact((Cv.b h59).b h60).ret hΓ
end Go.Cx
namespace Go.Cx
open Go.RowKit Go.Proofs Tryz
namespace LawTakeFromNetwork
theorem both(n:aF)(f:aE)(h:n.wt+f.wt<=1048576):∃s,jL n f=some s/\gM n f=some s/\(aF.AT s.1:Int)<=4611686018427387000:=by
 have hok:=G4.Dm (n:=n) (by omega);exact⟨_,aAc n f hok (by omega),a9s n f hok (by omega),(Zz n f).iH (by omega)⟩
theorem a7h(n:aF)(f:aE)(hn:x6 (aF.c n))(hf:x6 (aE.c f)):jl n f=some true:=by
 unfold jl;obtain⟨r0,e0,l0,w0⟩:=Tp n hn 1048576 (by omega) (by omega);rw[e0,aA];by_cases c0:r0<0
 ·simp[c0]
 have n0:decide ((r0:Int)<0)=false:=bB c0;rw[n0,ah];have w0:=w0 (by omega);obtain⟨r1,e1,l1,w1⟩:=SO f hf r0 (by omega) (by omega);rw[e1,aA];by_cases c1:r1<0
 ·simp[c1]
 have n1:decide ((r1:Int)<0)=false:=bB c1;rw[n1,ah];have w1:=w1 (by omega);have hw:aF.wt n+aE.wt f<=1048576:=by omega
 obtain⟨s,es,ei,hm⟩:=both n f (by omega);have b0:=aF.Pj n;obtain⟨x0,m0,_⟩:=TP n 1 (by omega) (by omega);have b1:=aE.Pj f;obtain⟨x1,m1,_⟩:=ZX f (1+((aF.AT n:Nat):Int)) (by omega) (by omega);obtain⟨g0,p0,q0,z0⟩:=K5 s.1 1 (by omega) (by omega);have aD3:decide (((1+((aF.AT n:Nat):Int)+((aE.AT f:Nat):Int)):Int)<0)=false:=bB (by omega);have aD4:decide (((1+((aF.AT s.1:Nat):Int)):Int)<0)=false:=bB (by omega);simp only[es,ei,Tt n (by omega),Sw,SR f (by omega),S0,m0,m1,z0,p0,q0,aD3,aD4,aA,CO,bQ,cg,ah,aW,fw,cu]
theorem a1r(n:aF)(f:aE):Good prog 9 [.agg (aF.c n),.agg (aE.c f)] (.bool true):=
 Good.a7m ⟨_,func9,rfl,by decide⟩ fun h=>xZ (a7h n f (dS.agg (h _ (by simp))) (dS.agg (h _ (by simp))))
end LawTakeFromNetwork
end Go.Cx
namespace Go.Cx
open Go.RowKit
inductive Sh where
 |int (k:IntKind)
 |str
 |bool
 |sl (row:List Sh)
mutual
inductive RJ:Sh->D->Prop
 |int (k:IntKind) (n:Int):RJ (.int k) (.int k n)
 |str (s:Bytes):RJ .str (.str s)
 |bool (b:Bool):RJ .bool (.bool b)
 |sl (row:List Sh) (rows:List aR):(∀r∈rows,oh row r)->RJ (.sl row) (.sl rows)
inductive oh:List Sh->List D->Prop
 |nil:oh [] []
 |cons (s:Sh) (ss:List Sh) (d:D) (ds:aR):RJ s d->oh ss ds->oh (s::ss) (d::ds)
end
theorem oh.app{s1 s2:List Sh}{d1 d2:aR}(h1:oh s1 d1)(h2:oh s2 d2):oh (s1++s2) (d1++d2):=by
 induction s1 generalizing d1 with
 |nil=>cases h1;exact h2
 |cons s s1 ih=>cases h1 with|cons _ _ d ds h h'=>exact .cons _ _ _ _ h (ih h')
theorem oh.length{s:List Sh}{d:aR}(h:oh s d):d.length=s.length:=by
 induction s generalizing d with
 |nil=>cases h;rfl
 |cons s ss ih=>cases h with|cons _ _ d ds h h'=>simp[ih h']
def TT(P:Program):Nat->List Field->List (List Sh)->Bool
 |_,[],[]=>true
 |off,f::fs,r::rs=>(f.offset==off)&&(r.length==P.cellsOf f.type)&&TT P (off+r.length) fs rs
 |_,_,_=>false
def CT(P:Program):Nat->TypeId->Option (List Sh)
 |0,_=>none
 |n+1,t=>match P.underlying t with
  |some .bool=>some [.bool]
  |some (.int k)=>some [.int k]
  |some .string=>some [.str]
  |some (.slice e)=>(CT P n e).bind fun r=>if r.length=P.cellsOf e/\0<r.length then some [.sl r]else none
  |some (.struct fs)=>(fs.toList.mapM fun f=>CT P n f.type).bind fun rs=>if TT P 0 fs.toList rs=true/\rs.flatten.length=P.cellsOf t then some rs.flatten else none
  |_=>none
theorem V6{α β:Type}{f:α->Option β}:∀ {l:List α} {ys:List β},l.mapM f=some ys->ys.length=l.length/\∀(i:Nat) x,l[i]?=some x->∃y,ys[i]?=some y/\f x=some y:=by
 intro l
 induction l with
 |nil=>intro ys h;simp at h;subst h;simp
 |cons a l ih=>
  intro ys h;simp only[G0,Option.bind_eq_bind,Option.pure_def]at h;cases ha:f a with
  |none=>simp[ha]at h
  |some b=>
   cases hl:l.mapM f with
   |none=>simp[ha,hl]at h
   |some bs=>
    simp[ha,hl]at h;subst h;obtain⟨h1,h2⟩:=ih hl;refine⟨by simp[h1],fun i x hx=>?_⟩;cases i with
    |zero=>simp at hx;subst hx;exact⟨b,by simp,ha⟩
    |succ i=>simp at hx;obtain⟨y,k1,k2⟩:=h2 i x hx;exact⟨y,by simpa using k1,k2⟩
section
variable{P:Program}{w:World}{H:Type}{enc:TypeId×Value->H}{base:Nat}{sp:Nat->Bool}{held:Bool}
theorem Q4{a:Addr}{n:Nat}{cs:br}(h:w.cells? base a n=some cs):cs.length=n/\∀(j:Nat) c,cs[j]?=some c->w.cell? (a.add j)=some c:=by
 unfold World.cells? at h;split at h
 ·obtain⟨h1,h2⟩:=V6 h;refine⟨by simpa using h1,fun j c hj=>?_⟩;have hlt:j<n:=by have:=(aH.1 hj).1;rw[h1]at this;simpa using this
  obtain⟨y,k1,k2⟩:=h2 j j (by simp[hlt]);rw[hj]at k1;cases k1;exact k2
 ·cases h
theorem a7i{k:IntKind}{n:Int}(h:(Lit.int k n).wf=true):tM k n:=by
 simpa[Lit.wf,tM]using h
theorem Yc:∀(fuel:Nat) {t:TypeId} {cs:br} {d:DataW H} {ps:List MemPlace} {n:Nat} {shs:List Sh},
 DataW.trod enc P w base sp held fuel t cs=some (d,ps)->CT P n t=some shs->∃ds bs,mR w cs ds bs/\oh shs ds:=by
 intro fuel
 induction fuel with
 |zero=>intro t cs d ps n shs h;simp[DataW.trod]at h
 |succ fuel ih=>
  intro t cs d ps n shs h hf;cases n with
  |zero=>simp[CT]at hf
  |succ n=>
   simp only[CT]at hf;simp only[DataW.trod]at h;split at hf
   ·rename_i hu;cases hf;simp only[hu]at h;split at h<;>rename_i h1<;>try(simp at h1;done)
    all_goals try(cases h;done)
    all_goals simp at h1
    exact⟨[.bool _],[],.cons _ _ _ _ [] [] rfl (.bool _) .nil,.cons _ _ _ _ (.bool _) .nil⟩
   ·rename_i k hu;cases hf;simp only[hu]at h;split at h<;>rename_i h1<;>try(simp at h1;done)
    all_goals try(cases h;done)
    all_goals simp at h1
    rename_i k1 k2 m _;subst h1;split at h
    ·rename_i hc;obtain⟨rfl,hwf⟩:=hc;exact⟨[.int _ _],[],.cons _ _ _ _ [] [] rfl (.int _ _ (a7i hwf)) .nil,.cons _ _ _ _ (.int _ _) .nil⟩
    ·cases h
   ·rename_i hu;cases hf;simp only[hu]at h;split at h<;>rename_i h1<;>try(simp at h1;done)
    all_goals try(cases h;done)
    all_goals simp at h1
    split at h
    ·rename_i hc;exact⟨[.str _],[],.cons _ _ _ _ [] [] rfl (.str _ hc) .nil,.cons _ _ _ _ (.str _) .nil⟩
    ·cases h
   ·rename_i e hu;cases hr:CT P n e with
    |none=>simp[hr]at hf
    |some r=>
     simp only[hr,aA]at hf;split at hf
     ·rename_i hsz;cases hf;simp only[hu]at h;split at h<;>rename_i h1<;>try(simp at h1;done)
      all_goals try(cases h;done)
      all_goals simp at h1
      ·exact⟨[.sl []],[],.cons _ _ _ _ [] [] rfl .Au .nil,.cons _ _ _ _ (.sl _ _ (by simp)) .nil⟩
      ·rename_i a len cap
       try subst h1
       split at h
       ·rename_i hc;cases hm:(List.range len).mapM (fun i=>(w.cells? base (a.add (i*P.cellsOf e)) (P.cellsOf e)).bind (DataW.trod enc P w base sp held fuel e))with
        |none=>simp[hm]at h
        |some elems=>
         obtain⟨_,hall⟩:=V6 hm;have hel:∀i,i<len->∃cs ds bs,w.cells? base (a.add (i*P.cellsOf e)) (P.cellsOf e)=some cs/\mR w cs ds bs/\oh r ds:=by
          intro i hi;obtain⟨y,_,hy⟩:=hall i i (by simp[hi]);obtain⟨cs,hcs,hy⟩:=o6.1 hy;obtain⟨ds,bs,k1,k2⟩:=ih (d:=y.1) (ps:=y.2) hy hr;exact⟨cs,ds,bs,hcs,k1,k2⟩
         by_cases hl0:len=0
         ·subst hl0;exact⟨[.sl []],[],.cons _ _ _ _ [] [] rfl (.pE a cap hc.2.2) .nil,.cons _ _ _ _ (.sl _ _ (by simp)) .nil⟩
         ·
          obtain⟨cs0,ds0,bs0,a1A,hr0,aET⟩:=hel 0 (by omega);obtain⟨hl1,hat⟩:=Q4 a1A;have hpos:0<cs0.length:=by rw[hl1];omega
          have hc0:=hat 0 cs0[0] (ai hpos);have ha0:(a.add (0*P.cellsOf e)).add 0=a:=by simp[Addr.add]
          rw[ha0]at hc0;obtain⟨b,off,spot⟩:=a;have a9V:spot=none:=by
           cases spot with
           |none=>rfl
           |some x=>
            unfold World.cell? at hc0;split at hc0
            ·simp at hc0
            ·cases hc0
          subst a9V;have hb:b<w.heap.size:=World.block_lt_of_cell? w _ hc0;have build:∀m,m<=len->∃(rows:List aR) (cs:br) (bs:aa),rows.length=m/\cs.length=m*P.cellsOf e/\(∀(j:Nat) c,cs[j]?=some c->w.cell? ⟨b,off+j,none⟩=some c)/\
           mR w cs rows.flatten bs/\∀x∈rows,oh r x:=by
           intro m
           induction m with
           |zero=>intro _;exact⟨[],[],[],rfl,by simp,by simp,.nil,by simp⟩
           |succ m ihm=>
            intro hm1;obtain⟨rows,cs,bs,q1,q2,q3,q4,q5⟩:=ihm (by omega);obtain⟨cs',ds',bs',g1,g2,g3⟩:=hel m (by omega);obtain⟨g4,g5⟩:=Q4 g1;refine⟨rows++[ds'],cs++cs',bs++bs',by simp[q1],by simp[q2,g4,kV],?_,?_,?_⟩
            ·intro j c hj;by_cases hlt:j<cs.length
             ·rw[b9 hlt]at hj;exact q3 j c hj
             ·rw[bE (by omega)]at hj;have:=g5 _ c hj;rw[Addr.add_lit,Addr.add_lit,q2]at this;have e1:off+m*P.cellsOf e+(j-m*P.cellsOf e)=off+j:=by omega
              rw[e1]at this;exact this
            ·rw[lz];have:=q4.app g2;simpa using this
            ·intro x hx;rcases ar.1 hx with hx|hx
             ·exact q5 x hx
             ·simp at hx;subst hx;exact g3
          obtain⟨rows,cs,bs,q1,q2,q3,q4,q5⟩:=build len (bR _);subst q1;refine⟨[.sl rows],b::bs,?_,.cons _ _ _ _ (.sl _ _ q5) .nil⟩;have:=mR.cons (w:=w) _ [] _ [] _ [] rfl (Rd.sl b off cap r.length rows cs bs hb hc.2.1 hc.2.2 (fun x hx=>(q5 x hx).length) q3 q4) .nil;simpa using this
       ·cases h
     ·cases hf
   ·rename_i fs hu;cases hr:fs.toList.mapM (fun f=>CT P n f.type)with
    |none=>simp[hr]at hf
    |some rs=>
     simp only[hr,aA]at hf;split at hf
     ·rename_i hok;cases hf;simp only[hu]at h;split at h
      ·rename_i hlen;cases hm:fs.toList.mapM (fun f=>DataW.trod enc P w base sp held fuel f.type ((cs.drop f.offset).take (P.cellsOf f.type)))with
       |none=>simp[hm]at h
       |some xs=>
        have go:∀(fl:List Field) (rl:List (List Sh)) (xl:List (DataW H×List MemPlace)) (off:Nat),fl.mapM (fun f=>CT P n f.type)=some rl->
         fl.mapM (fun f=>DataW.trod enc P w base sp held fuel f.type ((cs.drop f.offset).take (P.cellsOf f.type)))=some xl->TT P off fl rl=true->
         ∃ds bs,mR w ((cs.drop off).take rl.flatten.length) ds bs/\oh rl.flatten ds:=by
         intro fl
         induction fl with
         |nil=>
          intro rl xl off h1 _ _;simp at h1;subst h1;exact⟨[],[],by simpa using mR.nil,.nil⟩
         |cons f fl ihf=>
          intro rl xl off h1 h2 h3;simp only[G0,Option.bind_eq_bind,Option.pure_def]at h1 h2;cases a1:CT P n f.type with
          |none=>simp[a1]at h1
          |some r1=>
           cases a2:fl.mapM (fun f=>CT P n f.type)with
           |none=>simp[a1,a2]at h1
           |some rl'=>
            simp[a1,a2]at h1;subst h1;cases b1:DataW.trod enc P w base sp held fuel f.type ((cs.drop f.offset).take (P.cellsOf f.type))with
            |none=>simp[b1]at h2
            |some x1=>
             cases b2:fl.mapM (fun f=>DataW.trod enc P w base sp held fuel f.type ((cs.drop f.offset).take (P.cellsOf f.type)))with
             |none=>simp[b1,b2]at h2
             |some xl'=>
              simp only[TT,aY,cj]at h3;obtain⟨⟨o1,o2⟩,o3⟩:=h3;obtain⟨ds1,bs1,k1,k2⟩:=ih (d:=x1.1) (ps:=x1.2) b1 a1;obtain⟨ds2,bs2,k3,k4⟩:=ihf rl' xl' (off+r1.length) a2 b2 o3;refine⟨ds1++ds2,bs1++bs2,?_,by simpa using k2.app k4⟩;have e1:(cs.drop off).take (r1::rl').flatten.length=(cs.drop f.offset).take (P.cellsOf f.type)++(cs.drop (off+r1.length)).take rl'.flatten.length:=by
               rw[o1,<-o2,eO,aX,<-gX,List.take_add]
              rw[e1];exact k1.app k3
        obtain⟨ds,bs,k1,k2⟩:=go fs.toList rs xs 0 hr hm hok.1;rw[Fz,hok.2,<-hlen,D9]at k1;exact⟨ds,bs,k1,k2⟩
      ·cases h
     ·cases hf
   ·cases hf
def Yr(P:Program)(n:Nat)(t:TypeId)(d:D):Prop:=
 (C6 P t=some true/\∃shs cells,CT P n t=some shs/\d=.agg cells/\oh shs cells)\/(C6 P t=some false/\∃sh,CT P n t=some [sh]/\RJ sh d)
inductive Rj(P:Program)(n:Nat):List TypeId->List D->Prop
 |nil:Rj P n [] []
 |cons (t:TypeId) (ts:List TypeId) (d:D) (ds:aR):Yr P n t d->Rj P n ts ds->Rj P n (t::ts) (d::ds)
def UM(P:Program)(n:Nat)(t:TypeId):Bool:=
 match C6 P t,CT P n t with
 |some true,some _=>(match P.underlying t with|some (.struct _)=>true|_=>false)
 |some false,some [_]=>true
 |_,_=>false
theorem a2F{n:Nat}{t:TypeId}{v:Value}{d:DataW H}{ps:List MemPlace}(hok:UM P n t=true)(hval:Value.okWide P w .any base t v)(h:DataW.Trod enc P w 0 sp held t v d ps):
 ∃x bs,Rd w v x bs/\Yr P n t x:=by
 obtain⟨fuel,h⟩:=h;unfold UM at hok;split at hok
 ·rename_i shs ht hf;split at hok
  ·rename_i fs hu;unfold Value.okWide at hval;simp only[hu]at hval;obtain⟨cs,rfl,_⟩:=hval;obtain⟨ds,bs,k1,k2⟩:=Yc fuel h hf;refine⟨.agg ds,bs,?_,.inl ⟨ht,shs,ds,hf,rfl,k2⟩⟩;have:=Rd.agg (w:=w) cs.toList ds bs k1;simpa using this
  ·cases hok
 ·rename_i sh ht hf;have hone:v.oneCell'=true:=by
   unfold C6 at ht;split at ht<;>first
    | (cases ht;done)
    |skip
   rename_i dsc h1 h2 hu;unfold Value.okWide at hval;rw[hu]at hval;cases v with
   |agg cs=>
    cases dsc<;>first
     | (exfalso;exact h1 _ rfl)
     | (exfalso;exact h2 _ _ rfl)
     | (simp[Cell.okWide,Cell.ok,hu]at hval)
   |tuple vs=>
    cases dsc<;>first
     | (exfalso;exact h1 _ rfl)
     | (exfalso;exact h2 _ _ rfl)
     | (simp[Cell.okWide,Cell.ok,hu]at hval)
   |_=>rfl
  rw[SJ hone]at h;obtain⟨ds,bs,k1,k2⟩:=Yc fuel h hf;cases k2 with
  |cons _ _ x ds' hx hn=>
   cases hn;cases k1 with
   |cons _ _ _ _ b1 b2 _ hrd hn=>exact⟨x,b1,hrd,.inr ⟨ht,sh,hf,hx⟩⟩
 ·cases hok
theorem Zf{n:Nat}:∀ {ts:List TypeId} {vs:br} {ds:List (DataW H)} {ps:List MemPlace},(∀t∈ts,UM P n t=true)->
 (∀(j:Nat) t v,ts[j]?=some t->vs[j]?=some v->Value.okWide P w .any base t v)->DataW.TrodAll enc P w 0 sp held ts vs ds ps->
 ∃xs bs,Xj w vs xs bs/\Rj P n ts xs/\ds.length=ts.length:=by
 intro ts
 induction ts with
 |nil=>
  intro vs ds ps _ _ h;cases vs with
  |nil=>cases ds with
   |nil=>exact⟨[],[],.nil,.nil,rfl⟩
   |cons=>cases h
  |cons=>cases ds<;>cases h
 |cons t ts ih=>
  intro vs ds ps hok hval h;cases vs with
  |nil=>cases h
  |cons v vs=>
   cases ds with
   |nil=>cases h
   |cons d ds=>
    obtain⟨p,q,h1,h2,rfl⟩:=h;obtain⟨x,b1,k1,k2⟩:=a2F (hok t (by simp)) (hval 0 t v rfl rfl) h1;obtain⟨xs,b2,k3,k4,k5⟩:=ih (fun u hu=>hok u (by simp[hu])) (fun j u y hj hv=>hval (j+1) u y (by simpa using hj) (by simpa using hv)) h2;exact⟨x::xs,b1++b2,.cons _ _ _ _ _ _ k1 k3,.cons _ _ _ _ k2 k4,by simp[k5]⟩
theorem Rb{W W':World}(hl:laidOutB P=true)(hb:Below W.heap.size W W')(spn:Nat->Bool):∀ {ts:List TypeId} {vs:br} {ds:List (DataW H)} {ps:List MemPlace},
 (∀t∈ts,P.readableRec t=true/\t<P.types.size)->DataW.TrodAll enc P W 0 (fun _=>true) true ts vs ds ps->(∀x∈ps,x.block<W.heap.size)->(∀x∈ps,spn x.block=true)->
 DataW.TrodAll enc P W' 0 spn true ts vs ds ps:=by
 intro ts
 induction ts with
 |nil=>intro vs ds ps _ h _ _;cases vs<;>cases ds<;>first|exact h|cases h
 |cons t ts ih=>
  intro vs ds ps ht h hlt hsp;cases vs with
  |nil=>cases h
  |cons v vs=>
   cases ds with
   |nil=>cases h
   |cons d ds=>
    obtain⟨p,q,h1,h2,rfl⟩:=h;refine⟨p,q,?_,ih (fun u hu=>ht u (by simp[hu])) h2 (fun x hx=>hlt x (by simp[hx])) (fun x hx=>hsp x (by simp[hx])),rfl⟩;exact WideElems.Trod_stays hl (ht t (by simp)).1 (ht t (by simp)).2 h1 (fun x hx=>hb.same (hlt x (by simp[hx]))) (fun x hx=>hsp x (by simp[hx]))
theorem E5.yQ{w:World}{v:Value}{b:Bool}{bs ts us:aa}(h:E5 w v (.bool b) bs ts us):v=.bool b:=by
 cases h with|v h=>cases h with|cell h=>cases h with|pure h=>cases h;rfl
theorem TH{f:FuncId}{fn:Func}{s:ChangeSpec}{n rt:Nat}{W:World}{args:Array Value}{ds gs:List (DataW H)}{before:List MemPlace}
 (hl:laidOutB P=true) (YA:∀t∈fn.params.toList,UM P n t=true/\P.readableRec t=true/\t<P.types.size) (hres:fn.resultTypes= #[rt]) (hrt:P.underlying rt=some .bool)
 (hv:s.vars=[]) (hfn:∀ds:List (DataW H),ds.length=fn.params.toList.length->s.fn H ds= {results:=[.lit (.bool true)],args:=ds})
 (hvs:Sk W fun _=>False) (pL:∀xs,Rj P n fn.params.toList xs->Good P f xs (.bool true))
 (hval:∀(j:Nat) t v,fn.params[j]?=some t->args[j]?=some v->Value.okWide P W .any base t v)
 (hW:DataW.Whole enc P fn.params.toList s.vars false W args.toList ds gs before):
 Calls P f args W fun e W'=>∃v,e=.returned v/\s.post enc P fn false true false false W args v W':=by
 have hW':=hW;obtain⟨p,q,hA,hV,hpq,hz,_⟩:=hW;have hgs:gs=[]/\q=[]:=by
  rw[hv]at hV;cases gs with
  |nil=>exact⟨rfl,hV⟩
  |cons=>cases hV
 obtain⟨rfl,rfl⟩:=hgs;rw[cM]at hpq;subst hpq;obtain⟨xs,bs,k1,k2,k3⟩:=Zf (fun t ht=>(YA t ht).1) (fun j t v hj hv=>hval j t v (by simpa using hj) (by simpa using hv)) hA;have hc:=(pL xs k2).2 W (fun _=>0) args.toList bs hvs k1 (fun _ _=>rfl) (fun b hb=>absurd rfl hb) (fun _=>G2 _);rw[kU]at hc;refine hc.mono ?_;rintro e W' ⟨v,bs',ts,us,rfl,hb,hr,_⟩;refine⟨v,rfl,?_⟩;obtain rfl:=hr.yQ;have hlt:=hW'.lt;have hfd:=hfn ds k3;have a1O:∀(b:Nat) (sp:Nat->Bool) (hd:Bool),DataW.TrodAll enc P W' b sp hd fn.resultTypes.toList ((Value.bool true).resultList fn.resultTypes.size) [.lit (.bool true)] []:=by
  intro b sp hd;rw[hres];exact⟨[],[],⟨1,by simp[DataW.trod,hrt,Value.cells]⟩,rfl,rfl⟩
 have hargs:∀spn:Nat->Bool,(∀x∈before,spn x.block=true)->DataW.TrodAll enc P W' 0 spn true fn.params.toList args.toList ds before:=
  fun spn hsp=>Rb hl hb spn (fun t ht=>(YA t ht).2) hA hlt hsp
 have hvars:∀spn:Nat->Bool,DataW.TrodVars enc P W' spn s.vars [] []:=fun spn=>by rw[hv];rfl
 unfold ChangeSpec.post;refine⟨ds,[],before,[],before,[],hW',?_,?_,?_,hb.frame _,fun h=>by cases h⟩
 ·rw[cM,hfd];exact a1O _ _ _
 ·rw[cM,hfd];exact hargs _ (fun x hx=>by simpa using hlt x hx)
 ·rw[cM,hfd];exact hvars _
end
end Go.Cx
namespace Go.Cx
open Go.RowKit
abbrev qU:=List Sh
theorem Z5{α:Type}{c:α->aR}{row:qU}(hc:∀r,oh row r->∃x,r=c x):∀ {rows:List aR},(∀r∈rows,oh row r)->∃l:List α,rows=l.map c:=by
 intro rows
 induction rows with
 |nil=>intro _;exact⟨[],rfl⟩
 |cons r rows ih=>
  intro h;obtain⟨x,rfl⟩:=hc r (h r (by simp));obtain⟨l,rfl⟩:=ih (fun s hs=>h s (by simp[hs]));exact⟨x::l,rfl⟩
theorem rz{α:Type}{c:α->aR}{row:qU}(hc:∀r,oh row r->∃x,r=c x){d:D}(h:RJ (.sl row) d):∃l:List α,d=.sl (l.map c):=by
 cases h with
 |sl _ rows hr=>
  obtain⟨l,rfl⟩:=Z5 hc hr;exact⟨l,rfl⟩
theorem sE{d:D}(h:RJ .str d):∃s,d=.str s:=by cases h;exact⟨_,rfl⟩
theorem za{k:IntKind}{d:D}(h:RJ (.int k) d):∃n,d=.int k n:=by cases h;exact⟨_,rfl⟩
theorem cW{s:Sh}{ss:qU}{ds:aR}(h:oh (s::ss) ds):∃d r,ds=d::r/\RJ s d/\oh ss r:=by
 cases h with|cons _ _ d r h1 h2=>exact⟨d,r,rfl,h1,h2⟩
theorem sF{ds:aR}(h:oh [] ds):ds=[]:=by cases h;rfl
theorem MG(r:aR)(h:oh [.str] r):∃s,r=tx s:=by
 obtain⟨_,_,rfl,h1,h⟩:=cW h;cases sF h;obtain⟨s,rfl⟩:=sE h1;exact⟨s,rfl⟩
theorem a3y(r:aR)(h:oh [.int .i64] r):∃s,r=dZ s:=by
 obtain⟨_,_,rfl,h1,h⟩:=cW h;cases sF h;obtain⟨s,rfl⟩:=za h1;exact⟨s,rfl⟩
abbrev Tl:List Sh:=[.str,.sl [.str]]
theorem IB(r:aR)(h:oh Tl r):∃x:aE,r=x.c:=by
 obtain⟨_,_,rfl,h1,h⟩:=cW h;obtain⟨_,_,rfl,h2,h⟩:=cW h;cases sF h;obtain⟨a,rfl⟩:=sE h1;obtain⟨b,rfl⟩:=rz MG h2;exact⟨⟨a,b⟩,rfl⟩
abbrev a2n:List Sh:=[.str,.str]
theorem Z3(r:aR)(h:oh a2n r):∃x:aS,r=x.c:=by
 obtain⟨_,_,rfl,h1,h⟩:=cW h;obtain⟨_,_,rfl,h2,h⟩:=cW h;cases sF h;obtain⟨a,rfl⟩:=sE h1;obtain⟨b,rfl⟩:=sE h2;exact⟨⟨a,b⟩,rfl⟩
abbrev a2l:List Sh:=[.int .i64,.str,.sl [.str],.str,.str]
theorem Z1(r:aR)(h:oh a2l r):∃x:aN,r=x.c:=by
 obtain⟨_,_,rfl,h1,h⟩:=cW h;obtain⟨_,_,rfl,h2,h⟩:=cW h;obtain⟨_,_,rfl,h3,h⟩:=cW h;obtain⟨_,_,rfl,h4,h⟩:=cW h;obtain⟨_,_,rfl,h5,h⟩:=cW h;cases sF h;obtain⟨a,rfl⟩:=za h1;obtain⟨b,rfl⟩:=sE h2;obtain⟨c,rfl⟩:=rz MG h3;obtain⟨d,rfl⟩:=sE h4;obtain⟨e,rfl⟩:=sE h5;exact⟨⟨a,⟨b,c⟩,d,e⟩,rfl⟩
abbrev VP:List Sh:=[.int .i64,.str,.sl [.str]]
theorem UZ(r:aR)(h:oh VP r):∃x:Action,r=x.c:=by
 obtain⟨_,_,rfl,h1,h⟩:=cW h;obtain⟨_,_,rfl,h2,h⟩:=cW h;obtain⟨_,_,rfl,h3,h⟩:=cW h;cases sF h;obtain⟨a,rfl⟩:=za h1;obtain⟨b,rfl⟩:=sE h2;obtain⟨c,rfl⟩:=rz MG h3;exact⟨⟨a,⟨b,c⟩⟩,rfl⟩
abbrev a2o:List Sh:=[.str,.int .i64,.sl a2l,.sl VP]
theorem Z4(r:aR)(h:oh a2o r):∃x:aO,r=x.c:=by
 obtain⟨_,_,rfl,h1,h⟩:=cW h;obtain⟨_,_,rfl,h2,h⟩:=cW h;obtain⟨_,_,rfl,h3,h⟩:=cW h;obtain⟨_,_,rfl,h4,h⟩:=cW h;cases sF h;obtain⟨a,rfl⟩:=sE h1;obtain⟨b,rfl⟩:=za h2;obtain⟨c,rfl⟩:=rz Z1 h3;obtain⟨d,rfl⟩:=rz UZ h4;exact⟨⟨a,b,c,d⟩,rfl⟩
abbrev YV:List Sh:=[.sl Tl,.sl a2n]
theorem WD(r:aR)(h:oh YV r):∃x:aJ,r=x.c:=by
 obtain⟨_,_,rfl,h2,h⟩:=cW h;obtain⟨_,_,rfl,h3,h⟩:=cW h;cases sF h;obtain⟨b,rfl⟩:=rz IB h2;obtain⟨c,rfl⟩:=rz Z3 h3;exact⟨⟨b,c⟩,rfl⟩
abbrev YU:List Sh:=[.str,.sl [.str],.sl Tl]
theorem WC(r:aR)(h:oh YU r):∃x:aP,r=x.c:=by
 obtain⟨_,_,rfl,h1,h⟩:=cW h;obtain⟨_,_,rfl,h2,h⟩:=cW h;obtain⟨_,_,rfl,h3,h⟩:=cW h;cases sF h;obtain⟨v0,rfl⟩:=sE h1;obtain⟨v1,rfl⟩:=rz MG h2;obtain⟨v2,rfl⟩:=rz IB h3;exact⟨⟨⟨v0,v1⟩,v2⟩,rfl⟩
abbrev a2m:List Sh:=[.int .i64,.int .i64,.str,.sl [.str],.str,.str,.int .i64,.sl YV]
theorem Z2(r:aR)(h:oh a2m r):∃x:Node,r=x.c:=by
 obtain⟨_,_,rfl,h1,h⟩:=cW h;obtain⟨_,_,rfl,h2,h⟩:=cW h;obtain⟨_,_,rfl,h3,h⟩:=cW h;obtain⟨_,_,rfl,h4,h⟩:=cW h;obtain⟨_,_,rfl,h5,h⟩:=cW h;obtain⟨_,_,rfl,h6,h⟩:=cW h;obtain⟨_,_,rfl,h7,h⟩:=cW h;obtain⟨_,_,rfl,h8,h⟩:=cW h;cases sF h;obtain⟨v0,rfl⟩:=za h1;obtain⟨v1,rfl⟩:=za h2;obtain⟨v2,rfl⟩:=sE h3;obtain⟨v3,rfl⟩:=rz MG h4;obtain⟨v4,rfl⟩:=sE h5;obtain⟨v5,rfl⟩:=sE h6;obtain⟨v6,rfl⟩:=za h7;obtain⟨v7,rfl⟩:=rz WD h8;exact⟨⟨v0,⟨v1,⟨v2,v3⟩,v4,v5⟩,v6,v7⟩,rfl⟩
abbrev Zq:List Sh:=[.sl a2o,.sl [.int .i64],.sl YU,.sl a2m,.sl Tl,.int .i64]
theorem Su(r:aR)(h:oh Zq r):∃x:aF,r=x.c:=by
 obtain⟨_,_,rfl,h1,h⟩:=cW h;obtain⟨_,_,rfl,h2,h⟩:=cW h;obtain⟨_,_,rfl,h3,h⟩:=cW h;obtain⟨_,_,rfl,h4,h⟩:=cW h;obtain⟨_,_,rfl,h5,h⟩:=cW h;obtain⟨_,_,rfl,h6,h⟩:=cW h;cases sF h;obtain⟨v0,rfl⟩:=rz Z4 h1;obtain⟨v1,rfl⟩:=rz a3y h2;obtain⟨v2,rfl⟩:=rz WC h3;obtain⟨v3,rfl⟩:=rz Z2 h4;obtain⟨v4,rfl⟩:=rz IB h5;obtain⟨v5,rfl⟩:=za h6;exact⟨⟨v0,v1,v2,v3,v4,v5⟩,rfl⟩
section
variable{P:Program}{n:Nat}{t:TypeId}{d:D}
theorem Yr.struct{α:Type}{c:α->aR}{shs:qU}(hc:∀r,oh shs r->∃x,r=c x)(ha:C6 P t=some true)(hf:CT P n t=some shs)(h:Yr P n t d):∃x,d=.agg (c x):=by
 rcases h with⟨_,aFB,cells,h1,rfl,h2⟩|⟨h1,_⟩
 ·rw[hf]at h1;cases h1;obtain⟨x,rfl⟩:=hc _ h2;exact⟨x,rfl⟩
 ·rw[ha]at h1;cases h1
end
end Go.Cx
namespace Go.Cx
open Go.ChangeShapes Go.WideShapes Go.ChangeAt Go.RowKit
def jp0(P:Program)(f:FuncId)(fn:Func)(s:ChangeSpec)(c:OpenClaim):Bool:=(c.wf (OpenSpec.ofChange s)&&laidOutB P&&mapsRowed P)
def jp1(P:Program)(f:FuncId)(fn:Func)(s:ChangeSpec)(c:OpenClaim):Bool:=(fn.params.all (P.readableRec ·)&&namedTie P c.named s.vars)&&((c.stops==[])&&(P.stops==[])&&(c.knobs==[])&&(P.stopKnobs==[]))&&((c.maps==(fn.params.toList++s.plain.varTypes P).any (P.mapsRec ·))&&(c.ifaces==(fn.params.toList++s.plain.varTypes P).any (P.ifacesRec ·))&&(c.mapsOut==P.mapsAmong fn.resultTypes.toList))&&((c.loops==(fn.params.toList++s.plain.varTypes P).any (P.loopsFrom ·))&&(c.wideKeys==(fn.params.toList++s.plain.varTypes P++fn.resultTypes.toList).any (P.wideKeysFrom ·)))&&(s.vars.all (P.varReadable ·)&&fn.resultTypes.all (fun t=>P.readableRec t&&decide (t<P.types.size))&&(c.ifacesOut==fn.resultTypes.toList.any (P.ifacesRec ·))&&(c.loopsOut==fn.resultTypes.toList.any (P.loopsFrom ·)))&&((c.kinds==(if c.domain.isEmpty then []else fn.params.toList.map fun t=>match P.underlying t with|some (.int k)=>some k|_=>none))&&(c.pinned==c.pinnedBy))&&((c.veiled==(fn.params.toList++s.plain.varTypes P++fn.resultTypes.toList).any (P.veiledRec ·))&&c.veiledFits P fn.params.toList (fn.params.toList++s.plain.varTypes P++fn.resultTypes.toList))
def jp2(P:Program)(f:FuncId)(fn:Func)(s:ChangeSpec)(c:OpenClaim):Bool:=(c.inPlace==P.inPlace f)&&(c.unfollowed==P.unfollowed f)&&(c.recurses==P.recurses f)&&(c.named==P.varsNamed f)
def jp3(P:Program)(f:FuncId)(fn:Func)(s:ChangeSpec)(c:OpenClaim):Bool:=(c.plainKeys==P.plainKeys)&&(c.shortTexts.isNone&&P.stopsHeard)&&P.mayEnter&&(c.lifted==P.liftsFinal)&&(P.make==some c.make)
theorem ZO{P:Program}{f:FuncId}{fn:Func}{s:ChangeSpec}{c:OpenClaim}(h0:jp0 P f fn s c=true)(h1:jp1 P f fn s c=true)(h2:jp2 P f fn s c=true)(h3:jp3 P f fn s c=true):joinedFacts P f fn s c=true:=by
 unfold jp0 at h0;unfold jp1 at h1;unfold jp2 at h2;unfold jp3 at h3;unfold joinedFacts;simp only[aY]at h0 h1 h2 h3⊢;obtain⟨⟨aFD,aFE⟩,aFF⟩:=h0;obtain⟨⟨⟨⟨⟨⟨⟨aFG,aFH⟩,⟨⟨⟨aFI,aFJ⟩,aFK⟩,aFL⟩⟩,⟨⟨aFQ,aFR⟩,aFS⟩⟩,⟨aFT,aFU⟩⟩,⟨⟨⟨aFV,aFW⟩,aFX⟩,aFY⟩⟩,⟨aDw,aDx⟩⟩,⟨aDy,aDz⟩⟩:=h1;obtain⟨⟨⟨aFM,aFN⟩,aFO⟩,aFP⟩:=h2;obtain⟨⟨⟨⟨aDq,⟨aDr,aDs⟩⟩,aDt⟩,aDu⟩,aDv⟩:=h3
 and_intros<;>assumption
end Go.Cx

/- Chapter 5 in plain words: which variables a rule binds and uses, what it reads and writes, whether it is valid. No condition but bounds on sizes. -/
import Derived.Test.YtniopaehpolofaaGreatDoorPFnRuleTextG4
import Derived.Lib.ItoaNum
import Derived.Lib.ItoaLen
import Derived.Lib.Split
import Derived.Lib.Atoi
import Derived.Test.YtniopaehpolofaaGreatDoorPFnRuleTextG3
import Derived.ProofKit
set_option linter.unusedVariables false
set_option linter.unusedSimpArgs false
namespace Go.Cx
open Go.RowKit Go.Proofs Tryz
def zS(c:aU):aC:=bif decide (c.kind=1)then fF c.pat.args else []
theorem Ht{c:aU}:(zS c).length<=c.wt:=by
 unfold zS;have h2:=mw c.pat.args;have h3:=bE.nB (aU.ia (b8 c.wt));cases decide (c.kind=1)<;>simp;omega
def pW(r:aW)(n:Int):aC:=(r.conds.take n.toNat).flatMap zS
theorem Bp{α:Type}(x:α)(xs:List α)(n:Int)(i:Nat):(x::xs).take (n-(i:Int)).toNat=if(i:Int)<n then x::xs.take (n-((i+1:Nat):Int)).toNat else []:=by
 by_cases h:(i:Int)<n
 ·rw[bG h];obtain⟨m,hm⟩:∃m,(n-(i:Int)).toNat=m+1:=⟨(n-(i:Int)).toNat -1,by omega⟩
  have:(n-((i+1:Nat):Int)).toNat=m:=by omega
  rw[hm,this];rfl
 ·rw[ar h,show(n-(i:Int)).toNat=0 from by omega];rfl
theorem uU{α β:Type}{f:α->List β}{w:α->Nat}(l:List α)(h:∀x∈l,(f x).length<=w x+2):(l.flatMap f).length<=3*rp w l:=by
 induction l with
 |nil=>simp[rp]
 |cons x l ih=>
  rw[gD,af,jJ];have h1:=h x (by simp);have h2:=ih (fun y hy=>h y (by simp[hy]));omega
theorem Hu{r:aW}{n:Nat}(h:r.wt<=n)(m:Int):(pW r m).length<=3*n:=by
 unfold pW;have h1:=uU (w:=aU.wt) (f:=zS) (r.conds.take m.toNat) (fun c _=>by have:= @Ht c;omega);have h2:rp aU.wt (r.conds.take m.toNat)<=rp aU.wt r.conds:=by
  conv=>rhs;rw[<-bK m.toNat r.conds]
  rw[FG];omega
 have h3:=aW.rN h;omega
theorem JQ(a:aW)(n:Int)(i:Nat)(y:aC)(k:aC->Option aC):∀(l:aC) (j:Nat) (w:aC),w.length+l.length<=1099511627770->fC a n i y k l j w=k (l.foldl oS w):=by
 intro l
 induction l with
 |nil=>intro j w _;rfl
 |cons x l ih=>
  intro j w hw;simp only[aR]at hw;have:=qM w x;rw[fC,F4 w x (by omega),aA,ih _ _ (by omega)];rfl
theorem LJ(a:aW)(n:Int)(k:aC->Option aC):∀(l:bP) (i:Nat) (acc:aC),(∀c∈l,c.wt<=1048576)->acc.length+rp aU.wt l<=2097152->
 dK a n k l i (dB acc)=k (dB (acc++(l.take (n-(i:Int)).toNat).flatMap zS)):=by
 intro l
 induction l with
 |nil=>intro i acc _ _;simp[dK]
 |cons c l ih=>
  intro i acc hc hb;rw[jJ]at hb;have IZ:=hc c (by simp);have hv:=mw c.pat.args;have ha:=bE.nB (aU.ia (b8 c.wt));have hu:=jT (fF c.pat.args);have K1:=jT acc;rw[dK,Bp];by_cases hi:(i:Int)<n
  ·have e1:decide (((i:Int):Int)<n)=true:=by simp[hi]
   rw[e1,aK,bG hi];by_cases hk:c.kind=1
   ·have e2:((c.kind:Int)==1)=true:=by simp[hk]
    rw[e2,aK,xp _ (aU.ia IZ),aA,um (by omega),aK,JQ _ _ _ _ _ _ _ _ (by omega),v8,ih _ _ (fun x hx=>hc x (by simp[hx])) (by simp;omega)];simp[zS,hk]
   ·have e2:((c.kind:Int)==1)=false:=by simp[hk]
    rw[e2,aP,ih _ _ (fun x hx=>hc x (by simp[hx])) (by omega)];simp[zS,hk]
  ·have e1:decide (((i:Int):Int)<n)=false:=by simp[hi]
   rw[e1,aP,ar hi];simp
theorem F2(r:aW)(n:Int)(h:r.wt<=1048576):fm r n=some (dB (pW r n)):=by
 unfold fm;have:=LJ r n (fun q=>some q) r.conds 0 [] (fun c hc=>aW.ni h hc) (by have:=aW.rN h;simp;omega);rw[show dB []=[]from rfl]at this;rw[this];simp[pW]
theorem Kk(a:aW)(n:Int)(k:aC->Option aC):∀(l:bP) (i:Nat) (w:aC),(∀c∈l,c.wt<=1048576)->w.length+rp aU.wt l<=2097152->
 cm a n k l i w=k (w++(l.take (n-(i:Int)).toNat).flatMap zS):=by
 intro l
 induction l with
 |nil=>intro i w _ _;simp[cm]
 |cons c l ih=>
  intro i w hc hb;rw[jJ]at hb;have IZ:=hc c (by simp);have hv:=mw c.pat.args;have ha:=bE.nB (aU.ia (b8 c.wt));rw[cm,Bp];by_cases hi:(i:Int)<n
  ·have e1:decide (((i:Int):Int)<n)=true:=by simp[hi]
   rw[e1,aK,bG hi];by_cases hk:c.kind=1
   ·have e2:((c.kind:Int)==1)=true:=by simp[hk]
    rw[e2,aK,Io _ (by omega) (fun x hx=>bE.yL (aU.ia IZ) hx),aA,Mf (by omega) (by decide),aK,ih _ _ (fun x hx=>hc x (by simp[hx])) (by simp;omega)];simp[zS,hk]
   ·have e2:((c.kind:Int)==1)=false:=by simp[hk]
    rw[e2,aP,ih _ _ (fun x hx=>hc x (by simp[hx])) (by omega)];simp[zS,hk]
  ·have e1:decide (((i:Int):Int)<n)=false:=by simp[hi]
   rw[e1,aP,ar hi,ih _ _ (fun x hx=>hc x (by simp[hx])) (by omega),show(n-((i+1:Nat):Int)).toNat=0 from by omega];simp
theorem Ie(r:aW)(n:Int)(h:r.wt<=1048576):j8 r n=some (dB (pW r n)):=by
 unfold j8;have hl:=Hu h n;rw[Kk r n _ r.conds 0 [] (fun c hc=>aW.ni h hc) (by have:=aW.rN h;simp;omega)];have e:([]:aC)++(r.conds.take (n-((0:Nat):Int)).toNat).flatMap zS=pW r n:=by simp[pW]
 rw[e,CK _ (by omega)];rfl
def B6(l:bP):aC:=l.flatMap jv
def KM(l:cg):aC:=l.flatMap fun a=>fF a.pat.args
def OE(r:aW):aC:=B6 r.conds++KM r.bg
theorem Hw(l:bP):(B6 l).length<=3*rp aU.wt l:=uU l (fun c _=>nS (b8 _))
theorem JW(a:aW)(i:Nat)(y:aC)(k:aC->Option aC):∀(l:aC) (j:Nat) (w:aC),w.length+l.length<=1099511627770->fU a i y k l j w=k (l.foldl oS w):=by
 intro l
 induction l with
 |nil=>intro j w _;rfl
 |cons x l ih=>
  intro j w hw;simp only[aR]at hw;have:=qM w x;rw[fU,F4 w x (by omega),aA,ih _ _ (by omega)];rfl
theorem JY(a:aW)(i:Nat)(y:aC)(k:aC->Option aC):∀(l:aC) (j:Nat) (w:aC),w.length+l.length<=1099511627770->fV a i y k l j w=k (l.foldl oS w):=by
 intro l
 induction l with
 |nil=>intro j w _;rfl
 |cons x l ih=>
  intro j w hw;simp only[aR]at hw;have:=qM w x;rw[fV,F4 w x (by omega),aA,ih _ _ (by omega)];rfl
theorem JV(a:aW)(k:aC->Option aC):∀(l:bP) (i:Nat) (acc:aC),(∀c∈l,c.wt<=1048576)->acc.length+3*rp aU.wt l<=16777216->
 eW a k l i (dB acc)=k (dB (acc++B6 l)):=by
 intro l
 induction l with
 |nil=>intro i acc _ _;simp[eW,B6]
 |cons c l ih=>
  intro i acc hc hb;rw[jJ]at hb;have IZ:=hc c (by simp);have h1:=nS (b8 c.wt);have hu:=jT (jv c);have K1:=jT acc;rw[eW,F3 c IZ,aA,um (by omega),aK,JW _ _ _ _ _ _ _ (by omega),v8,ih _ _ (fun x hx=>hc x (by simp[hx])) (by simp;omega)];simp[B6]
theorem JX(a:aW)(k:aC->Option aC):∀(l:cg) (i:Nat) (acc:aC),(∀c∈l,c.wt<=1048576)->acc.length+3*rp Action.wt l<=16777216->
 dl a k l i (dB acc)=k (dB (acc++KM l)):=by
 intro l
 induction l with
 |nil=>intro i acc _ _;simp[dl,KM]
 |cons c l ih=>
  intro i acc hc hb;rw[jJ]at hb;have IZ:=hc c (by simp);have h1:=mw c.pat.args;have h2:=bE.nB (Action.ia (b8 c.wt));have hu:=jT (fF c.pat.args);have K1:=jT acc;rw[dl,xp _ (Action.ia IZ),aA,um (by omega),aK,JY _ _ _ _ _ _ _ (by omega),v8,ih _ _ (fun x hx=>hc x (by simp[hx])) (by simp;omega)];simp[KM]
theorem OH(r:aW)(h:r.wt<=1048576):kW r=some (dB (OE r)):=by
 unfold kW;have h3:=aW.rN h;have h4:=aW.FM h;have hl:=Hw r.conds;have:=JV r (fun q=>dl r (fun q=>some q) r.bg 0 q) r.conds 0 [] (fun c hc=>aW.ni h hc) (by simp;omega);rw[show dB []=[]from rfl]at this;rw[this];simp only[dN];rw[JX r _ r.bg 0 _ (fun c hc=>aW.AA h hc) (by omega)];rfl
theorem Pr(l:bP)(hc:∀c∈l,c.wt<=1048576)(hb:rp aU.wt l<=1048576):jX l=some (l.flatMap fun c=>dB (jv c)):=by
 unfold jX;have:∀(r:bP) (i:Nat) (w:aC),(∀c∈r,c.wt<=1048576)->w.length+3*rp aU.wt r<=16777216->dh l (fun q=>some q) r i w=some (w++r.flatMap fun c=>dB (jv c)):=by
  intro r
  induction r with
  |nil=>intro i w _ _;simp[dh]
  |cons c r ih=>
   intro i w hc hb;rw[jJ]at hb;have h1:=nS (b8 c.wt);have hu:=jT (jv c);rw[dh,Ek c (hc c (by simp)),aA,Mf (by omega) (by decide),aK,ih _ _ (fun x hx=>hc x (by simp[hx])) (by simp;omega)];simp
 exact this l 0 [] hc (by simp;omega)
theorem Hv(l:bP):(l.flatMap fun c=>dB (jv c)).length<=3*rp aU.wt l:=uU l (fun c _=>by
 have h1:=nS (b8 c.wt);have hu:=jT (jv c);omega)
theorem RI(l:bP)(b:aC):dB ((l.flatMap fun c=>dB (jv c))++b)=dB (B6 l++b):=v7 (fun x=>by simp[B6,mq])
def GP(v:Bytes)(k:Int):bP->Nat->Bool
 | [],_=>false
 |c::cs,i=>(decide (((i:Nat):Int)≠k)&&(jv c).contains v)||GP v k cs (i+1)
def DG(r:aW)(k:Int)(v:Bytes):Bool:=GP v k r.conds 0||r.bg.any fun a=>(fF a.pat.args).contains v
theorem B7{l:aC}{v:Bytes}(h:tV v=true):l.contains v=(fF l).contains v:=by
 rw[bO];simp[fF,h]
theorem QU(r:aW)(k:Int)(v:Bytes)(h:r.wt<=1048576):iC r k v=some (DG r k v):=by
 unfold iC DG;have k2:∀(l:cg) (i:Nat),(∀c∈l,c.wt<=1048576)->eM r v (some false) l i=some (l.any fun a=>(fF a.pat.args).contains v):=by
  intro l
  induction l with
  |nil=>intro i _;rfl
  |cons a l ih=>
   intro i hc;rw[eM,xp _ (Action.ia (hc a (by simp))),aA,Gt,aA,iK,ih _ (fun x hx=>hc x (by simp[hx])),List.any_cons];cases(fF a.pat.args).contains v<;>rfl
 have k1:∀(l:bP) (i:Nat),(∀c∈l,c.wt<=1048576)->dG r k v (some (r.bg.any fun a=>(fF a.pat.args).contains v)) l i=some (GP v k l i||r.bg.any fun a=>(fF a.pat.args).contains v):=by
  intro l
  induction l with
  |nil=>intro i _;rfl
  |cons c l ih=>
   intro i hc;rw[dG,F3 _ (hc c (by simp)),aA,Gt,aA,iK,ih _ (fun x hx=>hc x (by simp[hx]))];simp only[GP,bne,lB];by_cases hi:((i:Nat):Int)=k
   ·simp[hi]
   ·cases(jv c).contains v<;>simp[hi]
 rw[k2 _ _ (fun c hc=>aW.AA h hc),k1 _ _ (fun c hc=>aW.ni h hc)]
theorem Sd(r:aW)(k:Int)(v:Bytes)(hv:tV v=true)(h:r.wt<=1048576):gJ r k v=some (DG r k v):=by
 unfold gJ DG;have k2:∀(l:cg) (i:Nat),cr r v (some false) l i=some (l.any fun a=>(fF a.pat.args).contains v):=by
  intro l
  induction l with
  |nil=>intro i;rfl
  |cons a l ih=>
   intro i;rw[cr,Km,aA,B7 hv,ih,List.any_cons];cases(fF a.pat.args).contains v<;>rfl
 have k1:∀(l:bP) (i:Nat),(∀c∈l,c.wt<=1048576)->cP r k v (some (r.bg.any fun a=>(fF a.pat.args).contains v)) l i=some (GP v k l i||r.bg.any fun a=>(fF a.pat.args).contains v):=by
  intro l
  induction l with
  |nil=>intro i _;rfl
  |cons c l ih=>
   intro i hc;rw[cP,Ek _ (hc c (by simp)),aA,Km,aA,iK,ih _ (fun x hx=>hc x (by simp[hx]))];simp only[GP,bne,lB];by_cases hi:((i:Nat):Int)=k
   ·simp[hi]
   ·cases(jv c).contains v<;>simp[hi]
 rw[k2,k1 _ _ (fun c hc=>aW.ni h hc)]
def AL(r:aW)(i:Nat)(c:aU)(v:Bytes):Bool:=decide (c.kind=1)||(pW r i).contains v||(decide (c.kind=2)&& !DG r i v)
def pY(r:aW):bP->Nat->Bool
 | [],_=>true
 |c::cs,i=>(jL c&&(!decide (i=0)||decide (c.kind=1))&&(dB (jv c)).all (AL r i c))&&pY r cs (i+1)
def z6(r:aW):Bool:=r.bg.all fun a=>qc a&&(fF a.pat.args).all fun v=>(pW r r.conds.length).contains v
def nG(r:aW):Bool:=o6 r.name&&(decide (0<=r.prio)&&decide (r.prio<=9))&&(decide (1<=(r.conds.length:Int))&&decide ((r.conds.length:Int)<=4))&&(decide (1<=(r.bg.length:Int))&&decide ((r.bg.length:Int)<=2))&&
 (pY r r.conds 0&&(z6 r&&decide (((dB (B6 r.conds)).length:Int)<=6)))
theorem GL(l:aC)(p:Bytes->Bool):(dB l).all p=l.all p:=by
 rw[bO];simp[aO,mq]
theorem KR(r:aW)(n:Int){v:Bytes}(h:v∈pW r n):v∈B6 r.conds:=by
 unfold pW at h;obtain⟨c,hc,hv⟩:=bV.1 h;refine bV.2 ⟨c,bQ hc,?_⟩;unfold zS at hv;cases hk:decide (c.kind=1)with
 |false=>rw[hk]at hv;cases hv
 |true=>
  rw[hk]at hv;simp only[aK]at hv;unfold jv;rw[Bt];exact aF.2 (.inl hv)
theorem EL{r:aW}(h:z6 r=true):dB (OE r)=dB (B6 r.conds):=by
 refine v7 (fun x=>?_);unfold OE;simp only[aF];constructor
 ·rintro(hx|hx)
  ·exact hx
  ·obtain⟨a,ha,hv⟩:=bV.1 hx;unfold z6 at h;have:=aO.1 h a ha;simp only[aM,aO]at this;have:=this.2 x hv;exact KR r _ (by simpa using this)
 ·exact .inl
theorem LQ(r:aW)(y:aC)(i:Nat)(c:aU)(l:aC)(k:Option Bool)(hc:c.wt<=1048576)(hr:r.wt<=1048576)(hcb:jL c=true):∀(rest:aC) (j:Nat),dU r y i c (dB (pW r i)) l k rest j=bif rest.all (AL r i c)then k else some false:=by
 have hk:=sE hcb;intro rest
 induction rest with
 |nil=>intro j;rfl
 |cons v rest ih=>
  intro j;rw[dU,Gt,aA,iK,Mk c hc,aA,QU r _ v hr,aA,ih,ck];unfold G4 AL;rw[hcb];by_cases h1:c.kind=1
  ·simp[h1]
  by_cases h2:c.kind=2
  ·cases(pW r i).contains v<;>cases DG r i v<;>simp[h2]
  have h3:c.kind>=3:=by omega
  cases(pW r i).contains v<;>simp[h1,h2,h3]
theorem LR(r:aW)(y:aC)(i:Nat)(c:aU)(l:aC)(k:Option Bool)(hc:c.wt<=1048576)(hr:r.wt<=1048576)(hcb:jL c=true):∀(rest:aC) (j:Nat),dV r y i c (dB (pW r i)) l k rest j=bif rest.all (AL r i c)then k else some false:=by
 have hk:=sE hcb;intro rest
 induction rest with
 |nil=>intro j;rfl
 |cons v rest ih=>
  intro j;rw[dV,Gt,aA,iK,Mk c hc,aA,QU r _ v hr,aA,ih,ck];unfold G4 AL;rw[hcb];by_cases h1:c.kind=1
  ·simp[h1]
  by_cases h2:c.kind=2
  ·cases(pW r i).contains v<;>cases DG r i v<;>simp[h2]
  have h3:c.kind>=3:=by omega
  cases(pW r i).contains v<;>simp[h1,h2,h3]
theorem LP(r:aW)(y:aC)(k:Option Bool)(hr:r.wt<=1048576):∀(rest:bP) (i:Nat),(∀c∈rest,c.wt<=1048576)->fo r y k rest i=bif pY r rest i then k else some false:=by
 intro rest
 induction rest with
 |nil=>intro i _;rfl
 |cons c rest ih=>
  intro i h;have hc:=h c (by simp);have hl:=nS hc;have hu:=jT (jv c);rw[fo,Mh c hc,aA,pY];cases hcb:jL c with
  |false=>rfl
  |true=>
   rw[F2 r _ hr,F3 c hc,ih _ (fun x hx=>h x (by simp[hx]))];simp only[aA,um (show(dB (jv c)).length<=1099511627776 by omega),aK];rw[LQ r y i c _ _ hc hr hcb,LR r y i c _ _ hc hr hcb];simp only[bne,lB];have e0:decide (((i:Int):Int)=0)=decide (i=0):=by rw[bO];simp
   rw[e0];cases decide (i=0)<;>cases decide (c.kind=1)<;>cases(dB (jv c)).all (AL r i c)<;>simp
theorem LU(r:aW)(y:aC)(i:Nat)(l:aC)(k:Option Bool):∀(rest:aC) (j:Nat),iA r y i l k rest j=bif rest.all (fun v=>y.contains v)then k else some false:=
 fun rest j=>KN (f:=fun v=>dW y v) (L:=iA r y i l k) (fun _=>rfl) (fun _ _ _=>rfl) rest j (fun v _=>Gt y v)
theorem LS(r:aW)(b:aC)(k:Option Bool):∀(rest:cg) (i:Nat),(∀a∈rest,a.wt<=1048576)->hY r (dB b) k rest i=bif rest.all (fun a=>qc a&&(fF a.pat.args).all fun v=>b.contains v)then k else some false:=by
 intro rest
 induction rest with
 |nil=>intro i _;rfl
 |cons a rest ih=>
  intro i h;have ha:=h a (by simp);have h1:=mw a.pat.args;have h2:=bE.nB (Action.ia ha);have hu:=jT (fF a.pat.args);rw[hY,Su a ha,aA,xp _ (Action.ia ha),aA,um (by omega),ih _ (fun x hx=>h x (by simp[hx])),LU,ck,GL];have e:((fF a.pat.args).all fun v=>(dB b).contains v)=(fF a.pat.args).all fun v=>b.contains v:=by
   congr 1;funext v;exact iK b v
  rw[e];cases qc a<;>cases(fF a.pat.args).all (fun v=>b.contains v)<;>simp
theorem JU(r:aW)(h:r.wt<=1048576):iE r=some (nG r):=by
 unfold iE;simp only[Mi _ (aW.Fx h),aA,DW,bL];rw[F2 r _ h];simp only[aA];rw[LP r _ _ h _ _ (fun c hc=>aW.ni h hc),LS r _ _ _ _ (fun a ha=>aW.AA h ha),OH r h];simp only[aA,bL];have hab:(r.bg.all fun a=>qc a&&(fF a.pat.args).all fun v=>(pW r r.conds.length).contains v)=z6 r:=rfl;rw[hab];unfold nG;have g1:decide (r.prio>=0)=decide (0<=r.prio):=rfl;have g2:decide ((r.conds.length:Int)>=1)=decide (1<=(r.conds.length:Int)):=rfl;have g3:decide ((r.bg.length:Int)>=1)=decide (1<=(r.bg.length:Int)):=rfl;rw[g1,g2,g3];cases ha:z6 r with
 |false=>cases o6 r.name<;>cases(decide (0<=r.prio)&&decide (r.prio<=9))<;>cases(decide (1<=(r.conds.length:Int))&&decide ((r.conds.length:Int)<=4))<;>cases(decide (1<=(r.bg.length:Int))&&decide ((r.bg.length:Int)<=2))<;>cases pY r r.conds 0<;>rfl
 |true=>
  rw[EL ha];cases o6 r.name<;>cases(decide (0<=r.prio)&&decide (r.prio<=9))<;>cases(decide (1<=(r.conds.length:Int))&&decide ((r.conds.length:Int)<=4))<;>cases(decide (1<=(r.bg.length:Int))&&decide ((r.bg.length:Int)<=2))<;>cases pY r r.conds 0<;>simp
theorem Nr(r:aW)(i:Nat)(c:aU)(l:aC)(k:Option Bool)(hr:r.wt<=1048576)(hcb:jL c=true):∀(rest:aC) (j:Nat),(∀v∈rest,tV v=true)->di r (i:Int) c (dB (pW r i)) l k rest j=bif rest.all (AL r i c)then k else some false:=by
 have hk:=sE hcb;intro rest
 induction rest with
 |nil=>intro j _;rfl
 |cons v rest ih=>
  intro j hv;rw[di,Km,aA,iK,Sd r _ v (hv v (by simp)) hr,aA,ih _ (fun x hx=>hv x (by simp[hx])),ck];unfold AL;simp only[bne,lB];by_cases h1:c.kind=1
  ·simp[h1]
  by_cases h2:c.kind=2
  ·cases(pW r i).contains v<;>cases DG r i v<;>simp[h2]
  cases(pW r i).contains v<;>simp[h1,h2]
theorem Ps(r:aW)(i:Nat)(c:aU)(hr:r.wt<=1048576)(hi:r.conds[i]?=some c)(hcb:jL c=true):jQ r (i:Int)=some ((dB (jv c)).all (AL r i c)):=by
 unfold jQ;have hc:=aW.ni hr (aD hi);have hl:=nS hc;have hu:=jT (jv c);have e:k8 r.conds (i:Int)=some c:=by unfold k8;simp[hi]
 rw[e,aA,Ie r _ hr,aA,Ek c hc,aA,um (by omega),aK,Nr r i c _ _ hr hcb _ _ (fun v hv=>by
  rw[mq]at hv;unfold jv fF at hv;exact(fN.1 hv).2)]
 cases(dB (jv c)).all (AL r i c)<;>rfl
theorem Kn(r:aW)(k:Option Bool)(hr:r.wt<=1048576):∀(rest pre:bP),r.conds=pre++rest->eo r k rest pre.length=bif pY r rest pre.length then k else some false:=by
 intro rest
 induction rest with
 |nil=>intro pre _;rfl
 |cons c rest ih=>
  intro pre h;have hm:c∈r.conds:=by rw[h];simp
  have hc:=aW.ni hr hm;have hi:r.conds[pre.length]?=some c:=by rw[h];simp
  have t:=ih (pre++[c]) (by rw[h];simp);simp only[af,aR,bC]at t;rw[eo,Ig c hc,aA,pY];cases hcb:jL c with
  |false=>rfl
  |true=>
   rw[Ps r _ c hr hi hcb,aA,t];simp only[bne,lB];have e0:decide ((((pre.length:Nat):Int):Int)=0)=decide (pre.length=0):=by rw[bO];simp
   rw[e0];cases decide (pre.length=0)<;>cases decide (c.kind=1)<;>cases(dB (jv c)).all (AL r pre.length c)<;>simp
theorem Kp(r:aW)(y:aC)(i:Nat)(l:aC)(k:Option Bool):∀(rest:aC) (j:Nat),gr r y i l k rest j=bif rest.all (fun v=>y.contains v)then k else some false:=
 fun rest j=>KN (f:=fun v=>gH y v) (L:=gr r y i l k) (fun _=>rfl) (fun _ _ _=>rfl) rest j (fun v _=>Km y v)
theorem Ko(r:aW)(b:aC)(k:Option Bool):∀(rest:cg) (i:Nat),(∀a∈rest,a.wt<=1048576)->gq r (dB b) k rest i=bif rest.all (fun a=>qc a&&(fF a.pat.args).all fun v=>b.contains v)then k else some false:=by
 intro rest
 induction rest with
 |nil=>intro i _;rfl
 |cons a rest ih=>
  intro i h;have ha:=h a (by simp);have h1:=mw a.pat.args;have h2:=bE.nB (Action.ia ha);rw[gq,Pq a ha,aA,Io _ (by omega) (fun x hx=>bE.yL (Action.ia ha) hx),aA,um (by omega),ih _ (fun x hx=>h x (by simp[hx])),Kp,ck];have e:((fF a.pat.args).all fun v=>(dB b).contains v)=(fF a.pat.args).all fun v=>b.contains v:=by
   congr 1;funext v;exact iK b v
  rw[e];cases qc a<;>cases(fF a.pat.args).all (fun v=>b.contains v)<;>simp
theorem M8(r:aW)(h:r.wt<=1048576):kf r=some (nG r):=by
 unfold kf;have Vm:=Hv r.conds;have hcl:=aW.rN h;rw[show eo r _ r.conds 0=_ from Kn r _ h r.conds [] rfl,Ie r _ h,aA,Ko r _ _ _ _ (fun a ha=>aW.AA h ha),Pr _ (fun c hc=>aW.ni h hc) hcl,aA,CK _ (by omega),M7 _ (aW.Fx h)];have e:=RI r.conds [];simp only[dw]at e;rw[e];simp only[aA,bL,bC];have hab:(r.bg.all fun a=>qc a&&(fF a.pat.args).all fun v=>(pW r r.conds.length).contains v)=z6 r:=rfl;rw[hab];unfold nG;have g1:decide (0<=r.prio)= !decide (r.prio<0):=by rw[bO];simp
 have g2:decide (r.prio<=9)= !decide (r.prio>9):=by rw[bO];simp
 have g3:decide (1<=(r.conds.length:Int))= !decide ((r.conds.length:Int)<1):=by rw[bO];simp
 have g4:decide ((r.conds.length:Int)<=4)= !decide ((r.conds.length:Int)>4):=by rw[bO];simp
 have g5:decide (1<=(r.bg.length:Int))= !decide ((r.bg.length:Int)<1):=by rw[bO];simp
 have g6:decide ((r.bg.length:Int)<=2)= !decide ((r.bg.length:Int)>2):=by rw[bO];simp
 rw[g1,g2,g3,g4,g5,g6];cases o6 r.name
 ·rfl
 cases decide (r.prio<0)
 case true=>rfl
 cases decide (r.prio>9)
 case true=>rfl
 cases decide ((r.conds.length:Int)<1)
 case true=>rfl
 cases decide ((r.conds.length:Int)>4)
 case true=>rfl
 cases decide ((r.bg.length:Int)<1)
 case true=>rfl
 cases decide ((r.bg.length:Int)>2)
 case true=>rfl
 cases pY r r.conds 0
 ·rfl
 cases z6 r
 ·rfl
 simp
end Go.Cx
namespace Go.Cx
open Go.RowKit Go.Proofs Tryz
end Go.Cx
namespace Go.Cx
open Go.RowKit Go.Proofs Tryz
theorem Ns(n:Int):fe n=some (Lib.itoa n):=by
 unfold fe qF;rfl
theorem El(n:Int)(h:nM .i64 n):(Lib.itoa n).length<=21:=by
 have:=nM.i64.1 h;exact Lib.itoa_length_le n this.1 this.2
end Go.Cx
namespace Go.Cx
open Go.RowKit Go.Proofs Tryz
theorem qp{a b:Bytes}(h:a.length+b.length<=1099511627776):decide ((a:Bytes).length+(b:Bytes).length<=maxLen)=true:=by unfold maxLen;simp;omega
theorem KP(a b:Int):(a==b)=decide (a=b):=by rw[bO];simp
theorem Ks(sep:Bytes)(B:Nat):∀(xs:aC),(∀x∈xs,x.length<=B)->(Lib.joinTail sep xs).length<=xs.length*(sep.length+B):=by
 intro xs
 induction xs with
 |nil=>intro _;simp[Lib.joinTail]
 |cons x xs ih=>
  intro h;have h1:=ih fun y hy=>h y (by simp[hy])
  have h2:=h x (by simp);have:(Lib.joinTail sep (x::xs)).length=sep.length+x.length+(Lib.joinTail sep xs).length:=by simp[Lib.joinTail,fJ]
  rw[this,aR,eR];omega
theorem DZ(sep:Bytes)(B:Nat)(xs:aC)(h:∀x∈xs,x.length<=B):(Lib.join xs sep).length<=xs.length*(sep.length+B):=by
 cases xs with
 |nil=>simp[Lib.join_nil]
 |cons x r=>
  have h1:=Ks sep B r fun y hy=>h y (by simp[hy])
  have h2:=h x (by simp);rw[Lib.join_cons,af,aR,eR];omega
theorem Ih(xs:aC)(sep:Bytes)(h:(Lib.join xs sep).length<=1099511627776)(hn:xs.length<=1099511627776):lQ xs sep=some (Lib.join xs sep):=by
 have h1:(Lib.join xs sep).length<=140737488355328:=by omega
 have h2:xs.length<=140737488355328:=by omega
 simp[lQ,qG,CM,h1,h2]
def k7(p:bE):Bytes:=((p.rel++[40])++Lib.join p.args [44])++[41]
def qf(p:bE):Bytes:=bif o7 p then k7 p else []
theorem xg{p:bE}(h:o7 p=true):p.rel.length<=8/\(Lib.join p.args [44]).length<=30/\p.args.length<=3:=by
 simp only[o7,aM,bA,aO]at h;have h1:=(Bc h.2.1).2;have h2:=DZ [44] 9 p.args fun x hx=>(mr (h.1 x hx)).2
 simp only[aR,bC]at h2;omega
theorem uX(p:bE):(qf p).length<=40:=by
 unfold qf;cases h:o7 p with
 |false=>simp
 |true=>have:=xg h;simp[k7];omega
theorem Fp(p:bE)(h:p.wt<=1048576):cy p=some (qf p):=by
 unfold cy qf;rw[Ij p h,aA];cases hp:o7 p with
 |false=>rfl
 |true=>
  have:=xg hp;rw[bB,aP,qp (by simp;omega),aK,Ih _ _ (by omega) (by omega),aA,qp (by simp;omega),aK,qp (by simp;omega),aK,aK];rfl
def qu(k:Int):Bytes:=bif decide (k=3)then [32,61,32]else bif decide (k=4)then [32,33,61,32]else [32,60,32]
theorem Bl(k:Int):(qu k).length<=4:=by unfold qu;cases decide (k=3)<;>cases decide (k=4)<;>simp
def fmtC(c:aU):Bytes:=bif jL c then(bif decide (c.kind=1)then qf c.pat else bif decide (c.kind=2)then [110,111,116,32]++qf c.pat else(c.left++qu c.kind)++c.right)else []
theorem z8{c:aU}(h:jL c=true)(h1:c.kind≠1)(h2:c.kind≠2):c.left.length<=9/\c.right.length<=9/\(c.kind=3\/c.kind=4\/c.kind=5):=by
 have hk:=sE h;unfold jL at h;rw[bf h1,bf h2]at h;simp only[nc,aP]at h;have h3:(decide (c.kind=3)||decide (c.kind=4)||decide (c.kind=5))=true:=by simp;omega
 rw[h3,aK]at h;simp only[aM]at h;exact⟨(mr h.2.1).2,(mr h.2.2).2,by omega⟩
theorem AN(c:aU):(fmtC c).length<=44:=by
 have hp:=uX c.pat;unfold fmtC;cases h:jL c with
 |false=>simp
 |true=>
  rw[aK];by_cases h1:c.kind=1
  ·rw[bN h1,aK];omega
  ·rw[bf h1,aP];by_cases h2:c.kind=2
   ·rw[bN h2,aK];simp;omega
   ·rw[bf h2,aP];have:=z8 h h1 h2;have:=Bl c.kind;simp;omega
theorem M6(c:aU)(h:c.wt<=1048576):dY c=some (fmtC c):=by
 have hp:=uX c.pat;unfold dY fmtC;rw[Ig c h,aA,KP,KP,Fp c.pat (aU.ia h),aA,aA];cases hc:jL c with
 |false=>rfl
 |true=>
  rw[bB,aP,aK];by_cases h1:c.kind=1
  ·rw[bN h1];rfl
  ·rw[bf h1,aP,aP];by_cases h2:c.kind=2
   ·rw[bN h2,aK,aK,qp (by simp;omega)];rfl
   ·rw[bf h2,aP,aP];have ht:=z8 hc h1 h2;have hs:=Bl c.kind;have e:k8 ([[32,61,32],[32,33,61,32],[32,60,32]]:aC) (IntKind.i64.wrap (c.kind-3))=some (qu c.kind):=by
     rcases ht.2.2 with hk|hk|hk<;>rw[hk]<;>rfl
    rw[e,aA,qp (by omega),aK,qp (by simp;omega),aK]
def qI(a:Action):Bytes:=bif qc a then(bif decide (a.kind=1)then [97,100,100,32]++qf a.pat else bif decide (a.kind=2)then [100,114,111,112,32]++qf a.pat else [115,116,111,112])else []
theorem DL(a:Action):(qI a).length<=45:=by
 have hp:=uX a.pat;unfold qI;cases qc a<;>cases decide (a.kind=1)<;>cases decide (a.kind=2)<;>simp<;>omega
theorem Pt(a:Action)(h:a.wt<=1048576):gS a=some (qI a):=by
 have hp:=uX a.pat;unfold gS qI;rw[Pq a h,aA,KP,KP,Fp a.pat (Action.ia h),aA,aA,qp (by simp;omega),qp (by simp;omega)];cases qc a<;>cases decide (a.kind=1)<;>cases decide (a.kind=2)<;>rfl
def tA(r:aW):Bytes:=(((((r.name++[32])++Lib.itoa r.prio)++[58,32])++Lib.join (r.conds.map fmtC) [32,38,32])++[32,45,62,32])++Lib.join (r.bg.map qI) [32,38,32]
theorem qt{r:aW}(h:nG r=true):r.name.length<=8/\r.conds.length<=4/\r.bg.length<=2/\nM .i64 r.prio:=by
 unfold nG at h;simp only[aM,bA]at h;have h1:=(Bc h.1.1.1.1).2;refine⟨h1,by omega,by omega,nM.i64.2 (by omega)⟩
theorem join_le{α:Type}{f:α->Bytes}(B:Nat)(hf:∀x,(f x).length<=B)(l:List α)(n:Nat)(hl:l.length<=n):(Lib.join (l.map f) [32,38,32]).length<=n*(3+B):=by
 have h1:=DZ [32,38,32] B (l.map f) (fun x hx=>by obtain⟨y,_,rfl⟩:=cQ.1 hx;exact hf y);rw[bL]at h1;exact eg h1 (cx _ hl)
theorem DV(r:aW)(h:r.wt<=1048576):iP r=some (bif nG r then tA r else []):=by
 unfold iP;rw[M8 r h,aA];cases hr:nG r with
 |false=>rfl
 |true=>
  have hb:=qt hr;have hi:=El r.prio hb.2.2.2;have j1:=join_le 44 AN r.conds 4 hb.2.1;have j2:=join_le 45 DL r.bg 2 hb.2.2.1;rw[bB,aP,aK];rw[Q5 (c:=tx) (b:=16) (f:=dY) (g:=fmtC) (L:=ff r _) (k:=_) (by decide) (fun _ _=>rfl) (fun _ _ _ _=>rfl) r.conds 0 [] (fun c hc=>M6 c (aW.ni h hc)) (by simp;omega)];rw[dN,Q5 (c:=tx) (b:=16) (f:=gS) (g:=qI) (L:=fk r _ _) (k:=_) (by decide) (fun _ _=>rfl) (fun _ _ _ _=>rfl) r.bg 0 [] (fun a ha=>Pt a (aW.AA h ha)) (by simp;omega)];rw[dN,qp (by simp;omega),aK,Ns,aA,qp (by simp;omega),aK,qp (by simp;omega),aK,Ih _ _ (by omega) (by rw[bL];omega),aA,qp (by simp;omega),aK,qp (by simp;omega),aK,Ih _ _ (by omega) (by rw[bL];omega),aA,qp (by simp;omega),aK];rfl
end Go.Cx
namespace Go.Cx
open Go.RowKit Go.Proofs Tryz
theorem xX(x y:Bytes)(r:aC)(sep:Bytes):Lib.join (x::y::r) sep=x++(sep++Lib.join (y::r) sep):=by
 rw[Lib.join_cons,Lib.join_cons];simp[Lib.joinTail]
section
variable{d:UInt8}{p q:Bytes}
theorem LF{b:UInt8}{x y:Bytes}(hp:d∉p)(hx:d∉b::x):(p++d::q).isPrefixOf (b::(x++((p++d::q)++y)))=false:=by
 cases h:(p++d::q).isPrefixOf (b::(x++((p++d::q)++y)))with
 |false=>rfl
 |true=>
  exfalso;obtain⟨t,ht⟩:=dQ.1 h;have h1:((p++d::q)++t)[p.length]?=some d:=by simp
  rw[ht,<-eC]at h1;by_cases hl:p.length<(b::x).length
  ·rw[aS hl]at h1;exact hx (aD h1)
  ·have h0:0<(b::x).length:=by simp
   rw[aV (by omega),cF,aS (by omega)]at h1;exact hp (aD h1)
theorem LI{sep s:Bytes}(hd:d∈sep)(hs:d∉s):sep.isPrefixOf s=false:=by
 cases h:sep.isPrefixOf s with
 |false=>rfl
 |true=>
  obtain⟨t,ht⟩:=dQ.1 h;exact absurd (by rw[<-ht];exact List.mem_append_left _ hd) hs
theorem xW(hp:d∉p)(y:Bytes):∀(x:Bytes),d∉x->Lib.index (x++((p++d::q)++y)) (p++d::q)=(x.length:Int)
 | [],_=>by
  rw[dN];have hq:(p++d::q).isPrefixOf ((p++d::q)++y)=true:=dQ.2 ⟨y,rfl⟩;generalize hz:(p++d::q)++y=z at hq;cases z with
  |nil=>simp at hz
  |cons c l=>rw[Lib.index,bG hq];rfl
 |b::x,hx=>by
  rw[eC,Lib.index,LF hp hx,xW hp y x (fun h=>hx (lG _ h))];rw[ar (by simp),ar (by simp only[bX];omega),aR];omega
theorem AX{sep:Bytes}(hd:d∈sep):∀(s:Bytes),d∉s->Lib.index s sep= -1
 | [],_=>by
  cases sep with
  |nil=>cases hd
  |cons c l=>rfl
 |b::s,hs=>by
  rw[Lib.index,LI hd hs,AX hd s (fun h=>hs (lG _ h))];rfl
theorem wE(hp:d∉p){x:Bytes}(hx:d∉x)(y:Bytes):Lib.cut (x++((p++d::q)++y)) (p++d::q)=(x,y,true):=by
 unfold Lib.cut;rw[xW hp y x hx,bG (by omega)];simp
theorem AH{sep s:Bytes}(hd:d∈sep)(hs:d∉s):Lib.cut s sep=(s,[],false):=by
 unfold Lib.cut;rw[AX hd s hs,ar (by omega)]
theorem L8:d∈p++d::q:=by simp
theorem AG(hp:d∉p):∀(xs:aC) (x:Bytes) (fuel:Nat),(∀z∈x::xs,d∉z)->xs.length<fuel->Lib.countFrom (p++d::q) fuel (Lib.join (x::xs) (p++d::q))=xs.length
 |_,_,0,_,h=>absurd h (by omega)
 | [],x,fuel+1,h,_=>by
  rw[Lib.join_one,Lib.countFrom,AX L8 x (h x (by simp))];rfl
 |y::ys,x,fuel+1,h,hf=>by
  rw[xX,Lib.countFrom,xW hp _ x (h x (by simp)),ar (by simp only[bX];omega)];have e:(x++((p++d::q)++Lib.join (y::ys) (p++d::q))).drop ((x.length:Int).toNat+(p++d::q).length)=Lib.join (y::ys) (p++d::q):=by
   rw[n9,<-cF,kB (by simp)];rw[kD (by simp)];rfl
  rw[e,AG hp ys y fuel (fun z hz=>h z (lG _ hz)) (by simp only[aR]at hf;omega),aR];omega
theorem zP(hp:d∉p):∀(xs:aC) (x:Bytes),(∀z∈x::xs,d∉z)->Lib.splitK (p++d::q) 0 xs.length (Lib.join (x::xs) (p++d::q))=x::xs
 | [],x,h=>by rw[Lib.join_one];rfl
 |y::ys,x,h=>by
  rw[xX,aR,Lib.splitK,xW hp _ x (h x (by simp)),ar (by simp only[bX];omega)];have e:(x++((p++d::q)++Lib.join (y::ys) (p++d::q))).drop ((x.length:Int).toNat+(p++d::q).length)=Lib.join (y::ys) (p++d::q):=by
   rw[n9,<-cF,kB (by simp)];rw[kD (by simp)];rfl
  rw[e,zP hp ys y (fun z hz=>h z (lG _ hz))];simp
theorem BW{sep:Bytes}(h0:1<=sep.length):∀(xs:aC) (x:Bytes),xs.length<=(Lib.join (x::xs) sep).length
 | [],x=>by simp
 |y::ys,x=>by
  have:=BW h0 ys y;rw[xX,af,af,aR];omega
theorem wg(hp:d∉p)(xs:aC)(x:Bytes)(h:∀z∈x::xs,d∉z):Lib.split (Lib.join (x::xs) (p++d::q)) (p++d::q)=x::xs:=by
 unfold Lib.split Lib.count;have:=BW (sep:=p++d::q) (by simp;omega) xs x;rw[AG hp xs x _ h (by omega),zP hp xs x h]
end
end Go.Cx
namespace Go.Cx
open Go.RowKit Go.Proofs Tryz
def O6(s:Bytes):Option Nat:=if 1<=s.length/\s.length<=4 then(match Lib.decFrom 0 s with|some n=>if Lib.decDigits n=s then some n else none|none=>none)else none
def pI(s:Bytes):Int×Bool:=match O6 s with|some n=>((n:Int),true)|none=>(0,false)
theorem Hz:∀(u:Nat),∀b∈Lib.decDigits u,48<=b.toNat/\b.toNat<=57:=by
 intro u
 induction u using Nat.strongRecOn with
 |_ u ih=>
  have hb:∀v:Nat,v<10->48<=(UInt8.ofNat (48+v)).toNat/\(UInt8.ofNat (48+v)).toNat<=57:=by
   intro v hv;have:(UInt8.ofNat (48+v)).toNat=48+v:=by simp;omega
   omega
  intro b hm;rw[Lib.decDigits]at hm;split at hm
  ·rename_i h10;simp only[bu]at hm;subst hm;exact hb u h10
  ·rename_i h10;rcases aF.1 hm with hm|hm
   ·exact ih (u/10) (by omega) b hm
   ·simp only[bu]at hm;subst hm;exact hb (u%10) (by omega)
theorem Ii(s:Bytes):kS s=some (pI s):=by
 unfold kS pI O6;by_cases hl:1<=s.length/\s.length<=4
 ·have e1:decide ((s.length:Int)<1)=false:=by simp;omega
  have e2:decide ((s.length:Int)>4)=false:=by simp;omega
  rw[bG hl,e1,aP,e2,aP];unfold qE CL;rw[bG (by omega)];cases s with
  |nil=>simp at hl
  |cons b t=>
   have fin:∀(m:Nat),Lib.decFrom 0 (b::t)=some m->(bif decide ((m:Int)<0)then some ((0:Int),false)else bif decide ((m:Int)>9999)then some (0,false)else(fe (m:Int)).bind fun y8=>bif !((y8:Bytes)==(b::t))then some (0,false)else some ((m:Int),true))=
    some (match(if Lib.decDigits m=b::t then some m else none)with|some n=>((n:Int),true)|none=>(0,false)):=by
    intro m hd;have hm:=Lib.decFrom_lt (b::t) 0 m hd;have h10:m<10000:=by
     have:=Nat.pow_le_pow_right (n:=10) (by omega) hl.2;omega
    have e3:decide ((m:Int)<0)=false:=by simp
    have e4:decide ((m:Int)>9999)=false:=by simp;omega
    have e5:Lib.itoa (m:Int)=Lib.decDigits m:=by unfold Lib.itoa;rw[ar (by omega)];simp
    rw[e3,aP,e4,aP,Ns,aA,e5];by_cases he:Lib.decDigits m=b::t
    ·rw[bG he,he];simp
    ·rw[ar he];have:(Lib.decDigits m==(b::t))=false:=by simpa using he
     rw[this];rfl
   have sign:∀(n:Int),b.toNat<48->(bif decide (n<0)then some ((0:Int),false)else bif decide (n>9999)then some (0,false)else(fe n).bind fun y8=>bif !((y8:Bytes)==(b::t))then some (0,false)else some (n,true))=some (0,false):=by
    intro n hb;by_cases hn:n<0
    ·rw[bN hn];rfl
    rw[bf hn,aP,Ns,aA];cases decide (n>9999)with
    |true=>rfl
    |false=>
     have e5:Lib.itoa n=Lib.decDigits n.toNat:=by unfold Lib.itoa;rw[ar hn]
     have:(Lib.itoa n==(b::t))=false:=by
      rw[e5,eE];intro h;have:=Hz n.toNat b (by rw[h];simp);omega
     rw[this];rfl
   simp only[Lib.atoi];by_cases hb:b=45
   ·subst hb;have hd:Lib.decFrom 0 ((45:UInt8)::t)=none:=by simp[Lib.decFrom,Lib.digitVal]
    rw[bG (by decide),hd];cases Lib.decNat t with
    |none=>rfl
    |some m=>exact sign _ (by decide)
   ·rw[ar (by simpa using hb)];by_cases EF:b=43
    ·subst EF;have hd:Lib.decFrom 0 ((43:UInt8)::t)=none:=by simp[Lib.decFrom,Lib.digitVal]
     rw[bG (by decide),hd];cases Lib.decNat t with
     |none=>rfl
     |some m=>exact sign (m:Int) (by decide)
    ·rw[ar (by simpa using EF)];have hdn:Lib.decNat (b::t)=Lib.decFrom 0 (b::t):=by simp[Lib.decNat]
     rw[hdn];cases hd:Lib.decFrom 0 (b::t)with
     |none=>rfl
     |some m=>exact fin m hd
 ·rw[ar hl];by_cases h1:(s.length:Int)<1
  ·rw[bN h1];rfl
  ·have h2:(s.length:Int)>4:=by omega
   rw[bf h1,aP,bN h2];rfl
end Go.Cx
namespace Go.Cx
open Go.RowKit Go.Proofs Tryz
end Go.Cx
namespace Go.Cx
open Go.RowKit Go.Proofs Tryz
theorem AF{r:aW}:∀ {l:bP} {i:Nat},pY r l i=true->∀c∈l,jL c=true
 | [],_,_,c,hc=>by cases hc
 |x::xs,i,h,c,hc=>by
  simp only[pY,aM]at h;rcases aY.1 hc with rfl|hc
  ·exact h.1.1.1
  ·exact AF h.2 c hc
theorem E4{r:aW}(h:nG r=true):∀c∈r.conds,jL c=true:=by
 unfold nG at h;simp only[aM]at h;exact AF h.2.1
end Go.Cx
namespace Go.Cx
open Go.RowKit Go.Proofs Tryz
def tc(x:UInt8):Bool:=ab x||x==63
theorem C6{s:Bytes}(h:nr s=true):∀x∈s,tc x=true:=by
 simp only[nr,aM]at h;intro x hx;unfold tc;rw[aO.1 h.1 x hx];rfl
theorem xw{s:Bytes}(h:jz s=true):∀x∈s,tc x=true:=by
 simp only[jz,fM]at h;rcases h with h|h
 ·exact C6 h
 ·cases s with
  |nil=>cases h
  |cons c t=>
   simp only[tV,aM,bA]at h;intro x hx;rcases aY.1 hx with rfl|hx
   ·have:x=63:=UInt8.toNat_inj.1 (by have:=h.1;simp;omega);subst this;rfl
   ·exact C6 h.2 x hx
theorem CS{s:Bytes}(h:o6 s=true):∀x∈s,tc x=true:=by
 simp only[o6,aM]at h;exact C6 h.1
theorem oq{s:Bytes}(h:∀x∈s,tc x=true){d:UInt8}(hd:tc d=false):d∉s:=fun hm=>by rw[h d hm]at hd;cases hd
def pc(x:UInt8):Bool:=tc x||(x==40||(x==41||x==44))
theorem Ku{l:aC}(h:∀s∈l,∀x∈s,tc x=true):∀x∈Lib.join l [44],tc x=true\/x=44:=by
 cases l with
 |nil=>intro x hx;cases hx
 |cons s l=>
  rw[Lib.join_cons];intro x hx;rcases aF.1 hx with hx|hx
  ·exact .inl (h s (by simp) x hx)
  ·unfold Lib.joinTail at hx;obtain⟨t,ht,hx⟩:=cu.1 hx;obtain⟨u,hu,rfl⟩:=cQ.1 ht;rcases aF.1 hx with hx|hx
   ·exact .inr (by simpa using hx)
   ·exact .inl (h u (by simp[hu]) x hx)
theorem zq{p:bE}(h:o7 p=true):(∀s∈p.args,jz s=true)/\o6 p.rel=true:=by
 simp only[o7,aM,aO]at h;exact⟨h.1,h.2.1⟩
theorem xx{p:bE}(h:o7 p=true):∀x∈k7 p,pc x=true:=by
 obtain⟨h1,h2⟩:=zq h;intro x hx;unfold k7 at hx;unfold pc;simp only[aF,bu]at hx;rcases hx with((hx|rfl)|hx)|rfl
 ·rw[CS h2 x hx];rfl
 ·rfl
 ·rcases Ku (fun s hs=>xw (h1 s hs)) x hx with hx|rfl
  ·rw[hx];rfl
  ·rfl
 ·rfl
theorem QL{s:Bytes}(h:∀x∈s,pc x=true){d:UInt8}(hd:pc d=false):d∉s:=fun hm=>by rw[h d hm]at hd;cases hd
theorem Gy{p:bE}(h:o7 p=true):(k7 p).length<=40:=by
 have:=uX p;unfold qf at this
 rwa[h,aK]at this
theorem xu(sep:Bytes):∀(k:Nat) (s:Bytes),(Lib.splitK sep 0 k s).length<=k+1/\∀x∈Lib.splitK sep 0 k s,x.length<=s.length
 |0,s=>⟨by simp[Lib.splitK],fun x hx=>by rw[bu.1 hx];exact b8 _⟩
 |k+1,s=>by
  rw[Lib.splitK];split
  ·exact⟨by simp,fun x hx=>by rw[bu.1 hx];exact b8 _⟩
  ·obtain⟨h1,h2⟩:=xu sep k (s.drop ((Lib.index s sep).toNat+sep.length));refine⟨by simp only[aR];omega,fun x hx=>?_⟩;rcases aY.1 hx with rfl|hx
   ·simp only[bD];omega
   ·have:=h2 x hx;simp only[fZ]at this;omega
theorem zA(sep:Bytes):∀(f:Nat) (s:Bytes),Lib.countFrom sep f s<=f
 |0,s=>by simp[Lib.countFrom]
 |f+1,s=>by
  rw[Lib.countFrom];split
  ·omega
  ·have:=zA sep f (s.drop ((Lib.index s sep).toNat+sep.length));omega
theorem E8(s sep:Bytes):(Lib.split s sep).length<=s.length+2/\∀x∈Lib.split s sep,x.length<=s.length:=by
 unfold Lib.split Lib.count;have h:=zA sep (s.length+1) s;obtain⟨h1,h2⟩:=xu sep (Lib.countFrom sep (s.length+1) s) s;exact⟨by omega,h2⟩
theorem wv(s sep:Bytes)(h:s.length<=500):j5 s sep=some (Lib.cut s sep):=by
 unfold j5 Fw;rw[bG (by omega)]
theorem zw(s sep:Bytes)(h:s.length<=500)(h1:1<=sep.length):jS s sep=some (Lib.split s sep):=by
 unfold jS zn;rw[bG ⟨by omega,h1⟩]
theorem Ml(s p:Bytes):mI s p=some (Lib.hasSuffix s p):=rfl
theorem E1(s p:Bytes):iq s p=some (Lib.trimPrefix s p,Lib.hasPrefix s p):=rfl
theorem Ma{n:Nat}(h:1<=n):o8 n none (some (D.int .i64 (IntKind.i64.wrap ((n:Int)-1))))=if n<=1099511627776 then some (0,n-1)else o8 n none (some (D.int .i64 (IntKind.i64.wrap ((n:Int)-1)))):=by
 split
 ·rw[mB (nM.i64.2 (by omega))];have e:((n:Int)-1).toNat=n-1:=by omega
  unfold o8;simp only[e];rw[bG ⟨by omega,by omega⟩]
 ·rfl
theorem Kl(s:Bytes)(h:s.length<=500):∃a:Bytes×aC×Bool,je s=some a/\a.1.length<=500/\a.2.1.length<=502/\∀x∈a.2.1,x.length<=500:=by
 unfold je;rw[wv s _ h,aA];obtain⟨c1,c2⟩:=Hy s [40];cases h1:(Lib.cut s [40]).2.2 with
 |false=>exact⟨_,rfl,by simp,by simp,by simp⟩
 |true=>
  rw[bB,aP,Ml,aA];cases h2:Lib.hasSuffix (Lib.cut s [40]).2.1 [41]with
  |false=>exact⟨_,rfl,by simp,by simp,by simp⟩
  |true=>
   rw[bB,aP];have hl:1<=(Lib.cut s [40]).2.1.length:=by
    obtain⟨t,ht⟩:=pQ.1 h2;rw[<-ht];simp
   rw[Ma hl,bG (by omega),aA];dsimp only;rw[pO];have hi:((Lib.cut s [40]).2.1.take ((Lib.cut s [40]).2.1.length -1)).length<=500:=by simp;omega
   generalize(Lib.cut s [40]).2.1.take ((Lib.cut s [40]).2.1.length -1)=u at hi⊢;cases h3:((u:Bytes)==[])with
   |true=>rw[aK];exact⟨_,rfl,by dsimp only;omega,by simp,by simp⟩
   |false=>
    rw[aP,zw u _ hi (by decide),aA];obtain⟨q1,q2⟩:=E8 u [44];exact⟨_,rfl,by dsimp only;omega,by dsimp only;omega,fun x hx=>eg (q2 x hx) hi⟩
theorem Kt{l:aC}{sep:Bytes}(h:∀s∈l,s≠[])(hl:l≠[]):Lib.join l sep≠[]:=by
 cases l with
 |nil=>exact absurd rfl hl
 |cons s l=>rw[Lib.join_cons];intro e;exact h s (by simp) (List.append_eq_nil_iff.1 e).1
theorem La{s:Bytes}(h:jz s=true):s≠[]:=by
 intro e;have:=mr h;rw[e]at this;simp at this
theorem Ga{p:bE}(h:o7 p=true):je (k7 p)=some (p.rel,p.args,true):=by
 have hl:=Gy h;obtain⟨h1,h2⟩:=zq h;have e1:k7 p=p.rel++(([]++40::[])++(Lib.join p.args [44]++[41])):=by unfold k7;simp
 have e2:Lib.cut (k7 p) [40]=(p.rel,Lib.join p.args [44]++[41],true):=by
  rw[e1];exact wE (p:=[]) (q:=[]) (by simp) (oq (CS h2) (by decide)) _
 unfold je;rw[wv _ _ (by omega),aA,e2];dsimp only;rw[bB,aP,Ml,aA,show Lib.hasSuffix (Lib.join p.args [44]++[41]) [41]=true from pQ.2 ⟨_,rfl⟩,bB,aP];have hj:(Lib.join p.args [44]++[41]).length<=500:=by
  have:(k7 p).length=p.rel.length+(1+(Lib.join p.args [44]++[41]).length):=by rw[e1];simp;omega
  omega
 rw[Ma (by simp),bG (by omega),aA];dsimp only;have e3:((Lib.join p.args [44]++[41]).take ((Lib.join p.args [44]++[41]).length -1)).drop 0=Lib.join p.args [44]:=by simp
 rw[e3];cases ha:p.args with
 |nil=>rfl
 |cons x xs=>
  have hne:Lib.join (x::xs) [44]≠[]:=Kt (fun s hs=>La (h1 s (by rw[ha];exact hs))) (by simp);have hb:((Lib.join (x::xs) [44]:Bytes)==[])=false:=by simpa using hne
  rw[hb,aP,zw _ _ (by rw[<-ha];simp at hj;omega) (by decide)];have e4:Lib.split (Lib.join (x::xs) [44]) [44]=x::xs:=wg (p:=[]) (q:=[]) (by simp) xs x (fun z hz=>oq (xw (h1 z (by rw[ha];exact hz))) (by decide));rw[e4];rfl
theorem ED{f:bE}(h1:f.rel.length<=500)(h2:f.args.length<=502)(h3:∀x∈f.args,x.length<=500):f.wt<=1048576:=by
 have:rp tw f.args<=501*f.args.length:=by
  generalize f.args=l at h3⊢;clear h1 h2
  induction l with
  |nil=>simp[zy]
  |cons x l ih=>
   have q:=ih fun y hy=>h3 y (by simp[hy])
   have q2:=h3 x (by simp);rw[jJ,aR];unfold tw at*;omega
 have e:tw f.rel=f.rel.length:=rfl;unfold bE.wt;rw[e];have:501*f.args.length<=501*502:=ij _ h2;omega
theorem V6(s:Bytes)(h:s.length<=500):∃a:bE×Bool,cH s=some a/\(a.2=true->o7 a.1=true/\k7 a.1=s)/\(a.2=false->a.1=⟨[],[]⟩):=by
 obtain⟨a,e,q1,q2,q3⟩:=Kl s h;unfold cH;rw[e,aA];cases h1:a.2.2 with
 |false=>exact⟨_,rfl,fun h=>(by cases h),fun _=>rfl⟩
 |true=>
  have hw:(⟨a.1,a.2.1⟩:bE).wt<=1048576:=ED q1 q2 q3;rw[bB,aP,Ij _ hw,aA];cases h2:o7 ⟨a.1,a.2.1⟩with
  |false=>exact⟨_,rfl,fun h=>(by cases h),fun _=>rfl⟩
  |true=>
   rw[bB,aP,Fp _ hw,aA];have e2:qf ⟨a.1,a.2.1⟩=k7 ⟨a.1,a.2.1⟩:=by unfold qf;rw[h2,aK]
   cases h3:((qf ⟨a.1,a.2.1⟩:Bytes)==s)with
   |false=>exact⟨_,rfl,fun h=>(by cases h),fun _=>rfl⟩
   |true=>exact⟨_,rfl,fun _=>⟨h2,by rw[<-e2];simpa using h3⟩,fun h=>(by cases h)⟩
theorem Fq{p:bE}(h:o7 p=true):cH (k7 p)=some (p,true):=by
 have hl:=xg h;obtain⟨h1,h2⟩:=zq h;have hw:p.wt<=1048576:=ED (by omega) (by omega) (fun x hx=>by have:=mr (h1 x hx);omega);unfold cH;rw[Ga h,aA];dsimp only;rw[bB,aP,show(⟨p.rel,p.args⟩:bE)=p from rfl,Ij _ hw,aA,h,bB,aP,Fp _ hw,aA];have e2:qf p=k7 p:=by unfold qf;rw[h,aK]
 rw[e2,show((k7 p:Bytes)==k7 p)=true by simp,bB,aP]
theorem Pw{s:Bytes}(h:s.length<=500){d:UInt8}(hd:pc d=false)(hm:d∈s):cH s=some (⟨[],[]⟩,false):=by
 obtain⟨⟨f,b⟩,e,q1,q2⟩:=V6 s h;cases b with
 |true=>
  obtain⟨r1,r2⟩:=q1 rfl;exact absurd (by rw[r2];exact hm) (QL (xx r1) hd)
 |false=>
  have q3:f=⟨[],[]⟩:=q2 rfl;rw[e,q3]
theorem Tg{p:bE}(h:o7 p=true):tw p.rel+rp tw p.args<=38:=by
 have hl:=xg h;obtain⟨t1,_⟩:=zq h;have:∀l:aC,(∀x∈l,x.length<=9)->rp tw l<=10*l.length:=by
  intro l
  induction l with
  |nil=>intro _;simp[zy]
  |cons x l ih=>
   intro hx;have q:=ih fun y hy=>hx y (by simp[hy])
   have q2:=hx x (by simp);rw[jJ,aR];unfold tw at*;omega
 have:=this p.args fun x hx=>(mr (t1 x hx)).2
 have e1:tw p.rel=p.rel.length:=rfl;omega
theorem u9{c:aU}(h:jL c=true):((c.kind=1\/c.kind=2)/\o7 c.pat=true/\c.left=[]/\c.right=[])\/((c.kind=3\/c.kind=4\/c.kind=5)/\c.pat=⟨[],[]⟩/\jz c.left=true/\jz c.right=true):=by
 unfold jL at h;cases hk:decide (c.kind=1)||decide (c.kind=2)with
 |true=>
  rw[hk,aK]at h;simp only[aM,bX,fM,bA]at h hk;exact .inl ⟨hk,h.1,h.2.1,h.2.2⟩
 |false=>
  rw[hk,aP]at h;cases hk2:decide (c.kind=3)||decide (c.kind=4)||decide (c.kind=5)with
  |false=>rw[hk2]at h;cases h
  |true=>
   rw[hk2,aK]at h;simp only[aM,vF,bX,bA,fM]at h hk2;obtain⟨⟨h1,h2⟩,h3,h4⟩:=h;refine .inr ⟨by rcases hk2 with(h|h)|h<;>simp[h],?_,h3,h4⟩;obtain⟨k,⟨rel,args⟩,l,r⟩:=c;simp only at h1 h2;have ha:args=[]:=rJ.1 (by omega);rw[h1,ha]
theorem Tf{c:aU}(h:jL c=true):c.wt<=60:=by
 rcases u9 h with⟨_,h1,h2,h3⟩|⟨_,h1,h3,h4⟩
 ·have:=Tg h1;have e2:tw c.left=0:=by rw[h2];rfl
  have e3:tw c.right=0:=by rw[h3];rfl
  unfold aU.wt;omega
 ·have e1:tw c.pat.rel=0:=by rw[h1];rfl
  have e2:rp tw c.pat.args=0:=by rw[h1];rfl
  have e3:=(mr h3).2;have e4:=(mr h4).2;have e5:tw c.left=c.left.length:=rfl;have e6:tw c.right=c.right.length:=rfl;unfold aU.wt;omega
theorem BT{d:UInt8}:∀ {a b u t:Bytes},d∉a->d∉b->a++d::u=b++d::t->a=b
 | [],[],_,_,_,_,_=>rfl
 | [],x::b,u,t,_,hb,h=>by
  simp only[dN,eC,oH]at h;exact absurd (by rw[h.1];simp) hb
 |x::a,[],u,t,ha,_,h=>by
  simp only[dN,eC,oH]at h;exact absurd (by rw[h.1];simp) ha
 |x::a,y::b,u,t,ha,hb,h=>by
  simp only[eC,oH]at h;rw[h.1,BT (fun q=>ha (by simp[q])) (fun q=>hb (by simp[q])) h.2]
def qN(a b:UInt8):Bytes->Bool
 |x::y::r=> !(x==a&&y==b)&&qN a b (y::r)
 |_=>true
theorem wX{a b:UInt8}{t:Bytes}:∀(s:Bytes),qN a b s=true->Lib.index s (a::b::t)= -1
 | [],_=>rfl
 | [x],_=>by
  rw[Lib.index,ar,wX [] rfl];rfl;simp
 |x::y::r,h=>by
  simp only[qN,aM,kz,tB,eE]at h;rw[Lib.index,ar,wX (y::r) h.2];rfl;simp only[List.isPrefixOf_cons_cons,aM,bX,not_and];intro e1 e2;rcases h.1 with q|q
  ·exact absurd e1.symm q
  ·exact absurd e2.symm q
theorem wZ{a b:UInt8}:∀(x m:Bytes),a∉x->qN a b m=true->qN a b (x++m)=true
 | [],_,_,h=>h
 |c::x,m,hx,h=>by
  have ih:=wZ x m (fun q=>hx (by simp[q])) h;rw[eC];cases hz:x++m with
  |nil=>rfl
  |cons y r=>
   rw[hz]at ih;have:(c==a)=false:=by
    rw[eE];intro e;exact hx (by simp[e])
   simp only[qN,this,Bool.false_and,fI,vr];exact ih
theorem sF{s sg:Bytes}{K:Int->Bytes->Bytes->Option (aU×Bool)}(n:Nat)(i k:Int)(l r:Bytes)(hs:s.length<=500)(hi:0<=i/\i<3)(hg:k8 ([[32,61,32],[32,33,61,32],[32,60,32]]:aC) i=some sg):
 cG s K (n+1) i k l r=bif (Lib.cut s sg).2.2 then cG s K n (i+1) (3+i) (Lib.cut s sg).1 (Lib.cut s sg).2.1 else cG s K n (i+1) k l r:=by
 rw[cG,bN hi.2,aK,hg,aA,wv s sg hs,aA,mB (nM.i64.2 (by omega)),mB (nM.i64.2 (by omega))]
theorem V5{c:aU}(h:jL c=true)(hn:c.kind=1\/c.kind=2\/c.left≠[110,111,116]):gu (fmtC c)=some (c,true):=by
 have hw:=Tf h;have hl:=AN c;have done:∀x:aU,x=c->((gA x).bind fun y=>(bif !(y)then(some ((⟨0,(⟨[],[]⟩:bE),[],[]⟩:aU),false))else((dY x).bind fun z=>(bif !((z:Bytes)==(fmtC c))then(some ((⟨0,(⟨[],[]⟩:bE),[],[]⟩:aU),false))else(some (x,true))))))=some (c,true):=by
  intro x hx;subst hx;rw[Ig _ (by omega),aA,h,bB,aP,M6 _ (by omega),aA,show((fmtC x:Bytes)==fmtC x)=true by simp,bB,aP]
 rcases u9 h with⟨hk,h1,h2,h3⟩|⟨hk,h1,h3,h4⟩
 ·have ep:qf c.pat=k7 c.pat:=by unfold qf;rw[h1,aK]
  rcases hk with hk|hk
  ·have e:fmtC c=k7 c.pat:=by unfold fmtC;rw[h,aK,bN hk,aK,ep]
   unfold gu;rw[show cH (fmtC c)=some (c.pat,true)by rw[e];exact Fq h1,aA];dsimp only;rw[aK];refine done ⟨1,c.pat,[],[]⟩ ?_;obtain⟨k,p,l,r⟩:=c;simp only at hk h2 h3;rw[hk,h2,h3]
  ·have e:fmtC c=[110,111,116,32]++k7 c.pat:=by unfold fmtC;rw[h,aK,bf (by omega),aP,bN hk,aK,ep]
   unfold gu;rw[Pw (s:=fmtC c) (by omega) (d:=32) (by decide) (by rw[e];simp),aA];dsimp only;rw[aP,E1,aA];have e2:Lib.hasPrefix (fmtC c) [110,111,116,32]=true:=by rw[e];exact dQ.2 ⟨_,rfl⟩
   have e3:Lib.trimPrefix (fmtC c) [110,111,116,32]=k7 c.pat:=by unfold Lib.trimPrefix;rw[bG e2,e];rfl
   rw[e2,e3];dsimp only;rw[aK,Fq h1,aA];refine done ⟨2,c.pat,[],[]⟩ ?_;obtain⟨k,p,l,r⟩:=c;simp only at hk h2 h3;rw[hk,h2,h3]
 ·have hk0:c.kind≠1/\c.kind≠2:=by omega
  have hnl:c.left≠[110,111,116]:=by
   rcases hn with h|h|h
   ·exact absurd h hk0.1
   ·exact absurd h hk0.2
   ·exact h
  have e:fmtC c=c.left++(qu c.kind++c.right):=by unfold fmtC;rw[h,aK,bf hk0.1,aP,bf hk0.2,aP,cF]
  have t1:=xw h3;have t2:=xw h4;have Uy:∃u,qu c.kind=32::u:=by
   unfold qu;cases decide (c.kind=3)<;>cases decide (c.kind=4)<;>exact⟨_,rfl⟩
  obtain⟨u,hu⟩:=Uy;have e1:Lib.hasPrefix (fmtC c) [110,111,116,32]=false:=by
   cases hq:Lib.hasPrefix (fmtC c) [110,111,116,32]with
   |false=>rfl
   |true=>
    obtain⟨t,ht⟩:=dQ.1 hq;rw[e,hu]at ht;exact absurd (BT (d:=32) (a:=[110,111,116]) (u:=t) (b:=c.left) (t:=u++c.right) (by decide) (oq t1 (by decide)) (by simpa using ht)).symm hnl
  have hcx:(⟨c.kind,(⟨[],[]⟩:bE),c.left,c.right⟩:aU)=c:=by
   obtain⟨k,p,l,r⟩:=c;simp only at h1;rw[h1]
  unfold gu;rw[Pw (s:=fmtC c) (by omega) (d:=32) (by decide) (by rw[e,hu];simp),aA];dsimp only;rw[aP,E1,aA,e1];dsimp only;rw[aP,show fuel=4194300+1+1+1+1 from rfl,sF (sg:=[32,61,32]) _ 0 _ _ _ (by omega) (by decide) rfl];have fin:∀(K:Int->Bytes->Bytes->Option (aU×Bool)) (n:Nat) (k:Int) (l r:Bytes),cG (fmtC c) K (n+1) (0+1+1+1) k l r=K k l r:=by
   intro K n k l r;rw[cG,bf (by decide),aP]
  rcases hk with hk|hk|hk
  ·have es:qu c.kind=[32]++61::[32]:=by unfold qu;rw[bN hk];rfl
   have c0:Lib.cut (fmtC c) [32,61,32]=(c.left,c.right,true):=by rw[e,es];exact wE (p:=[32]) (q:=[32]) (by decide) (oq t1 (by decide)) _
   have no:∀d:UInt8,tc d=false->d≠32->d≠61->d∉fmtC c:=by
    intro d hd q1 q2 hm;rw[e,es]at hm;simp only[aF,aY,bu,dR,lI]at hm;rcases hm with hm| (hm|hm|hm)|hm
    ·exact oq t1 hd hm
    ·exact q1 hm
    ·exact q2 hm
    ·exact q1 hm
    ·exact oq t2 hd hm
   rw[c0];dsimp only;rw[aK,sF (sg:=[32,33,61,32]) _ (0+1) _ _ _ (by omega) (by decide) rfl,AH (d:=33) (by decide) (no 33 (by decide) (by decide) (by decide))];dsimp only;rw[aP,sF (sg:=[32,60,32]) _ (0+1+1) _ _ _ (by omega) (by decide) rfl,AH (d:=60) (by decide) (no 60 (by decide) (by decide) (by decide))];dsimp only;rw[aP,fin];refine done ⟨3+0,⟨[],[]⟩,c.left,c.right⟩ ?_;rw[show(3+0:Int)=c.kind by omega];exact hcx
  ·have es:qu c.kind=[32]++33::[61,32]:=by unfold qu;rw[bf (by omega),bN hk];rfl
   have c1:Lib.cut (fmtC c) [32,33,61,32]=(c.left,c.right,true):=by rw[e,es];exact wE (p:=[32]) (q:=[61,32]) (by decide) (oq t1 (by decide)) _
   have c0:Lib.cut (fmtC c) [32,61,32]=(fmtC c,[],false):=by
    have hp:qN 32 61 (fmtC c)=true:=by
     rw[e,es];refine wZ _ _ (oq t1 (by decide)) ?_;have hr:qN 32 61 (32::c.right)=true:=by
      cases TC:c.right with
      |nil=>rfl
      |cons y r=>
       have hy:(y==61)=false:=by
        rw[eE];intro q;exact oq t2 (d:=61) (by decide) (by rw[TC,q];simp)
       have h32:(32:UInt8)∉y::r:=by rw[<-TC];exact oq t2 (by decide)
       have:=wZ (a:=32) (b:=61) (y::r) [] h32 rfl;rw[dw]at this;simp only[qN,hy,Bool.and_false,fI,vr];exact this
     show qN 32 61 (32::33::61::32::c.right)=true;simp only[qN,hr];rfl
    unfold Lib.cut;rw[wX _ hp,ar (by omega)]
   have no:∀d:UInt8,tc d=false->d≠32->d≠61->d≠33->d∉fmtC c:=by
    intro d hd q1 q2 q3 hm;rw[e,es]at hm;simp only[aF,aY,bu,dR,lI]at hm;rcases hm with hm| (hm|hm|hm|hm)|hm
    ·exact oq t1 hd hm
    ·exact q1 hm
    ·exact q3 hm
    ·exact q2 hm
    ·exact q1 hm
    ·exact oq t2 hd hm
   rw[c0];dsimp only;rw[aP,sF (sg:=[32,33,61,32]) _ (0+1) _ _ _ (by omega) (by decide) rfl,c1];dsimp only;rw[aK,sF (sg:=[32,60,32]) _ (0+1+1) _ _ _ (by omega) (by decide) rfl,AH (d:=60) (by decide) (no 60 (by decide) (by decide) (by decide) (by decide))];dsimp only;rw[aP,fin];refine done ⟨3+(0+1),⟨[],[]⟩,c.left,c.right⟩ ?_;rw[show(3+(0+1):Int)=c.kind by omega];exact hcx
  ·have es:qu c.kind=[32]++60::[32]:=by unfold qu;rw[bf (by omega),bf (by omega)];rfl
   have c2:Lib.cut (fmtC c) [32,60,32]=(c.left,c.right,true):=by rw[e,es];exact wE (p:=[32]) (q:=[32]) (by decide) (oq t1 (by decide)) _
   have no:∀d:UInt8,tc d=false->d≠32->d≠60->d∉fmtC c:=by
    intro d hd q1 q2 hm;rw[e,es]at hm;simp only[aF,aY,bu,dR,lI]at hm;rcases hm with hm| (hm|hm|hm)|hm
    ·exact oq t1 hd hm
    ·exact q1 hm
    ·exact q2 hm
    ·exact q1 hm
    ·exact oq t2 hd hm
   rw[AH (d:=61) (by decide) (no 61 (by decide) (by decide) (by decide))];dsimp only;rw[aP,sF (sg:=[32,33,61,32]) _ (0+1) _ _ _ (by omega) (by decide) rfl,AH (d:=33) (by decide) (no 33 (by decide) (by decide) (by decide))];dsimp only;rw[aP,sF (sg:=[32,60,32]) _ (0+1+1) _ _ _ (by omega) (by decide) rfl,c2];dsimp only;rw[aK,fin];refine done ⟨3+(0+1+1),⟨[],[]⟩,c.left,c.right⟩ ?_;rw[show(3+(0+1+1):Int)=c.kind by omega];exact hcx
theorem wD{a:Action}(h:qc a=true):((a.kind=1\/a.kind=2)/\o7 a.pat=true)\/a=⟨3,⟨[],[]⟩⟩:=by
 unfold qc at h;cases hk:decide (a.kind=1)||decide (a.kind=2)with
 |true=>
  rw[hk,aK]at h;exact .inl ⟨by simpa using hk,h⟩
 |false=>
  rw[hk,aP]at h;cases hk2:decide (a.kind=3)with
  |false=>rw[hk2]at h;cases h
  |true=>
   rw[hk2,aK]at h;simp only[vF,aM,bX,bA]at h hk2;obtain⟨k,⟨rel,args⟩⟩:=a;simp only at h hk2;have ha:args=[]:=rJ.1 (by omega);rw[hk2,h.1,ha];exact .inr rfl
theorem VH{a:Action}(h:qc a=true):a.wt<=60:=by
 rcases wD h with⟨_,h1⟩|h1
 ·have:=Tg h1;unfold Action.wt;omega
 ·rw[h1];decide
theorem V4{a:Action}(h:qc a=true):gy (qI a)=some (a,true):=by
 rcases wD h with⟨hk,h1⟩|h1
 ·have ep:qf a.pat=k7 a.pat:=by unfold qf;rw[h1,aK]
  rcases hk with hk|hk
  ·have e:qI a=[97,100,100,32]++k7 a.pat:=by unfold qI;rw[h,aK,bN hk,aK,ep]
   unfold gy;have e1:((qI a:Bytes)==[115,116,111,112])=false:=by rw[e];rfl
   have e2:Lib.hasPrefix (qI a) [97,100,100,32]=true:=by rw[e];exact dQ.2 ⟨_,rfl⟩
   have e3:Lib.trimPrefix (qI a) [97,100,100,32]=k7 a.pat:=by unfold Lib.trimPrefix;rw[bG e2,e];rfl
   rw[e1,aP,E1,aA,e2,e3];dsimp only;rw[aK,Fq h1,aA];obtain⟨k,p⟩:=a;simp only at hk;rw[hk]
  ·have e:qI a=[100,114,111,112,32]++k7 a.pat:=by unfold qI;rw[h,aK,bf (by omega),aP,bN hk,aK,ep]
   unfold gy;have e1:((qI a:Bytes)==[115,116,111,112])=false:=by rw[e];rfl
   have e0:Lib.hasPrefix (qI a) [97,100,100,32]=false:=by rw[e];rfl
   have e2:Lib.hasPrefix (qI a) [100,114,111,112,32]=true:=by rw[e];exact dQ.2 ⟨_,rfl⟩
   have e3:Lib.trimPrefix (qI a) [100,114,111,112,32]=k7 a.pat:=by unfold Lib.trimPrefix;rw[bG e2,e];rfl
   rw[e1,aP,E1,aA,e0];dsimp only;rw[aP,E1,aA,e2,e3];dsimp only;rw[aK,Fq h1,aA];obtain⟨k,p⟩:=a;simp only at hk;rw[hk]
 ·subst h1;rfl
def cc(x:UInt8):Bool:=pc x||(x==32||(x==61||(x==33||x==60)))
theorem Dz{x:UInt8}(h:pc x=true):cc x=true:=by unfold cc;rw[h];rfl
theorem FV{c:aU}(h:jL c=true):∀x∈fmtC c,cc x=true:=by
 intro x hx;rcases u9 h with⟨hk,h1,_,_⟩|⟨hk,h1,h3,h4⟩
 ·have ep:qf c.pat=k7 c.pat:=by unfold qf;rw[h1,aK]
  unfold fmtC at hx;rw[h,aK,ep]at hx;rcases hk with hk|hk
  ·rw[bN hk,aK]at hx;exact Dz (xx h1 x hx)
  ·rw[bf (by omega),aP,bN hk,aK]at hx;rcases aF.1 hx with hx|hx
   ·simp only[aY,dR,lI]at hx;rcases hx with rfl|rfl|rfl|rfl<;>rfl
   ·exact Dz (xx h1 x hx)
 ·have Tc:∀s:Bytes,jz s=true->∀x∈s,cc x=true:=fun s hs x hx=>Dz (by unfold pc;rw[xw hs x hx];rfl)
  unfold fmtC at hx;rw[h,aK,bf (by omega),aP,bf (by omega),aP]at hx;rcases aF.1 hx with hx|hx
  ·rcases aF.1 hx with hx|hx
   ·exact Tc _ h3 x hx
   ·unfold qu at hx;cases h5:decide (c.kind=3)<;>cases h6:decide (c.kind=4)<;>rw[h5]at hx<;>(try rw[h6]at hx)<;>simp only[aK,aP,aY,dR,lI]at hx<;>first| (rcases hx with rfl|rfl|rfl|rfl<;>rfl)| (rcases hx with rfl|rfl|rfl<;>rfl)
  ·exact Tc _ h4 x hx
theorem NA{a:Action}(h:qc a=true):∀x∈qI a,cc x=true:=by
 intro x hx;rcases wD h with⟨hk,h1⟩|h1
 ·have ep:qf a.pat=k7 a.pat:=by unfold qf;rw[h1,aK]
  unfold qI at hx;rw[h,aK,ep]at hx;rcases hk with hk|hk
  ·rw[bN hk,aK]at hx;rcases aF.1 hx with hx|hx
   ·simp only[aY,dR,lI]at hx;rcases hx with rfl|rfl|rfl|rfl<;>rfl
   ·exact Dz (xx h1 x hx)
  ·rw[bf (by omega),aP,bN hk,aK]at hx;rcases aF.1 hx with hx|hx
   ·simp only[aY,dR,lI]at hx;rcases hx with rfl|rfl|rfl|rfl|rfl<;>rfl
   ·exact Dz (xx h1 x hx)
 ·rw[h1]at hx;have hx:x∈[115,116,111,112]:=hx;simp only[aY,dR,lI]at hx;rcases hx with rfl|rfl|rfl|rfl<;>rfl
theorem Lp{s:Bytes}(h:∀x∈s,cc x=true){d:UInt8}(hd:cc d=false):d∉s:=fun hm=>by rw[h d hm]at hd;cases hd
theorem Da{p:UInt8->Prop}{sep:Bytes}(h0:∀x∈sep,p x):∀(l:aC),(∀s∈l,∀x∈s,p x)->∀x∈Lib.join l sep,p x
 | [],_,x,hx=>by cases hx
 | [s],h,x,hx=>by rw[Lib.join_one]at hx;exact h s (by simp) x hx
 |s::t::l,h,x,hx=>by
  rw[xX]at hx;rcases aF.1 hx with hx|hx
  ·exact h s (by simp) x hx
  ·rcases aF.1 hx with hx|hx
   ·exact h0 x hx
   ·exact Da h0 (t::l) (fun u hu=>h u (by simp[hu])) x hx
theorem Dy(m:Nat)(h:m<=9):Lib.itoa (m:Int)=[UInt8.ofNat (48+m)]/\pI [UInt8.ofNat (48+m)]=((m:Int),true):=by
 have e:Lib.itoa (m:Int)=Lib.decDigits m:=by unfold Lib.itoa;rw[ar (by omega)];simp
 have e2:Lib.decDigits m=[UInt8.ofNat (48+m)]:=by rw[Lib.decDigits,dif_pos (by omega)]
 refine⟨by rw[e,e2],?_⟩;have e3:Lib.decFrom 0 [UInt8.ofNat (48+m)]=some m:=by
  have:m=0\/m=1\/m=2\/m=3\/m=4\/m=5\/m=6\/m=7\/m=8\/m=9:=by omega
  rcases this with rfl|rfl|rfl|rfl|rfl|rfl|rfl|rfl|rfl|rfl<;>rfl
 unfold pI O6;rw[bG ⟨by simp,by simp⟩,e3];simp only;rw[bG e2]
theorem Pu(s:Bytes)(y3 y5:Bytes×Bytes×Bool)(y7:Int×Bool)(jl:aC)(k:bP->Option (aW×Bool)):∀(cs:bP) (i:Nat) (w:bP),(∀c∈cs,jL c=true/\(c.kind=1\/c.kind=2\/c.left≠[110,111,116]))->w.length+cs.length<=100->eF s y3 y5 y7 jl k (cs.map fmtC) i w=k (w++cs)
 | [],i,w,_,_=>by rw[bI,eF,dw]
 |c::cs,i,w,h,hw=>by
  obtain⟨h1,h2⟩:=h c (by simp);rw[ax,eF,V5 h1 h2,aA];dsimp only;rw[bB,aP,oo (by simp only[aR]at hw;omega) (by decide),aK,Pu s y3 y5 y7 jl k cs (i+1) (w++[c]) (fun x hx=>h x (by simp[hx])) (by simp only[aR,af,bC]at hw⊢;omega)];simp
theorem Pv(s:Bytes)(y3:Bytes×Bytes×Bool)(y7:Int×Bool)(q:bP)(Ty:aC)(k:cg->Option (aW×Bool)):∀(bs:cg) (i:Nat) (w:cg),(∀a∈bs,qc a=true)->w.length+bs.length<=100->eG s y3 y7 q Ty k (bs.map qI) i w=k (w++bs)
 | [],i,w,_,_=>by rw[bI,eG,dw]
 |a::bs,i,w,h,hw=>by
  have h1:=h a (by simp);rw[ax,eG,V4 h1,aA];dsimp only;rw[bB,aP,oo (by simp only[aR]at hw;omega) (by decide),aK,Pv s y3 y7 q Ty k bs (i+1) (w++[a]) (fun x hx=>h x (by simp[hx])) (by simp only[aR,af,bC]at hw⊢;omega)];simp
theorem yo{r:aW}(h:nG r=true):o6 r.name=true/\(0<=r.prio/\r.prio<=9)/\r.conds≠[]/\r.bg≠[]/\(∀c∈r.conds,jL c=true)/\∀a∈r.bg,qc a=true:=by
 have hc:=E4 h;unfold nG z6 at h;simp only[aM,bA,aO]at h;refine⟨h.1.1.1.1,h.1.1.1.2,?_,?_,hc,fun a ha=>(h.2.2.1 a ha).1⟩
 ·intro e;have:=h.1.1.2.1;rw[e]at this;simp at this
 ·intro e;have:=h.1.2.1;rw[e]at this;simp at this
theorem VI{r:aW}(h:nG r=true):r.wt<=1000:=by
 obtain⟨h1,h2,h3,h4,h5,h6⟩:=yo h;have hp:=qt h;have b1:∀l:bP,(∀c∈l,jL c=true)->rp aU.wt l<=61*l.length:=by
  intro l
  induction l with
  |nil=>intro _;simp[zy]
  |cons x l ih=>intro hx;have q:=ih fun y hy=>hx y (by simp[hy]);have q2:=Tf (hx x (by simp));rw[jJ,aR];omega
 have b2:∀l:cg,(∀c∈l,qc c=true)->rp Action.wt l<=61*l.length:=by
  intro l
  induction l with
  |nil=>intro _;simp[zy]
  |cons x l ih=>intro hx;have q:=ih fun y hy=>hx y (by simp[hy]);have q2:=VH (hx x (by simp));rw[jJ,aR];omega
 have:=b1 r.conds h5;have:=b2 r.bg h6;have e:tw r.name=r.name.length:=rfl;unfold aW.wt;omega
theorem Gz{r:aW}(h:nG r=true):(tA r).length<=500:=by
 obtain⟨h1,h2,h3,h4,h5,h6⟩:=yo h;have hp:=qt h;obtain⟨m,hm⟩:∃m:Nat,r.prio=(m:Int):=⟨r.prio.toNat,by omega⟩
 have e:=(Dy m (by omega)).1;have j1:=join_le 44 AN r.conds 4 hp.2.1;have j2:=join_le 45 DL r.bg 2 hp.2.2.1;unfold tA;rw[hm,e];simp only[af,aR,bC];omega
theorem V7{r:aW}(h:nG r=true)(hn:∀c∈r.conds,c.kind=1\/c.kind=2\/c.left≠[110,111,116]):gw (tA r)=some (r,true):=by
 obtain⟨h1,h2,h3,h4,h5,h6⟩:=yo h;have hp:=qt h;have hw:=VI h;have hl:=Gz h;obtain⟨m,hm⟩:∃m:Nat,r.prio=(m:Int):=⟨r.prio.toNat,by omega⟩
 obtain⟨ei,ep⟩:=Dy m (by omega);rw[<-hm]at ei ep;generalize RS:Lib.join (r.conds.map fmtC) [32,38,32]=J1;generalize T6:Lib.join (r.bg.map qI) [32,38,32]=J2;have e0:tA r=(r.name++(([]++32::[])++Lib.itoa r.prio))++(([]++58::[32])++(J1++(([32]++45::[62,32])++J2))):=by
  unfold tA;rw[RS,T6];simp
 have n1:∀d:UInt8,tc d=false->d∉r.name:=fun d hd=>oq (CS h1) hd
 have nJ:∀x∈J1,cc x=true\/x=38:=by
  rw[<-RS];refine Da (p:=fun x=>cc x=true\/x=38) ?_ _ ?_
  ·intro x hx;simp only[aY,dR,lI]at hx;rcases hx with rfl|rfl|rfl
   ·exact .inl rfl
   ·exact .inr rfl
   ·exact .inl rfl
  ·intro s hs x hx;obtain⟨c,hc,rfl⟩:=cQ.1 hs;exact .inl (FV (h5 c hc) x hx)
 have ld:(J1++(([32]++45::[62,32])++J2)).length<=500/\(r.name++(([]++32::[])++Lib.itoa r.prio)).length<=500/\J1.length<=500/\J2.length<=500:=by
  rw[e0]at hl;simp only[af]at hl⊢;omega
 have c1:Lib.cut (tA r) [58,32]=(r.name++(([]++32::[])++Lib.itoa r.prio),J1++(([32]++45::[62,32])++J2),true):=by
  rw[e0];refine wE (p:=[]) (q:=[32]) (by simp) ?_ _;rw[ei];intro hm2;simp only[aF,aY,dR,lI,false_or]at hm2;rcases hm2 with q|q|q
  ·exact n1 58 (by decide) q
  ·exact absurd q (by decide)
  ·have:m=0\/m=1\/m=2\/m=3\/m=4\/m=5\/m=6\/m=7\/m=8\/m=9:=by omega
   rcases this with rfl|rfl|rfl|rfl|rfl|rfl|rfl|rfl|rfl|rfl<;>exact absurd q (by decide)
 have c2:Lib.cut (r.name++(([]++32::[])++Lib.itoa r.prio)) [32]=(r.name,Lib.itoa r.prio,true):=wE (p:=[]) (q:=[]) (by simp) (n1 32 (by decide)) _;have c3:Lib.cut (J1++(([32]++45::[62,32])++J2)) [32,45,62,32]=(J1,J2,true):=by
  refine wE (p:=[32]) (q:=[62,32]) (by decide) ?_ _;intro hm2;rcases nJ 45 hm2 with q|q
  ·exact absurd q (by decide)
  ·exact absurd q (by decide)
 have s1:Lib.split J1 [32,38,32]=r.conds.map fmtC:=by
  rw[<-RS];cases hc:r.conds with
  |nil=>exact absurd hc h3
  |cons c cs=>
   exact wg (p:=[32]) (q:=[32]) (by decide) _ _ (fun z hz=>by
    rw[<-ax,<-hc]at hz;obtain⟨x,hx,rfl⟩:=cQ.1 hz;exact Lp (FV (h5 x hx)) (by decide))
 have s2:Lib.split J2 [32,38,32]=r.bg.map qI:=by
  rw[<-T6];cases hc:r.bg with
  |nil=>exact absurd hc h4
  |cons c cs=>
   exact wg (p:=[32]) (q:=[32]) (by decide) _ _ (fun z hz=>by
    rw[<-ax,<-hc]at hz;obtain⟨x,hx,rfl⟩:=cQ.1 hz;exact Lp (NA (h6 x hx)) (by decide))
 unfold gw;rw[wv _ _ hl,aA,c1];dsimp only;rw[wv _ _ ld.2.1,aA,c2];dsimp only;rw[wv _ _ ld.1,aA,c3];dsimp only;rw[Ii,aA,ei,ep];dsimp only;rw[bB,aP,aP,aP,aP,zw _ _ ld.2.2.1 (by decide),aA,s1,um (by rw[bL];omega),aK,Pu _ _ _ _ _ _ r.conds 0 [] (fun c hc=>⟨h5 c hc,hn c hc⟩) (by simp;omega),zw _ _ ld.2.2.2 (by decide),aA,s2,um (by rw[bL];omega),aK,Pv _ _ _ _ _ _ r.bg 0 [] h6 (by simp;omega)];rw[dN,dN,show(⟨r.name,r.prio,r.conds,r.bg⟩:aW)=r from rfl,M8 _ (by omega),aA,h,bB,aP,DV _ (by omega),aA,h,aK,show((tA r:Bytes)==tA r)=true by simp,bB,aP]
theorem Se:∃x,gw []=some (x,false):=by
 unfold gw;rw[wv _ _ (by simp),aA,show Lib.cut [] [58,32]=([],[],false)from rfl];dsimp only;rw[wv _ _ (by simp),aA,wv _ _ (by simp),aA,Ii,aA];exact⟨_,rfl⟩
end Go.Cx
namespace Go.Cx
open Go.RowKit Go.Proofs Tryz
def eS(c:cB):Prop:=0<=c.i/\c.b.length<=4096
theorem FP(x:Int):0<=vv .i64 x 255/\vv .i64 x 255<=255:=by
 unfold vv;have h:(BitVec.ofInt IntKind.i64.bits x&&& BitVec.ofInt IntKind.i64.bits 255).toNat<=255:=by
  rw[BitVec.toNat_and];exact eg Nat.and_le_right (by decide)
 rw[mB (nM.i64.2 (by omega))];omega
theorem QT(c:cB)(h:eS c):∃c' x,j4 c=some (c',x)/\eS c'/\0<=x/\x<=255:=by
 obtain⟨h1,h2⟩:=h;unfold j4;rw[bL];by_cases hi:c.i<(c.b.length:Int)
 ·have hlt:c.i.toNat<c.b.length:=by omega
  have e:k8 c.b c.i=some c.b[c.i.toNat]:=by unfold k8;rw[bN h1,aK];exact aN hlt
  rw[bN hi,aK,e,aA];refine⟨_,_,rfl,⟨?_,h2⟩,FP _⟩;show 0<=IntKind.i64.wrap (c.i+1);rw[mB (nM.i64.2 (by omega))];omega
 ·rw[bf hi,aP];exact⟨_,_,rfl,⟨h1,h2⟩,FP _⟩
theorem oW(c:cB)(n:Int)(h:eS c)(h0:0<n)(h1:n<=256):∃c' r,cD c n=some (c',r)/\eS c'/\0<=r/\r<n:=by
 obtain⟨c',x,e,hc,hx,hx2⟩:=QT c h;unfold cD;have e1:decide (n<=0)=false:=by simp;omega
 have e2:decide (n<=256)=true:=by simp;omega
 have e3:(decide (0<=x)&&decide (0<n))=true:=by simp;omega
 rw[e1,aP,e2,aK,e,aA,e3,aK];exact⟨_,_,rfl,hc,Int.emod_nonneg _ (by omega),Int.emod_lt_of_pos _ h0⟩
theorem JT(c:cB)(n:Int)(h:eS c)(h0:0<n)(h1:n<=256):∃c' b,jh c n=some (c',b)/\eS c':=by
 obtain⟨c',x,e,hc,_⟩:=oW c n h h0 h1;unfold jh;rw[e,aA];exact⟨_,_,rfl,hc⟩
theorem JZ(c:cB)(l:aC)(h:eS c)(h0:0<l.length)(h1:l.length<=256):∃c' s,gO c l=some (c',s)/\eS c'/\s∈l:=by
 obtain⟨c',x,e,hc,hx,hx2⟩:=oW c (l.length:Int) h (by omega) (by omega);unfold gO;rw[bL,e,aA];have hlt:x.toNat<l.length:=by omega
 have e2:k8 l x=some l[x.toNat]:=by unfold k8;rw[bN hx,aK];exact aN hlt
 rw[e2,aA];exact⟨_,_,rfl,hc,nR hlt⟩
theorem JP(c:cB)(h:eS c):∃c' s,iH c=some (c',s)/\eS c'/\s.length<=16:=by
 unfold iH;obtain⟨c',s,e,hc,hs⟩:=JZ c ([[97],[98],[99],[49],[50]]:aC) h (by decide) (by decide);rw[e,aA];have:∀s∈([[97],[98],[99],[49],[50]]:aC),s.length<=16:=by decide
 exact⟨_,_,rfl,hc,this s hs⟩
theorem Ce(c:cB)(h:eS c):∃c' s,gB c=some (c',s)/\eS c'/\s.length<=16:=by
 unfold gB;generalize hl:([[97],[98],[111,110],[55],[49,48],[57,57,57,57],[49,48,48,48,48],[48,48,55],[48],[],[65],[63,120],[63,63],[63],[97,98,99,100,101,102,103,104],[97,98,99,100,101,102,103,104,105],[63,97,98,99,100,101,102,103,104],[97,45,98],[120,49],[49,120],[45,51]]:aC)=l;have h0:0<l.length/\l.length<=256/\∀s∈l,s.length<=16:=by subst hl;decide
 obtain⟨c',s,e,hc,hs⟩:=JZ c l h h0.1 h0.2.1;rw[e,aA];exact⟨_,_,rfl,hc,h0.2.2 s hs⟩
theorem F5(c:cB)(h:eS c):∃c' s,gC c=some (c',s)/\eS c'/\s.length<=16:=by
 unfold gC;obtain⟨c1,b,e,hc⟩:=JT c 4 h (by decide) (by decide);rw[e,aA];cases b with
 |true=>
  obtain⟨c2,s,e2,su,hs⟩:=JP c1 hc;rw[aK,e2,aA];exact⟨_,_,rfl,su,hs⟩
 |false=>
  obtain⟨c2,s,e2,su,hs⟩:=JZ c1 ([[63,120],[63,121],[63,122]]:aC) hc (by decide) (by decide);rw[aP,e2,aA];have:∀s∈([[63,120],[63,121],[63,122]]:aC),s.length<=16:=by decide
  exact⟨_,_,rfl,su,this s hs⟩
theorem QZ(c:cB)(h:eS c):∃c' r n,nE c=some (c',(r,n))/\eS c'/\r.length<=16/\0<=n/\n<=2:=by
 unfold nE;obtain⟨c1,x,e,hc,hx,hx2⟩:=oW c 6 h (by decide) (by decide);rw[e,aA];have key:x=0\/x=1\/x=2\/x=3\/x=4\/x=5:=by omega
 rcases key with rfl|rfl|rfl|rfl|rfl|rfl<;>exact⟨c1,_,_,rfl,hc,by decide,by decide,by decide⟩
def qx(k:Nat)(p:bE):Prop:=p.rel.length<=16/\p.args.length<=k/\∀x∈p.args,x.length<=16
theorem Bv:∀(l:aC),(∀x∈l,x.length<=16)->rp tw l<=17*l.length
 | [],_=>by simp[rp]
 |x::l,h=>by
  have h1:=Bv l fun y hy=>h y (by simp[hy])
  have h2:=h x (by simp);rw[jJ,aR];unfold tw at*;omega
theorem LL(y:cB×(Bytes×Int))(k:bz->Int->Int->aC->Option (cB×bE)):∀(m:Nat) (fu:Nat) (v:Int) (c:cB) (w:aC),y.2.2-v=(m:Int)->m<fu->0<=v->y.2.2<=100->w.length+m<=1000->eS c->(∀x∈w,x.length<=16)->
 ∃c' w',fw y k fu v c.b c.i c.h w=k c'.b c'.i c'.h w'/\eS c'/\w'.length<=w.length+m/\∀x∈w',x.length<=16:=by
 intro m
 induction m with
 |zero=>
  intro fu v c w hv hf h0 hy hw hc hx;cases fu with
  |zero=>omega
  |succ fu=>
   have e:decide (v<y.2.2)=false:=by simp;omega
   rw[fw,e,aP];exact⟨c,w,rfl,hc,by omega,hx⟩
 |succ m ih=>
  intro fu v c w hv hf h0 hy hw hc hx;cases fu with
  |zero=>omega
  |succ fu=>
   have e:decide (v<y.2.2)=true:=by simp;omega
   obtain⟨c1,s,e2,hc1,hs⟩:=F5 c hc;have P7:gC (⟨c.b,c.i,c.h⟩:cB)=some (c1,s):=e2;have e3:IntKind.i64.wrap (v+1)=v+1:=mB (nM.i64.2 (by omega));rw[fw,e,aK,P7,aA,oo (by omega) (by decide),aK,e3];obtain⟨c',w',q1,q2,q3,q4⟩:=ih fu (v+1) c1 (w++[s]) (by omega) (by omega) (by omega) hy (by simp;omega) hc1 (fun x Nk=>by
    rcases aF.1 Nk with h|h
    ·exact hx x h
    ·simp at h;subst h;exact hs)
   exact⟨c',w',q1,q2,by simp at q3;omega,q4⟩
theorem Cd(c:cB)(h:eS c):∃c' p,ec c=some (c',p)/\eS c'/\qx 2 p:=by
 unfold ec;obtain⟨c1,r,n,e,hc,hr,hn,hn2⟩:=QZ c h;rw[e,aA];obtain⟨c',w',q1,q2,q3,q4⟩:=LL (c1,(r,n)) (fun a b d q=>some ((⟨a,b,d⟩:cB),(⟨r,q⟩:bE))) n.toNat fuel 0 c1 [] (by simp;omega) (by unfold fuel;omega) (by omega) (by simp;omega) (by simp;omega) hc (by simp);exact⟨_,_,q1,q2,hr,by show w'.length<=2;simp at q3;omega,q4⟩
theorem Mg(c:cB)(h:eS c):∃c' p,lg c=some (c',p)/\eS c'/\qx 4 p:=by
 unfold lg;obtain⟨c1,p,e,hc,hp1,hp2,SD⟩:=Cd c h;obtain⟨c2,x,e2,su,hx,hx2⟩:=oW c1 10 hc (by decide) (by decide);rw[e,aA,e2,aA];cases(x==(0:Int))with
 |true=>
  obtain⟨c3,s,e3,zW,hs⟩:=Ce c2 su;rw[aK,e3,aA];exact⟨_,_,rfl,zW,hs,by show p.args.length<=4;omega,SD⟩
 |false=>
  rw[aP];cases(x==(1:Int))with
  |true=>
   obtain⟨c3,s,e3,zW,hs⟩:=Ce c2 su;rw[aK,e3,aA,oo (w:=p.args) (by omega) (by decide),aK];refine⟨_,_,rfl,zW,hp1,by simp;omega,fun y hy=>?_⟩;rcases aF.1 hy with h|h
   ·exact SD y h
   ·simp at h;subst h;exact hs
  |false=>
   rw[aP];cases(x==(2:Int))with
   |true=>
    obtain⟨c3,z,e3,zW,hz,GZ⟩:=oW c2 5 su (by decide) (by decide);have e4:(decide (0<=z)&&decide (z.toNat<=(([[63,120],[63,120],[63,121],[63,120]]:aC).map tx).length))=true:=by simp;omega
    rw[aK,e3,aA,e4,aK];refine⟨_,_,rfl,zW,hp1,by simp[bD];omega,fun y hy=>?_⟩;have:∀s∈([[63,120],[63,120],[63,121],[63,120]]:aC),s.length<=16:=by decide
    exact this y (bQ hy)
   |false=>exact⟨_,_,rfl,su,hp1,by show p.args.length<=4;omega,SD⟩
theorem QV(code:bz)(h:code.length<=4096):∃c,nD code=some c/\eS c:=by
 unfold nD;have key:∀(k:Int->Option cB) (r:bz) (i:Nat) (v:Int),∃z,iY code k r i v=k z:=by
  intro k r
  induction r with
  |nil=>intro i v;exact⟨v,rfl⟩
  |cons x r ih=>
   intro i v;rw[iY];cases decide ((i:Int)<4000)with
   |true=>exact ih _ _
   |false=>exact⟨v,rfl⟩
 obtain⟨z,e⟩:=key (fun z=>some (⟨code,0,z⟩:cB)) code 0 (IntKind.i64.wrap (851207+(IntKind.i64.wrap (3*((code.map yx).length:Int)))));rw[um (by omega),aK,e];exact⟨_,rfl,by show(0:Int)<=0;omega,h⟩
end Go.Cx
namespace Go.Cx
open Go.RowKit Go.Proofs Tryz
end Go.Cx
namespace Go.Cx
open Go.RowKit Go.Proofs Tryz
theorem Bk(c:cB)(l:bz)(h:eS c)(h0:0<l.length)(h1:l.length<=256):∃c' s,gL c l=some (c',s)/\eS c'/\s∈l:=by
 obtain⟨c',x,e,hc,hx,hx2⟩:=oW c (l.length:Int) h (by omega) (by omega);unfold gL;rw[bL,e,aA];have hlt:x.toNat<l.length:=by omega
 have e2:k8 l x=some l[x.toNat]:=by unfold k8;rw[bN hx,aK];exact aN hlt
 rw[e2,aA];exact⟨_,_,rfl,hc,nR hlt⟩
end Go.Cx
namespace Go.Cx
open Go.RowKit Go.Proofs Tryz
def sB(c:aU):Prop:=qx 4 c.pat/\c.left.length<=16/\c.right.length<=16
def C4(a:Action):Prop:=qx 4 a.pat
def pT(n:Nat)(r:aW):Prop:=r.name.length<=16/\(r.conds.length<=n/\∀c∈r.conds,sB c)/\(r.bg.length<=n/\∀a∈r.bg,C4 a)
theorem Cn{α:Type}{w:α->Nat}{B:Nat}:∀(l:List α),(∀x∈l,w x<=B)->rp w l<=(B+1)*l.length
 | [],_=>by simp[rp]
 |x::l,h=>by
  have h1:=Cn l fun y hy=>h y (by simp[hy])
  have h2:=h x (by simp);rw[jJ,aR,Nat.mul_add];omega
theorem qx.Te{p:bE}(h:qx 4 p):tw p.rel+rp tw p.args<=100:=by
 have:=Bv p.args h.2.2;have h1:=h.1;have h2:=h.2.1;unfold tw at*;omega
theorem sB.wt{c:aU}(h:sB c):c.wt<=200:=by
 have h1:=h.1.Te;have h2:=h.2.1;have h3:=h.2.2;unfold aU.wt;unfold tw at*;omega
theorem C4.wt{a:Action}(h:C4 a):a.wt<=200:=by
 have h1:=qx.Te h;unfold Action.wt;unfold tw at*;omega
theorem pT.wt{n:Nat}{r:aW}(h:pT n r)(hn:n<=1000):r.wt<=1048576:=by
 obtain⟨h1,⟨h2,h3⟩,h4,h5⟩:=h;have c1:=Cn (w:=aU.wt) (B:=200) r.conds (fun x hx=>(h3 x hx).wt);have c2:=Cn (w:=Action.wt) (B:=200) r.bg (fun x hx=>(h5 x hx).wt);have d1:(200+1)*r.conds.length<=201*1000:=ij _ (by omega);have d2:(200+1)*r.bg.length<=201*1000:=ij _ (by omega);unfold aW.wt;unfold tw at*;omega
def zv(p:bE):Bool:=decide (p.rel.length<=16)&&(decide (p.args.length<=4)&&p.args.all fun x=>decide (x.length<=16))
theorem Bm{p:bE}(h:zv p=true):qx 4 p:=by
 unfold zv at h;simp only[aM,bA,aO]at h;exact h
def Ch(r:aW):Bool:=(decide (r.name.length<=16)&&((decide (r.conds.length<=4)&&r.conds.all fun c=>zv c.pat&&(decide (c.left.length<=16)&&decide (c.right.length<=16)))&&(decide (r.bg.length<=4)&&r.bg.all fun a=>zv a.pat)))&&(decide (1<=r.conds.length)&&decide (1<=r.bg.length))
theorem Gv{r:aW}(h:Ch r=true):pT 4 r/\1<=r.conds.length/\1<=r.bg.length:=by
 unfold Ch at h;simp only[aM,bA,aO]at h;obtain⟨⟨h1,⟨h2,h3⟩,h4,h5⟩,h6,h7⟩:=h;exact⟨⟨h1,⟨h2,fun c hc=>⟨Bm (h3 c hc).1,(h3 c hc).2⟩⟩,h4,fun a ha=>Bm (h5 a ha)⟩,h6,h7⟩
theorem OI(c:cB)(l r:Bytes)(h:eS c)(hl:l.length<=16)(hr:r.length<=16):∃c' x,ko c l r=some (c',x)/\eS c'/\sB x:=by
 unfold ko;obtain⟨c1,k,e,hc,_⟩:=Bk c [3,4,4,5] h (by decide) (by decide);rw[e,aA];exact⟨_,_,rfl,hc,⟨by simp,by simp,by simp⟩,hl,hr⟩
theorem JR(c:cB)(h:eS c):∃c' x,iI c=some (c',x)/\eS c'/\sB x:=by
 unfold iI;obtain⟨c1,k,e,hc,_,_⟩:=oW c 5 h (by decide) (by decide);rw[e,aA];have one:∀k:Int,∃c' x,((ec c1).bind fun y4=>(some (y4.1,(⟨k,y4.2,[],[]⟩:aU))))=some (c',x)/\eS c'/\sB x:=fun k=>by
  obtain⟨c2,p,e2,su,hp⟩:=Cd c1 hc;rw[e2,aA];exact⟨_,_,rfl,su,⟨hp.1,by have:=hp.2.1;show p.args.length<=4;omega,hp.2.2⟩,by simp,by simp⟩
 cases(k==(0:Int))with
 |true=>rw[aK];exact one 1
 |false=>
  rw[aP];cases(k==(1:Int))with
  |true=>rw[aK];exact one 1
  |false=>
   rw[aP];cases(k==(2:Int))with
   |true=>rw[aK];exact one 2
   |false=>
    obtain⟨c2,l,e2,su,hl⟩:=F5 c1 hc;obtain⟨c3,r,e3,zW,hr⟩:=F5 c2 su;obtain⟨c4,x,e4,NO,hx⟩:=OI c3 l r zW hl hr;rw[aP,e2,aA,e3,aA,e4,aA];exact⟨_,_,rfl,NO,hx⟩
theorem QR(c:cB)(h:eS c):∃c' x,kK c=some (c',x)/\eS c'/\sB x:=by
 unfold kK;obtain⟨c1,x,e,hc,hx⟩:=JR c h;obtain⟨c2,k,e2,su,_,_⟩:=oW c1 12 hc (by decide) (by decide);rw[e,aA,e2,aA];cases(k==(0:Int))with
 |true=>
  obtain⟨c3,n,e3,zW,_⟩:=Bk c2 [0,1,3,5,6, -1] su (by decide) (by decide);rw[aK,e3,aA];exact⟨_,_,rfl,zW,hx⟩
 |false=>
  rw[aP];cases(k==(1:Int))with
  |true=>
   obtain⟨c3,s,e3,zW,hs⟩:=Ce c2 su;rw[aK,e3,aA];exact⟨_,_,rfl,zW,hx.1,hs,hx.2.2⟩
  |false=>
   rw[aP];cases(k==(2:Int))with
   |true=>
    obtain⟨c3,p,e3,zW,hp⟩:=Mg c2 su;rw[aK,e3,aA];exact⟨_,_,rfl,zW,hp,hx.2⟩
   |false=>exact⟨_,_,rfl,su,hx⟩
def Fv(s:Bytes):Bool:=match fp s with
 |some (r,_)=>Ch r&&nG r
 |none=>false
def D0(r:aW):Prop:=pT 4 r/\nG r=true/\1<=r.conds.length/\1<=r.bg.length
theorem LM(K:aC)(c:cB)(m:Int)(h:eS c)(hm:0<m)(h0:0<K.length)(h1:K.length<=256)(hK:K.all Fv=true):
 ∃c' r,((cD c (BI m ((K.map tx).length:Int))).bind fun y1=>((k8 K y1.2).bind fun x3=>((fp x3).bind fun y5=>(some (y1.1,y5.1)))))=some (c',r)/\eS c'/\D0 r:=by
 have hlen:((K.map tx).length:Int)=(K.length:Int):=by simp
 have hmin:0<BI m ((K.map tx).length:Int)/\BI m ((K.map tx).length:Int)<=(K.length:Int):=by
  unfold BI;rw[hlen];split<;>omega
 obtain⟨c1,x,e,hc,hx,hx2⟩:=oW c _ h hmin.1 (by omega);have hlt:x.toNat<K.length:=by omega
 have e2:k8 K x=some K[x.toNat]:=by unfold k8;rw[bN hx,aK];exact aN hlt
 have hk:=aO.1 hK _ (nR hlt);unfold Fv at hk;rw[e,aA,e2,aA];cases hp:fp K[x.toNat]with
 |none=>rw[hp]at hk;cases hk
 |some p=>
  rw[hp]at hk;simp only[aM]at hk;obtain⟨q1,q2,q3⟩:=Gv hk.1;exact⟨_,_,rfl,hc,q1,hk.2,q2,q3⟩
theorem JS(c:cB)(m:Int)(h:eS c)(hm:0<m):∃c' r,eX c m=some (c',r)/\eS c'/\D0 r:=by
 unfold eX;refine LM _ c m h hm ?_ ?_ ?_
 ·decide
 ·decide
 ·kernel_rfl
theorem LN(y1:cB×Int):∀(m:Nat) (fu:Nat) (v:Int) (c:cB) (w:bP),v=(m:Int)->m<fu->m<=50->w.length+m<=100->eS c->(∀x∈w,sB x)->
 ∃c' w',(∀k,cX y1 k fu v c.b c.i c.h w=k c'.b c'.i c'.h w')/\eS c'/\w'.length=w.length+m/\∀x∈w',sB x:=by
 intro m
 induction m with
 |zero=>
  intro fu v c w hv hf hm hn hc hw;cases fu with
  |zero=>omega
  |succ fu=>
   have e:decide (v>0)=false:=by simp;omega
   exact⟨c,w,fun k=>by rw[cX,e,aP],hc,rfl,hw⟩
 |succ m ih=>
  intro fu v c w hv hf hm hn hc hw;cases fu with
  |zero=>omega
  |succ fu=>
   have e:decide (v>0)=true:=by simp;omega
   obtain⟨c1,x,e2,hc1,hx⟩:=JR c hc;have P7:iI (⟨c.b,c.i,c.h⟩:cB)=some (c1,x):=e2;have e3:IntKind.i64.wrap (v-1)=v-1:=mB (nM.i64.2 (by omega));obtain⟨c',w',q1,q2,q3,q4⟩:=ih fu (v-1) c1 (w++[x]) (by omega) (by omega) (by omega) (by simp;omega) hc1 (fun y hy=>by
    rcases aF.1 hy with h|h
    ·exact hw y h
    ·simp at h;subst h;exact hx)
   exact⟨c',w',fun k=>by rw[cX,e,aK,P7,aA,oo (by omega) (by decide),aK,e3];exact q1 k,q2,by simp at q3;omega,q4⟩
theorem LO(y1:cB×Int)(q:bP)(y:aC)(zg:cB×bE):∀(m:Nat) (fu:Nat) (v:Nat) (c:cB) (w:aC),w.length=v+m->m<fu->w.length<=100->eS c->(∀x∈w,x.length<=16)->
 ∃c' w',(∀k,bh y1 q y zg k fu (v:Int) c.b c.i c.h w=k c'.b c'.i c'.h w')/\eS c'/\w'.length=w.length/\∀x∈w',x.length<=16:=by
 intro m
 induction m with
 |zero=>
  intro fu v c w hv hf hm hc hw;cases fu with
  |zero=>omega
  |succ fu=>
   have e:decide ((v:Int)<((w.map tx).length:Int))=false:=by simp;omega
   exact⟨c,w,fun k=>by rw[bh,e,aP],hc,rfl,hw⟩
 |succ m ih=>
  intro fu v c w hv hf hm hc hw;cases fu with
  |zero=>omega
  |succ fu=>
   have e:decide ((v:Int)<((w.map tx).length:Int))=true:=by simp;omega
   have hlt:v<w.length:=by omega
   have e1:k8 w (v:Int)=some w[v]:=by unfold k8;rw[bN (by omega),aK];exact aN hlt
   have hx:=hw w[v] (nR hlt);have e4:IntKind.i64.wrap ((v:Int)+1)=((v+1:Nat):Int):=by rw[mB (nM.i64.2 (by omega))];rfl
   have st:∀k,bh y1 q y zg k (fu+1) (v:Int) c.b c.i c.h w=(bif tV w[v]then(bif !(y.contains w[v])then((iH (⟨c.b,c.i,c.h⟩:cB)).bind fun R9=>bh y1 q y zg k fu ((v+1:Nat):Int) R9.1.b R9.1.i R9.1.h (w.set (v:Int).toNat R9.2))else bh y1 q y zg k fu ((v+1:Nat):Int) c.b c.i c.h w)else bh y1 q y zg k fu ((v+1:Nat):Int) c.b c.i c.h w):=by
    intro k;rw[bh,e,aK,e1,aA,Jb w[v] (by omega),aA,e4,Gt,aA]
   obtain⟨c0,w0,p1,p2,p3,p4⟩:=ih fu (v+1) c w (by omega) (by omega) hm hc hw;cases hv1:tV w[v]with
   |false=>exact⟨c0,w0,fun k=>by rw[st k,hv1,aP];exact p1 k,p2,p3,p4⟩
   |true=>
    cases hv2:y.contains w[v]with
    |true=>exact⟨c0,w0,fun k=>by rw[st k,hv1,hv2,aK,bB,aP];exact p1 k,p2,p3,p4⟩
    |false=>
     obtain⟨c1,s,e2,hc1,hs⟩:=JP c hc;have P7:iH (⟨c.b,c.i,c.h⟩:cB)=some (c1,s):=e2;obtain⟨c',w',q1,q2,q3,q4⟩:=ih fu (v+1) c1 (w.set (v:Int).toNat s) (by simp;omega) (by omega) (by simpa using hm) hc1 (fun x Nk=>by
      rcases mD Nk with h|h
      ·exact hw x h
      ·subst h;exact hs)
     exact⟨c',w',fun k=>by rw[st k,hv1,hv2,aK,fI,aK,P7,aA];exact q1 k,q2,by simpa using q3,q4⟩
theorem QY(c:cB)(h:eS c):∃c' r,iZ c=some (c',r)/\eS c'/\D0 r:=by
 unfold iZ;obtain⟨c1,n,e1,hc1,_,_⟩:=oW c 4 h (by decide) (by decide);obtain⟨c2,p,e2,su,hp⟩:=Cd c1 hc1;obtain⟨c3,m,e3,zW,hm,hm2⟩:=oW c2 3 su (by decide) (by decide);rw[e1,aA,e2,aA,e3,aA];have Ur:qx 4 p:=⟨hp.1,by have:=hp.2.1;omega,hp.2.2⟩
 obtain⟨c4,cs,q1,NO,EX,TQ⟩:=LN (c1,n) m.toNat fuel m c3 [(⟨1,p,[],[]⟩:aU)] (by omega) (by unfold fuel;omega) (by omega) (by simp;omega) zW (fun x hx=>by
  simp at hx;subst hx;exact⟨Ur,by simp,by simp⟩)
 have hcs:1<=cs.length/\cs.length<=3:=by simp at EX;omega
 rw[q1];dsimp only;have hw0:(⟨[114],n,cs,[]⟩:aW).wt<=1048576:=pT.wt (n:=4) ⟨by simp,⟨by show cs.length<=4;omega,TQ⟩,by simp,by simp⟩ (by decide);obtain⟨c5,q,e5,Rc,hq⟩:=Cd c4 NO;have U9:ec (⟨c4.b,c4.i,c4.h⟩:cB)=some (c5,q):=e5;rw[F2 (⟨[114],n,cs,[]⟩:aW) _ hw0,aA,U9,aA];dsimp only;obtain⟨c6,qa,r1,US,r3,r4⟩:=LO (c1,n) cs (dB (pW (⟨[114],n,cs,[]⟩:aW) ((cs.map aU.c).length:Int))) (c5,q) q.args.length fuel 0 c5 q.args (by simp) (by have:=hq.2.1;unfold fuel;omega) (by have:=hq.2.1;omega) Rc hq.2.2;have TX:=r1;rw[show((0:Nat):Int)=0 from rfl]at TX;rw[TX];obtain⟨c7,k,e7,UT,_⟩:=Bk c6 [1,1,2] US (by decide) (by decide);have UA:gL (⟨c6.b,c6.i,c6.h⟩:cB) [1,1,2]=some (c7,k):=e7;obtain⟨c8,b,e8,TB⟩:=JT c7 6 UT (by decide) (by decide);have JM:∀n,n<=4->room n 48=true:=fun n hn=>Bj (by omega) (by decide)
 rw[UA,aA];dsimp only;rw[JM _ (by simp),aK,e8,aA];have TM:qx 4 (⟨q.rel,qa⟩:bE):=⟨hq.1,by show qa.length<=4;have:=hq.2.1;omega,r4⟩
 have fin:∀(al:cg),1<=al.length->al.length<=2->(∀a∈al,C4 a)->∃c' r,((iE (⟨[114],n,cs,al⟩:aW)).bind fun Oq=>(bif !(Oq)then((eX c8 99).bind fun U4=>(some (U4.1,U4.2)))else(some (c8,(⟨[114],n,cs,al⟩:aW)))))=some (c',r)/\eS c'/\D0 r:=by
  intro al UO Vl ha;have TS:pT 4 (⟨[114],n,cs,al⟩:aW):=⟨by simp,⟨by show cs.length<=4;omega,TQ⟩,by show al.length<=4;omega,ha⟩
  rw[JU _ (TS.wt (by decide)),aA];cases hr:nG (⟨[114],n,cs,al⟩:aW)with
  |true=>exact⟨_,_,rfl,TB,TS,hr,hcs.1,UO⟩
  |false=>
   obtain⟨c9,r,e9,UU,Us⟩:=JS c8 99 TB (by decide);rw[fI,aK,e9,aA];exact⟨_,_,rfl,UU,Us⟩
 cases b with
 |true=>
  dsimp only;rw[aK,JM _ (by simp),aK];exact fin _ (by simp) (by simp) (fun a ha=>by
   simp at ha;rcases ha with rfl|rfl
   ·exact TM
   ·exact⟨by simp,by simp,by simp⟩)
 |false=>
  dsimp only;rw[aP];exact fin _ (by simp) (by simp) (fun a ha=>by
   simp at ha;subst ha;exact TM)
theorem OG(c:cB)(h:eS c):∃c' r,ji c=some (c',r)/\eS c'/\D0 r:=by
 unfold ji;obtain⟨c1,b,e,hc⟩:=JT c 3 h (by decide) (by decide);rw[e,aA];cases b with
 |true=>
  obtain⟨c2,r,e2,su,hr⟩:=QY c1 hc;rw[aK,e2,aA];exact⟨_,_,rfl,su,hr⟩
 |false=>
  obtain⟨c2,r,e2,su,hr⟩:=JS c1 99 hc (by decide);rw[aP,e2,aA];exact⟨_,_,rfl,su,hr⟩
theorem pT.le{n m:Nat}{r:aW}(h:pT n r)(hm:n<=m):pT m r:=⟨h.1,⟨by have:=h.2.1.1;omega,h.2.1.2⟩,by have:=h.2.2.1;omega,h.2.2.2⟩
theorem QS(c:cB)(h:eS c):∃c' r,kL c=some (c',r)/\eS c'/\pT 5 r:=by
 unfold kL;obtain⟨c1,r,e,hc,hg,_,g1,g2⟩:=OG c h;obtain⟨c2,x,e2,su,_,_⟩:=oW c1 14 hc (by decide) (by decide);have hr:=hg.le (m:=5) (by decide);have hl1:=hg.2.1.1;have sO:=hg.2.2.1;rw[e,aA,e2,aA];cases(x==(0:Int))with
 |true=>
  obtain⟨c3,s,e3,zW,hs⟩:=Ce c2 su;rw[aK,e3,aA];exact⟨_,_,rfl,zW,hs,hr.2⟩
 |false=>
  rw[aP];cases(x==(1:Int))with
  |true=>
   obtain⟨c3,s,e3,zW,_⟩:=Bk c2 [-1,0,9,10] su (by decide) (by decide);rw[aK,e3,aA];exact⟨_,_,rfl,zW,hr⟩
  |false=>
   rw[aP];cases(x==(2:Int))with
   |true=>
    obtain⟨c3,k,e3,zW,hk⟩:=QR c2 su;rw[aK,e3,aA,oo (by show r.conds.length<_;omega) (by decide),aK];refine⟨_,_,rfl,zW,hr.1,⟨by simp;omega,fun y hy=>?_⟩,hr.2.2⟩;rcases aF.1 hy with h|h
    ·exact hr.2.1.2 y h
    ·simp at h;subst h;exact hk
   |false=>
    rw[aP];cases(x==(3:Int))with
    |true=>
     obtain⟨c3,k,e3,zW,_⟩:=Bk c2 [0,1,2,3,4] su (by decide) (by decide);obtain⟨c4,p,e4,NO,hp⟩:=Mg c3 zW;rw[aK,e3,aA,e4,aA,oo (by show r.bg.length<_;omega) (by decide),aK];refine⟨_,_,rfl,NO,hr.1,hr.2.1,by simp;omega,fun y hy=>?_⟩;rcases aF.1 hy with h|h
     ·exact hr.2.2.2 y h
     ·simp at h;subst h;exact hp
    |false=>
     rw[aP];cases(x==(4:Int))with
     |true=>
      rw[aK,Fz (by simpa using g1),aA];exact⟨_,_,rfl,su,hr.1,⟨by rw[fZ,bD];show min _ r.conds.length-1<=5;omega,fun y hy=>hr.2.1.2 y (bQ (fc hy))⟩,hr.2.2⟩
     |false=>
      rw[aP];cases(x==(5:Int))with
      |true=>
       rw[aK,Fz (by simpa using g2),aA];exact⟨_,_,rfl,su,hr.1,hr.2.1,by rw[fZ,bD];show min _ r.bg.length-1<=5;omega,fun y hy=>hr.2.2.2 y (bQ (fc hy))⟩
      |false=>
       rw[aP];cases(x==(6:Int))with
       |true=>
        obtain⟨c3,s,e3,zW,hs⟩:=JZ c2 [[63,102],[63,97],[63,103]] su (by decide) (by decide);obtain⟨c4,k,e4,NO,_⟩:=Bk c3 [1,2] zW (by decide) (by decide);obtain⟨c5,t,e5,Rc,ht⟩:=JZ c4 [[63,102],[63,120]] NO (by decide) (by decide);have hs2:s.length<=16:=by
         have:∀s∈([[63,102],[63,97],[63,103]]:aC),s.length<=16:=by decide
         exact this s hs
        have ht2:t.length<=16:=by
         have:∀s∈([[63,102],[63,120]]:aC),s.length<=16:=by decide
         exact this t ht
        rw[aK,e3,aA,e4,aA,e5,aA];refine⟨_,_,rfl,Rc,hr.1,⟨by simp,fun y hy=>?_⟩,by simp,fun y hy=>?_⟩
        ·simp at hy;rcases hy with rfl|rfl|rfl
         ·exact⟨⟨by simp,by simp,by simp⟩,by simp,by simp⟩
         ·exact⟨⟨by simp,by simp,by simpa using hs2⟩,by simp,by simp⟩
         ·exact⟨⟨by simp,by simp,by simpa using ht2⟩,by simp,by simp⟩
        ·simp at hy;subst hy;exact⟨by simp,by simp,by simp⟩
       |false=>exact⟨_,_,rfl,su,hr⟩
end Go.Cx
namespace Go.Cx
open Go.RowKit Go.Proofs Tryz
theorem FN{α:Type}{l:List α}{i:Int}{x:α}(h:k8 l i=some x):x∈l:=by
 unfold k8 at h;cases hd:decide (0<=i)with
 |false=>rw[hd]at h;cases h
 |true=>rw[hd,aK]at h;exact aD h
theorem F7{c c':cB}{l:aC}{s:Bytes}(h:gO c l=some (c',s)):s∈l:=by
 unfold gO at h;obtain⟨y1,_,h⟩:=aJ.1 h;obtain⟨x3,h3,h⟩:=aJ.1 h;cases h;exact FN h3
theorem LC{c c':cB}{s:Bytes}(h:gC c=some (c',s)):s≠[110,111,116]:=by
 unfold gC at h;obtain⟨y1,_,h⟩:=aJ.1 h;cases h1:y1.2 with
 |true=>
  rw[h1,aK]at h;obtain⟨y4,h4,h⟩:=aJ.1 h;cases h;unfold iH at h4;obtain⟨y5,h5,h4⟩:=aJ.1 h4;cases h4;have:=F7 (c':=y5.1) h5;intro e;rw[e]at this;exact absurd this (by decide)
 |false=>
  rw[h1,aP]at h;obtain⟨y4,h4,h⟩:=aJ.1 h;cases h;have:=F7 (c':=y4.1) h4;intro e;rw[e]at this;exact absurd this (by decide)
theorem LD{c c':cB}{s:Bytes}(h:gB c=some (c',s)):s≠[110,111,116]:=by
 unfold gB at h;obtain⟨y5,h5,h⟩:=aJ.1 h;cases h;have:=F7 (c':=y5.1) h5;intro e;rw[e]at this;exact absurd this (by decide)
theorem Dr{c c':cB}{x:aU}(h:iI c=some (c',x)):x.left≠[110,111,116]:=by
 unfold iI at h;obtain⟨y1,_,h⟩:=aJ.1 h;cases h0:(y1.2==0:Bool)with
 |true=>
  rw[h0,aK]at h;obtain⟨y4,h4,h⟩:=aJ.1 h;cases h;intro e;cases e
 |false=>
  rw[h0,aP]at h;cases h1:(y1.2==1:Bool)with
  |true=>
   rw[h1,aK]at h;obtain⟨y4,h4,h⟩:=aJ.1 h;cases h;intro e;cases e
  |false=>
   rw[h1,aP]at h;cases h2:(y1.2==2:Bool)with
   |true=>
    rw[h2,aK]at h;obtain⟨y4,h4,h⟩:=aJ.1 h;cases h;intro e;cases e
   |false=>
    rw[h2,aP]at h;obtain⟨H9,h12,h⟩:=aJ.1 h;obtain⟨zz,_,h⟩:=aJ.1 h;obtain⟨Cv,h16,h⟩:=aJ.1 h;unfold ko at h16;obtain⟨z,_,h16⟩:=aJ.1 h16;cases h16;cases h;exact LC (c':=H9.1) h12
def D2(r:aW):Prop:=∀x∈r.conds,x.left≠[110,111,116]
def Dc(s:Bytes):Bool:=match fp s with
 |some (r,_)=>r.conds.all fun x=>decide (x.left≠[110,111,116])
 |none=>true
theorem Gl(K:aC){c c':cB}{m:Int}{r:aW}(hK:K.all Dc=true)(h:((cD c (BI m ((K.map tx).length:Int))).bind fun y1=>((k8 K y1.2).bind fun x3=>((fp x3).bind fun y5=>(some (y1.1,y5.1)))))=some (c',r)):D2 r:=by
 obtain⟨y1,_,h⟩:=aJ.1 h;obtain⟨x3,h3,h⟩:=aJ.1 h;obtain⟨y5,h5,h⟩:=aJ.1 h;cases h;have:=aO.1 hK x3 (FN h3);unfold Dc at this;rw[h5]at this;intro x hx;have:=aO.1 this x hx;simpa using this
theorem Ds{c c':cB}{m:Int}{r:aW}(h:eX c m=some (c',r)):D2 r:=by
 unfold eX at h;refine Gl _ ?_ h;kernel_rfl
theorem Bf(y1:cB×Int)(k:bz->Int->Int->bP->Option (cB×aW)){res:cB×aW}:∀(fu:Nat) (v:Int) (a:bz) (b d:Int) (w:bP),(∀x∈w,x.left≠[110,111,116])->cX y1 k fu v a b d w=some res->∃a' b' d' w',(∀x∈w',x.left≠[110,111,116])/\k a' b' d' w'=some res
 |0,_,_,_,_,_,_,h=>by rw[cX]at h;cases h
 |fu+1,v,a,b,d,w,hw,h=>by
  rw[cX]at h;cases hd:decide (v>0)with
  |false=>rw[hd,aP]at h;exact⟨_,_,_,_,hw,h⟩
  |true=>
   rw[hd,aK]at h;obtain⟨y,hy,h⟩:=aJ.1 h;have hy2:=Dr (c':=y.1) (x:=y.2) hy;cases hr:room ((w.map aU.c).length+[[D.int .i64 y.2.kind,D.str y.2.pat.rel,D.sl (y.2.pat.args.map tx),D.str y.2.left,D.str y.2.right]].length) 80 with
   |false=>rw[hr,aP]at h;cases h
   |true=>
    rw[hr,aK]at h;exact Bf y1 k fu _ _ _ _ _ (fun x hx=>by
     rcases aF.1 hx with hx|hx
     ·exact hw x hx
     ·rw[bu.1 hx];exact hy2) h
theorem vH(y1:cB×Int)(q:bP)(y:aC)(y3:cB×bE)(k:bz->Int->Int->aC->Option (cB×aW)){res:cB×aW}:∀(fu:Nat) (v:Int) (a:bz) (b d:Int) (w:aC),bh y1 q y y3 k fu v a b d w=some res->∃a' b' d' w',k a' b' d' w'=some res
 |0,_,_,_,_,_,h=>by rw[bh]at h;cases h
 |fu+1,v,a,b,d,w,h=>by
  rw[bh]at h;cases hd:decide (v<((w.map tx).length:Int))with
  |false=>rw[hd,aP]at h;exact⟨_,_,_,_,h⟩
  |true=>
   rw[hd,aK]at h;obtain⟨x,_,h⟩:=aJ.1 h;obtain⟨z,_,h⟩:=aJ.1 h;cases z with
   |false=>rw[aP]at h;exact vH y1 q y y3 k fu _ _ _ _ _ h
   |true=>
    rw[aK]at h;obtain⟨z2,_,h⟩:=aJ.1 h;cases z2 with
    |true=>rw[bB,aP]at h;exact vH y1 q y y3 k fu _ _ _ _ _ h
    |false=>
     rw[fI,aK]at h;obtain⟨z3,_,h⟩:=aJ.1 h;exact vH y1 q y y3 k fu _ _ _ _ _ h
theorem zh{α:Type}{b:Bool}{x:Option α}{r:α}(h:(bif b then x else none)=some r):x=some r:=by
 cases b with
 |true=>exact h
 |false=>cases h
theorem oN{α:Type}{b:Bool}{x y:Option α}{r:α}(h:(bif b then x else y)=some r):x=some r\/y=some r:=by
 cases b with
 |true=>exact .inl h
 |false=>exact .inr h
theorem J9{c0 c':cB}{r r0:aW}{b:Option Bool}(hr:D2 r0)(h:(b.bind fun y=>(bif !(y)then((eX c0 99).bind fun y5=>(some (y5.1,y5.2)))else(some (c0,r0))))=some (c',r)):D2 r:=by
 obtain⟨y,_,h⟩:=aJ.1 h;cases y with
 |true=>rw[bB,aP]at h;cases h;exact hr
 |false=>
  rw[fI,aK]at h;obtain⟨y5,h5,h⟩:=aJ.1 h;cases h;exact Ds (c':=y5.1) h5
theorem LB{c c':cB}{r:aW}(h:iZ c=some (c',r)):D2 r:=by
 unfold iZ at h;obtain⟨y1,_,h⟩:=aJ.1 h;obtain⟨y3,h3,h⟩:=aJ.1 h;obtain⟨y5,_,h⟩:=aJ.1 h;obtain⟨_,_,_,w,hw,h⟩:=Bf _ _ _ _ _ _ _ _ (fun x hx=>by rw[bu.1 hx];exact(fun e=>by cases e)) h;obtain⟨Cq,_,h⟩:=aJ.1 h;obtain⟨qv,_,h⟩:=aJ.1 h;obtain⟨_,_,_,q,h⟩:=vH _ _ _ _ _ _ _ _ _ _ _ h;obtain⟨vD,_,h⟩:=aJ.1 h;obtain⟨yu,_,h⟩:=aJ.1 (zh h);rcases oN h with h|h
 ·refine J9 ?_ (zh h);exact hw
 ·refine J9 ?_ h;exact hw
theorem J8{c c':cB}{r:aW}(h:ji c=some (c',r)):D2 r:=by
 unfold ji at h;obtain⟨y1,_,h⟩:=aJ.1 h;rcases oN h with h|h
 ·obtain⟨y4,h4,h⟩:=aJ.1 h;cases h;exact LB (c':=y4.1) h4
 ·obtain⟨y4,h4,h⟩:=aJ.1 h;cases h;exact Ds (c':=y4.1) h4
theorem L9{c c':cB}{x:aU}(h:kK c=some (c',x)):x.left≠[110,111,116]:=by
 unfold kK at h;obtain⟨y1,h1,h⟩:=aJ.1 h;have hy:=Dr (c':=y1.1) (x:=y1.2) h1;obtain⟨y3,_,h⟩:=aJ.1 h;rcases oN h with h|h
 ·obtain⟨y6,_,h⟩:=aJ.1 h;cases h;exact hy
 ·rcases oN h with h|h
  ·obtain⟨y9,h9,h⟩:=aJ.1 h;cases h;exact LD (c':=y9.1) h9
  ·rcases oN h with h|h
   ·obtain⟨H9,_,h⟩:=aJ.1 h;cases h;exact hy
   ·cases h;exact hy
theorem LA{c c':cB}{r:aW}(h:kL c=some (c',r)):D2 r:=by
 unfold kL at h;obtain⟨y1,h1,h⟩:=aJ.1 h;have hy:=J8 (c':=y1.1) (r:=y1.2) h1;obtain⟨y3,_,h⟩:=aJ.1 h;rcases oN h with h|h
 ·obtain⟨y6,_,h⟩:=aJ.1 h;cases h;exact hy
 rcases oN h with h|h
 ·obtain⟨y6,_,h⟩:=aJ.1 h;cases h;exact hy
 rcases oN h with h|h
 ·obtain⟨y6,h6,h⟩:=aJ.1 h;have h:=zh h;cases h;intro x hx;rcases aF.1 hx with hx|hx
  ·exact hy x hx
  ·rw[bu.1 hx];exact L9 (c':=y6.1) h6
 rcases oN h with h|h
 ·obtain⟨y6,_,h⟩:=aJ.1 h;obtain⟨y7,_,h⟩:=aJ.1 h;have h:=zh h;cases h;exact hy
 rcases oN h with h|h
 ·obtain⟨p,_,h⟩:=aJ.1 h;cases h;exact fun x hx=>hy x (bQ (fc hx))
 rcases oN h with h|h
 ·obtain⟨p,_,h⟩:=aJ.1 h;cases h;exact hy
 rcases oN h with h|h
 ·obtain⟨y6,_,h⟩:=aJ.1 h;obtain⟨y7,_,h⟩:=aJ.1 h;obtain⟨y8,_,h⟩:=aJ.1 h;cases h;intro x hx;simp only[aY,dR,lI]at hx;rcases hx with rfl|rfl|rfl<;>(intro e;cases e)
 ·cases h;exact hy
theorem LK(code:bz)(h:code.length<=4096):∃r,gi code=some r/\pT 5 r/\D2 r:=by
 unfold gi;obtain⟨c0,e0,h0⟩:=QV code h;obtain⟨c1,r,e1,_,hr⟩:=QS c0 h0;rw[e0,aA,e1,aA];exact⟨r,rfl,hr,LA e1⟩
end Go.Cx
namespace Go.Cx
open Go.RowKit Go.Proofs Tryz
set_option maxRecDepth 100000
variable{Γ:lY}{N:Nat->St->Prop}
def sJ(aI:bz):Option Bool:=(some (decide ((((aI.map yx).length:Int):Int)>4096)))
theorem sn{aI:bz}{r:Bool}(h:sJ aI=some r):Good prog 5 [D.sl (aI.map yx)] (D.bool r):=by
 refine gd func5 [[none]] 6 fun hr Γ hΓ=>?_
 rw[sJ]at h;cases h;exact ah.ret hΓ
end Go.Cx
namespace Go.Cx
open Go.RowKit Go.Proofs Tryz
set_option maxRecDepth 100000
variable{Γ:lY}{N:Nat->St->Prop}
def lC(aI:bz):Option Bool:=((sJ aI).bind fun y1=>(bif y1 then(some true)else((gi aI).bind fun y4=>((iP y4).bind fun y6=>((gw y6).bind fun y8=>((iE y4).bind fun yt=>(bif (y8.2:Bool)==yt then(bif (!((y6:Bytes)==([])):Bool)==y8.2 then(bif !(y8.2)then(some true)else((kU y8.1 y4).bind fun BO=>(some BO)))else(some false))else(some false))))))))
theorem sI{aI:bz}{r:Bool}(h:lC aI=some r):Good prog 3 [D.sl (aI.map yx)] (D.bool r):=by
 refine gd func3 [[none]] 37 fun hr Γ hΓ=>?_
 rw[lC]at h;obtain⟨y1,h2,h⟩:=aE h;obtain⟨h3,h⟩|⟨h3,h⟩:=aL h
 ·have h:=aT h;subst h;exact((ah.g (sn h2)).b h3).ret hΓ
 ·obtain⟨y4,h5,h⟩:=aE h;obtain⟨y6,h7,h⟩:=aE h;obtain⟨y8,h9,h⟩:=aE h;obtain⟨yt,h11,h⟩:=aE h;have kQ:=((((((ah.g (sn h2)).b h3).g (pu h5)).g (iz h7)).g (tH h9)).g (dD h11))
  obtain⟨h12,h⟩|⟨h12,h⟩:=aL h
  ·have kw:=(kQ.r 5 h12)
   obtain⟨h13,h⟩|⟨h13,h⟩:=aL h
   ·have mJ:=(kw.r 3 h13)
    obtain⟨h14,h⟩|⟨h14,h⟩:=aL h
    ·have h:=aT h;subst h;exact((((mJ.r 3 h14).b h13).b h14).b h13).ret hΓ
    ·obtain⟨BO,h16,h⟩:=aE h;have h:=aT h;subst h;exact(((((mJ.r 3 h14).g (uH h16)).b h13).b h14).b h13).ret hΓ
   ·have h:=aT h;subst h;exact((kw.r 5 h13).a [bF,bF,bF]).ret hΓ
  ·have h:=aT h;subst h;exact(((kQ.r 5 h12).F 5).a [bF,bF,bF]).ret hΓ
end Go.Cx
namespace Go.Cx
open Go.RowKit Go.Proofs Tryz
namespace LawFnRuleText
theorem Gu(r:aW):kU r r=some true:=by
 unfold kU;have l2:∀(l:cg) (i:Nat),r.bg.drop i=l->fR r r (some true) l i=some true:=by
  intro l
  induction l with
  |nil=>intro i _;rfl
  |cons a l ih=>
   intro i h;have hx:r.bg[i]?=some a:=(drop_cons h).1;have GQ:k8 r.bg (i:Int)=some a:=by unfold k8;rw[bN (by omega),aK];exact hx
   rw[fR,GQ,aA,show((a.kind:Int) != a.kind)=false by simp,aP,Ik,aA,bN rfl,bB,aP];exact ih (i+1) (drop_cons h).2.2
 have l1:∀(l:bP) (i:Nat),r.conds.drop i=l->fQ r r (some true) l i=some true:=by
  intro l
  induction l with
  |nil=>intro i _;rfl
  |cons a l ih=>
   intro i h;have hx:r.conds[i]?=some a:=(drop_cons h).1;have GQ:k8 r.conds (i:Int)=some a:=by unfold k8;rw[bN (by omega),aK];exact hx
   rw[fQ,GQ,aA,Nt,aA,bN rfl,bB,aP];exact ih (i+1) (drop_cons h).2.2
 rw[l2 r.bg 0 rfl,l1 r.conds 0 rfl];simp
theorem O1(code:bz):lC code=some true:=by
 unfold lC sJ;rw[aA,bL];by_cases hc:code.length<=4096
 ·rw[bf (by omega),aP];obtain⟨r,e1,hr,hn⟩:=LK code hc;have hw:r.wt<=1048576:=hr.wt (by decide);rw[e1,aA,DV r hw,aA];cases hb:nG r with
  |false=>
   rw[aP];obtain⟨x,e2⟩:=Se;rw[e2,aA,JU r hw,aA,hb];rfl
  |true=>
   rw[aK,V7 hb (fun c hc=>.inr (.inr (hn c hc))),aA,JU r hw,aA,hb];have hne:((tA r:Bytes)==[])=false:=by
    have:tA r≠[]:=by
     unfold tA;intro h;have:=congrArg List.length h;simp at this
    simpa using this
   rw[hne,show((true:Bool)==true)=true from rfl,aK,show((!false:Bool)==true)=true from rfl,aK,bB,aP,Gu];rfl
 ·rw[bN (by omega),aK]
theorem Is(code:bz):Good prog 3 [D.sl (code.map yx)] (.bool true):=sI (O1 code)
end LawFnRuleText
end Go.Cx
namespace Go.Cx
open Go.RowKit
inductive Sh where
 |int (k:IntKind)
 |str
 |bool
 |sl (row:List Sh)
mutual
inductive B4:Sh->D->Prop
 |int (k:IntKind) (n:Int):B4 (.int k) (.int k n)
 |str (s:Bytes):B4 .str (.str s)
 |bool (b:Bool):B4 .bool (.bool b)
 |sl (row:List Sh) (rows:List aG):(∀r∈rows,mE row r)->B4 (.sl row) (.sl rows)
inductive mE:List Sh->List D->Prop
 |nil:mE [] []
 |cons (s:Sh) (ss:List Sh) (d:D) (ds:aG):B4 s d->mE ss ds->mE (s::ss) (d::ds)
end
theorem mE.app{s1 s2:List Sh}{d1 d2:aG}(h1:mE s1 d1)(h2:mE s2 d2):mE (s1++s2) (d1++d2):=by
 induction s1 generalizing d1 with
 |nil=>cases h1;exact h2
 |cons s s1 ih=>cases h1 with|cons _ _ d ds h h'=>exact .cons _ _ _ _ h (ih h')
theorem mE.length{s:List Sh}{d:aG}(h:mE s d):d.length=s.length:=by
 induction s generalizing d with
 |nil=>cases h;rfl
 |cons s ss ih=>cases h with|cons _ _ d ds h h'=>simp[ih h']
def CV(P:Program):Nat->List Field->List (List Sh)->Bool
 |_,[],[]=>true
 |off,f::fs,r::rs=>(f.offset==off)&&(r.length==P.cellsOf f.type)&&CV P (off+r.length) fs rs
 |_,_,_=>false
def qn(P:Program):Nat->TypeId->Option (List Sh)
 |0,_=>none
 |n+1,t=>match P.underlying t with
  |some .bool=>some [.bool]
  |some (.int k)=>some [.int k]
  |some .string=>some [.str]
  |some (.slice e)=>(qn P n e).bind fun r=>if r.length=P.cellsOf e/\0<r.length then some [.sl r]else none
  |some (.struct fs)=>(fs.toList.mapM fun f=>qn P n f.type).bind fun rs=>if CV P 0 fs.toList rs=true/\rs.flatten.length=P.cellsOf t then some rs.flatten else none
  |_=>none
theorem Dl{α β:Type}{f:α->Option β}:∀ {l:List α} {ys:List β},l.mapM f=some ys->ys.length=l.length/\∀(i:Nat) x,l[i]?=some x->∃y,ys[i]?=some y/\f x=some y:=by
 intro l
 induction l with
 |nil=>intro ys h;simp at h;subst h;simp
 |cons a l ih=>
  intro ys h;simp only[tZ,Option.bind_eq_bind,Option.pure_def]at h;cases ha:f a with
  |none=>simp[ha]at h
  |some b=>
   cases hl:l.mapM f with
   |none=>simp[ha,hl]at h
   |some bs=>
    simp[ha,hl]at h;subst h;obtain⟨h1,h2⟩:=ih hl;refine⟨by simp[h1],fun i x hx=>?_⟩;cases i with
    |zero=>simp at hx;subst hx;exact⟨b,by simp,ha⟩
    |succ i=>simp at hx;obtain⟨y,k1,k2⟩:=h2 i x hx;exact⟨y,by simpa using k1,k2⟩
section
variable{P:Program}{w:World}{H:Type}{enc:TypeId×Value->H}{base:Nat}{sp:Nat->Bool}{held:Bool}
theorem AE{a:Addr}{n:Nat}{cs:aq}(h:w.cells? base a n=some cs):cs.length=n/\∀(j:Nat) c,cs[j]?=some c->w.cell? (a.add j)=some c:=by
 unfold World.cells? at h;split at h
 ·obtain⟨h1,h2⟩:=Dl h;refine⟨by simpa using h1,fun j c hj=>?_⟩;have hlt:j<n:=by have:=(aB.1 hj).1;rw[h1]at this;simpa using this
  obtain⟨y,k1,k2⟩:=h2 j j (by simp[hlt]);rw[hj]at k1;cases k1;exact k2
 ·cases h
theorem O2{k:IntKind}{n:Int}(h:(Lit.int k n).wf=true):nM k n:=by
 simpa[Lit.wf,nM]using h
theorem G7:∀(fuel:Nat) {t:TypeId} {cs:aq} {d:DataW H} {ps:List MemPlace} {n:Nat} {LV:List Sh},
 DataW.trod enc P w base sp held fuel t cs=some (d,ps)->qn P n t=some LV->∃ds bs,gG w cs ds bs/\mE LV ds:=by
 intro fuel
 induction fuel with
 |zero=>intro t cs d ps n LV h;simp[DataW.trod]at h
 |succ fuel ih=>
  intro t cs d ps n LV h hf;cases n with
  |zero=>simp[qn]at hf
  |succ n=>
   simp only[qn]at hf;simp only[DataW.trod]at h;split at hf
   ·rename_i hu;cases hf;simp only[hu]at h;split at h<;>rename_i h1<;>try(simp at h1;done)
    all_goals try(cases h;done)
    all_goals simp at h1
    exact⟨[.bool _],[],.cons _ _ _ _ [] [] rfl (.bool _) .nil,.cons _ _ _ _ (.bool _) .nil⟩
   ·rename_i k hu;cases hf;simp only[hu]at h;split at h<;>rename_i h1<;>try(simp at h1;done)
    all_goals try(cases h;done)
    all_goals simp at h1
    rename_i k1 k2 m _;subst h1;split at h
    ·rename_i hc;obtain⟨rfl,hwf⟩:=hc;exact⟨[.int _ _],[],.cons _ _ _ _ [] [] rfl (.int _ _ (O2 hwf)) .nil,.cons _ _ _ _ (.int _ _) .nil⟩
    ·cases h
   ·rename_i hu;cases hf;simp only[hu]at h;split at h<;>rename_i h1<;>try(simp at h1;done)
    all_goals try(cases h;done)
    all_goals simp at h1
    split at h
    ·rename_i hc;exact⟨[.str _],[],.cons _ _ _ _ [] [] rfl (.str _ hc) .nil,.cons _ _ _ _ (.str _) .nil⟩
    ·cases h
   ·rename_i e hu;cases hr:qn P n e with
    |none=>simp[hr]at hf
    |some r=>
     simp only[hr,aA]at hf;split at hf
     ·rename_i hsz;cases hf;simp only[hu]at h;split at h<;>rename_i h1<;>try(simp at h1;done)
      all_goals try(cases h;done)
      all_goals simp at h1
      ·exact⟨[.sl []],[],.cons _ _ _ _ [] [] rfl .oB .nil,.cons _ _ _ _ (.sl _ _ (by simp)) .nil⟩
      ·rename_i a len cap
       try subst h1
       split at h
       ·rename_i hc;cases hm:(List.range len).mapM (fun i=>(w.cells? base (a.add (i*P.cellsOf e)) (P.cellsOf e)).bind (DataW.trod enc P w base sp held fuel e))with
        |none=>simp[hm]at h
        |some elems=>
         obtain⟨_,hall⟩:=Dl hm;have hel:∀i,i<len->∃cs ds bs,w.cells? base (a.add (i*P.cellsOf e)) (P.cellsOf e)=some cs/\gG w cs ds bs/\mE r ds:=by
          intro i hi;obtain⟨y,_,hy⟩:=hall i i (by simp[hi]);obtain⟨cs,hcs,hy⟩:=aJ.1 hy;obtain⟨ds,bs,k1,k2⟩:=ih (d:=y.1) (ps:=y.2) hy hr;exact⟨cs,ds,bs,hcs,k1,k2⟩
         by_cases hl0:len=0
         ·subst hl0;exact⟨[.sl []],[],.cons _ _ _ _ [] [] rfl (.iU a cap hc.2.2) .nil,.cons _ _ _ _ (.sl _ _ (by simp)) .nil⟩
         ·
          obtain⟨cs0,Lu,P6,EX,HF,UX⟩:=hel 0 (by omega);obtain⟨hl1,GQ⟩:=AE EX;have hpos:0<cs0.length:=by rw[hl1];omega
          have hc0:=GQ 0 cs0[0] (aN hpos);have ha0:(a.add (0*P.cellsOf e)).add 0=a:=by simp[Addr.add]
          rw[ha0]at hc0;obtain⟨b,off,spot⟩:=a;have Pk:spot=none:=by
           cases spot with
           |none=>rfl
           |some x=>
            unfold World.cell? at hc0;split at hc0
            ·simp at hc0
            ·cases hc0
          subst Pk;have hb:b<w.heap.size:=World.block_lt_of_cell? w _ hc0;have build:∀m,m<=len->∃(rows:List aG) (cs:aq) (bs:aH),rows.length=m/\cs.length=m*P.cellsOf e/\(∀(j:Nat) c,cs[j]?=some c->w.cell? ⟨b,off+j,none⟩=some c)/\
           gG w cs rows.flatten bs/\∀x∈rows,mE r x:=by
           intro m
           induction m with
           |zero=>intro _;exact⟨[],[],[],rfl,by simp,by simp,.nil,by simp⟩
           |succ m VB=>
            intro hm1;obtain⟨rows,cs,bs,q1,q2,q3,q4,q5⟩:=VB (by omega);obtain⟨cs',ds',bs',g1,g2,g3⟩:=hel m (by omega);obtain⟨g4,g5⟩:=AE g1;refine⟨rows++[ds'],cs++cs',bs++bs',by simp[q1],by simp[q2,g4,eR],?_,?_,?_⟩
            ·intro j c hj;by_cases hlt:j<cs.length
             ·rw[aS hlt]at hj;exact q3 j c hj
             ·rw[aV (by omega)]at hj;have:=g5 _ c hj;rw[Addr.add_lit,Addr.add_lit,q2]at this;have e1:off+m*P.cellsOf e+(j-m*P.cellsOf e)=off+j:=by omega
              rw[e1]at this;exact this
            ·rw[fB];have:=q4.app g2;simpa using this
            ·intro x hx;rcases aF.1 hx with hx|hx
             ·exact q5 x hx
             ·simp at hx;subst hx;exact g3
          obtain⟨rows,cs,bs,q1,q2,q3,q4,q5⟩:=build len (b8 _);subst q1;refine⟨[.sl rows],b::bs,?_,.cons _ _ _ _ (.sl _ _ q5) .nil⟩;have:=gG.cons (w:=w) _ [] _ [] _ [] rfl (Rd.sl b off cap r.length rows cs bs hb hc.2.1 hc.2.2 (fun x hx=>(q5 x hx).length) q3 q4) .nil;simpa using this
       ·cases h
     ·cases hf
   ·rename_i fs hu;cases hr:fs.toList.mapM (fun f=>qn P n f.type)with
    |none=>simp[hr]at hf
    |some rs=>
     simp only[hr,aA]at hf;split at hf
     ·rename_i hok;cases hf;simp only[hu]at h;split at h
      ·rename_i hlen;cases hm:fs.toList.mapM (fun f=>DataW.trod enc P w base sp held fuel f.type ((cs.drop f.offset).take (P.cellsOf f.type)))with
       |none=>simp[hm]at h
       |some xs=>
        have go:∀(fl:List Field) (rl:List (List Sh)) (xl:List (DataW H×List MemPlace)) (off:Nat),fl.mapM (fun f=>qn P n f.type)=some rl->
         fl.mapM (fun f=>DataW.trod enc P w base sp held fuel f.type ((cs.drop f.offset).take (P.cellsOf f.type)))=some xl->CV P off fl rl=true->
         ∃ds bs,gG w ((cs.drop off).take rl.flatten.length) ds bs/\mE rl.flatten ds:=by
         intro fl
         induction fl with
         |nil=>
          intro rl xl off h1 _ _;simp at h1;subst h1;exact⟨[],[],by simpa using gG.nil,.nil⟩
         |cons f fl V9=>
          intro rl xl off h1 h2 h3;simp only[tZ,Option.bind_eq_bind,Option.pure_def]at h1 h2;cases a1:qn P n f.type with
          |none=>simp[a1]at h1
          |some r1=>
           cases a2:fl.mapM (fun f=>qn P n f.type)with
           |none=>simp[a1,a2]at h1
           |some Sr=>
            simp[a1,a2]at h1;subst h1;cases b1:DataW.trod enc P w base sp held fuel f.type ((cs.drop f.offset).take (P.cellsOf f.type))with
            |none=>simp[b1]at h2
            |some x1=>
             cases b2:fl.mapM (fun f=>DataW.trod enc P w base sp held fuel f.type ((cs.drop f.offset).take (P.cellsOf f.type)))with
             |none=>simp[b1,b2]at h2
             |some Vf=>
              simp only[CV,aM,bX]at h3;obtain⟨⟨o1,o2⟩,o3⟩:=h3;obtain⟨Cr,KS,k1,k2⟩:=ih (d:=x1.1) (ps:=x1.2) b1 a1;obtain⟨U7,Jy,k3,k4⟩:=V9 Sr Vf (off+r1.length) a2 b2 o3;refine⟨Cr++U7,KS++Jy,?_,by simpa using k2.app k4⟩;have e1:(cs.drop off).take (r1::Sr).flatten.length=(cs.drop f.offset).take (P.cellsOf f.type)++(cs.drop (off+r1.length)).take Sr.flatten.length:=by
               rw[o1,<-o2,cw,af,<-dP,List.take_add]
              rw[e1];exact k1.app k3
        obtain⟨ds,bs,k1,k2⟩:=go fs.toList rs xs 0 hr hm hok.1;rw[pO,hok.2,<-hlen,List.take_length]at k1;exact⟨ds,bs,k1,k2⟩
      ·cases h
     ·cases hf
   ·cases hf
def Hg(P:Program)(n:Nat)(t:TypeId)(d:D):Prop:=
 (pH P t=some true/\∃LV cells,qn P n t=some LV/\d=.agg cells/\mE LV cells)\/(pH P t=some false/\∃sh,qn P n t=some [sh]/\B4 sh d)
inductive BS(P:Program)(n:Nat):List TypeId->List D->Prop
 |nil:BS P n [] []
 |cons (t:TypeId) (ts:List TypeId) (d:D) (ds:aG):Hg P n t d->BS P n ts ds->BS P n (t::ts) (d::ds)
def D8(P:Program)(n:Nat)(t:TypeId):Bool:=
 match pH P t,qn P n t with
 |some true,some _=>(match P.underlying t with|some (.struct _)=>true|_=>false)
 |some false,some [_]=>true
 |_,_=>false
theorem JB{n:Nat}{t:TypeId}{v:Value}{d:DataW H}{ps:List MemPlace}(hok:D8 P n t=true)(hval:Value.okWide P w .any base t v)(h:DataW.Trod enc P w 0 sp held t v d ps):
 ∃x bs,Rd w v x bs/\Hg P n t x:=by
 obtain⟨fuel,h⟩:=h;unfold D8 at hok;split at hok
 ·rename_i LV ht hf;split at hok
  ·rename_i fs hu;unfold Value.okWide at hval;simp only[hu]at hval;obtain⟨cs,rfl,_⟩:=hval;obtain⟨ds,bs,k1,k2⟩:=G7 fuel h hf;refine⟨.agg ds,bs,?_,.inl ⟨ht,LV,ds,hf,rfl,k2⟩⟩;have:=Rd.agg (w:=w) cs.toList ds bs k1;simpa using this
  ·cases hok
 ·rename_i sh ht hf;have hone:v.oneCell'=true:=by
   unfold pH at ht;split at ht<;>first
    | (cases ht;done)
    |skip
   rename_i T3 h1 h2 hu;unfold Value.okWide at hval;rw[hu]at hval;cases v with
   |agg cs=>
    cases T3<;>first
     | (exfalso;exact h1 _ rfl)
     | (exfalso;exact h2 _ _ rfl)
     | (simp[Cell.okWide,Cell.ok,hu]at hval)
   |tuple vs=>
    cases T3<;>first
     | (exfalso;exact h1 _ rfl)
     | (exfalso;exact h2 _ _ rfl)
     | (simp[Cell.okWide,Cell.ok,hu]at hval)
   |_=>rfl
  rw[Bh hone]at h;obtain⟨ds,bs,k1,k2⟩:=G7 fuel h hf;cases k2 with
  |cons _ _ x ds' hx hn=>
   cases hn;cases k1 with
   |cons _ _ _ _ b1 b2 _ hrd hn=>exact⟨x,b1,hrd,.inr ⟨ht,sh,hf,hx⟩⟩
 ·cases hok
theorem Gm{n:Nat}:∀ {ts:List TypeId} {vs:aq} {ds:List (DataW H)} {ps:List MemPlace},(∀t∈ts,D8 P n t=true)->
 (∀(j:Nat) t v,ts[j]?=some t->vs[j]?=some v->Value.okWide P w .any base t v)->DataW.TrodAll enc P w 0 sp held ts vs ds ps->
 ∃xs bs,FK w vs xs bs/\BS P n ts xs/\ds.length=ts.length:=by
 intro ts
 induction ts with
 |nil=>
  intro vs ds ps _ _ h;cases vs with
  |nil=>cases ds with
   |nil=>exact⟨[],[],.nil,.nil,rfl⟩
   |cons=>cases h
  |cons=>cases ds<;>cases h
 |cons t ts ih=>
  intro vs ds ps hok hval h;cases vs with
  |nil=>cases h
  |cons v vs=>
   cases ds with
   |nil=>cases h
   |cons d ds=>
    obtain⟨p,q,h1,h2,rfl⟩:=h;obtain⟨x,b1,k1,k2⟩:=JB (hok t (by simp)) (hval 0 t v rfl rfl) h1;obtain⟨xs,b2,k3,k4,k5⟩:=ih (fun u hu=>hok u (by simp[hu])) (fun j u y hj hv=>hval (j+1) u y (by simpa using hj) (by simpa using hv)) h2;exact⟨x::xs,b1++b2,.cons _ _ _ _ _ _ k1 k3,.cons _ _ _ _ k2 k4,by simp[k5]⟩
theorem BL{W W':World}(hl:laidOutB P=true)(hb:Below W.heap.size W W')(F6:Nat->Bool):∀ {ts:List TypeId} {vs:aq} {ds:List (DataW H)} {ps:List MemPlace},
 (∀t∈ts,P.readableRec t=true/\t<P.types.size)->DataW.TrodAll enc P W 0 (fun _=>true) true ts vs ds ps->(∀x∈ps,x.block<W.heap.size)->(∀x∈ps,F6 x.block=true)->
 DataW.TrodAll enc P W' 0 F6 true ts vs ds ps:=by
 intro ts
 induction ts with
 |nil=>intro vs ds ps _ h _ _;cases vs<;>cases ds<;>first|exact h|cases h
 |cons t ts ih=>
  intro vs ds ps ht h hlt hsp;cases vs with
  |nil=>cases h
  |cons v vs=>
   cases ds with
   |nil=>cases h
   |cons d ds=>
    obtain⟨p,q,h1,h2,rfl⟩:=h;refine⟨p,q,?_,ih (fun u hu=>ht u (by simp[hu])) h2 (fun x hx=>hlt x (by simp[hx])) (fun x hx=>hsp x (by simp[hx])),rfl⟩;exact WideElems.Trod_stays hl (ht t (by simp)).1 (ht t (by simp)).2 h1 (fun x hx=>hb.same (hlt x (by simp[hx]))) (fun x hx=>hsp x (by simp[hx]))
theorem qZ.nC{w:World}{v:Value}{b:Bool}{bs ts us:aH}(h:qZ w v (.bool b) bs ts us):v=.bool b:=by
 cases h with|v h=>cases h with|cell h=>cases h with|pure h=>cases h;rfl
theorem As{W W':World}(hl:laidOutB P=true)(hb:Below W.heap.size W W')(F6:Nat->Bool):∀ {ns:List String} {ds:List (DataW H)} {ps:List MemPlace},
 (∀n∈ns,∀g t,P.globalNamed n=some g->(P.globals[g]?).map (·.type)=some t->P.readableRec t=true/\t<P.types.size)->DataW.TrodVars enc P W (fun _=>true) ns ds ps->(∀x∈ps,x.block<W.heap.size)->(∀x∈ps,F6 x.block=true)->
 DataW.TrodVars enc P W' F6 ns ds ps/\ds.length=ns.length:=by
 intro ns
 induction ns with
 |nil=>intro ds ps _ h _ _;cases ds<;>first|exact⟨h,rfl⟩|cases h
 |cons n ns ih=>
  intro ds ps ht h hlt hsp;cases ds with
  |nil=>cases h
  |cons d ds=>
   obtain⟨g,t,cs,fuel,p,q,h1,h2,h3,h4,h5,rfl⟩:=h;obtain⟨i1,i2⟩:=ih (fun m hm=>ht m (by simp[hm])) h5 (fun x hx=>hlt x (by simp[hx])) (fun x hx=>hsp x (by simp[hx]));obtain⟨r1,r2⟩:=ht n (by simp) g t h1 h2;refine⟨⟨g,t,cs,fuel,p,q,h1,h2,?_,?_,i1,rfl⟩,by simp[i2]⟩
   ·unfold World.var? at h3⊢;rw[h1,aA]at h3⊢;have hg:g<W.heap.size:=by
     split at h3
     ·rename_i cs' t' z h6;exact(aX.1 h6).1
     ·cases h3
    rw[hb.block g hg];exact h3
   ·exact DataW.trod_stays (kids_book hl r1) (book_sized r1) (fun h=>by cases h) ⟨r2,book_self t⟩ h4 (fun x hx=>hb.same (hlt x (by simp[hx]))) (fun x hx=>hsp x (by simp[hx]))
theorem BJ{f:FuncId}{fn:Func}{s:ChangeSpec}{n rt:Nat}{W:World}{args:Array Value}{ds gs:List (DataW H)}{before:List MemPlace}
 (hl:laidOutB P=true) (Fj:∀t∈fn.params.toList,D8 P n t=true/\P.readableRec t=true/\t<P.types.size) (hres:fn.resultTypes= #[rt]) (Uw:P.underlying rt=some .bool)
 (hv:∀n∈s.vars,∀g t,P.globalNamed n=some g->(P.globals[g]?).map (·.type)=some t->P.readableRec t=true/\t<P.types.size)
 (hfn:∀ds gs:List (DataW H),ds.length=fn.params.toList.length->gs.length=s.vars.length->s.fn H (ds++gs)= {results:=[.lit (.bool true)],args:=ds,vars:=gs})
 (hvs:B0 W fun _=>False) (iM:∀xs,BS P n fn.params.toList xs->Good P f xs (.bool true))
 (hval:∀(j:Nat) t v,fn.params[j]?=some t->args[j]?=some v->Value.okWide P W .any base t v)
 (hW:DataW.Whole enc P fn.params.toList s.vars false W args.toList ds gs before):
 Calls P f args W fun e W'=>∃v,e=.returned v/\s.post enc P fn false true false false W args v W':=by
 have TA:=hW;obtain⟨p,q,hA,hV,hpq,hz,_⟩:=hW;obtain⟨xs,bs,k1,k2,k3⟩:=Gm (fun t ht=>(Fj t ht).1) (fun j t v hj hv=>hval j t v (by simpa using hj) (by simpa using hv)) hA;have hc:=(iM xs k2).2 W (fun _=>0) args.toList bs hvs k1 (fun _ _=>rfl) (fun b hb=>absurd rfl hb) (fun _=>tg _);rw[fW]at hc;refine hc.mono ?_;rintro e W' ⟨v,bs',ts,us,rfl,hb,hr,_⟩;refine⟨v,rfl,?_⟩;obtain rfl:=hr.nC;have hlt:=TA.lt;rw[hpq]at hlt;have IT:∀(b:Nat) (sp:Nat->Bool) (hd:Bool),DataW.TrodAll enc P W' b sp hd fn.resultTypes.toList ((Value.bool true).resultList fn.resultTypes.size) [.lit (.bool true)] []:=by
  intro b sp hd;rw[hres];exact⟨[],[],⟨1,by simp[DataW.trod,Uw,Value.cells]⟩,rfl,rfl⟩
 have PY:∀x∈p,x.block<W.heap.size:=fun x hx=>hlt x (by simp[hx])
 have PZ:∀x∈q,x.block<W.heap.size:=fun x hx=>hlt x (by simp[hx])
 have hargs:∀F6:Nat->Bool,(∀x∈p,F6 x.block=true)->DataW.TrodAll enc P W' 0 F6 true fn.params.toList args.toList ds p:=
  fun F6 hsp=>BL hl hb F6 (fun t ht=>(Fj t ht).2) hA PY hsp
 have hvars:∀F6:Nat->Bool,(∀x∈q,F6 x.block=true)->DataW.TrodVars enc P W' F6 s.vars gs q/\gs.length=s.vars.length:=
  fun F6 hsp=>As hl hb F6 hv hV PZ hsp
 have Rn:=hfn ds gs k3 (hvars (fun _=>true) (fun _ _=>rfl)).2;unfold ChangeSpec.post;refine⟨ds,gs,before,[],p,q,TA,?_,?_,?_,hb.frame _,fun h=>by cases h⟩
 ·rw[Rn];exact IT _ _ _
 ·rw[Rn];exact hargs _ (fun x hx=>by simpa using PY x hx)
 ·rw[Rn];exact(hvars _ (fun x hx=>by simpa using PZ x hx)).1
end
end Go.Cx
namespace Go.Cx
open Go.RowKit
abbrev oY:=List Sh
theorem GN{α:Type}{c:α->aG}{row:oY}(hc:∀r,mE row r->∃x,r=c x):∀ {rows:List aG},(∀r∈rows,mE row r)->∃l:List α,rows=l.map c:=by
 intro rows
 induction rows with
 |nil=>intro _;exact⟨[],rfl⟩
 |cons r rows ih=>
  intro h;obtain⟨x,rfl⟩:=hc r (h r (by simp));obtain⟨l,rfl⟩:=ih (fun s hs=>h s (by simp[hs]));exact⟨x::l,rfl⟩
theorem KV{α:Type}{c:α->aG}{row:oY}(hc:∀r,mE row r->∃x,r=c x){d:D}(h:B4 (.sl row) d):∃l:List α,d=.sl (l.map c):=by
 cases h with
 |sl _ rows hr=>
  obtain⟨l,rfl⟩:=GN hc hr;exact⟨l,rfl⟩
theorem Hx{k:IntKind}{d:D}(h:B4 (.int k) d):∃n,d=.int k n:=by cases h;exact⟨_,rfl⟩
theorem EP{s:Sh}{ss:oY}{ds:aG}(h:mE (s::ss) ds):∃d r,ds=d::r/\B4 s d/\mE ss r:=by
 cases h with|cons _ _ d r h1 h2=>exact⟨d,r,rfl,h1,h2⟩
theorem GO{ds:aG}(h:mE [] ds):ds=[]:=by cases h;rfl
theorem KW(r:aG)(h:mE [.int .u8] r):∃s,r=yx s:=by
 obtain⟨_,_,rfl,h1,h⟩:=EP h;cases GO h;obtain⟨s,rfl⟩:=Hx h1;exact⟨s,rfl⟩
section
variable{P:Program}{n:Nat}{t:TypeId}{d:D}
theorem Hg.cell{sh:Sh}(ha:pH P t=some false)(hf:qn P n t=some [sh])(h:Hg P n t d):B4 sh d:=by
 rcases h with⟨h1,_⟩|⟨_,Vs,h1,h2⟩
 ·rw[ha]at h1;cases h1
 ·rw[hf]at h1;cases h1;exact h2
end
end Go.Cx
namespace Go.Cx
open Go.ChangeShapes Go.WideShapes Go.ChangeAt Go.RowKit
def Sf(P:Program)(f:FuncId)(fn:Func)(s:ChangeSpec)(c:OpenClaim):Bool:=(c.wf (OpenSpec.ofChange s)&&laidOutB P&&mapsRowed P)
def Sg(P:Program)(f:FuncId)(fn:Func)(s:ChangeSpec)(c:OpenClaim):Bool:=(fn.params.all (P.readableRec ·)&&namedTie P c.named s.vars)&&((c.stops==[])&&(P.stops==[])&&(c.knobs==[])&&(P.stopKnobs==[]))&&((c.maps==(fn.params.toList++s.plain.varTypes P).any (P.mapsRec ·))&&(c.ifaces==(fn.params.toList++s.plain.varTypes P).any (P.ifacesRec ·))&&(c.mapsOut==P.mapsAmong fn.resultTypes.toList))&&((c.loops==(fn.params.toList++s.plain.varTypes P).any (P.loopsFrom ·))&&(c.wideKeys==(fn.params.toList++s.plain.varTypes P++fn.resultTypes.toList).any (P.wideKeysFrom ·)))&&(s.vars.all (P.varReadable ·)&&fn.resultTypes.all (fun t=>P.readableRec t&&decide (t<P.types.size))&&(c.ifacesOut==fn.resultTypes.toList.any (P.ifacesRec ·))&&(c.loopsOut==fn.resultTypes.toList.any (P.loopsFrom ·)))&&((c.kinds==(if c.domain.isEmpty then []else fn.params.toList.map fun t=>match P.underlying t with|some (.int k)=>some k|_=>none))&&(c.pinned==c.pinnedBy))&&((c.veiled==(fn.params.toList++s.plain.varTypes P++fn.resultTypes.toList).any (P.veiledRec ·))&&c.veiledFits P fn.params.toList (fn.params.toList++s.plain.varTypes P++fn.resultTypes.toList))
def Si(P:Program)(f:FuncId)(fn:Func)(s:ChangeSpec)(c:OpenClaim):Bool:=(c.inPlace==P.inPlace f)&&(c.unfollowed==P.unfollowed f)&&(c.recurses==P.recurses f)&&(c.named==P.varsNamed f)
def Sj(P:Program)(f:FuncId)(fn:Func)(s:ChangeSpec)(c:OpenClaim):Bool:=(c.plainKeys==P.plainKeys)&&(c.shortTexts.isNone&&P.stopsHeard)&&P.mayEnter&&(c.lifted==P.liftsFinal)&&(P.make==some c.make)
theorem Ge{P:Program}{f:FuncId}{fn:Func}{s:ChangeSpec}{c:OpenClaim}(h0:Sf P f fn s c=true)(h1:Sg P f fn s c=true)(h2:Si P f fn s c=true)(h3:Sj P f fn s c=true):joinedFacts P f fn s c=true:=by
 unfold Sf at h0;unfold Sg at h1;unfold Si at h2;unfold Sj at h3;unfold joinedFacts;simp only[aM]at h0 h1 h2 h3⊢;obtain⟨⟨VJ,VK⟩,VL⟩:=h0;obtain⟨⟨⟨⟨⟨⟨⟨VM,VN⟩,⟨⟨⟨VO,VP⟩,VQ⟩,VR⟩⟩,⟨⟨VW,VX⟩,VY⟩⟩,⟨VZ,Va⟩⟩,⟨⟨⟨Vb,Vc⟩,Vd⟩,Ve⟩⟩,⟨Tn,To⟩⟩,⟨Tp,Tq⟩⟩:=h1;obtain⟨⟨⟨VS,VT⟩,VU⟩,VV⟩:=h2;obtain⟨⟨⟨⟨Th,⟨Ti,Tj⟩⟩,Tk⟩,Tl⟩,Tm⟩:=h3
 and_intros<;>assumption
end Go.Cx

/- Adding and removing facts: the program's and the reference's functions in plain words. No condition but bounds. -/
import Derived.Test.YtfankinmlfnncaaGreatDoorPFnChangesG5
import Derived.Test.YtfankinmlfnncaaGreatDoorPFnChangesG2
import Derived.Test.YtfankinmlfnncaaGreatDoorPFnChangesG3
import Derived.ProofKit
set_option linter.unusedVariables false
set_option linter.unusedSimpArgs false
namespace Go.Cx
open Go.RowKit Go.Proofs Tryz
theorem aBJ(a:aJ)(f:aD)(K:Bool->aJ->Option aJ)(hf:f.args.length<=1099511627776):∀(rest:aJ) (i:Nat) (v:Bool) (w:aJ),(∀x∈rest,x.args.length<=1099511627776)->w.length+2*rest.length<=1048576->
 (v=true->eP a f K rest i v w=K true (w++rest))/\
 (v=false->(eP a f K rest i v w=K true (w++xJ f rest))\/(eP a f K rest i v w=K false (w++rest)/\xJ f rest=rest++[f])):=by
 intro rest
 induction rest with
 |nil=>intro i v w _ _;exact⟨fun h=>by subst h;simp[eP],fun h=>by subst h;exact .inr ⟨by simp[eP],rfl⟩⟩
 |cons x xs ih=>
  intro i v w hs hl;simp only[aQ]at hl;have hx:=hs x (by simp);have hs':∀y∈xs,y.args.length<=1099511627776:=fun y hy=>hs y (by simp[hy])
  have cx:=Nd x hx;have cf:=Nd f hf;have nx:=fun w':aJ=>fun h:w'.length<1099511627776=>gF (w:=w') (c:=aD.c) (y:=[D.str x.rel,D.sl (x.args.map tx)]) (b:=40) h (by decide)
  have nf:=fun w':aJ=>fun h:w'.length<1099511627776=>gF (w:=w') (c:=aD.c) (y:=[D.str f.rel,D.sl (f.args.map tx)]) (b:=40) h (by decide)
  constructor
  ·intro h;subst h;rw[eP,bU,aL,cx,aA,nx w (by omega),aF,(ih (i+1) true (w++[x]) hs' (by simp;omega)).1 rfl];simp
  ·intro h;subst h;rw[eP,bt,aF,a1V,aA];by_cases hgt:oI x f>0
   ·left
    have e2:room (((w.map aD.c)++[[D.str f.rel,D.sl (f.args.map tx)]]).length+[[D.str x.rel,D.sl (x.args.map tx)]].length) 40=true:=by
     have:=nx (w++[f]) (by simp;omega);rw[bI]at this;exact this
    rw[au hgt,aF,cf,aA,nf w (by omega),aF,cx,aA,e2,aF];rw[(ih (i+1) true (w++[f]++[x]) hs' (by simp;omega)).1 rfl,xJ,bP hgt];simp
   ·rw[ax hgt,aL,cx,aA,nx w (by omega),aF];rw[xJ,bE hgt];rcases(ih (i+1) false (w++[x]) hs' (by simp;omega)).2 rfl with q|⟨q1,q2⟩
    ·left;rw[q];simp
    ·right;rw[q1,q2];simp
theorem aBI(l:aJ)(f:aD)(hf:f.args.length<=1099511627776)(hl:∀x∈l,x.args.length<=1099511627776)(hn:l.length<=1000):wI l f=some (xJ f l):=by
 unfold wI;rcases(aBJ l f _ hf l 0 false [] hl (by simp;omega)).2 rfl with q|⟨q1,q2⟩
 ·rw[q];rfl
 ·rw[q1,q2];show(bif !false then _ else _)=_;rw[bt,aF,Nd f hf,aA,eM,gF (w:=l) (c:=aD.c) (y:=[D.str f.rel,D.sl (f.args.map tx)]) (by omega) (by decide),aF]
theorem aB4(l:aJ)(f:aD)(hl:sC aD.wt l<=1048576)(hf:f.wt<=1048576):wE l f=some (IX l f):=by
 have hm:∀x∈l,x.args.length<=1048576:=fun x hx=>by have:=aD.dZ (n:=1048576) (p:=x) (by have:=qR (w:=aD.wt) hx;omega);omega
 have hlen:=tJ aD.wt l;have cp:=wO l (by omega) hm;unfold wE IX;rw[a1Q l hl,aA];cases h1:fJ l with
 |false=>rw[bt,aF,cp,aA,bE (by simp)]
 |true=>
  have h24:=qF h1;rw[bU,aL,a1a f hf,aA];cases h2:pK f with
  |false=>rw[bt,aF,cp,aA,bE (by simp)]
  |true=>
   rw[bU,aL,WQ,aA,Bk];by_cases h3:f∈l
   ·rw[au h3,aF,cp,aA,bE (by simp[h3])]
   ·rw[ax h3,aL,aj];by_cases h4:l.length=24
    ·rw[au (by omega),aF,cp,aA,bE (by simp[h4])]
    ·rw[ax (by omega),aL,aBI l f (by have:=aD.dZ hf;omega) (fun x hx=>by have:=hm x hx;omega) (by omega),aA,bP ⟨rfl,rfl,h3,h4⟩]
theorem a7U(a:aJ)(f:aD)(K:aJ->Option aJ):∀(rest:aJ) (i:Nat) (w:aJ),(∀x∈rest,x.args.length<=1048576)->w.length+rest.length<=1048576->gr a f K rest i w=K (w++BX f rest)
 | [],i,w,_,_=>by rw[gr];simp[BX]
 |x::xs,i,w,hs,hl=>by
  simp only[aQ]at hl;have ih:=a7U a f K xs (i+1);unfold BX at*;rw[gr,Wu,aA];by_cases e:x=f
  ·rw[au e,bU,aL,gy (by simp[e]),ih w (fun y hy=>hs y (by simp[hy])) (by omega)]
  ·rw[ax e,bt,aF,zv x (by have:=hs x (by simp);omega),aA,gF (w:=w) (c:=aD.c) (y:=[D.str x.rel,D.sl (x.args.map tx)]) (by omega) (by decide),aF,gz (by simp[e]),ih (w++[x]) (fun y hy=>hs y (by simp[hy])) (by simp;omega)];simp
theorem aD0(l:aJ)(f:aD)(hl:sC aD.wt l<=1048576):su l f=some (Kv l f):=by
 have hm:∀x∈l,x.args.length<=1048576:=fun x hx=>by have:=aD.dZ (n:=1048576) (p:=x) (by have:=qR (w:=aD.wt) hx;omega);omega
 have hlen:=tJ aD.wt l;have cp:=zJ l (by omega) hm;unfold su Kv;rw[a2g l hl,aA];cases h1:fJ l with
 |false=>rw[bt,aF,cp,aA,bE (by simp)]
 |true=>
  have hd:decide (findF f l 0<0)= !decide (f∈l):=by
   rw[<-Bk f l 0,<-decide_not]
   congr 1
   rw[wB];omega
  rw[bU,aL,Wq,aA,hd];by_cases h3:f∈l
  ·rw[au h3,bU,aL,bP ⟨rfl,h3⟩];unfold wh;rw[a7U l f _ l 0 [] hm (by simp;omega)];rfl
  ·rw[ax h3,bt,aF,cp,aA,bE (by simp[h3])]
theorem OC{f:aD}:∀ {l:aJ} (i:Nat),f∈l->∃pre post,l=pre++f::post/\f∉pre/\findF f l i=((i+pre.length:Nat):Int)
 | [],_,h=>by cases h
 |x::xs,i,h=>by
  by_cases e:x=f
  ·subst e;exact⟨[],xs,rfl,by simp,by rw[findF,bP rfl];rfl⟩
  ·have hx:f∈xs:=by
    rcases bV.1 h with h|h
    ·exact absurd h.symm e
    ·exact h
   obtain⟨pre,post,h1,h2,h3⟩:=OC (i+1) hx;refine⟨x::pre,post,by rw[h1];rfl,?_,?_⟩
   ·simp only[bV,Gi];exact⟨fun h=>e h.symm,h2⟩
   ·rw[findF,bE e,h3,aQ,show i+1+pre.length=i+(pre.length+1)by omega]
theorem Na{f:aD}:∀ {l:aJ},f∉l->BX f l=l
 | [],_=>rfl
 |x::xs,h=>by
  simp only[bV,Gi]at h;have ih:=Na (l:=xs) h.2;unfold BX at*;rw[gz (by simp only[kw,qE];exact fun e=>h.1 e.symm),ih]
theorem a0r{f:aD}{pre post:aJ}(h1:f∉pre)(h2:f∉post):BX f (pre++f::post)=pre++post:=by
 have e1:=Na h1;have e2:=Na h2;unfold BX at*;rw[Br,gy (by simp),e1,e2]
theorem aBM(l:aJ)(f:aD)(hl:sC aD.wt l<=1048576):sZ l f=some (Kv l f):=by
 have hm:∀x∈l,x.args.length<=1048576:=fun x hx=>by have:=aD.dZ (n:=1048576) (p:=x) (by have:=qR (w:=aD.wt) hx;omega);omega
 have hlen:=tJ aD.wt l;have cp:=wO l (by omega) hm;unfold sZ Kv;rw[WQ,aA,a1Q l hl,aA];cases h1:fJ l with
 |false=>rw[bt,aF,cp,aA,bE (by simp)]
 |true=>
  have hd:decide (findF f l 0<0)= !decide (f∈l):=by
   rw[<-Bk f l 0,<-decide_not]
   congr 1
   rw[wB];omega
  rw[bU,aL,hd];by_cases h3:f∈l
  ·rw[au h3,bU,aL,bP ⟨rfl,h3⟩];obtain⟨pre,post,e1,e2,e3⟩:=OC 0 h3;have hnd:=Gl h1;have e4:f∉post:=by
    rw[e1,cC]at hnd;exact(gw.1 hnd.2.1).1
   rw[cY]at e3;have hl1:l.length=pre.length+(post.length+1):=by rw[e1];simp
   have hw:IntKind.i64.wrap (findF f l 0+1)=((pre.length+1:Nat):Int):=by rw[e3];exact Fi (by omega)
   have p1:yF ((l.map aD.c).length) none (some (D.int .i64 (findF f l 0)))=some (0,pre.length):=by
    rw[aCX (by omega) (by rw[aj];omega),e3];rfl
   have p2:yF ((l.map aD.c).length) (some (D.int .i64 (IntKind.i64.wrap (findF f l 0+1)))) none=some (pre.length+1,l.length):=by
    rw[hw];unfold yF;rw[aj];simp only[bP (show 0<=((pre.length+1:Nat):Int)/\((pre.length+1:Nat):Int).toNat<=l.length from⟨by omega,by omega⟩)];rfl
   have t1:(l.take pre.length).drop 0=pre:=by rw[e1];simp
   have t2:(l.take l.length).drop (pre.length+1)=post:=by
    rw[zg,e1,List.drop_append,nK (by omega),show pre.length+1-pre.length=1 by omega];rfl
   rw[p1,aA];dsimp only;rw[t1,wO pre (by omega) (fun x hx=>hm x (by rw[e1];simp[hx])),aA,p2,aA];dsimp only;rw[t2,wO post (by omega) (fun x hx=>hm x (by rw[e1];simp[hx])),aA,Ff (by simp;omega) (by decide),aF];have e5:BX f l=pre++post:=by rw[e1];exact a0r e2 e4
   rw[e5]
  ·rw[ax h3,bt,aF,cp,aA,bE (by simp[h3])]
structure BB(n:aH):Prop where
 rules:sC aO.wt n.rules<=1048576
 facts:sC aD.wt n.facts<=1048576
 ends:n.ends.length<=1048576
 bG:n.bG.length<=1048576
 cX:∀a∈n.bG,a.shape.wt<=1048576/\FS a.facts
 nodes:n.nodes.length<=1048576
 node:∀x∈n.nodes,x.cond.wt<=1048576/\x.tokens.length<=1048576/\∀t∈x.tokens,TK 1048576 t
theorem FS.args{fs:aJ}(h:FS fs):∀f∈fs,f.args.length<=1048576:=fun f hf=>aD.dZ (h.2 f hf)
theorem a5d(l:ar)(hl:l.length<=1048576)(h:∀t∈l,TK 1048576 t):kr l=some l:=by
 unfold kr;rw[GW (c:=aV.c) (b:=48) (f:=tV) (g:=fun x=>x) (L:=kK l _) (k:=_) (by decide) (fun _ _=>rfl) (fun _ _ _ _=>rfl) _ _ _ (fun t ht=>a2k t (h t ht)) (by simp;omega)];simp
theorem a50(l:ar)(hl:l.length<=1048576)(h:∀t∈l,TK 1048576 t):nR l=some l:=by
 unfold nR;rw[GW (c:=aV.c) (b:=48) (f:=fun t:aV=>(cm t.facts).bind fun y=>(j7 t.bind).bind fun z=>some (⟨y,z⟩:aV)) (g:=fun x=>x) (L:=jX l _) (k:=_) (by decide) (fun _ _=>rfl) (fun x xs i w=>by
  rw[jX];cases cm x.facts with
  |none=>rfl
  |some a=>cases j7 x.bind<;>rfl) _ _ _ (fun t ht=>by
  have hk:=h t ht;rw[wO t.facts hk.1 (fun f hf=>aD.dZ (hk.2.1 f hf)),aA,T7 t.bind (by have:=hk.2.2.1;omega)];rfl) (by simp;omega)]
 simp
theorem aCr(l:bM)(h:l.length<=1048576):xX l=some l:=by
 unfold xX;rw[Ff (by simp;omega) (by decide),aF,eM]
theorem aBK(l:bM)(h:l.length<=1048576):vE l=some l:=by
 unfold vE;rw[Ff (by simp;omega) (by decide),aF,eM]
theorem Ql(n:aH)(h:BB n):pP n=some n:=by
 have hF:=FS.Fe h.facts;have h1:=h.bG;have h2:=h.nodes;unfold pP;rw[VI n.rules h.rules,aA,aCr n.ends h.ends,aA,zJ n.facts hF.1 hF.args,aA];rw[GW (c:=ai.c) (b:=64) (f:=fun a:ai=>(fP a.shape).bind fun y=>(dO a.facts).bind fun z=>some (⟨y,z⟩:ai)) (g:=fun x=>x) (L:=pF n _ _ _ _) (k:=_) (by decide) (fun _ _=>rfl) (fun x xs i w=>by
  rw[pF];cases fP x.shape with
  |none=>rfl
  |some a=>cases dO x.facts<;>rfl) _ _ _ (fun a ha=>by
  obtain⟨g1,g2⟩:=h.cX a ha;rw[a2l a.shape (by have:=aD.dZ g1;omega),aA,zJ a.facts g2.1 g2.args];rfl) (by simp;omega)]
 rw[GW (c:=Node.c) (b:=120) (f:=fun x:Node=>(lN x.cond).bind fun y=>(kr x.tokens).bind fun z=>some (⟨x.parent,y,x.cX,z⟩:Node)) (g:=fun x=>x) (L:=pG n _ _ _ _ _) (k:=_) (by decide) (fun _ _=>rfl) (fun x xs i w=>by
  rw[pG];cases lN x.cond with
  |none=>rfl
  |some a=>cases kr x.tokens<;>rfl) _ _ _ (fun x hx=>by
  obtain⟨g1,g2,g3⟩:=h.node x hx;rw[TZ x.cond (by have:=aD.dZ (aU.gV g1);omega),aA,a5d x.tokens g2 g3];rfl) (by simp;omega)]
 simp
theorem QB(n:aH)(h:BB n):iZ n=some n:=by
 have hF:=FS.Fe h.facts;have h1:=h.bG;have h2:=h.nodes;unfold iZ;rw[Um n.rules h.rules,aA,aBK n.ends h.ends,aA,wO n.facts hF.1 hF.args,aA];rw[GW (c:=ai.c) (b:=64) (f:=fun a:ai=>(ew a.shape).bind fun y=>(cm a.facts).bind fun z=>some (⟨y,z⟩:ai)) (g:=fun x=>x) (L:=jD n _ _ _ _) (k:=_) (by decide) (fun _ _=>rfl) (fun x xs i w=>by
  rw[jD];cases ew x.shape with
  |none=>rfl
  |some a=>cases cm x.facts<;>rfl) _ _ _ (fun a ha=>by
  obtain⟨g1,g2⟩:=h.cX a ha;rw[a1Z a.shape (by have:=aD.dZ g1;omega),aA,wO a.facts g2.1 g2.args];rfl) (by simp;omega)]
 rw[GW (c:=Node.c) (b:=120) (f:=fun x:Node=>(gG x.cond).bind fun y=>(nR x.tokens).bind fun z=>some (⟨x.parent,y,x.cX,z⟩:Node)) (g:=fun x=>x) (L:=jE n _ _ _ _ _) (k:=_) (by decide) (fun _ _=>rfl) (fun x xs i w=>by
  rw[jE];cases gG x.cond with
  |none=>rfl
  |some a=>cases nR x.tokens<;>rfl) _ _ _ (fun x hx=>by
  obtain⟨g1,g2,g3⟩:=h.node x hx;rw[T6 x.cond (by have:=aD.dZ (aU.gV g1);omega),aA,a50 x.tokens g2 g3];rfl) (by simp;omega)]
 simp
theorem I1{n:aH}(h:Gd n=true):qT n.rules=true/\fJ n.facts=true/\0<=n.cP/\n=tG n.rules n.facts n.cP:=by
 unfold Gd Ou tG at h;simp only[aS,bH]at h;obtain⟨b1,b2,b0,_,b3,_,b5,b4⟩:=h;refine⟨b1,b2,b0,?_⟩;unfold tG;cases n;simp only at b3 b4 b5⊢;rw[<-b3,<-b4,<-b5]
theorem Y1{rs:az}{fs:aJ}{t:Int}(h1:qT rs=true)(h2:fJ fs=true):Gd (tG rs fs t)=decide (0<=t):=by
 unfold Gd Ou tG;simp[h1,h2]
theorem MG{f:aD}(h:pK f=true):f.wt<=100:=by
 unfold pK at h;simp only[aS,bH,b8]at h;obtain⟨h1,h2,h3⟩:=h;have a1:=S4 h2;have a2:=PN f.args (fun x hx=>by have:=Bg (h1 x hx);omega);unfold aD.wt tw;unfold tw at a2;omega
theorem Jv{fs:aJ}(h:fJ fs=true):∀f∈fs,pK f=true:=by
 unfold fJ at h;simp only[aS]at h;exact O7 h.1
theorem SJ{G:Type}{w:G->Nat}{B:Nat}:∀(l:List G),(∀x∈l,w x<=B)->sC w l<=(B+1)*l.length
 | [],_=>by simp[sC]
 |x::l,h=>by
  have h1:=SJ l fun y hy=>h y (by simp[hy])
  have h2:=h x (by simp);rw[py,aQ,Nat.mul_add];omega
theorem yo{fs:aJ}(h:fJ fs=true):sC aD.wt fs<=2424:=by
 have h1:=SJ (w:=aD.wt) (B:=100) fs fun f hf=>MG (Jv h f hf)
 have h2:=qF h;have:(100+1)*fs.length<=(100+1)*24:=dY _ h2;omega
theorem vX(ns:bN)(fs:aJ)(i:Nat):(fQ ns fs)[i]?=(ns[i]?).map fun x=>⟨x.parent,x.cond,x.cX,rS (eb ns (dS i)) fs⟩:=by
 unfold fQ;rw[IL,cY]
theorem zk(ns:bN)(fs:aJ):(fQ ns fs).length=ns.length:=Z0 ns fs ns 0
theorem xS{rs:az}(h:qT rs=true):rs.length<=6:=by unfold qT at h;simp only[aS,bH]at h;omega
theorem Qq{rs:az}(tk:ar)(h:qT rs=true):(cZ tk rs).1.1.length<=24:=by
 have h6:=xS h;have main:∀(l:az) (z:(bQ×bN)×bM),(∀r∈l,fR r=true)->(l.foldl Jp z).1.1.length<=z.1.1.length+4*l.length:=by
  intro l
  induction l with
  |nil=>intro z _;exact br _
  |cons r l ih=>
   intro z hl;have h1:=ih (Jp z r) (fun x hx=>hl x (by simp[hx]));have h2:=(IU (gE r) (z.1,0)).1;have h3:=zq (hl r (by simp));have h4:(Jp z r).1.1.length=((gE r).foldl IT (z.1,0)).1.1.length:=rfl;rw[cy,aQ];dsimp only at h2;omega
 have:=main rs (([],[root tk]),[]) (oP h);unfold cZ;simp only[cE]at this;omega
theorem EO{rs:az}{fs:aJ}(h1:qT rs=true)(h2:fJ fs=true){i:Nat}{x:Node}(hx:(fQ (cZ [] rs).1.2 fs)[i]?=some x):x.cond.wt<=1048576/\x.tokens.length<=390625/\(∀t∈x.tokens,TK 4 t)/\KD x.tokens:=by
 have hv:=oP h1;have hok:=Ml [] hv (xS h1);rw[vX]at hx;obtain⟨y,hy,rfl⟩:=Eh.1 hx;have Sp:=FS.Fe (by have:=yo h2;omega:sC aD.wt fs<=1048576);have Ub:∀c∈eb (cZ [] rs).1.2 (dS i),c.wt<=1048576:=by
  intro c hc;obtain⟨z,hz,e⟩:=Me hc;rw[<-e];exact hok.wt z hz
 refine⟨hok.wt y (aE hy),Qv (hok.path i) (qF h2),fun t ht=>?_,YS (Gl h2)⟩;exact(Tl Sp _ [⟨[],[]⟩] 0 Ub TP t ht).le (by have:=hok.path i;omega)
theorem TL{rs:az}{fs:aJ}(t:Int)(h1:qT rs=true)(h2:fJ fs=true)(hr:sC aO.wt rs<=1048576):BB (tG rs fs t):=by
 have hv:=oP h1;have h6:=xS h1;have hw:=yo h2;have hl:=Cb [] hv h6;refine⟨hr,by show sC aD.wt fs<=1048576;omega,?_,?_,?_,?_,?_⟩
 ·show(cZ [] rs).2.length<=1048576;rw[(vZ [] rs).2.1];omega
 ·show(gN (cZ [] rs).1.1 fs).length<=1048576;unfold gN;rw[aj];have:=Qq [] h1;omega
 ·intro a ha;obtain⟨y,hy,rfl⟩:=cJ.1 (show a∈(cZ [] rs).1.1.map _ from ha);refine⟨(yX [] hv y hy).1,?_,fun f hf=>?_⟩
  ·have:=lE (fun f=>(kM y.shape f []).2) fs;have:=qF h2;show(sB y.shape [] fs).length<=1048576;unfold sB;omega
  ·have:=MG (Jv h2 f (gu.1 hf).1);omega
 ·show(fQ (cZ [] rs).1.2 fs).length<=1048576;rw[zk];omega
 ·intro x hx;obtain⟨i,hi⟩:=iN (show x∈fQ (cZ [] rs).1.2 fs from hx);obtain⟨g1,g2,g3,_⟩:=EO h1 h2 hi;exact⟨g1,by omega,fun t ht=>(g3 t ht).le (by omega)⟩
def XN(now old:ar):Nat:=now.length-MN now old
theorem QH(now old:ar):MN now old<=now.length:=lE _ _
theorem QG(t:aV)(l old:ar):MN (t::l) old=(bif RH old t then 1 else 0)+MN l old:=by
 unfold MN;cases h:RH old t with
 |true=>rw[gz (by rw[h]),aQ,aF];omega
 |false=>rw[gy (by simp[h]),aL];omega
def stepT(al:bQ)(f:aD)(x:Node)(now old:ar)(t:Int):Int:=
 if x.cX<0 then IntKind.i64.wrap (t+((XN now old:Nat):Int))else match fy al x.cX with
  |none=>t
  |some y=>bif (kM y.shape f []).2 then IntKind.i64.wrap (IntKind.i64.wrap (t+IntKind.i64.wrap (((XN now old:Nat):Int)*((y.facts.length:Nat):Int)))+((MN now old:Nat):Int))else IntKind.i64.wrap (t+IntKind.i64.wrap (((XN now old:Nat):Int)*((y.facts.length:Nat):Int)))
def Cc(ns:bN)(p:Int):ar:=match fy ns p with|some x=>x.tokens|none=>[]
def trN(N0 N1:bN)(al:bQ)(f:aD):bN->Int->Int
 | [],t=>t
 |x::xs,t=>trN N0 N1 al f xs (stepT al f x (Cc N1 x.parent) (Cc N0 x.parent) t)
theorem YK(a b:ar)(i1:Nat)(x:aV)(k:Int->Option (Int×Int)):∀(l:ar) (i v:Nat),v+l.length<=1099511627000->n9 a b i1 x k l i (v:Int)=k ((v+(YM x l).length:Nat):Int)
 | [],i,v,_=>rfl
 |y::l,i,v,h=>by
  simp only[aQ]at h;have ih:=YK a b i1 x k l (i+1);unfold YM at*;rw[n9,aCj,aA];by_cases e:x.facts=y.facts
  ·rw[show((cmpL oI x.facts y.facts:Int)==0)=true by simp[IK.2 e],aF,Fi (by omega),ih (v+1) (by omega),gz (by simp[e]),aQ]
   congr 2;omega
  ·rw[show((cmpL oI x.facts y.facts:Int)==0)=false by
    have:cmpL oI x.facts y.facts≠0:=fun h=>e (IK.1 h)
    simp[this],aL,ih v (by omega),gy (by simp[e])]
theorem Tc(a b:ar)(k:Int->Option (Int×Int))(hK:KD b)(hb:b.length<=1048576):∀(l:ar) (i v:Nat),v+l.length<=1099500000000->pJ a b k l i (v:Int)=k ((v+MN l b:Nat):Int)
 | [],i,v,_=>rfl
 |x::l,i,v,h=>by
  simp only[aQ]at h;have hx:=S8 (t:=x) hK;rw[pJ,sE (by omega),aF,YK a b i x _ b 0 v (by omega),hx,QG];cases RH b x with
  |true=>rw[aF,Tc a b k hK hb l (i+1) (v+1) (by omega)];congr 2;omega
  |false=>rw[aL,Tc a b k hK hb l (i+1) (v+0) (by omega)];congr 2;omega
theorem aCs(now old:ar)(hK:KD old)(h1:now.length<=1048576)(h2:old.length<=1048576):xd now old=some (((MN now old:Nat):Int),((XN now old:Nat):Int)):=by
 have hle:=QH now old;unfold xd;have:=Tc now old (fun(wU:Int)=>(some (wU,IntKind.i64.wrap (((now.map aV.c).length:Int)-wU)))) hK h2 now 0 0 (by omega);rw[show(0:Int)=((0:Nat):Int)from rfl,this,cY,aj,eC (qu.i64.2 (by omega))];unfold XN
 congr 2
 omega
theorem aBE(l:ar)(t:aV):vG l t=some (RH l t):=by
 unfold vG;have:∀(r:ar) (i:Nat),lz l t (some false) r i=some (RH r t):=by
  intro r
  induction r with
  |nil=>intro i;rfl
  |cons x r ih=>
   intro i;rw[lz,aB7,aA,ih];unfold RH;rw[tL];by_cases e:x.facts=t.facts
   ·rw[show((cmpL oI x.facts t.facts:Int)==0)=true by simp[IK.2 e],aF,au e,Bool.true_or]
   ·rw[show((cmpL oI x.facts t.facts:Int)==0)=false by
     have:cmpL oI x.facts t.facts≠0:=fun h=>e (IK.1 h)
     simp[this],aL,ax e,r9]
 exact this l 0
theorem a1U(n:aH)(f:aD)(y3:aH×Unit)(u:Int)(i1:Nat)(x xx y:Node)(k:Int->Int->Option aH)(hy:fy n.nodes x.parent=some y):∀(l:ar) (i a b:Nat),a+l.length<=1099511627000->b+l.length<=1099511627000->
 l6 n f y3 u i1 x xx k l i (a:Int) (b:Int)=k ((a+MN l y.tokens:Nat):Int) ((b+XN l y.tokens:Nat):Int)
 | [],i,a,b,_,_=>rfl
 |t::l,i,a,b,h1,h2=>by
  simp only[aQ]at h1 h2;have ih:=a1U n f y3 u i1 x xx y k hy l (i+1);have hle:=QH l y.tokens;rw[l6,hy,aA,aBE,aA];unfold XN at*;rw[QG,aQ];cases RH y.tokens t with
  |true=>
   rw[aF,aF,Fi (by omega),ih (a+1) b (by omega) (by omega)]
   congr 2<;>omega
  |false=>
   rw[aL,aL,Fi (by omega),ih a (b+1) (by omega) (by omega)]
   congr 2<;>omega
def aEP(N0 N1:bN)(al:bQ)(x:Node):Prop:=(∃p0 p1,fy N0 x.parent=some p0/\fy N1 x.parent=some p1/\p1.tokens.length<=1048576)/\(x.cX<0\/∃y,fy al x.cX=some y/\y.shape.wt<=1048576)
theorem a1T(n:aH)(f:aD)(y3:aH×Unit)(k:Int->Option aH)(hf:f.wt<=1048576):∀(l:bN) (i:Nat) (u:Int),1<=i->(∀x∈l,aEP n.nodes y3.1.nodes y3.1.bG x)->gI n f y3 k l i u=k (trN n.nodes y3.1.nodes y3.1.bG f l u)
 | [],_,_,_,_=>rfl
 |x::l,i,u,hi,hU=>by
  have ih:=a1T n f y3 k hf l (i+1);have hU':=fun z (hz:z∈l)=>hU z (by simp[hz])
  obtain⟨⟨p0,p1,e0,e1,hl⟩,ha⟩:=hU x (by simp);rw[gI,show(((i:Nat):Int)==0)=false by simp;omega,aL,e1,aA,sE (by omega),aF];rw[show(0:Int)=((0:Nat):Int)from rfl,a1U n f y3 u i x p1 p0 _ e0 p1.tokens 0 0 0 (by omega) (by omega),cY,cY,trN];unfold stepT;rw[show Cc y3.1.nodes x.parent=p1.tokens by unfold Cc;rw[e1],show Cc n.nodes x.parent=p0.tokens by unfold Cc;rw[e0]];by_cases hal:x.cX<0
  ·rw[au (by simpa using hal),aF,bP hal,ih _ (by omega) hU']
  ·rw[ax (by simpa using hal),aL,bE hal];rcases ha with ha|⟨y,hy,hyw⟩
   ·exact absurd ha hal
   ·rw[hy,aA,a8m y.shape f [] hyw hf PB.nil,aA,aj];dsimp only;cases(kM y.shape f []).2 with
    |true=>rw[aF,aF,ih _ (by omega) hU']
    |false=>rw[aL,aL,ih _ (by omega) hU']
theorem BR{G:Type}(l:List G)(i:Nat):fy l (dS i)=l[i]?:=by
 unfold fy dS;rw[au (by omega),aF];rfl
theorem a2A{rs:az}{fs0 fs:aJ}(h1:qT rs=true)(h0:fJ fs0=true)(h2:fJ fs=true){i:Nat}(hi:1<=i){x:Node}(hx:(cZ [] rs).1.2[i]?=some x):
 ∃(p:Nat) (q:Node),p<i/\x.parent=dS p/\(cZ [] rs).1.2[p]?=some q/\(fQ (cZ [] rs).1.2 fs0)[p]?=some ⟨q.parent,q.cond,q.cX,rS (eb (cZ [] rs).1.2 (dS p)) fs0⟩/\(fQ (cZ [] rs).1.2 fs)[p]?=some ⟨q.parent,q.cond,q.cX,rS (eb (cZ [] rs).1.2 (dS p)) fs⟩/\
  x.cond.pat.args.length<=3/\x.cond.wt<=1048576/\((x.cX<0/\x.cond.kind≠1/\x.cond.kind≠2)\/∃(a:Nat) (y:ai),x.cX=dS a/\(cZ [] rs).1.1[a]?=some y/\y.shape=vm x.cond.pat/\y.shape.wt<=1048576):=by
 have hv:=oP h1;obtain⟨p,hp,hpi⟩:=(vZ [] rs).1.below i x hi hx;have hil:=(aN.1 hx).1;have hq:=av (show p<(cZ [] rs).1.2.length by omega);obtain⟨r,hr,hc⟩:=a3N hi hx;have hal:=a5y [] rs x (aE hx);refine⟨p,_,hpi,hp,hq,by rw[vX,hq];rfl,by rw[vX,hq];rfl,(OQ (hv r hr) _ hc).2.1,I9 (hv r hr) _ hc,?_⟩;by_cases hk:x.cond.kind=1\/x.cond.kind=2
 ·obtain⟨a,e1,y,e2,e3⟩:=hal.1 hk;exact .inr ⟨a,y,e1,e2,e3,(yX [] hv y (aE e2)).1⟩
 ·exact .inl ⟨by rw[hal.2 hk];decide,fun e=>hk (.inl e),fun e=>hk (.inr e)⟩
def Vo(n:aH)(fs:aJ)(f:aD):aH:=tG n.rules fs (trN n.nodes (fQ (cZ [] n.rules).1.2 fs) (gN (cZ [] n.rules).1.1 fs) f ((fQ (cZ [] n.rules).1.2 fs).drop 1) n.cP)
theorem aB5(n:aH)(fs:aJ)(f:aD)(hn:Gd n=true)(hr:sC aO.wt n.rules<=1048576)(h2:fJ fs=true)(hf:f.wt<=1048576):uE n fs f=some (Vo n fs f):=by
 obtain⟨h1,h0,ht,e⟩:=I1 hn;have hv:=oP h1;have h6:=xS h1;have Sp:=FS.Fe (by have:=yo h2;omega:sC aD.wt fs<=1048576);have hok:BB n:=by rw[e];exact TL _ h1 h0 hr
 have hN:n.nodes=fQ (cZ [] n.rules).1.2 n.facts:=congrArg aH.nodes e;have hA:n.bG=gN (cZ [] n.rules).1.1 n.facts:=congrArg aH.bG e;have hE:n.ends=(cZ [] n.rules).2:=congrArg aH.ends e;have hform:n.nodes.map sF=(cZ [] n.rules).1.2.map sF:=by rw[hN];exact Kl _ _ _ _
 have hp0:=Ml [] hv h6;have a8W:D1 n.nodes:=by
  refine⟨hok.nodes,fun x hx=>(hok.node x hx).1,fun i=>?_⟩;rw[wQ hform];exact hp0.path i
 have hfA:gN n.bG fs=gN (cZ [] n.rules).1.1 fs:=by
  rw[hA];unfold gN;rw[sS];rfl
 have hfN:fQ n.nodes fs=fQ (cZ [] n.rules).1.2 fs:=by
  have key:∀(l m:bN) (i:Nat),l.map xK=m.map xK->pq n.nodes fs l i=pq (cZ [] n.rules).1.2 fs m i:=by
   intro l
   induction l with
   |nil=>intro m i hm;cases m with
    |nil=>rfl
    |cons y m=>simp at hm
   |cons x l ih=>intro m i hm;cases m with
    |nil=>simp at hm
    |cons y m=>
     rw[bA,bA]at hm;obtain⟨q1,q2⟩:=nG hm;have e1:x.parent=y.parent:=(kz q1).1;have e2:x.cX=y.cX:=(kz (kz q1).2).1;have e3:x.cond=y.cond:=(kz (kz q1).2).2;rw[pq,pq,ih m (i+1) q2,wQ hform,e1,e2,e3]
  refine key _ _ 0 ?_;rw[hN];have:∀(ns l:bN) (i:Nat),(pq ns n.facts l i).map xK=l.map xK:=by
   intro ns l
   induction l with
   |nil=>intro i;rfl
   |cons x l ih=>intro i;rw[pq,bA,ih];rfl
  exact this _ _ _
 unfold uE;rw[QB n hok,aA,a6h n fs Sp (qF h2) hok.bG (fun x hx=>(hok.cX x hx).1) a8W,aA,hfA,hfN];have hlen:=zk (cZ [] n.rules).1.2 fs;have aI5:=Cb [] hv h6;dsimp only;rw[sE (by omega),aF];have wN:fQ (cZ [] n.rules).1.2 fs=(fQ (cZ [] n.rules).1.2 fs).take 1++(fQ (cZ [] n.rules).1.2 fs).drop 1:=(cc 1 _).symm;cases hns:fQ (cZ [] n.rules).1.2 fs with
 |nil=>
  have:=(vZ [] n.rules).1.pos;rw[hns]at hlen;simp at hlen;omega
 |cons x0 l=>
  rw[gI,show(((0:Nat):Int)==0)=true from rfl,aF,a1T n f _ _ hf l 1 _ (br _) (fun x hx=>?_)]
  ·unfold Vo tG;rw[hns,hE];rfl
  ·obtain⟨i,hi⟩:=iN hx;have hi2:(fQ (cZ [] n.rules).1.2 fs)[i+1]?=some x:=by rw[hns];exact hi
   rw[vX]at hi2;obtain⟨z,hz,rfl⟩:=Eh.1 hi2;obtain⟨p,q,_,e1,_,e3,e4,_,_,e7⟩:=a2A h1 h0 h2 (i:=i+1) (by omega) hz;have g4:=(EO h1 h2 e4).2.1;have u3:=(show fy n.nodes z.parent=(fQ (cZ [] n.rules).1.2 n.facts)[p]? by rw[e1,BR,hN]).trans e3;have u4:=(show fy (x0::l) z.parent=(fQ (cZ [] n.rules).1.2 fs)[p]? by rw[e1,BR,hns]).trans e4;refine⟨⟨_,_,u3,u4,by omega⟩,?_⟩
   ·rcases e7 with⟨e7,_⟩|⟨a,y,e7,e8,_,e10⟩
    ·exact .inl e7
    ·refine .inr ⟨⟨y.shape,sB y.shape [] fs⟩,?_,e10⟩;show fy (gN (cZ [] n.rules).1.1 fs) z.cX=_;rw[e7,BR];unfold gN;rw[cR,e8];rfl
structure Ren(h:Bytes->Bytes)(V:Bytes->Prop):Prop where
 var:∀v,V v->fo v=true
 V2:∀t,fo t=false->h t=t
 X6:∀v,V v->fo (h v)=true
 inj:∀u v,V u->V v->h u=h v->u=v
structure RB(h:Bytes->Bytes)(V:Bytes->Prop)(b b':List aX):Prop where
 len:b'.length=b.length
 get:∀v,V v->dR (h v) b'=dR v b
 ok:iO b=true
 ok':iO b'=true
def Nu(h:Bytes->Bytes)(c:aU):aU:=⟨c.kind,⟨c.pat.rel,c.pat.args.map h⟩,h c.left,h c.right⟩
theorem RB.ext{h:Bytes->Bytes}{V:Bytes->Prop}(hr:Ren h V){b b':aP}(H:RB h V b b'){x y:Bytes}(hx:V x):(xe b' (h x) y).2=(xe b x y).2/\((xe b x y).2=true->RB h V (xe b x y).1 (xe b' (h x) y).1):=by
 unfold xe;rw[H.ok,H.ok',hr.var x hx,hr.X6 x hx,H.get x hx,H.len];simp only[fL];cases ha:fV y with
 |false=>exact⟨rfl,fun h=>by cases h⟩
 |true=>
  rw[aF,aF];cases hf:dR x b with
  |some o=>
   dsimp only;cases o==y with
   |true=>exact⟨rfl,fun _=>H⟩
   |false=>exact⟨rfl,fun h=>by cases h⟩
  |none=>
   dsimp only;cases hl:decide (b.length=6)with
   |true=>exact⟨rfl,fun h=>by cases h⟩
   |false=>
    have hl':b.length≠6:=of_decide_eq_false hl;refine⟨rfl,fun _=>⟨?_,?_,?_,?_⟩⟩
    ·rw[aL,aL,CZ,CZ,H.len]
    ·intro v hv;rw[aL,aL];by_cases e:v=x
     ·subst e;rw[zl _ hf,zl _ (by rw[H.get v hx,hf])]
     ·rw[tD (fun e2=>e e2.symm),tD (fun e2=>e (hr.inj _ _ hx hv e2).symm),H.get v hv]
    ·exact Ds (hr.var x hx) ha H.ok hf hl'
    ·exact Ds (hr.X6 x hx) ha H.ok' (by rw[H.get x hx,hf]) (by rw[H.len];exact hl')
theorem RB.tZ{h:Bytes->Bytes}{V:Bytes->Prop}(hr:Ren h V):∀(l r:aI) (b b':aP),(∀x∈l,nB x=true)->(∀x∈l,fo x=true->V x)->RB h V b b'->(tZ (l.map h) r b').2=(tZ l r b).2/\((tZ l r b).2=true->RB h V (tZ l r b).1 (tZ (l.map h) r b').1)
 | [],r,b,b',_,_,H=>⟨rfl,fun _=>H⟩
 |x::xs,[],b,b',_,_,H=>⟨rfl,fun h=>by cases h⟩
 |x::xs,y::ys,b,b',ht,hV,H=>by
  have ih:=fun c c'=>RB.tZ hr xs ys c c' (fun z hz=>ht z (by simp[hz])) (fun z hz=>hV z (by simp[hz]))
  rw[bA];simp only[Cx.tZ];cases hx:fV x with
  |true=>
   have hxx:h x=x:=hr.V2 x (LL hx);rw[hxx,hx];simp only[aF];cases x==y with
   |true=>exact ih b b' H
   |false=>exact⟨rfl,fun h=>by cases h⟩
  |false=>
   have hv:fo x=true:=by have:=ht x (by simp);unfold nB at this;rw[hx]at this;simpa using this
   have ha':fV (h x)=false:=ni (hr.X6 x (hV x (by simp) hv));rw[ha'];simp only[aL];obtain⟨e1,e2⟩:=H.ext hr (y:=y) (hV x (by simp) hv);rw[e1];cases he:(xe b x y).2 with
   |false=>exact⟨rfl,fun h=>by cases h⟩
   |true=>simp only[aF];exact ih _ _ (e2 he)
theorem Qi{h:Bytes->Bytes}{V:Bytes->Prop}(hr:Ren h V){t:Bytes}(hV:fo t=true->V t):nB (h t)=nB t:=by
 cases hv:fo t with
 |false=>rw[hr.V2 t hv]
 |true=>unfold nB;rw[hr.X6 t (hV hv),hv];simp
theorem YH{h:Bytes->Bytes}{V:Bytes->Prop}(hr:Ren h V){p:aD}(hV:∀x∈p.args,fo x=true->V x)(hp:w8 p=true):w8 ⟨p.rel,p.args.map h⟩=true:=by
 unfold w8 at hp⊢;simp only[aS,b8]at hp⊢;refine⟨?_,hp.2.1,by rw[aj];exact hp.2.2⟩;intro x hx;obtain⟨y,hy,rfl⟩:=cJ.1 hx;rw[Qi hr (hV y hy)];exact hp.1 y hy
def CV(V:Bytes->Prop)(c:aU):Prop:=∀x∈c.pat.args++[c.left,c.right],fo x=true->V x
theorem CV.args{V:Bytes->Prop}{c:aU}(h:CV V c):∀x∈c.pat.args,fo x=true->V x:=fun x hx=>h x (by simp[hx])
theorem CV.left{V:Bytes->Prop}{c:aU}(h:CV V c):fo c.left=true->V c.left:=h _ (by simp)
theorem CV.right{V:Bytes->Prop}{c:aU}(h:CV V c):fo c.right=true->V c.right:=h _ (by simp)
theorem VD{h:Bytes->Bytes}{V:Bytes->Prop}(hr:Ren h V){c:aU}(hV:CV V c)(hc:pR c=true):pR (Nu h c)=true:=by
 by_cases hk:c.kind=1\/c.kind=2
 ·obtain⟨hp,hl,hrr⟩:=Du hc hk;have e:h []=[]:=hr.V2 [] rfl;unfold pR;have h0:(decide ((Nu h c).kind=1)||decide ((Nu h c).kind=2))=true:=by show(decide (c.kind=1)||decide (c.kind=2))=true;simpa using hk
  rw[h0,aF];show(w8 ⟨c.pat.rel,c.pat.args.map h⟩&&(h c.left==[]&&h c.right==[]))=true;rw[hl,hrr,e,YH hr hV.args hp];rfl
 ·have h1:c.kind≠1:=fun e=>hk (.inl e)
  have h2:c.kind≠2:=fun e=>hk (.inr e)
  obtain⟨h3,hz,hl,hrr⟩:=Pg hc h1 h2;unfold pR;have h0:(decide ((Nu h c).kind=1)||decide ((Nu h c).kind=2))=false:=by simp[Nu,h1,h2]
  rw[h0,aL];show(bif (decide (c.kind=3)||decide (c.kind=4)||decide (c.kind=5))then(EZ ⟨c.pat.rel,c.pat.args.map h⟩&&(nB (h c.left)&&nB (h c.right)))else false)=true;rw[h3,aF,Qi hr hV.left,Qi hr hV.right,hl,hrr];unfold EZ at hz⊢;rw[aj];simpa using hz
theorem RB.kM{h:Bytes->Bytes}{V:Bytes->Prop}(hr:Ren h V){p f:aD}{b b':aP}(hV:∀x∈p.args,fo x=true->V x)(hp:w8 p=true)(H:RB h V b b'):(kM ⟨p.rel,p.args.map h⟩ f b').2=(kM p f b).2/\((kM p f b).2=true->RB h V (kM p f b).1 (kM ⟨p.rel,p.args.map h⟩ f b').1):=by
 unfold Cx.kM;rw[hp,YH hr hV hp,H.ok,H.ok',aj];dsimp only;cases(true&&(pK f&&(true&&(p.rel==f.rel&&decide (p.args.length=f.args.length)))))with
 |false=>exact⟨rfl,fun h=>by cases h⟩
 |true=>exact RB.tZ hr _ _ _ _ (PL hp) hV H
theorem RB.rT{h:Bytes->Bytes}{V:Bytes->Prop}(hr:Ren h V){b b':aP}(H:RB h V b b'){t:Bytes}(hV:fo t=true->V t):rT b' (h t)=rT b t:=by
 unfold Cx.rT;cases hv:fo t with
 |false=>rw[hr.V2 t hv,hv];rfl
 |true=>rw[ni hv,hr.X6 t (hV hv),ni (hr.X6 t (hV hv)),H.get t (hV hv)];rfl
theorem RB.zm{h:Bytes->Bytes}{V:Bytes->Prop}(hr:Ren h V){c:aU}{b b':aP}{fs:aJ}(hV:CV V c)(hc:pR c=true)(H:RB h V b b'):zm (Nu h c) b' fs=zm c b fs:=by
 unfold Cx.zm;rw[hc,VD hr hV hc,H.ok,H.ok'];show(true&&(true&&(bif decide (c.kind=1)then decide (0<(sB ⟨c.pat.rel,c.pat.args.map h⟩ b' fs).length)else bif decide (c.kind=2)then decide ((sB ⟨c.pat.rel,c.pat.args.map h⟩ b' fs).length=0)else WC (Nu h c) b')))=_;by_cases hk:c.kind=1\/c.kind=2
 ·have hp:=(Du hc hk).1;have e:sB ⟨c.pat.rel,c.pat.args.map h⟩ b' fs=sB c.pat b fs:=by
   unfold sB
   congr 1;funext f
   exact(RB.kM hr hV.args hp H).1
  rw[e];rcases hk with hk|hk
  ·rw[au hk];rfl
  ·rw[au hk];cases decide (c.kind=1)<;>rfl
 ·have h1:c.kind≠1:=fun e=>hk (.inl e)
  have h2:c.kind≠2:=fun e=>hk (.inr e)
  rw[ax h1,ax h2];simp only[aL];unfold WC Jr;rw[hc,VD hr hV hc,H.ok,H.ok'];show(true&&(true&&(true&&decide (c.kind>=3)&&(true&&((Cx.rT b' (h c.left)).2&&((Cx.rT b' (h c.right)).2&&(bif decide (c.kind=3)then(Cx.rT b' (h c.left)).1==(Cx.rT b' (h c.right)).1 else bif decide (c.kind=4)then !((Cx.rT b' (h c.left)).1==(Cx.rT b' (h c.right)).1)else ltB (Cx.rT b' (h c.left)).1 (Cx.rT b' (h c.right)).1)))))))=_;rw[RB.rT hr H hV.left,RB.rT hr H hV.right]
structure RT(h:Bytes->Bytes)(V:Bytes->Prop)(t t':aV):Prop where
 facts:t'.facts=t.facts
 bind:RB h V t.bind t'.bind
inductive RL(R:aV->aV->Prop):List aV->List aV->Prop
 |nil:RL R [] []
 |cons {a b:aV} {l m:ar}:R a b->RL R l m->RL R (a::l) (b::m)
theorem RL.app{R:aV->aV->Prop}{a b c d:ar}(h:RL R a b)(k:RL R c d):RL R (a++c) (b++d):=by
 induction h with
 |nil=>exact k
 |cons x _ ih=>exact .cons x ih
theorem RL.one{R:aV->aV->Prop}{a b:aV}(h:R a b):RL R [a] [b]:=.cons h .nil
theorem RL.flat{G:Type}{R:aV->aV->Prop}(f g:G->ar):∀(l:List G),(∀x∈l,RL R (f x) (g x))->RL R (l.flatMap f) (l.flatMap g)
 | [],_=>.nil
 |x::xs,h=>by rw[cw,cw];exact(h x (by simp)).app (RL.flat f g xs fun y hy=>h y (by simp[hy]))
theorem a5U{h:Bytes->Bytes}{V:Bytes->Prop}(hr:Ren h V){c:aU}{fs:aJ}{t t':aV}(hV:CV V c)(hc:pR c=true)(H:RT h V t t'):RL (RT h V) (BZ c fs t) (BZ (Nu h c) fs t'):=by
 unfold BZ;rw[RB.zm hr hV hc H.bind];show RL _ _ (bif decide (c.kind=1)then fs.flatMap (ext1 (Nu h c) t')else bif Cx.zm c t.bind fs then [t']else []);by_cases h1:c.kind=1
 ·rw[au h1,aF,aF];refine RL.flat _ _ fs fun f _=>?_
  unfold ext1;have hp:=(Du hc (.inl h1)).1;obtain⟨e1,e2⟩:=RB.kM hr (f:=f) hV.args hp H.bind;show RL _ _ (bif (Cx.kM ⟨c.pat.rel,c.pat.args.map h⟩ f t'.bind).2 then [⟨t'.facts++[f],(Cx.kM ⟨c.pat.rel,c.pat.args.map h⟩ f t'.bind).1⟩]else []);rw[e1];cases hm:(Cx.kM c.pat f t.bind).2 with
  |false=>exact .nil
  |true=>exact .one ⟨by rw[H.facts],e2 hm⟩
 ·rw[ax h1,aL,aL];cases Cx.zm c t.bind fs with
  |false=>exact .nil
  |true=>exact .one H
theorem YC{h:Bytes->Bytes}{V:Bytes->Prop}(hr:Ren h V){c:aU}{fs:aJ}(hV:CV V c)(hc:pR c=true):∀ {l m:ar},RL (RT h V) l m->RL (RT h V) (sH fs l c) (sH fs m (Nu h c))
 |_,_,.nil=>.nil
 |_,_,.cons hx hl=>by unfold sH;rw[cw,cw];exact(a5U hr hV hc hx).app (YC hr hV hc hl)
theorem a3T{h:Bytes->Bytes}{V:Bytes->Prop}(hr:Ren h V){fs:aJ}:∀(cs:ay) {l m:ar},(∀c∈cs,CV V c/\pR c=true)->RL (RT h V) l m->RL (RT h V) (cs.foldl (sH fs) l) ((cs.map (Nu h)).foldl (sH fs) m)
 | [],_,_,_,H=>H
 |c::cs,_,_,hc,H=>by
  rw[bA,cy,cy];exact a3T hr cs (fun x hx=>hc x (by simp[hx])) (YC hr (hc c (by simp)).1 (hc c (by simp)).2 H)
theorem RB.nil(h:Bytes->Bytes)(V:Bytes->Prop):RB h V [] []:=⟨rfl,fun _ _=>rfl,rfl,rfl⟩
theorem ZS{r:aO}(h:fR r=true):Ren (Dl (iI r)) (fun v=>v∈Au r.conds) where
 var:=fun v hv=>(CU.1 hv).2
 V2:=fun t ht=>MX ht
 X6:=fun v hv=>by
  obtain⟨i,p,hi,_,_,e⟩:=I7 h hv;rw[e];exact MW i hi
 inj:=fun u v hu hv e=>by
  obtain⟨i,p,hi,g1,e1,e2⟩:=I7 h hu;obtain⟨j,q,hj,g2,e3,e4⟩:=I7 h hv;rw[e2,e4]at e;have:=YA i hi j hj e;subst this;rw[g1]at g2;cases g2;rw[<-e1,<-e3]
theorem a6M{r:aO}{c:aU}(hc:c∈r.conds):CV (fun v=>v∈Au r.conds) c:=fun x hx hv=>CU.2 ⟨cB.2 ⟨c,hc,hx⟩,hv⟩
theorem wbU{r:aO}(h:fR r=true){fs:aJ}:∀(cs:ay) (A:ar),(∀c∈cs,c∈r.conds)->(∀t∈A,WB (fT (Au r.conds)) t.bind)->∀u∈cs.foldl (sH fs) A,WB (fT (Au r.conds)) u.bind
 | [],_,_,hA=>hA
 |c::cs,A,hc,hA=>by
  rw[cy];refine wbU h cs _ (fun x hx=>hc x (by simp[hx])) (fun u hu=>?_);obtain⟨t,ht,hu⟩:=cB.1 hu;have hcm:=hc c (by simp);have hcb:=DE h c hcm;unfold BZ at hu;by_cases hk:c.kind=1
  ·rw[au hk,aF]at hu;obtain⟨f,_,hu⟩:=cB.1 hu;unfold ext1 at hu;cases hm:(kM c.pat f t.bind).2 with
   |false=>rw[hm]at hu;cases hu
   |true=>
    rw[hm,aF]at hu;rw[cH.1 hu];exact((a23 (Nw h) (hA t ht) (Du hcb (.inl hk)).1 (fun x hx hv=>rR.2 ((a6M hcm).args x hx hv))).2 hm).1
  ·rw[ax hk,aL]at hu;cases hh:zm c t.bind fs with
   |false=>rw[hh]at hu;cases hu
   |true=>rw[hh,aF]at hu;rw[cH.1 hu];exact hA t ht
theorem Se{U:aI}(hU:U.length<=6){b b':aP}(hb:WB U b)(hb':iO b'=true){h:Bytes->Bytes}(hg:∀v∈U,dR (h v) b'=dR v b):∀(N:aP) (w:aP),(N.map aX.var).Nodup->(∀p∈N,p.var∈U/\p.value=h p.var/\fo p.var=true/\fo p.value=true)->WB U w->(∀p∈N,dR p.var w=none)->
 WB U (N.foldl (bkS b') w)/\∀v,dR v (N.foldl (bkS b') w)=if v∈N.map aX.var then dR v b else dR v w
 | [],w,_,_,hw,_=>⟨hw,fun v=>by simp⟩
 |p::N,w,hn,hp,hw,hf=>by
  rw[bA,gw]at hn;obtain⟨p1,p2,p3,p4⟩:=hp p (by simp);have hpw:=hf p (by simp);have hval:rT b' p.value=match dR p.var b with|some v=>(v,true)|none=>([],false):=by
   unfold rT;rw[ni p4,p4,aL,aF,p2,hg _ p1]
   all_goals(cases dR p.var b<;>rfl)
  have hnot:∀q∈N,q.var≠p.var:=fun q hq e=>hn.1 (by rw[<-e];exact cJ.2 ⟨q,hq,rfl⟩)
  rw[cy];cases hfb:dR p.var b with
  |none=>
   rw[hfb]at hval;have e:bkS b' w p=w:=by unfold bkS;rw[hval];rfl
   rw[e];obtain⟨g1,g2⟩:=Se hU hb hb' hg N w hn.2 (fun q hq=>hp q (by simp[hq])) hw (fun q hq=>hf q (by simp[hq]));refine⟨g1,fun v=>?_⟩;rw[g2 v,bA];by_cases hv:v=p.var
   ·subst hv;rw[bE hn.1,bP (by simp),hfb,hpw]
   ·by_cases Gc:v∈N.map aX.var
    ·rw[bP Gc,bP (by simp[Gc])]
    ·rw[bE Gc,bE (by simp only[bV,Gi];exact⟨hv,Gc⟩)]
  |some o=>
   rw[hfb]at hval;have e:bkS b' w p=xL p.var o w:=by unfold bkS;rw[hval];rfl
   rw[e];have ho:fV o=true:=by
    obtain⟨q,hq,_,e2⟩:=yV hfb;rw[<-e2];exact(Bh (uZ hb.ok) q hq).2
   obtain⟨g1,g2⟩:=Se hU hb hb' hg N (xL p.var o w) hn.2 (fun q hq=>hp q (by simp[hq])) (hw.set hU p1 p3 ho hpw) (fun q hq=>by
    rw[tD (fun e=>hnot q hq e.symm)];exact hf q (by simp[hq]))
   refine⟨g1,fun v=>?_⟩;rw[g2 v,bA,wk hpw];by_cases hv:v=p.var
   ·subst hv;rw[bE hn.1,bP rfl,bP (by simp),hfb]
   ·rw[bE hv];by_cases Gc:v∈N.map aX.var
    ·rw[bP Gc,bP (by simp[Gc])]
    ·rw[bE Gc,bE (by simp only[bV,Gi];exact⟨hv,Gc⟩)]
theorem a4T{r:aO}(h:fR r=true){t t':aV}(ht:WB (fT (Au r.conds)) t.bind)(H:RT (Dl (iI r)) (fun v=>v∈Au r.conds) t t'):cfT r t'=⟨r.name,t.facts,t.bind⟩:=by
 have hN:=Ac (yH r.conds) Tt.nil;have hmem:∀p∈iI r,p.var∈fT (Au r.conds)/\p.value=Dl (iI r) p.var/\fo p.var=true/\fo p.value=true:=fun p hp=>by
  obtain⟨n1,n2⟩:=(QW h).1 p hp;refine⟨?_,(IQ (N:=iI r) hN hp).symm,n1,n2⟩;rcases Nb _ _ hp with h1|h1
  ·cases h1
  ·exact rR.2 (CU.2 h1)
 obtain⟨g1,g2⟩:=Se (Nw h) ht H.bind.ok' (h:=Dl (iI r)) (fun v hv=>H.bind.get v (rR.1 hv)) (iI r) [] hN hmem (WB.nil _) (fun p _=>rfl);have e:bkB t'.bind (iI r)=t.bind:=by
  refine g1.ext ht fun v=>?_
  unfold bkB at*;rw[g2 v];by_cases hv:v∈(iI r).map aX.var
  ·rw[bP hv]
  ·rw[bE hv];cases hf:dR v t.bind with
   |none=>rfl
   |some o=>
    exfalso;obtain⟨q,hq,e1,_⟩:=yV hf;have hU:=rR.1 (ht.sub q hq);rw[e1]at hU;obtain⟨i,p,_,Q3,he,_⟩:=I7 h hU;exact hv (cJ.2 ⟨p,aE Q3,he⟩)
 unfold cfT;rw[e,H.facts]
theorem RL.map_eq{G:Type}{R:aV->aV->Prop}{f g:aV->G}:∀ {l m:ar},RL R l m->(∀a∈l,∀b,R a b->g b=f a)->m.map g=l.map f
 |_,_,.nil,_=>rfl
 |_,_,.cons hx hl,h=>by
  rw[bA,bA,h _ (by simp) _ hx,RL.map_eq hl (fun a ha b hb=>h a (by simp[ha]) b hb)]
theorem a4W{r:aO}(h:fR r=true)(fs:aJ):(rS (gE r) fs).map (cfT r)=(rS r.conds fs).map fun t=>(⟨r.name,t.facts,t.bind⟩:aq):=by
 have H:=a3T (ZS h) (fs:=fs) r.conds (fun c hc=>⟨a6M hc,DE h c hc⟩) (RL.one (a:=⟨[],[]⟩) (b:=⟨[],[]⟩) ⟨rfl,RB.nil _ _⟩);refine RL.map_eq H fun t ht t' hR=>?_
 exact a4T h (wbU h r.conds [⟨[],[]⟩] (fun _ hc=>hc) (fun t ht=>by rw[cH.1 ht];exact WB.nil _) t ht) hR
theorem a5S{rs:az}(fs:aJ)(t:Int){i:Nat}{r:aO}(hr:rs[i]?=some r):a0w (tG rs fs t) i=rS (gE r) fs:=by
 obtain⟨b,e1,e2,e3⟩:=(vZ [] rs).2.2 i r hr;have hx:=av e2;have e4:fy (fQ (cZ [] rs).1.2 fs) (dS b)=some ⟨((cZ [] rs).1.2[b]).parent,((cZ [] rs).1.2[b]).cond,((cZ [] rs).1.2[b]).cX,rS (gE r) fs⟩:=by
  unfold fy dS fQ;rw[au (by omega),aF];show(pq _ fs _ 0)[b]?=_;rw[IL,hx,cY,e3];rfl
 unfold a0w tG;dsimp only;rw[e1];dsimp only;rw[e4]
theorem a29{rs:az}(hv:∀r∈rs,fR r=true)(fs:aJ)(t:Int):∀(l:az) (i:Nat),(∀(j:Nat) r,l[j]?=some r->rs[i+j]?=some r)->Yp (tG rs fs t) l i=l.flatMap fun r=>(rS r.conds fs).map fun u=>(⟨r.name,u.facts,u.bind⟩:aq)
 | [],_,_=>rfl
 |r::l,i,h=>by
  have h0:=h 0 r rfl;rw[wW]at h0;rw[Yp,a5S fs t h0,a4W (hv r (aE h0)),cw,a29 hv fs t l (i+1) (fun j x hx=>by
   rw[show i+1+j=i+(j+1)by omega];exact h (j+1) x (by simpa using hx))]
theorem WW{r:aO}{fs:aJ}(h1:fR r=true)(h2:fJ fs=true):mtB r fs=(rS r.conds fs).map fun t=>⟨r.name,t.facts,t.bind⟩:=by
 unfold mtB;rw[a9j h1 h2 (br _),zg]
theorem a83{rs:az}{fs:aJ}(t:Int)(h1:qT rs=true)(h2:fJ fs=true):Yp (tG rs fs t) rs 0=zK rs fs:=by
 have hv:=oP h1;rw[a29 hv fs t rs 0 (fun j r hj=>by rw[cY];exact hj)];unfold zK;rw[h1,aF];have:∀l:az,(∀r∈l,fR r=true)->(l.flatMap fun r=>(rS r.conds fs).map fun u=>(⟨r.name,u.facts,u.bind⟩:aq))=l.flatMap fun r=>mtB r fs:=by
  intro l
  induction l with
  |nil=>intro _;rfl
  |cons r l ih=>intro hl;rw[cw,cw,ih (fun x hx=>hl x (by simp[hx])),WW (hl r (by simp)) h2]
 exact this rs hv
theorem a0l{n:aH}(h:Gd n=true):Yp n n.rules 0=zK n.rules n.facts:=by
 obtain⟨h1,h2,_,e⟩:=I1 h;have:=a83 n.cP h1 h2;rw[<-e]at this;exact this
def Jk(f:aD)(A:bQ):List Bool:=A.map fun a=>(kM a.shape f []).2
theorem yU(A:bQ)(fs:aJ):(gN A fs).length=A.length:=by unfold gN;rw[aj]
theorem Pt(A:bQ)(x:ai)(fs:aJ):gN (A++[x]) fs=gN A fs++[⟨x.shape,sB x.shape [] fs⟩]:=by unfold gN;rw[bI];rfl
theorem a7R(n:aH)(fs:aJ)(f:aD)(y1:aH)(y3:aJ)(K:List Bool->bQ->Option aH)(Sp:FS fs)(hf:f.wt<=1048576)(A:bQ)(hA:∀a∈A,a.shape.wt<=1048576)(hl:A.length<=1048576):∀(rest pre:bQ) (fu:Nat),A=pre++rest->rest.length<fu->
 jo n fs f y1 y3 K fu (pre.length:Int) (Jk f pre) (gN pre fs++rest)=K (Jk f A) (gN A fs)
 | [],pre,fu,e,hu=>by
  obtain⟨fu,rfl⟩:∃m,fu=m+1:=⟨fu-1,by simp at hu;omega⟩
  rw[dV]at e;rw[jo,dV,aj,yU,ax (by omega),aL,e]
 |x::rest,pre,fu,e,hu=>by
  obtain⟨fu,rfl⟩:∃m,fu=m+1:=⟨fu-1,by simp at hu;omega⟩
  simp only[aQ]at hu;have hlen:A.length=pre.length+(rest.length+1):=by rw[e];simp
  have hx:=hA x (by rw[e];simp);have ih:=a7R n fs f y1 y3 K Sp hf A hA hl rest (pre++[x]) fu (by rw[e];simp) (by omega);have PC:fy (gN pre fs++x::rest) (pre.length:Int)=some x:=by
   have:=xj (a:=gN pre fs++x::rest) (pre:=gN pre fs) (xs:=rest) (x:=x) rfl;rw[yU]at this;exact this
  have xI:(gN pre fs++x::rest).set (pre.length:Int).toNat ⟨x.shape,sB x.shape [] fs⟩=gN (pre++[x]) fs++rest:=by
   have:=setAt (gN pre fs) rest x ⟨x.shape,sB x.shape [] fs⟩;rw[yU]at this;rw[kx,this,Pt,dH];rfl
  have hh:Jk f pre++[(kM x.shape f []).2]=Jk f (pre++[x]):=by unfold Jk;rw[bI];rfl
  have hpl:(Jk f pre).length=pre.length:=by unfold Jk;rw[aj]
  rw[jo,aj,bB,yU,aQ,au (by omega),aF,PC,aA,a9S x.shape f [] hx hf PB.nil,aA,Ff (by simp;omega) (by decide),aF,a5i x.shape [] fs hx PB.nil Sp,aA,Fi (by omega),xI,hh];rw[bB,dw]at ih;exact ih
theorem Y8{N0 N1:bN}{v:Nat}(hl:N0.length=N1.length)(hv:v<=N1.length)(j:Nat):(N1.take v++N0.drop v)[j]?=if j<v then N1[j]? else N0[j]?:=by
 have h1:(N1.take v).length=v:=by rw[cU];omega
 by_cases h:j<v
 ·rw[bP h,bJ (by omega),dP,bP h]
 ·rw[bE h,bW (by omega),h1,gO]
  congr 1;omega
theorem a5Q{N0 N1:bN}{v:Nat}(hl:N0.length=N1.length)(hv:v<N1.length){y:Node}(hy:N1[v]?=some y):(N1.take v++N0.drop v).set v y=N1.take (v+1)++N0.drop (v+1):=by
 have h1:(N1.take v).length=v:=by rw[cU];omega
 rw[oM (by omega:v<N0.length)];have:=setAt (N1.take v) (N0.drop (v+1)) (N0[v]'(by omega)) y;rw[h1]at this;rw[this,List.take_add_one,hy];simp
theorem ZQ(S:bN)(a b:aJ):(fQ S b).take 1++(fQ S a).drop 1=fQ S a:=by
 have h:(fQ S b).take 1=(fQ S a).take 1:=by
  apply qC;intro i;rw[dP,dP];by_cases hi:i<1
  ·rw[bP hi,bP hi,show i=0 by omega,vX,vX,uy];rfl
  ·rw[bE hi,bE hi]
 rw[h,cc]
theorem aCi(n:aH)(fs:aJ)(f:aD)(y1:aH)(y3:aJ)(K:Int->bN->Option aH)(h1:qT n.rules=true)(h0:fJ n.facts=true)(h2:fJ fs=true)(hN:n.nodes=fQ (cZ [] n.rules).1.2 n.facts)(hA:n.bG=gN (cZ [] n.rules).1.1 n.facts):
 ∀(d v fu:Nat) (u:Int),v+d=(cZ [] n.rules).1.2.length->1<=v->d<fu->
  ff n y1 y3 (Jk f n.bG) (gN (cZ [] n.rules).1.1 fs) K fu (v:Int) u ((fQ (cZ [] n.rules).1.2 fs).take v++n.nodes.drop v)=
   K (trN n.nodes (fQ (cZ [] n.rules).1.2 fs) (gN (cZ [] n.rules).1.1 fs) f ((fQ (cZ [] n.rules).1.2 fs).drop v) u) (fQ (cZ [] n.rules).1.2 fs):=by
 have hl0:n.nodes.length=(cZ [] n.rules).1.2.length:=by rw[hN,zk]
 have hl1:=zk (cZ [] n.rules).1.2 fs;have Vc:n.nodes.length=(fQ (cZ [] n.rules).1.2 fs).length:=by omega
 have Sp:=FS.Fe (by have:=yo h2;omega:sC aD.wt fs<=1048576);intro d
 induction d with
 |zero=>
  intro v fu u hv _ hfu;obtain⟨fu,rfl⟩:∃m,fu=m+1:=⟨fu-1,by omega⟩
  have e1:(fQ (cZ [] n.rules).1.2 fs).take v++n.nodes.drop v=fQ (cZ [] n.rules).1.2 fs:=by
   rw[nK (by omega),dV,k8 (by omega)]
  rw[ff,e1,aj,ax (by omega),aL,nK (by omega)];rfl
 |succ d ih=>
  intro v fu u hv hv1 hfu;obtain⟨fu,rfl⟩:∃m,fu=m+1:=⟨fu-1,by omega⟩
  have hvl:v<(cZ [] n.rules).1.2.length:=by omega
  have hx:=av hvl;generalize hxx:(cZ [] n.rules).1.2[v]=x at hx;obtain⟨p,q,hpv,e1,_,e3,e4,e5,e6,e7⟩:=a2A h1 h0 h2 hv1 hx;have hx0:n.nodes[v]?=some ⟨x.parent,x.cond,x.cX,rS (eb (cZ [] n.rules).1.2 (dS v)) n.facts⟩:=by rw[hN,vX,hx];rfl
  have hx1:(fQ (cZ [] n.rules).1.2 fs)[v]?=some ⟨x.parent,x.cond,x.cX,rS (eb (cZ [] n.rules).1.2 (dS v)) fs⟩:=by rw[vX,hx];rfl
  have hb1:=Cb [] (oP h1) (xS h1);have m1:fy ((fQ (cZ [] n.rules).1.2 fs).take v++n.nodes.drop v) (v:Int)=some ⟨x.parent,x.cond,x.cX,rS (eb (cZ [] n.rules).1.2 (dS v)) n.facts⟩:=by
   rw[show(v:Int)=dS v from rfl,BR,Y8 Vc (by omega),bE (by omega),hx0]
  have m2:fy ((fQ (cZ [] n.rules).1.2 fs).take v++n.nodes.drop v) x.parent=some ⟨q.parent,q.cond,q.cX,rS (eb (cZ [] n.rules).1.2 (dS p)) fs⟩:=by
   rw[e1,BR,Y8 Vc (by omega),bP hpv,e4]
  have m3:fy n.nodes x.parent=some ⟨q.parent,q.cond,q.cX,rS (eb (cZ [] n.rules).1.2 (dS p)) n.facts⟩:=by rw[e1,BR,hN,e3]
  have m4:fy (fQ (cZ [] n.rules).1.2 fs) x.parent=some ⟨q.parent,q.cond,q.cX,rS (eb (cZ [] n.rules).1.2 (dS p)) fs⟩:=by rw[e1,BR,e4]
  obtain⟨_,k2,k3,_⟩:=EO h1 h2 e4;obtain⟨_,j2,_,j4⟩:=EO h1 h0 e3;dsimp only at k2 k3 j2 j4;have hstep:=a3U hv1 hx e1 hpv fs;have hlen:((fQ (cZ [] n.rules).1.2 fs).take v++n.nodes.drop v).length=(cZ [] n.rules).1.2.length:=by
   rw[bB,cU,mM];omega
  have Uc:(fQ (cZ [] n.rules).1.2 fs).drop v=⟨x.parent,x.cond,x.cX,rS (eb (cZ [] n.rules).1.2 (dS v)) fs⟩::(fQ (cZ [] n.rules).1.2 fs).drop (v+1):=by
   rw[oM (by omega)]
   congr 1
   exact lQ ((av (by omega)).symm.trans hx1)
  have xI:=a5Q Vc (by omega) hx1;have t4:Cc (fQ (cZ [] n.rules).1.2 fs) x.parent=rS (eb (cZ [] n.rules).1.2 (dS p)) fs:=by unfold Cc;rw[m4]
  have t3:Cc n.nodes x.parent=rS (eb (cZ [] n.rules).1.2 (dS p)) n.facts:=by unfold Cc;rw[m3]
  rw[ff,aj,hlen,au (by omega),aF,m1,aA];dsimp only;rw[m2,aA,m3,aA];dsimp only;rw[aCs _ _ j4 (by omega) (by omega),aA,Uc,trN,t4,t3,Fi (by omega)];unfold stepT;dsimp only;rcases e7 with⟨g1,g2,g3⟩|⟨a,y,g1,g2,g3,g4⟩
  ·rw[au (by simpa using g1),aF,a2z _ x.cond [] e6 ⟨by simp,fun f hf=>by cases hf⟩ (fun t ht=>(k3 t ht).le (by omega)) (by simp;omega),aA,a2H g2 g3 fs,<-hstep,kx,xI,ih (v+1) fu _ (by omega) (by omega) (by omega),bP g1]
  ·have ha0:¬x.cX<0:=by rw[g1];unfold dS;omega
   have n1:fy (gN (cZ [] n.rules).1.1 fs) x.cX=some ⟨y.shape,sB y.shape [] fs⟩:=by
    rw[g1,BR];unfold gN;rw[cR,g2];rfl
   have n2:fy (Jk f n.bG) x.cX=some (kM y.shape f []).2:=by
    rw[g1,BR,hA];unfold Jk gN;rw[sS,cR,g2];rfl
   have hfl:(sB y.shape [] fs).length<=24:=by
    unfold sB;exact eY (lE _ _) (qF h2)
   have aEw:FS (sB y.shape [] fs):=⟨by omega,fun f hf=>Sp.2 f (gu.1 hf).1⟩
   have hnx:sH (sB y.shape [] fs) (rS (eb (cZ [] n.rules).1.2 (dS p)) fs) x.cond=rS (eb (cZ [] n.rules).1.2 (dS v)) fs:=by
    rw[g3,ZY (by omega),hstep]
   rw[ax (by simpa using ha0),aL,n1,aA];dsimp only;rw[a2z _ x.cond _ e6 aEw (fun t ht=>(k3 t ht).le (by omega)) (by
    have:(rS (eb (cZ [] n.rules).1.2 (dS p)) fs).length*((sB y.shape [] fs).length+1)<=390625*25:=Gg k2 (by omega);omega),aA,hnx,n2,aA,kx,xI,bE ha0,aj]
   cases(kM y.shape f []).2 with
   |true=>rw[aF,aF,ih (v+1) fu _ (by omega) (by omega) (by omega)]
   |false=>rw[aL,aL,ih (v+1) fu _ (by omega) (by omega) (by omega)]
theorem aCh(n:aH)(fs:aJ)(f:aD)(hn:Gd n=true)(hr:sC aO.wt n.rules<=1048576)(h2:fJ fs=true)(hf:f.wt<=1048576):sP n fs f=some (Vo n fs f):=by
 obtain⟨h1,h0,ht,e⟩:=I1 hn;have Sp:=FS.Fe (by have:=yo h2;omega:sC aD.wt fs<=1048576);have hok:BB n:=by rw[e];exact TL _ h1 h0 hr
 have hN:n.nodes=fQ (cZ [] n.rules).1.2 n.facts:=congrArg aH.nodes e;have hA:n.bG=gN (cZ [] n.rules).1.1 n.facts:=congrArg aH.bG e;have hE:n.ends=(cZ [] n.rules).2:=congrArg aH.ends e;have hfA:gN n.bG fs=gN (cZ [] n.rules).1.1 fs:=by
  rw[hA];unfold gN;rw[sS];rfl
 have hb1:=Cb [] (oP h1) (xS h1);have hpos:=(vZ [] n.rules).1.pos;have hal:=hok.bG;unfold sP;rw[Ql n hok,aA,zJ fs Sp.1 Sp.args,aA];have a1:=a7R n fs f n fs (fun(eN:List Bool) (wR:bQ)=>(ff n n fs eN wR (fun(qg:Int) (nA:bN)=>(some (⟨n.rules,n.ends,wR,nA,fs,qg⟩:aH))) fuel 1 n.cP n.nodes)) Sp hf n.bG (fun a ha=>(hok.cX a ha).1) hok.bG n.bG [] fuel rfl (by unfold fuel;omega);refine a1.trans ?_;rw[hfA];have a2:=aCi n fs f n fs (fun(qg:Int) (nA:bN)=>(some (⟨n.rules,n.ends,gN (cZ [] n.rules).1.1 fs,nA,fs,qg⟩:aH))) h1 h0 h2 hN hA ((cZ [] n.rules).1.2.length -1) 1 fuel n.cP (by omega) (br _) (by unfold fuel;omega);have a3:(fQ (cZ [] n.rules).1.2 fs).take 1++n.nodes.drop 1=n.nodes:=by rw[hN];exact ZQ _ _ _
 rw[a3]at a2;refine a2.trans ?_;unfold Vo tG;rw[hE]
def RR(n:aH)(f:aD):aH×Bool:=bif Gd n&&(IX n.facts f).2 then(Vo n (IX n.facts f).1 f,true)else(n,false)
def Ox(n:aH)(f:aD):aH×Bool:=bif Gd n&&(Kv n.facts f).2 then(Vo n (Kv n.facts f).1 f,true)else(n,false)
theorem XT{l:aJ}{f:aD}(h:(Kv l f).2=true):fJ (Kv l f).1=true:=by
 unfold Kv at h⊢;split at h
 ·rename_i hc;rw[bP hc];exact XS f hc.1
 ·cases h
theorem a7d(n:aH)(f:aD)(h:BB n)(hf:f.wt<=1048576):qm n f=some (RR n f):=by
 unfold qm RR;rw[aCb n.facts f h.facts hf,aA,Ws n h.rules h.facts,aA];cases hb:Gd n with
 |false=>rw[bt,aF,Ql n h];rfl
 |true=>
  rw[bU,aL];cases ha:(IX n.facts f).2 with
  |false=>rw[bt,aF,Ql n h];rfl
  |true=>rw[bU,aL,aCh n _ f hb h.rules (XR ha) hf];rfl
theorem aBL(n:aH)(f:aD)(h:BB n)(hf:f.wt<=1048576):qk n f=some (RR n f):=by
 unfold qk F0 RR;rw[T8 n h.rules h.facts,aA];cases hb:Gd n with
 |false=>rw[bt,aF,QB n h];rfl
 |true=>
  rw[bU,aL,aB4 n.facts f h.facts hf,aA];cases ha:(IX n.facts f).2 with
  |false=>rw[bt,aF,QB n h];rfl
  |true=>rw[bU,aL,aB5 n _ f hb h.rules (XR ha) hf];rfl
theorem YL(n:aH)(f:aD)(h:BB n)(hf:f.wt<=1048576):nX n f=some (Ox n f):=by
 unfold nX Ox;rw[aD0 n.facts f h.facts,aA,Ws n h.rules h.facts,aA];cases hb:Gd n with
 |false=>rw[bt,aF,Ql n h];rfl
 |true=>
  rw[bU,aL];cases ha:(Kv n.facts f).2 with
  |false=>rw[bt,aF,Ql n h];rfl
  |true=>rw[bU,aL,aCh n _ f hb h.rules (XT ha) hf];rfl
theorem aBR(n:aH)(f:aD)(h:BB n)(hf:f.wt<=1048576):nP n f=some (Ox n f):=by
 unfold nP D3 Ox;rw[T8 n h.rules h.facts,aA];cases hb:Gd n with
 |false=>rw[bt,aF,QB n h];rfl
 |true=>
  rw[bU,aL,aBM n.facts f h.facts,aA];cases ha:(Kv n.facts f).2 with
  |false=>rw[bt,aF,QB n h];rfl
  |true=>rw[bU,aL,aB5 n _ f hb h.rules (XT ha) hf];rfl
theorem Rn{rs:az}(h:qT rs=true):(⟨rs,(cZ [⟨[],[]⟩] rs).2,(cZ [⟨[],[]⟩] rs).1.1,(cZ [⟨[],[]⟩] rs).1.2,[],0⟩:aH)=tG rs [] 0:=by
 have hv:=oP h;unfold tG;rw[Yw (yX [] hv),Yy hv];have e1:(cZ [⟨[],[]⟩] rs).2=(cZ [] rs).2:=by rw[iV,iV]
 have e2:(cZ [⟨[],[]⟩] rs).1.1=(cZ [] rs).1.1:=by rw[iV,iV]
 rw[e1,e2]
def aE4:aH:=⟨[],[],[],[],[],0⟩
theorem a5h(rs:az)(h:sC aO.wt rs<=1048576):kZ rs=some (bif qT rs then(tG rs [] 0,true)else(aE4,false)):=by
 rw[a2r rs h];cases hb:qT rs with
 |false=>rfl
 |true=>rw[aF,aF,Rn hb]
theorem XU{G:Type}{l:List G}{i:Int}{x:G}(h:fy l i=some x):x∈l:=by
 unfold fy at h;cases hd:decide (0<=i)with
 |false=>rw[hd]at h;cases h
 |true=>rw[hd,aF]at h;exact aE h
theorem Zs{N:bN}(h:∀x∈N,x.tokens.length<=390625)(p:Int):(Cc N p).length<=390625:=by
 unfold Cc;cases e:fy N p with
 |none=>simp
 |some x=>exact h x (XU e)
theorem a3I{al:bQ}{f:aD}{x:Node}{now old:ar}{t:Int}(hn:now.length<=390625)(ha:∀y∈al,y.facts.length<=24)(h0:0<=t)(h1:t<=1000000000000000000):
 t<=stepT al f x now old t/\stepT al f x now old t<=t+10000000:=by
 have a1:XN now old<=390625:=by unfold XN;omega
 have a2:=QH now old;unfold stepT;split
 ·rw[eC (qu.i64.2 (by omega))];omega
 ·cases e:fy al x.cX with
  |none=>dsimp only;omega
  |some y=>
   have hy:=ha y (XU e);have a3:XN now old*y.facts.length<=390625*24:=Gg a1 hy;have e3:((XN now old:Nat):Int)*((y.facts.length:Nat):Int)=((XN now old*y.facts.length:Nat):Int):=(Int.natCast_mul _ _).symm;dsimp only;rw[e3,eC (n:=((XN now old*y.facts.length:Nat):Int)) (qu.i64.2 (by omega)),eC (n:=t+((XN now old*y.facts.length:Nat):Int)) (qu.i64.2 (by omega))];cases(kM y.shape f []).2 with
   |true=>rw[aF,eC (qu.i64.2 (by omega))];omega
   |false=>rw[aL];omega
theorem a3V{N0 N1:bN}{al:bQ}{f:aD}(hN:∀x∈N1,x.tokens.length<=390625)(ha:∀y∈al,y.facts.length<=24):∀(l:bN) (t:Int),0<=t->t+10000000*(l.length:Int)<=1000000000000000000->
 t<=trN N0 N1 al f l t/\trN N0 N1 al f l t<=t+10000000*(l.length:Int)
 | [],t,_,_=>by rw[trN];simp
 |x::xs,t,h0,h1=>by
  rw[aQ,Int.natCast_add,Int.natCast_one]at h1⊢;have s:=a3I (x:=x) (f:=f) (old:=Cc N0 x.parent) (Zs hN x.parent) ha h0 (by omega);have r:=a3V (N0:=N0) (f:=f) hN ha xs (stepT al f x (Cc N1 x.parent) (Cc N0 x.parent) t) (by omega) (by omega);rw[trN];omega
theorem Yz{rs:az}{fs:aJ}(h1:qT rs=true)(h2:fJ fs=true):∀x∈fQ (cZ [] rs).1.2 fs,x.tokens.length<=390625:=by
 intro x hx;obtain⟨i,hi⟩:=iN hx;exact(EO h1 h2 hi).2.1
theorem Yx{al:bQ}{fs:aJ}(h2:fJ fs=true):∀y∈gN al fs,y.facts.length<=24:=by
 intro y hy;obtain⟨z,_,rfl⟩:=cJ.1 hy;exact eY (lE _ _) (qF h2)
theorem a0n{n:aH}{fs:aJ}(f:aD)(hb:Gd n=true)(h2:fJ fs=true)(ht:n.cP<=100000000000000000):
 ∃t,Vo n fs f=tG n.rules fs t/\n.cP<=t/\t<=n.cP+250000000:=by
 obtain⟨h1,_,h0,_⟩:=I1 hb;have hl:=Cb [] (oP h1) (xS h1);have h3:((fQ (cZ [] n.rules).1.2 fs).drop 1).length<=25:=by rw[mM,zk];omega
 have:=a3V (N0:=n.nodes) (f:=f) (Yz h1 h2) (Yx (al:=(cZ [] n.rules).1.1) h2) ((fQ (cZ [] n.rules).1.2 fs).drop 1) n.cP h0 (by omega);exact⟨_,rfl,by omega,by omega⟩
theorem a2T{n:aH}{f:aD}(hb:Gd n=true)(hf:pK f=true)(hn:f∉n.facts)(h24:n.facts.length<24)(ht:n.cP<=100000000000000000):
 ∃t,RR n f=(tG n.rules (xJ f n.facts) t,true)/\fJ (xJ f n.facts)=true/\n.cP<=t/\t<=n.cP+250000000:=by
 have h2:=(I1 hb).2.1;have ha:IX n.facts f=(xJ f n.facts,true):=by unfold IX;rw[bP ⟨h2,hf,hn,by omega⟩]
 have h3:=Sc hf h2 hn (by omega);obtain⟨t,e,e1,e2⟩:=a0n f hb h3 ht;exact⟨t,by unfold RR;rw[ha,hb];simp[e],h3,e1,e2⟩
theorem a3P{n:aH}{f:aD}(hb:Gd n=true)(hn:f∈n.facts)(ht:n.cP<=100000000000000000):
 ∃t,Ox n f=(tG n.rules (BX f n.facts) t,true)/\fJ (BX f n.facts)=true/\n.cP<=t/\t<=n.cP+250000000:=by
 have h2:=(I1 hb).2.1;have ha:Kv n.facts f=(BX f n.facts,true):=by unfold Kv;rw[bP ⟨h2,hn⟩]
 have h3:=XS f h2;obtain⟨t,e,e1,e2⟩:=a0n f hb h3 ht;exact⟨t,by unfold Ox;rw[ha,hb];simp[e],h3,e1,e2⟩
theorem UO{f x:aD}{l:aJ}:x∈BX f l↔x∈l/\x≠f:=by
 unfold BX;rw[gu];simp
def runT(fs:aJ):ay->aJ->aP->Option aP
 | [],[],b=>some b
 | [],_::_,_=>none
 |c::cs,F,b=>if c.kind=1 then(match F with| []=>none|f::F'=>if f∈fs/\(kM c.pat f b).2=true then runT fs cs F' (kM c.pat f b).1 else none)else if zm c b fs=true then runT fs cs F b else none
theorem Tm(fs:aJ):∀(cs:ay) (A:ar) (u:aV),u∈cs.foldl (sH fs) A↔∃t∈A,∃F,u.facts=t.facts++F/\runT fs cs F t.bind=some u.bind:=by
 intro cs
 induction cs with
 |nil=>
  intro A u;constructor
  ·intro h;exact⟨u,h,[],by simp,rfl⟩
  ·rintro⟨t,ht,F,h1,h2⟩;cases F with
   |nil=>
    have e:t.bind=u.bind:=by simpa[runT]using h2
    have e2:u.facts=t.facts:=by simpa using h1
    have:u=t:=by cases u;cases t;cases e;cases e2;rfl
    rw[this];exact ht
   |cons f F=>simp[runT]at h2
 |cons c cs ih=>
  intro A u;rw[cy,ih];constructor
  ·rintro⟨t',ht',F,h1,h2⟩;obtain⟨t,ht,hn⟩:=cB.1 ht';refine⟨t,ht,?_⟩;unfold BZ at hn;by_cases hk:c.kind=1
   ·rw[au hk,aF]at hn;obtain⟨f,hf,hn⟩:=cB.1 hn;unfold ext1 at hn;cases hm:(kM c.pat f t.bind).2 with
    |false=>rw[hm]at hn;cases hn
    |true=>
     rw[hm,aF]at hn;have:=cH.1 hn;subst this;exact⟨f::F,by rw[h1];simp,by simp only[runT];rw[bP hk,bP ⟨hf,hm⟩];exact h2⟩
   ·rw[ax hk,aL]at hn;cases hh:zm c t.bind fs with
    |false=>rw[hh]at hn;cases hn
    |true=>
     rw[hh,aF]at hn;have:=cH.1 hn;subst this;exact⟨F,h1,by simp only[runT];rw[bE hk,bP hh];exact h2⟩
  ·rintro⟨t,ht,F,h1,h2⟩;simp only[runT]at h2;by_cases hk:c.kind=1
   ·rw[bP hk]at h2;cases F with
    |nil=>cases h2
    |cons f F=>
     dsimp only at h2;split at h2
     ·rename_i hc;refine⟨⟨t.facts++[f],(kM c.pat f t.bind).1⟩,cB.2 ⟨t,ht,?_⟩,F,by rw[h1];simp,h2⟩;unfold BZ;rw[au hk,aF];refine cB.2 ⟨f,hc.1,?_⟩;unfold ext1;rw[hc.2,aF];exact cH.2 rfl
     ·cases h2
   ·rw[bE hk]at h2;split at h2
    ·rename_i hh;refine⟨t,cB.2 ⟨t,ht,?_⟩,F,h1,h2⟩;unfold BZ;rw[ax hk,aL,hh,aF];exact cH.2 rfl
    ·cases h2
theorem TJ{r:aO}{fs:aJ}(h1:fR r=true)(h2:fJ fs=true)(m:aq):m∈mtB r fs↔m.rule=r.name/\runT fs r.conds m.facts []=some m.bind:=by
 rw[WW h1 h2];constructor
 ·intro h;obtain⟨t,ht,e⟩:=cJ.1 h;obtain⟨t0,ht0,F',q1,q2⟩:=(Tm fs r.conds _ t).1 ht;rw[cH.1 ht0]at q1 q2;subst e;rw[eM]at q1;refine⟨rfl,?_⟩;show runT fs r.conds t.facts []=some t.bind;rw[q1];exact q2
 ·rintro⟨e,h⟩;exact cJ.2 ⟨⟨m.facts,m.bind⟩,(Tm fs r.conds _ _).2 ⟨⟨[],[]⟩,by simp,m.facts,by simp,h⟩,by cases m;cases e;rfl⟩
theorem Z8{c:aU}{b:aP}{fs gs:aJ}(h1:c.kind≠1)(h2:c.kind≠2):zm c b fs=zm c b gs:=by
 unfold zm;rw[ax h1,ax h2];rfl
theorem Nx{fs gs:aJ}:∀(cs:ay) (F:aJ) (b b':aP),(∀c∈cs,c.kind≠2)->(∀f∈F,f∈fs->f∈gs)->runT fs cs F b=some b'->runT gs cs F b=some b'
 | [],[],_,_,_,_,h=>h
 | [],_::_,_,_,_,_,h=>by simp[runT]at h
 |c::cs,F,b,b',h2,hF,h=>by
  simp only[runT]at h⊢;by_cases hk:c.kind=1
  ·rw[bP hk]at h⊢;cases F with
   |nil=>cases h
   |cons f F=>
    dsimp only at h⊢;split at h
    ·rename_i hc;rw[bP ⟨hF f (by simp) hc.1,hc.2⟩];exact Nx cs F _ b' (fun c hc=>h2 c (by simp[hc])) (fun f hf=>hF f (by simp[hf])) h
    ·cases h
  ·rw[bE hk]at h⊢;split at h
   ·rename_i hh;rw[bP (by rw[<-Z8 (fs:=fs) hk (h2 c (by simp))];exact hh)];exact Nx cs F b b' (fun c hc=>h2 c (by simp[hc])) hF h
   ·cases h
theorem IR{fs:aJ}:∀(cs:ay) (F:aJ) (b b':aP),runT fs cs F b=some b'->∀f∈F,f∈fs
 | [],[],_,_,_=>by simp
 | [],_::_,_,_,h=>by simp[runT]at h
 |c::cs,F,b,b',h=>by
  simp only[runT]at h;by_cases hk:c.kind=1
  ·rw[bP hk]at h;cases F with
   |nil=>cases h
   |cons f F=>
    dsimp only at h;split at h
    ·rename_i hc;intro g hg;rcases bV.1 hg with rfl|hg
     ·exact hc.1
     ·exact IR cs F _ b' h g hg
    ·cases h
  ·rw[bE hk]at h;split at h
   ·exact IR cs F b b' h
   ·cases h
theorem XP{all:az}:∀ {l:az} {i:Nat},LK all l i=true->∀(j:Nat) r,l[j]?=some r->fR r=true/\Ab r.name all 0=((i+j:Nat):Int)
 | [],_,_,j,r,h=>by simp at h
 |x::l,i,ha,j,r,h=>by
  unfold LK at ha;simp only[aS,bH]at ha;cases j with
  |zero=>simp at h;subst h;exact⟨ha.1.1,ha.1.2⟩
  |succ j=>
   have:=XP ha.2 j r (by simpa using h);exact⟨this.1,by rw[this.2];congr 1;omega⟩
theorem LJ{l:az}(h:qT l=true){j:Nat}{r:aO}(hj:l[j]?=some r):fR r=true/\Ab r.name l 0=(j:Int):=by
 unfold qT at h;rw[aS]at h;have:=XP h.1 j r hj;rw[cY]at this;exact this
theorem Y7{rs:az}{fs:aJ}(h1:qT rs=true)(h2:fJ fs=true)(m:aq):m∈zK rs fs↔∃(j:Nat) (r:aO),rs[j]?=some r/\m.rule=r.name/\runT fs r.conds m.facts []=some m.bind:=by
 unfold zK;rw[h1,aF,cB];constructor
 ·rintro⟨r,hr,hm⟩;obtain⟨j,hj⟩:=iN hr;obtain⟨q1,q2⟩:=(TJ (LJ h1 hj).1 h2 m).1 hm;exact⟨j,r,hj,q1,q2⟩
 ·rintro⟨j,r,hj,q1,q2⟩;exact⟨r,aE hj,(TJ (LJ h1 hj).1 h2 m).2 ⟨q1,q2⟩⟩
theorem a26{r:aO}{fs:aJ}(h1:fR r=true)(h2:fJ fs=true):(mtB r fs).Nodup:=by
 rw[WW h1 h2];have h:=YS (cs:=r.conds) (Gl h2);unfold KD at h;unfold List.Nodup;rw[List.pairwise_map];exact h.imp fun hne e=>hne (aq.mk.inj e).2.1
theorem IJ{rs:az}{fs:aJ}(h1:qT rs=true)(h2:fJ fs=true):(zK rs fs).Nodup:=by
 unfold zK;rw[h1,aF];unfold List.Nodup;rw[zQ];refine⟨fun r hr=>a26 (oP h1 r hr) h2,?_⟩;rw[Cl];intro i j hi hj hij x hx y hy e;have a1:=LJ h1 (av hi);have a2:=LJ h1 (av hj);have e1:=((TJ a1.1 h2 x).1 hx).1;have e2:=((TJ a2.1 h2 y).1 hy).1;rw[<-e1,e,e2]at a1;have:=a1.2.symm.trans a2.2;omega
theorem UP{G:Type}[DecidableEq G]{a b:List G}(ha:a.Nodup)(hb:b.Nodup):b.length+(a.filter fun x=> !decide (x∈b)).length=a.length+(b.filter fun x=> !decide (x∈a)).length:=by
 have h1:(a.filter fun x=>decide (x∈b)).Perm (b.filter fun x=>decide (x∈a)):=by
  rw[List.perm_ext_iff_of_nodup (ha.sublist List.filter_sublist) (hb.sublist List.filter_sublist)];intro x;simp only[gu,bH];exact And.comm
 have h2:=h1.length_eq;have k:∀(l m:List G),l.length=(l.filter fun x=>decide (x∈m)).length+(l.filter fun x=> !decide (x∈m)).length:=by
  intro l m
  induction l with
  |nil=>rfl
  |cons x l ih=>
   by_cases h:x∈m
   ·simp only[Dn,h,Cz,nM,bU,aQ];simp at ih⊢;omega
   ·simp only[Dn,h,LB,bt,nM,aQ];simp at ih⊢;omega
 have h3:=k a b;have h4:=k b a;omega
structure Frg(rs:List aO)(f:aD):Prop where
 ne:f.rel≠[]
 cond:∀r∈rs,∀c∈r.conds,c.pat.rel≠f.rel
def dN(c:ck):Prop:=0<=c.i/\c.b.length<=4096
theorem XW(x:Int):0<=Jh .i64 x 255/\Jh .i64 x 255<=255:=by
 unfold Jh;have h:(BitVec.ofInt IntKind.i64.bits x&&& BitVec.ofInt IntKind.i64.bits 255).toNat<=255:=by
  rw[BitVec.toNat_and];exact eY Nat.and_le_right (by decide)
 rw[eC (qu.i64.2 (by omega))];omega
theorem aCg(c:ck)(h:dN c):∃c' x,rE c=some (c',x)/\dN c'/\0<=x/\x<=255:=by
 obtain⟨h1,h2⟩:=h;unfold rE;rw[aj];by_cases hi:c.i<(c.b.length:Int)
 ·have hlt:c.i.toNat<c.b.length:=by omega
  have e:fy c.b c.i=some c.b[c.i.toNat]:=by unfold fy;rw[au h1,aF];exact av hlt
  rw[au hi,aF,e,aA];refine⟨_,_,rfl,⟨?_,h2⟩,XW _⟩;show 0<=IntKind.i64.wrap (c.i+1);rw[eC (qu.i64.2 (by omega))];omega
 ·rw[ax hi,aL];exact⟨_,_,rfl,⟨h1,h2⟩,XW _⟩
theorem qh(c:ck)(n:Int)(h:dN c)(h0:0<n)(h1:n<=256):∃c' r,cg c n=some (c',r)/\dN c'/\0<=r/\r<n:=by
 obtain⟨c',x,e,hc,hx,hx2⟩:=aCg c h;unfold cg;have e1:decide (n<=0)=false:=by simp;omega
 have e2:decide (n<=256)=true:=by simp;omega
 have e3:(decide (0<=x)&&decide (0<n))=true:=by simp;omega
 rw[e1,aL,e2,aF,e,aA,e3,aF];exact⟨_,_,rfl,hc,Int.emod_nonneg _ (by omega),Int.emod_lt_of_pos _ h0⟩
theorem Qm(c:ck)(n:Int)(h:dN c)(h0:0<n)(h1:n<=256):∃c' b,eZ c n=some (c',b)/\dN c':=by
 obtain⟨c',x,e,hc,_⟩:=qh c n h h0 h1;unfold eZ;rw[e,aA];exact⟨_,_,rfl,hc⟩
theorem Zl(c:ck)(l:aI)(h:dN c)(h0:0<l.length)(h1:l.length<=256):∃c' s,qx c l=some (c',s)/\dN c'/\s∈l:=by
 obtain⟨c',x,e,hc,hx,hx2⟩:=qh c (l.length:Int) h (by omega) (by omega);unfold qx;rw[aj,e,aA];have hlt:x.toNat<l.length:=by omega
 have e2:fy l x=some l[x.toNat]:=by unfold fy;rw[au hx,aF];exact av hlt
 rw[e2,aA];exact⟨_,_,rfl,hc,j5 hlt⟩
theorem Wl(c:ck)(h:dN c):∃c' s,j9 c=some (c',s)/\dN c'/\s.length<=16:=by
 unfold j9;obtain⟨c',s,e,hc,hs⟩:=Zl c ([[97],[98],[99],[49],[50]]:aI) h (by decide) (by decide);rw[e,aA];have:∀s∈([[97],[98],[99],[49],[50]]:aI),s.length<=16:=by decide
 exact⟨_,_,rfl,hc,this s hs⟩
theorem Nz(c:ck)(h:dN c):∃c' s,nI c=some (c',s)/\dN c'/\s.length<=16:=by
 unfold nI;generalize hl:([[97],[98],[111,110],[55],[49,48],[57,57,57,57],[49,48,48,48,48],[48,48,55],[48],[],[65],[63,120],[63,63],[63],[97,98,99,100,101,102,103,104],[97,98,99,100,101,102,103,104,105],[63,97,98,99,100,101,102,103,104],[97,45,98],[120,49],[49,120],[45,51]]:aI)=l;have h0:0<l.length/\l.length<=256/\∀s∈l,s.length<=16:=by subst hl;decide
 obtain⟨c',s,e,hc,hs⟩:=Zl c l h h0.1 h0.2.1;rw[e,aA];exact⟨_,_,rfl,hc,h0.2.2 s hs⟩
theorem Ww(c:ck)(h:dN c):∃c' s,rG c=some (c',s)/\dN c'/\s.length<=16:=by
 unfold rG;obtain⟨c1,b,e,hc⟩:=Qm c 4 h (by decide) (by decide);rw[e,aA];cases b with
 |true=>
  obtain⟨c2,s,e2,CP,hs⟩:=Wl c1 hc;rw[aF,e2,aA];exact⟨_,_,rfl,CP,hs⟩
 |false=>
  obtain⟨c2,s,e2,CP,hs⟩:=Zl c1 ([[63,120],[63,121],[63,122]]:aI) hc (by decide) (by decide);rw[aL,e2,aA];have:∀s∈([[63,120],[63,121],[63,122]]:aI),s.length<=16:=by decide
  exact⟨_,_,rfl,CP,this s hs⟩
theorem aCx(c:ck)(h:dN c):∃c' r n,pO c=some (c',(r,n))/\dN c'/\r.length<=16/\0<=n/\n<=2:=by
 unfold pO;obtain⟨c1,x,e,hc,hx,hx2⟩:=qh c 6 h (by decide) (by decide);rw[e,aA];have key:x=0\/x=1\/x=2\/x=3\/x=4\/x=5:=by omega
 rcases key with rfl|rfl|rfl|rfl|rfl|rfl<;>exact⟨c1,_,_,rfl,hc,by decide,by decide,by decide⟩
def lK(k:Nat)(p:aD):Prop:=p.rel.length<=16/\p.args.length<=k/\∀x∈p.args,x.length<=16
theorem SK:∀(l:aI),(∀x∈l,x.length<=16)->sC tw l<=17*l.length
 | [],_=>by simp[sC]
 |x::l,h=>by
  have h1:=SK l fun y hy=>h y (by simp[hy])
  have h2:=h x (by simp);rw[py,aQ];unfold tw at*;omega
theorem a5g(y:ck×(Bytes×Int))(k:bM->Int->Int->aI->Option (ck×aD)):∀(m:Nat) (fu:Nat) (v:Int) (c:ck) (w:aI),y.2.2-v=(m:Int)->m<fu->0<=v->y.2.2<=100->w.length+m<=1000->dN c->(∀x∈w,x.length<=16)->
 ∃c' w',mq y k fu v c.b c.i c.h w=k c'.b c'.i c'.h w'/\dN c'/\w'.length<=w.length+m/\∀x∈w',x.length<=16:=by
 intro m
 induction m with
 |zero=>
  intro fu v c w hv hf h0 hy hw hc hx;cases fu with
  |zero=>omega
  |succ fu=>
   have e:decide (v<y.2.2)=false:=by simp;omega
   rw[mq,e,aL];exact⟨c,w,rfl,hc,by omega,hx⟩
 |succ m ih=>
  intro fu v c w hv hf h0 hy hw hc hx;cases fu with
  |zero=>omega
  |succ fu=>
   have e:decide (v<y.2.2)=true:=by simp;omega
   obtain⟨c1,s,e2,hc1,hs⟩:=Ww c hc;have Vt:rG (⟨c.b,c.i,c.h⟩:ck)=some (c1,s):=e2;have e3:IntKind.i64.wrap (v+1)=v+1:=eC (qu.i64.2 (by omega));rw[mq,e,aF,Vt,aA,gF (by omega) (by decide),aF,e3];obtain⟨c',w',q1,q2,q3,q4⟩:=ih fu (v+1) c1 (w++[s]) (by omega) (by omega) (by omega) hy (by simp;omega) hc1 (fun x WL=>by
    rcases aW.1 WL with h|h
    ·exact hx x h
    ·simp at h;subst h;exact hs)
   exact⟨c',w',q1,q2,by simp at q3;omega,q4⟩
theorem Ta(c:ck)(h:dN c):∃c' p,jx c=some (c',p)/\dN c'/\lK 2 p:=by
 unfold jx;obtain⟨c1,r,n,e,hc,hr,hn,hn2⟩:=aCx c h;rw[e,aA];obtain⟨c',w',q1,q2,q3,q4⟩:=a5g (c1,(r,n)) (fun a b d q=>some ((⟨a,b,d⟩:ck),(⟨r,q⟩:aD))) n.toNat fuel 0 c1 [] (by simp;omega) (by unfold fuel;omega) (by omega) (by simp;omega) (by simp;omega) hc (by simp);exact⟨_,_,q1,q2,hr,by show w'.length<=2;simp at q3;omega,q4⟩
theorem a7O(c:ck)(h:dN c):∃c' p,wi c=some (c',p)/\dN c'/\lK 4 p:=by
 unfold wi;obtain⟨c1,p,e,hc,hp1,hp2,hp3⟩:=Ta c h;obtain⟨c2,x,e2,CP,hx,hx2⟩:=qh c1 10 hc (by decide) (by decide);rw[e,aA,e2,aA];cases(x==(0:Int))with
 |true=>
  obtain⟨c3,s,e3,Hx,hs⟩:=Nz c2 CP;rw[aF,e3,aA];exact⟨_,_,rfl,Hx,hs,by show p.args.length<=4;omega,hp3⟩
 |false=>
  rw[aL];cases(x==(1:Int))with
  |true=>
   obtain⟨c3,s,e3,Hx,hs⟩:=Nz c2 CP;rw[aF,e3,aA,gF (w:=p.args) (by omega) (by decide),aF];refine⟨_,_,rfl,Hx,hp1,by simp;omega,fun y hy=>?_⟩;rcases aW.1 hy with h|h
   ·exact hp3 y h
   ·simp at h;subst h;exact hs
  |false=>
   rw[aL];cases(x==(2:Int))with
   |true=>
    obtain⟨c3,z,e3,Hx,hz,WM⟩:=qh c2 5 CP (by decide) (by decide);have e4:(decide (0<=z)&&decide (z.toNat<=(([[63,120],[63,120],[63,121],[63,120]]:aI).map tx).length))=true:=by simp;omega
    rw[aF,e3,aA,e4,aF];refine⟨_,_,rfl,Hx,hp1,by simp[cU];omega,fun y hy=>?_⟩;have:∀s∈([[63,120],[63,120],[63,121],[63,120]]:aI),s.length<=16:=by decide
    exact this y (cO hy)
   |false=>exact⟨_,_,rfl,CP,hp1,by show p.args.length<=4;omega,hp3⟩
theorem aCt(code:bM)(h:code.length<=4096):∃c,z8 code=some c/\dN c:=by
 unfold z8;have key:∀(k:Int->Option ck) (r:bM) (i:Nat) (v:Int),∃z,qe code k r i v=k z:=by
  intro k r
  induction r with
  |nil=>intro i v;exact⟨v,rfl⟩
  |cons x r ih=>
   intro i v;rw[qe];cases decide ((i:Int)<4000)with
   |true=>exact ih _ _
   |false=>exact⟨v,rfl⟩
 obtain⟨z,e⟩:=key (fun z=>some (⟨code,0,z⟩:ck)) code 0 (IntKind.i64.wrap (851207+(IntKind.i64.wrap (3*((code.map yx).length:Int)))));rw[sE (by omega),aF,e];exact⟨_,rfl,by show(0:Int)<=0;omega,h⟩
theorem OW(c:ck)(l:bM)(h:dN c)(h0:0<l.length)(h1:l.length<=256):∃c' s,ir c l=some (c',s)/\dN c'/\s∈l:=by
 obtain⟨c',x,e,hc,hx,hx2⟩:=qh c (l.length:Int) h (by omega) (by omega);unfold ir;rw[aj,e,aA];have hlt:x.toNat<l.length:=by omega
 have e2:fy l x=some l[x.toNat]:=by unfold fy;rw[au hx,aF];exact av hlt
 rw[e2,aA];exact⟨_,_,rfl,hc,j5 hlt⟩
theorem a5e(y:ck×(Bytes×Int))(k:bM->Int->Int->aI->Option (ck×aD)):∀(m:Nat) (fu:Nat) (v:Int) (c:ck) (w:aI),y.2.2-v=(m:Int)->m<fu->0<=v->y.2.2<=100->w.length+m<=1000->dN c->(∀x∈w,x.length<=16)->
 ∃c' w',iG y k fu v c.b c.i c.h w=k c'.b c'.i c'.h w'/\dN c'/\w'.length<=w.length+m/\∀x∈w',x.length<=16:=by
 intro m
 induction m with
 |zero=>
  intro fu v c w hv hf h0 hy hw hc hx;cases fu with
  |zero=>omega
  |succ fu=>
   have e:decide (v<y.2.2)=false:=by simp;omega
   rw[iG,e,aL];exact⟨c,w,rfl,hc,by omega,hx⟩
 |succ m ih=>
  intro fu v c w hv hf h0 hy hw hc hx;cases fu with
  |zero=>omega
  |succ fu=>
   have e:decide (v<y.2.2)=true:=by simp;omega
   obtain⟨c1,s,e2,hc1,hs⟩:=Wl c hc;have Vt:j9 (⟨c.b,c.i,c.h⟩:ck)=some (c1,s):=e2;have e3:IntKind.i64.wrap (v+1)=v+1:=eC (qu.i64.2 (by omega));rw[iG,e,aF,Vt,aA,gF (by omega) (by decide),aF,e3];obtain⟨c',w',q1,q2,q3,q4⟩:=ih fu (v+1) c1 (w++[s]) (by omega) (by omega) (by omega) hy (by simp;omega) hc1 (fun x WL=>by
    rcases aW.1 WL with h|h
    ·exact hx x h
    ·simp at h;subst h;exact hs)
   exact⟨c',w',q1,q2,by simp at q3;omega,q4⟩
theorem aCy(c:ck)(h:dN c):∃c' r n,pO c=some (c',(r,n))/\dN c'/\r.length<=16/\0<=n/\n<=2/\r≠[110]:=by
 unfold pO;obtain⟨c1,x,e,hc,hx,hx2⟩:=qh c 6 h (by decide) (by decide);rw[e,aA];have key:x=0\/x=1\/x=2\/x=3\/x=4\/x=5:=by omega
 rcases key with rfl|rfl|rfl|rfl|rfl|rfl<;>exact⟨c1,_,_,rfl,hc,by decide,by decide,by decide,by decide⟩
theorem Wp(c:ck)(h:dN c):∃c' p,fO c=some (c',p)/\dN c'/\lK 2 p/\p.rel≠[110]:=by
 unfold fO;obtain⟨c1,r,n,e,hc,hr,hn,hn2,hrn⟩:=aCy c h;rw[e,aA];obtain⟨c',w',q1,q2,q3,q4⟩:=a5e (c1,(r,n)) (fun a b d q=>some ((⟨a,b,d⟩:ck),(⟨r,q⟩:aD))) n.toNat fuel 0 c1 [] (by simp;omega) (by unfold fuel;omega) (by omega) (by simp;omega) (by simp;omega) hc (by simp);exact⟨_,_,q1,q2,⟨hr,by show w'.length<=2;simp at q3;omega,q4⟩,hrn⟩
theorem a7N(c:ck)(h:dN c):∃c' p,lU c=some (c',p)/\dN c'/\lK 4 p:=by
 unfold lU;obtain⟨c1,p,e,hc,⟨hp1,hp2,hp3⟩,_⟩:=Wp c h;obtain⟨c2,x,e2,CP,hx,hx2⟩:=qh c1 10 hc (by decide) (by decide);rw[e,aA,e2,aA];cases(x==(0:Int))with
 |true=>
  obtain⟨c3,s,e3,Hx,hs⟩:=Nz c2 CP;rw[aF,e3,aA];exact⟨_,_,rfl,Hx,hs,by show p.args.length<=4;omega,hp3⟩
 |false=>
  rw[aL];cases(x==(1:Int))with
  |true=>
   obtain⟨c3,s,e3,Hx,hs⟩:=Nz c2 CP;rw[aF,e3,aA,gF (w:=p.args) (by omega) (by decide),aF];refine⟨_,_,rfl,Hx,hp1,by simp;omega,fun y hy=>?_⟩;rcases aW.1 hy with h|h
   ·exact hp3 y h
   ·simp at h;subst h;exact hs
  |false=>
   rw[aL];cases(x==(2:Int))with
   |true=>
    obtain⟨c3,z,e3,Hx,hz,WM⟩:=qh c2 5 CP (by decide) (by decide);have e4:(decide (0<=z)&&decide (z.toNat<=(([[97],[98],[99],[97]]:aI).map tx).length))=true:=by simp;omega
    rw[aF,e3,aA,e4,aF];refine⟨_,_,rfl,Hx,hp1,by simp[cU];omega,fun y hy=>?_⟩;have:∀s∈([[97],[98],[99],[97]]:aI),s.length<=16:=by decide
    exact this y (cO hy)
   |false=>exact⟨_,_,rfl,CP,hp1,by show p.args.length<=4;omega,hp3⟩
def DL(n:Nat)(l:aJ):Prop:=l.length<=n/\∀f∈l,lK 4 f
theorem lK.le{k m:Nat}{p:aD}(h:lK k p)(hm:k<=m):lK m p:=⟨h.1,by have:=h.2.1;omega,h.2.2⟩
theorem lK.copy{k:Nat}{p:aD}(h:lK k p)(hk:k<=1000):p.args.length<=1099511627776:=by have:=h.2.1;omega
theorem a9W(a:aJ)(f:aD)(K:Bool->aJ->Option aJ)(hf:lK 4 f):∀(rest:aJ) (i:Nat) (v:Bool) (w:aJ),(∀x∈rest,lK 4 x)->w.length+2*rest.length<=1000->
 ∃v' w',dF a f K rest i v w=K v' w'/\(∀x∈w',x∈w\/x∈rest\/x=f)/\w.length+rest.length<=w'.length/\
  (bif v then v'=true/\w'.length=w.length+rest.length else bif v' then w'.length<=w.length+rest.length+1/\((∀x∈rest,oI x f≠0)->w'.length=w.length+rest.length+1)else w'.length=w.length+rest.length):=by
 intro rest
 induction rest with
 |nil=>
  intro i v w _ _;refine⟨v,w,rfl,fun x hx=>.inl hx,by simp,?_⟩;cases v<;>simp
 |cons x xs ih=>
  intro i v w hs hl;simp only[aQ]at hl;have hx:=hs x (by simp);have hs':∀y∈xs,lK 4 y:=fun y hy=>hs y (by simp[hy])
  have cx:=zv x (hx.copy (by decide));have cf:=zv f (hf.copy (by decide));have nx:=fun w':aJ=>fun h:w'.length<1099511627776=>gF (w:=w') (c:=aD.c) (y:=[D.str x.rel,D.sl (x.args.map tx)]) (b:=40) h (by decide)
  have nf:=fun w':aJ=>fun h:w'.length<1099511627776=>gF (w:=w') (c:=aD.c) (y:=[D.str f.rel,D.sl (f.args.map tx)]) (b:=40) h (by decide)
  cases v with
  |true=>
   obtain⟨v',w',q1,q2,q3,q4⟩:=ih (i+1) true (w++[x]) hs' (by simp;omega);simp only[bB,aQ,cE,aF]at q3 q4;refine⟨v',w',?_,fun z hz=>?_,by simp only[aQ];omega,?_⟩
   ·rw[dF,bU,aL,cx,aA,nx w (by omega),aF];exact q1
   ·rcases q2 z hz with h|h|h
    ·rcases aW.1 h with h|h
     ·exact .inl h
     ·simp at h;subst h;exact .inr (.inl (by simp))
    ·exact .inr (.inl (by simp[h]))
    ·exact .inr (.inr h)
   ·simp only[aF,aQ];exact⟨q4.1,by omega⟩
  |false=>
   rw[dF,bt,aF,VH,aA];by_cases hge:oI x f>=0
   ·rw[au hge,aF,aA];by_cases hgt:oI x f>0
    ·obtain⟨v',w',q1,q2,q3,q4⟩:=ih (i+1) true (w++[f]++[x]) hs' (by simp;omega);simp only[bB,aQ,cE,aF]at q3 q4;have e2:room (((w.map aD.c)++[[D.str f.rel,D.sl (f.args.map tx)]]).length+[[D.str x.rel,D.sl (x.args.map tx)]].length) 40=true:=by
      have:=nx (w++[f]) (by simp;omega);rw[bI]at this;exact this
     refine⟨v',w',?_,fun z hz=>?_,by simp only[aQ];omega,?_⟩
     ·rw[au hgt,aF,cf,aA,nf w (by omega),aF,cx,aA,e2,aF];exact q1
     ·rcases q2 z hz with h|h|h
      ·rcases aW.1 h with h|h
       ·rcases aW.1 h with h|h
        ·exact .inl h
        ·simp at h;exact .inr (.inr h)
       ·simp at h;subst h;exact .inr (.inl (by simp))
      ·exact .inr (.inl (by simp[h]))
      ·exact .inr (.inr h)
     ·rw[q4.1];simp only[aL,aF,aQ];exact⟨by omega,fun _=>by omega⟩
    ·have hz:oI x f=0:=by omega
     obtain⟨v',w',q1,q2,q3,q4⟩:=ih (i+1) true (w++[x]) hs' (by simp;omega);simp only[bB,aQ,cE,aF]at q3 q4;refine⟨v',w',?_,fun z hz=>?_,by simp only[aQ];omega,?_⟩
     ·rw[ax hgt,aL,cx,aA,nx w (by omega),aF];exact q1
     ·rcases q2 z hz with h|h|h
      ·rcases aW.1 h with h|h
       ·exact .inl h
       ·simp at h;subst h;exact .inr (.inl (by simp))
      ·exact .inr (.inl (by simp[h]))
      ·exact .inr (.inr h)
     ·rw[q4.1];simp only[aL,aF,aQ];exact⟨by omega,fun h=>absurd hz (h x (by simp))⟩
   ·obtain⟨v',w',q1,q2,q3,q4⟩:=ih (i+1) false (w++[x]) hs' (by simp;omega);simp only[bB,aQ,cE,aL]at q3 q4;refine⟨v',w',?_,fun z hz=>?_,by simp only[aQ];omega,?_⟩
    ·rw[ax hge,aL,cx,aA,nx w (by omega),aF];exact q1
    ·rcases q2 z hz with h|h|h
     ·rcases aW.1 h with h|h
      ·exact .inl h
      ·simp at h;subst h;exact .inr (.inl (by simp))
     ·exact .inr (.inl (by simp[h]))
     ·exact .inr (.inr h)
    ·cases v' with
     |true=>
      simp only[aF,aL,aQ]at q4⊢;exact⟨by omega,fun h=>by have:=q4.2 (fun y hy=>h y (by simp[hy]));omega⟩
     |false=>simp only[aL,aQ]at q4⊢;omega
theorem a7b(l:aJ)(f:aD){n:Nat}(hl:DL n l)(hn:n<=100)(hf:lK 4 f):∃l',lV l f=some l'/\DL (n+1) l'/\(∀x∈l',x∈l\/x=f)/\((∀x∈l,oI x f≠0)->l'.length=l.length+1):=by
 unfold lV;obtain⟨v',w',q1,q2,q3,q4⟩:=a9W l f (fun(wU:Bool) (kO:aJ)=>(bif !(wU)then((eE f).bind fun RV=>(bif room ((kO.map aD.c).length+([[D.str RV.rel,D.sl (RV.args.map tx)]]).length) 40 then(some (kO++([RV])))else none))else(some kO))) hf l 0 false [] hl.2 (by have:=hl.1;simp;omega);have hln:=hl.1;simp only[cE,cY,aL]at q3 q4;have q2':∀x∈w',x∈l\/x=f:=fun x hx=>by
  rcases q2 x hx with h|h|h
  ·cases h
  ·exact .inl h
  ·exact .inr h
 have sm:∀x∈w',lK 4 x:=fun x hx=>by
  rcases q2' x hx with h|h
  ·exact hl.2 x h
  ·rw[h];exact hf
 cases v' with
 |true=>
  simp only[aF]at q4;exact⟨w',q1,⟨by omega,sm⟩,q2',q4.2⟩
 |false=>
  simp only[aL]at q4;refine⟨w'++[f],?_,⟨by simp;omega,fun x hx=>?_⟩,fun x hx=>?_,fun _=>by simp;omega⟩
  ·rw[q1];show(bif !false then _ else _)=_;rw[bt,aF,zv f (hf.copy (by decide)),aA,gF (w:=w') (c:=aD.c) (y:=[D.str f.rel,D.sl (f.args.map tx)]) (by omega) (by decide),aF]
  ·rcases aW.1 hx with h|h
   ·exact sm x h
   ·simp at h;subst h;exact hf
  ·rcases aW.1 hx with h|h
   ·exact q2' x h
   ·simp at h;exact .inr h
theorem aD2(k:bM->Int->Int->aJ->Option (ck×aJ)):∀(m:Nat) (fu:Nat) (v:Int) (c:ck) (w:aJ) (n:Nat),v=(m:Int)->m<fu->m<=50->n+m<=60->dN c->DL n w->(∀x∈w,x.rel≠[110])->
 ∃c' w',j0 k fu v c.b c.i c.h w=k c'.b c'.i c'.h w'/\dN c'/\DL (n+m) w'/\∀x∈w',x.rel≠[110]:=by
 intro m
 induction m with
 |zero=>
  intro fu v c w n hv hf hm hn hc hw hr;cases fu with
  |zero=>omega
  |succ fu=>
   have e:decide (v>0)=false:=by simp;omega
   rw[j0,e,aL];exact⟨c,w,rfl,hc,hw,hr⟩
 |succ m ih=>
  intro fu v c w n hv hf hm hn hc hw hr;cases fu with
  |zero=>omega
  |succ fu=>
   have e:decide (v>0)=true:=by simp;omega
   obtain⟨c1,f,e2,hc1,hf1,hf2⟩:=Wp c hc;have Vt:fO (⟨c.b,c.i,c.h⟩:ck)=some (c1,f):=e2;obtain⟨w1,e4,hw1,hm1,_⟩:=a7b w f hw (by omega) (hf1.le (by decide));have e3:IntKind.i64.wrap (v-1)=v-1:=eC (qu.i64.2 (by omega));rw[j0,e,aF,Vt,aA,e4,aA,e3];obtain⟨c',w',q1,q2,q3,q4⟩:=ih fu (v-1) c1 w1 (n+1) (by omega) (by omega) (by omega) (by omega) hc1 hw1 (fun x hx=>by
    rcases hm1 x hx with h|h
    ·exact hr x h
    ·rw[h];exact hf2)
   exact⟨c',w',q1,q2,⟨by have:=q3.1;omega,q3.2⟩,q4⟩
theorem a7f(c:ck)(n:Int)(h:dN c)(h0:0<=n)(hn:n<=40):∃c' l,qy c n=some (c',l)/\dN c'/\DL 40 l/\∀x∈l,x.rel≠[110]:=by
 unfold qy;have e3:IntKind.i64.wrap (n+1)=n+1:=eC (qu.i64.2 (by omega));obtain⟨c1,x,e,hc,hx,hx2⟩:=qh c (n+1) h (by omega) (by omega);rw[e3,e,aA];obtain⟨c',w',q1,q2,q3,q4⟩:=aD2 (fun a b d q=>some ((⟨a,b,d⟩:ck),q)) x.toNat fuel x c1 [] 0 (by omega) (by unfold fuel;omega) (by omega) (by omega) hc ⟨by simp,by simp⟩ (by simp);exact⟨_,_,q1,q2,⟨by have:=q3.1;omega,q3.2⟩,q4⟩
def Yt(j:Nat):Bytes:=if j<10 then [UInt8.ofNat (48+j)]else [UInt8.ofNat (48+j/10),UInt8.ofNat (48+j%10)]
theorem P8{j:Nat}(h:j<100):Lib.decDigits j=Yt j:=by
 unfold Yt;by_cases h1:j<10
 ·rw[bP h1,Lib.decDigits,dif_pos h1]
 ·rw[bE h1,Lib.decDigits,dif_neg h1,Lib.decDigits,dif_pos (by omega)];rfl
theorem UQ:∀j,j<25->Lib.decFrom 0 (Yt j)=some j/\1<=(Yt j).length/\(Yt j).length<=4:=by decide
theorem V3{j:Nat}(h:j<25):zL (Lib.decDigits j)=some j:=by
 rw[P8 (by omega)];obtain⟨h1,h2,h3⟩:=UQ j h;unfold zL;rw[bP ⟨h2,h3⟩,h1];simp only;rw[bP (P8 (by omega))]
def MU(j:Nat):aD:=⟨[110],[Lib.decDigits j]⟩
theorem a2E{i j:Nat}(hi:i<25)(hj:j<25)(h:i≠j):oI (MU i) (MU j)≠0:=by
 have:Co (Lib.decDigits i) (Lib.decDigits j)≠0:=by
  unfold Co;rw[V3 hi,V3 hj];unfold IY;simp only;split
  ·omega
  ·split<;>omega
 unfold oI MU cmpL vQ;simp only[ne_eq,not_true_eq_false,AF,this,not_false_eq_true,nM]
theorem V0{j:Nat}(h:j<25):lK 4 (MU j):=by
 refine⟨by simp[MU],by simp[MU],fun x hx=>?_⟩;simp only[MU,cH]at hx;subst hx;rw[P8 (by omega)];have:=(UQ j h).2.2;omega
theorem a9R(y:ck×Int)(k:aJ->Option (ck×aJ))(n0:Nat):∀(m:Nat) (fu:Nat) (j:Nat) (w:aJ),j+m=25->m<fu->n0<=40->DL (n0+j) w->j<=w.length->(∀x∈w,x.rel≠[110]\/∃i,i<j/\x=MU i)->
 ∃w',mo y k fu (j:Int) w=k w'/\DL (n0+25) w'/\25<=w'.length:=by
 intro m
 induction m with
 |zero=>
  intro fu j w hj hf hn hw hl hx;cases fu with
  |zero=>omega
  |succ fu=>
   have e:decide ((j:Int)<25)=false:=by simp;omega
   rw[mo,e,aL];exact⟨w,rfl,by rw[show n0+25=n0+j from by omega];exact hw,by omega⟩
 |succ m ih=>
  intro fu j w hj hf hn hw hl hx;cases fu with
  |zero=>omega
  |succ fu=>
   have e:decide ((j:Int)<25)=true:=by simp;omega
   have e1:kF (j:Int)=some (Lib.decDigits j):=by
    rw[a5j _ (qu.i64.2 (by omega))];unfold Lib.itoa;rw[bE (by omega)];rfl
   obtain⟨w1,e4,hw1,hm1,hlen⟩:=a7b w (MU j) hw (by omega) (V0 (by omega));have e4':lV w (⟨[110],[Lib.decDigits j]⟩:aD)=some w1:=e4;have e3:IntKind.i64.wrap ((j:Int)+1)=((j+1:Nat):Int):=by rw[eC (qu.i64.2 (by omega))];rfl
   have hlen:=hlen (fun x WL=>by
    rcases hx x WL with h|⟨i,hi,rfl⟩
    ·unfold oI;rw[bP (by exact h)];exact Sj h
    ·exact a2E (by omega) (by omega) (by omega))
   rw[mo,e,aF,e1,aA,e4',aA,e3];exact ih fu (j+1) w1 (by omega) (by omega) hn hw1 (by omega) (fun x WL=>by
    rcases hm1 x WL with h|h
    ·rcases hx x h with h|⟨i,hi,rfl⟩
     ·exact .inl h
     ·exact .inr ⟨i,by omega,rfl⟩
    ·exact .inr ⟨j,by omega,h⟩)
theorem a9Q(c:ck)(h:dN c):∃c' l,xY c=some (c',l)/\dN c'/\DL 65 l:=by
 unfold xY;obtain⟨c1,l,e,hc,hl,hr⟩:=a7f c 6 h (by decide) (by decide);obtain⟨c2,x,e2,CP,hx,hx2⟩:=qh c1 8 hc (by decide) (by decide);rw[e,aA,e2,aA];have hl1:=hl.1;cases(x==(0:Int))with
 |true=>
  obtain⟨c3,f,e3,Hx,hf⟩:=a7N c2 CP;rw[aF,e3,aA,gF (w:=l) (c:=aD.c) (y:=[D.str f.rel,D.sl (f.args.map tx)]) (by omega) (by decide),aF];refine⟨_,_,rfl,Hx,by simp;omega,fun y hy=>?_⟩;rcases aW.1 hy with h|h
  ·exact hl.2 y h
  ·simp at h;subst h;exact hf
 |false=>
  rw[aL];cases(x==(1:Int))with
  |true=>
   rw[aF];obtain⟨w',q1,q2,q3⟩:=a9R (c2,x) (fun(kO:aJ)=>((ir c2 ([23,24,25]:bM)).bind fun Fj=>(bif decide (0<=(Fj.2:Int))&&decide (Fj.2.toNat<=(kO.map aD.c).length)then(some (Fj.1,kO.take Fj.2.toNat))else none))) 40 25 fuel 0 l (by omega) (by unfold fuel;omega) (by omega) hl (by omega) (fun y hy=>.inl (hr y hy));obtain⟨c3,z,e3,Hx,hz⟩:=OW c2 [23,24,25] CP (by decide) (by decide);have WM:0<=z/\z<=25:=by
    have:∀s∈([23,24,25]:bM),0<=s/\s<=25:=by decide
    exact this z hz
   have e4:(decide (0<=z)&&decide (z.toNat<=(w'.map aD.c).length))=true:=by simp;omega
   refine⟨c3,w'.take z.toNat,?_,Hx,by have:=q2.1;simp;omega,fun y hy=>q2.2 y (cO hy)⟩;refine Eq.trans q1 ?_;show((ir c2 [23,24,25]).bind _)=_;rw[e3,aA,e4,aF]
  |false=>exact⟨_,_,rfl,CP,by show l.length<=65;omega,hl.2⟩
def Ek(c:aU):Prop:=lK 4 c.pat/\c.left.length<=16/\c.right.length<=16
def SY(a:Action):Prop:=lK 4 a.pat
def vb(n:Nat)(r:aO):Prop:=r.name.length<=16/\(r.conds.length<=n/\∀c∈r.conds,Ek c)/\(r.dD.length<=n/\∀a∈r.dD,SY a)
theorem Bc{G:Type}{w:G->Nat}{B:Nat}:∀(l:List G),(∀x∈l,w x<=B)->sC w l<=(B+1)*l.length
 | [],_=>by simp[sC]
 |x::l,h=>by
  have h1:=Bc l fun y hy=>h y (by simp[hy])
  have h2:=h x (by simp);rw[py,aQ,Nat.mul_add];omega
theorem lK.wt4{p:aD}(h:lK 4 p):tw p.rel+sC tw p.args<=100:=by
 have:=SK p.args h.2.2;have h1:=h.1;have h2:=h.2.1;unfold tw at*;omega
theorem Ek.wt{c:aU}(h:Ek c):c.wt<=200:=by
 have h1:=h.1.wt4;have h2:=h.2.1;have h3:=h.2.2;unfold aU.wt;unfold tw at*;omega
theorem SY.wt{a:Action}(h:SY a):a.wt<=200:=by
 have h1:=lK.wt4 h;unfold Action.wt;unfold tw at*;omega
theorem vb.wt{n:Nat}{r:aO}(h:vb n r)(hn:n<=1000):r.wt<=1048576:=by
 obtain⟨h1,⟨h2,h3⟩,h4,h5⟩:=h;have c1:=Bc (w:=aU.wt) (B:=200) r.conds (fun x hx=>(h3 x hx).wt);have c2:=Bc (w:=Action.wt) (B:=200) r.dD (fun x hx=>(h5 x hx).wt);have d1:(200+1)*r.conds.length<=201*1000:=dY _ (by omega);have d2:(200+1)*r.dD.length<=201*1000:=dY _ (by omega);unfold aO.wt;unfold tw at*;omega
def PJ(p:aD):Bool:=decide (p.rel.length<=16)&&(decide (p.args.length<=4)&&p.args.all fun x=>decide (x.length<=16))
theorem S9{p:aD}(h:PJ p=true):lK 4 p:=by
 unfold PJ at h;simp only[aS,bH,b8]at h;exact h
def Ti(r:aO):Bool:=(decide (r.name.length<=16)&&((decide (r.conds.length<=4)&&r.conds.all fun c=>PJ c.pat&&(decide (c.left.length<=16)&&decide (c.right.length<=16)))&&(decide (r.dD.length<=4)&&r.dD.all fun a=>PJ a.pat)))&&(decide (1<=r.conds.length)&&decide (1<=r.dD.length))
theorem Zo{r:aO}(h:Ti r=true):vb 4 r/\1<=r.conds.length/\1<=r.dD.length:=by
 unfold Ti at h;simp only[aS,bH,b8]at h;obtain⟨⟨h1,⟨h2,h3⟩,h4,h5⟩,h6,h7⟩:=h;exact⟨⟨h1,⟨h2,fun c hc=>⟨S9 (h3 c hc).1,(h3 c hc).2⟩⟩,h4,fun a ha=>S9 (h5 a ha)⟩,h6,h7⟩
theorem a9d(c:ck)(l r:Bytes)(h:dN c)(hl:l.length<=16)(hr:r.length<=16):∃c' x,xZ c l r=some (c',x)/\dN c'/\Ek x:=by
 unfold xZ;obtain⟨c1,k,e,hc,_⟩:=OW c [3,4,4,5] h (by decide) (by decide);rw[e,aA];exact⟨_,_,rfl,hc,⟨by simp,by simp,by simp⟩,hl,hr⟩
theorem a2m(c:ck)(h:dN c):∃c' x,tU c=some (c',x)/\dN c'/\Ek x:=by
 unfold tU;obtain⟨c1,k,e,hc,_,_⟩:=qh c 5 h (by decide) (by decide);rw[e,aA];have one:∀k:Int,∃c' x,((jx c1).bind fun y4=>(some (y4.1,(⟨k,y4.2,[],[]⟩:aU))))=some (c',x)/\dN c'/\Ek x:=fun k=>by
  obtain⟨c2,p,e2,CP,hp⟩:=Ta c1 hc;rw[e2,aA];exact⟨_,_,rfl,CP,⟨hp.1,by have:=hp.2.1;show p.args.length<=4;omega,hp.2.2⟩,by simp,by simp⟩
 cases(k==(0:Int))with
 |true=>rw[aF];exact one 1
 |false=>
  rw[aL];cases(k==(1:Int))with
  |true=>rw[aF];exact one 1
  |false=>
   rw[aL];cases(k==(2:Int))with
   |true=>rw[aF];exact one 2
   |false=>
    obtain⟨c2,l,e2,CP,hl⟩:=Ww c1 hc;obtain⟨c3,r,e3,Hx,hr⟩:=Ww c2 CP;obtain⟨c4,x,e4,hc4,hx⟩:=a9d c3 l r Hx hl hr;rw[aL,e2,aA,e3,aA,e4,aA];exact⟨_,_,rfl,hc4,hx⟩
theorem aCc(c:ck)(h:dN c):∃c' x,zB c=some (c',x)/\dN c'/\Ek x:=by
 unfold zB;obtain⟨c1,x,e,hc,hx⟩:=a2m c h;obtain⟨c2,k,e2,CP,_,_⟩:=qh c1 12 hc (by decide) (by decide);rw[e,aA,e2,aA];cases(k==(0:Int))with
 |true=>
  obtain⟨c3,n,e3,Hx,_⟩:=OW c2 [0,1,3,5,6, -1] CP (by decide) (by decide);rw[aF,e3,aA];exact⟨_,_,rfl,Hx,hx⟩
 |false=>
  rw[aL];cases(k==(1:Int))with
  |true=>
   obtain⟨c3,s,e3,Hx,hs⟩:=Nz c2 CP;rw[aF,e3,aA];exact⟨_,_,rfl,Hx,hx.1,hs,hx.2.2⟩
  |false=>
   rw[aL];cases(k==(2:Int))with
   |true=>
    obtain⟨c3,p,e3,Hx,hp⟩:=a7O c2 CP;rw[aF,e3,aA];exact⟨_,_,rfl,Hx,hp,hx.2⟩
   |false=>exact⟨_,_,rfl,CP,hx⟩
def Y4(s:Bytes):Bool:=match rP s with
 |some (r,_)=>Ti r&&fR r
 |none=>false
def U1(r:aO):Prop:=vb 4 r/\fR r=true/\1<=r.conds.length/\1<=r.dD.length
theorem a5k(K:aI)(c:ck)(m:Int)(h:dN c)(hm:0<m)(h0:0<K.length)(h1:K.length<=256)(hK:K.all Y4=true):
 ∃c' r,((cg c (T9 m ((K.map tx).length:Int))).bind fun y1=>((fy K y1.2).bind fun x3=>((rP x3).bind fun y5=>(some (y1.1,y5.1)))))=some (c',r)/\dN c'/\U1 r:=by
 have hlen:((K.map tx).length:Int)=(K.length:Int):=by simp
 have hmin:0<T9 m ((K.map tx).length:Int)/\T9 m ((K.map tx).length:Int)<=(K.length:Int):=by
  unfold T9;rw[hlen];split<;>omega
 obtain⟨c1,x,e,hc,hx,hx2⟩:=qh c _ h hmin.1 (by omega);have hlt:x.toNat<K.length:=by omega
 have e2:fy K x=some K[x.toNat]:=by unfold fy;rw[au hx,aF];exact av hlt
 have hk:=b8.1 hK _ (j5 hlt);unfold Y4 at hk;rw[e,aA,e2,aA];cases hp:rP K[x.toNat]with
 |none=>rw[hp]at hk;cases hk
 |some p=>
  rw[hp]at hk;simp only[aS]at hk;obtain⟨q1,q2,q3⟩:=Zo hk.1;exact⟨_,_,rfl,hc,q1,hk.2,q2,q3⟩
theorem a2v(c:ck)(m:Int)(h:dN c)(hm:0<m):∃c' r,pg c m=some (c',r)/\dN c'/\U1 r:=by
 unfold pg;refine a5k _ c m h hm ?_ ?_ ?_
 ·decide
 ·decide
 ·kernel_rfl
theorem a5m(y1:ck×Int):∀(m:Nat) (fu:Nat) (v:Int) (c:ck) (w:ay),v=(m:Int)->m<fu->m<=50->w.length+m<=100->dN c->(∀x∈w,Ek x)->
 ∃c' w',(∀k,jj y1 k fu v c.b c.i c.h w=k c'.b c'.i c'.h w')/\dN c'/\w'.length=w.length+m/\∀x∈w',Ek x:=by
 intro m
 induction m with
 |zero=>
  intro fu v c w hv hf hm hn hc hw;cases fu with
  |zero=>omega
  |succ fu=>
   have e:decide (v>0)=false:=by simp;omega
   exact⟨c,w,fun k=>by rw[jj,e,aL],hc,rfl,hw⟩
 |succ m ih=>
  intro fu v c w hv hf hm hn hc hw;cases fu with
  |zero=>omega
  |succ fu=>
   have e:decide (v>0)=true:=by simp;omega
   obtain⟨c1,x,e2,hc1,hx⟩:=a2m c hc;have Vt:tU (⟨c.b,c.i,c.h⟩:ck)=some (c1,x):=e2;have e3:IntKind.i64.wrap (v-1)=v-1:=eC (qu.i64.2 (by omega));obtain⟨c',w',q1,q2,q3,q4⟩:=ih fu (v-1) c1 (w++[x]) (by omega) (by omega) (by omega) (by simp;omega) hc1 (fun y hy=>by
    rcases aW.1 hy with h|h
    ·exact hw y h
    ·simp at h;subst h;exact hx)
   exact⟨c',w',fun k=>by rw[jj,e,aF,Vt,aA,gF (by omega) (by decide),aF,e3];exact q1 k,q2,by simp at q3;omega,q4⟩
theorem a5n(y1:ck×Int)(q:ay)(y:aI)(xm:ck×aD):∀(m:Nat) (fu:Nat) (v:Nat) (c:ck) (w:aI),w.length=v+m->m<fu->w.length<=100->dN c->(∀x∈w,x.length<=16)->
 ∃c' w',(∀k,eG y1 q y xm k fu (v:Int) c.b c.i c.h w=k c'.b c'.i c'.h w')/\dN c'/\w'.length=w.length/\∀x∈w',x.length<=16:=by
 intro m
 induction m with
 |zero=>
  intro fu v c w hv hf hm hc hw;cases fu with
  |zero=>omega
  |succ fu=>
   have e:decide ((v:Int)<((w.map tx).length:Int))=false:=by simp;omega
   exact⟨c,w,fun k=>by rw[eG,e,aL],hc,rfl,hw⟩
 |succ m ih=>
  intro fu v c w hv hf hm hc hw;cases fu with
  |zero=>omega
  |succ fu=>
   have e:decide ((v:Int)<((w.map tx).length:Int))=true:=by simp;omega
   have hlt:v<w.length:=by omega
   have e1:fy w (v:Int)=some w[v]:=by unfold fy;rw[au (by omega),aF];exact av hlt
   have hx:=hw w[v] (j5 hlt);have e4:IntKind.i64.wrap ((v:Int)+1)=((v+1:Nat):Int):=by rw[eC (qu.i64.2 (by omega))];rfl
   have st:∀k,eG y1 q y xm k (fu+1) (v:Int) c.b c.i c.h w=(bif fo w[v]then(bif !(y.contains w[v])then((j9 (⟨c.b,c.i,c.h⟩:ck)).bind fun y83=>eG y1 q y xm k fu ((v+1:Nat):Int) y83.1.b y83.1.i y83.1.h (w.set (v:Int).toNat y83.2))else eG y1 q y xm k fu ((v+1:Nat):Int) c.b c.i c.h w)else eG y1 q y xm k fu ((v+1:Nat):Int) c.b c.i c.h w):=by
    intro k;rw[eG,e,aF,e1,aA,Tf w[v] (by omega),aA,e4,Zk,aA]
   obtain⟨c0,w0,p1,p2,p3,p4⟩:=ih fu (v+1) c w (by omega) (by omega) hm hc hw;cases hv1:fo w[v]with
   |false=>exact⟨c0,w0,fun k=>by rw[st k,hv1,aL];exact p1 k,p2,p3,p4⟩
   |true=>
    cases Gc:y.contains w[v]with
    |true=>exact⟨c0,w0,fun k=>by rw[st k,hv1,Gc,aF,bU,aL];exact p1 k,p2,p3,p4⟩
    |false=>
     obtain⟨c1,s,e2,hc1,hs⟩:=Wl c hc;have Vt:j9 (⟨c.b,c.i,c.h⟩:ck)=some (c1,s):=e2;obtain⟨c',w',q1,q2,q3,q4⟩:=ih fu (v+1) c1 (w.set (v:Int).toNat s) (by simp;omega) (by omega) (by simpa using hm) hc1 (fun x WL=>by
      rcases sG WL with h|h
      ·exact hw x h
      ·subst h;exact hs)
     exact⟨c',w',fun k=>by rw[st k,hv1,Gc,aF,bt,aF,Vt,aA];exact q1 k,q2,by simpa using q3,q4⟩
theorem aCw(c:ck)(h:dN c):∃c' r,vP c=some (c',r)/\dN c'/\U1 r:=by
 unfold vP;obtain⟨c1,n,e1,hc1,_,_⟩:=qh c 4 h (by decide) (by decide);obtain⟨c2,p,e2,CP,hp⟩:=Ta c1 hc1;obtain⟨c3,m,e3,Hx,hm,hm2⟩:=qh c2 3 CP (by decide) (by decide);rw[e1,aA,e2,aA,e3,aA];have hp4:lK 4 p:=⟨hp.1,by have:=hp.2.1;omega,hp.2.2⟩
 obtain⟨c4,cs,q1,hc4,a8M,hsm⟩:=a5m (c1,n) m.toNat fuel m c3 [(⟨1,p,[],[]⟩:aU)] (by omega) (by unfold fuel;omega) (by omega) (by simp;omega) Hx (fun x hx=>by
  simp at hx;subst hx;exact⟨hp4,by simp,by simp⟩)
 have hcs:1<=cs.length/\cs.length<=3:=by simp at a8M;omega
 rw[q1];dsimp only;have hw0:(⟨[114],n,cs,[]⟩:aO).wt<=1048576:=vb.wt (n:=4) ⟨by simp,⟨by show cs.length<=4;omega,hsm⟩,by simp,by simp⟩ (by decide);obtain⟨c5,q,e5,hc5,hq⟩:=Ta c4 hc4;have e5':jx (⟨c4.b,c4.i,c4.h⟩:ck)=some (c5,q):=e5;rw[Wm (⟨[114],n,cs,[]⟩:aO) _ hw0,aA,e5',aA];dsimp only;obtain⟨c6,qa,r1,hc6,r3,r4⟩:=a5n (c1,n) cs (fT (Bx (⟨[114],n,cs,[]⟩:aO) ((cs.map aU.c).length:Int))) (c5,q) q.args.length fuel 0 c5 q.args (by simp) (by have:=hq.2.1;unfold fuel;omega) (by have:=hq.2.1;omega) hc5 hq.2.2;have r1':=r1;rw[show((0:Nat):Int)=0 from rfl]at r1';rw[r1'];obtain⟨c7,k,e7,hc7,_⟩:=OW c6 [1,1,2] hc6 (by decide) (by decide);have e7':ir (⟨c6.b,c6.i,c6.h⟩:ck) [1,1,2]=some (c7,k):=e7;obtain⟨c8,b,e8,hc8⟩:=Qm c7 6 hc7 (by decide) (by decide);have a2d:∀n,n<=4->room n 48=true:=fun n hn=>Ff (by omega) (by decide)
 rw[e7',aA];dsimp only;rw[a2d _ (by simp),aF,e8,aA];have hq4:lK 4 (⟨q.rel,qa⟩:aD):=⟨hq.1,by show qa.length<=4;have:=hq.2.1;omega,r4⟩
 have fin:∀(al:fA),1<=al.length->al.length<=2->(∀a∈al,SY a)->∃c' r,((pM (⟨[114],n,cs,al⟩:aO)).bind fun y92=>(bif !(y92)then((pg c8 99).bind fun y95=>(some (y95.1,y95.2)))else(some (c8,(⟨[114],n,cs,al⟩:aO)))))=some (c',r)/\dN c'/\U1 r:=by
  intro al ha1 ha2 ha;have hsr:vb 4 (⟨[114],n,cs,al⟩:aO):=⟨by simp,⟨by show cs.length<=4;omega,hsm⟩,by show al.length<=4;omega,ha⟩
  rw[a7e _ (hsr.wt (by decide)),aA];cases hr:fR (⟨[114],n,cs,al⟩:aO)with
  |true=>exact⟨_,_,rfl,hc8,hsr,hr,hcs.1,ha1⟩
  |false=>
   obtain⟨c9,r,e9,hc9,hr9⟩:=a2v c8 99 hc8 (by decide);rw[bt,aF,e9,aA];exact⟨_,_,rfl,hc9,hr9⟩
 cases b with
 |true=>
  dsimp only;rw[aF,a2d _ (by simp),aF];exact fin _ (by simp) (by simp) (fun a ha=>by
   simp at ha;rcases ha with rfl|rfl
   ·exact hq4
   ·exact⟨by simp,by simp,by simp⟩)
 |false=>
  dsimp only;rw[aL];exact fin _ (by simp) (by simp) (fun a ha=>by
   simp at ha;subst ha;exact hq4)
theorem a2n(c:ck)(h:dN c):∃c' r,nJ c=some (c',r)/\dN c'/\U1 r:=by
 unfold nJ;obtain⟨c1,b,e,hc⟩:=Qm c 3 h (by decide) (by decide);rw[e,aA];cases b with
 |true=>
  obtain⟨c2,r,e2,CP,hr⟩:=aCw c1 hc;rw[aF,e2,aA];exact⟨_,_,rfl,CP,hr⟩
 |false=>
  obtain⟨c2,r,e2,CP,hr⟩:=a2v c1 99 hc (by decide);rw[aL,e2,aA];exact⟨_,_,rfl,CP,hr⟩
theorem vb.le{n m:Nat}{r:aO}(h:vb n r)(hm:n<=m):vb m r:=⟨h.1,⟨by have:=h.2.1.1;omega,h.2.1.2⟩,by have:=h.2.2.1;omega,h.2.2.2⟩
theorem aCd(c:ck)(h:dN c):∃c' r,zC c=some (c',r)/\dN c'/\vb 5 r:=by
 unfold zC;obtain⟨c1,r,e,hc,hg,_,g1,g2⟩:=a2n c h;obtain⟨c2,x,e2,CP,_,_⟩:=qh c1 14 hc (by decide) (by decide);have hr:=hg.le (m:=5) (by decide);have hl1:=hg.2.1.1;have PE:=hg.2.2.1;rw[e,aA,e2,aA];cases(x==(0:Int))with
 |true=>
  obtain⟨c3,s,e3,Hx,hs⟩:=Nz c2 CP;rw[aF,e3,aA];exact⟨_,_,rfl,Hx,hs,hr.2⟩
 |false=>
  rw[aL];cases(x==(1:Int))with
  |true=>
   obtain⟨c3,s,e3,Hx,_⟩:=OW c2 [-1,0,9,10] CP (by decide) (by decide);rw[aF,e3,aA];exact⟨_,_,rfl,Hx,hr⟩
  |false=>
   rw[aL];cases(x==(2:Int))with
   |true=>
    obtain⟨c3,k,e3,Hx,hk⟩:=aCc c2 CP;rw[aF,e3,aA,gF (by show r.conds.length<_;omega) (by decide),aF];refine⟨_,_,rfl,Hx,hr.1,⟨by simp;omega,fun y hy=>?_⟩,hr.2.2⟩;rcases aW.1 hy with h|h
    ·exact hr.2.1.2 y h
    ·simp at h;subst h;exact hk
   |false=>
    rw[aL];cases(x==(3:Int))with
    |true=>
     obtain⟨c3,k,e3,Hx,_⟩:=OW c2 [0,1,2,3,4] CP (by decide) (by decide);obtain⟨c4,p,e4,hc4,hp⟩:=a7O c3 Hx;rw[aF,e3,aA,e4,aA,gF (by show r.dD.length<_;omega) (by decide),aF];refine⟨_,_,rfl,hc4,hr.1,hr.2.1,by simp;omega,fun y hy=>?_⟩;rcases aW.1 hy with h|h
     ·exact hr.2.2.2 y h
     ·simp at h;subst h;exact hp
    |false=>
     rw[aL];cases(x==(4:Int))with
     |true=>
      rw[aF,YE (by simpa using g1),aA];exact⟨_,_,rfl,CP,hr.1,⟨by rw[mM,cU];show min _ r.conds.length-1<=5;omega,fun y hy=>hr.2.1.2 y (cO (fM hy))⟩,hr.2.2⟩
     |false=>
      rw[aL];cases(x==(5:Int))with
      |true=>
       rw[aF,YE (by simpa using g2),aA];exact⟨_,_,rfl,CP,hr.1,hr.2.1,by rw[mM,cU];show min _ r.dD.length-1<=5;omega,fun y hy=>hr.2.2.2 y (cO (fM hy))⟩
      |false=>
       rw[aL];cases(x==(6:Int))with
       |true=>
        obtain⟨c3,s,e3,Hx,hs⟩:=Zl c2 [[63,102],[63,97],[63,103]] CP (by decide) (by decide);obtain⟨c4,k,e4,hc4,_⟩:=OW c3 [1,2] Hx (by decide) (by decide);obtain⟨c5,t,e5,hc5,ht⟩:=Zl c4 [[63,102],[63,120]] hc4 (by decide) (by decide);have hs2:s.length<=16:=by
         have:∀s∈([[63,102],[63,97],[63,103]]:aI),s.length<=16:=by decide
         exact this s hs
        have ht2:t.length<=16:=by
         have:∀s∈([[63,102],[63,120]]:aI),s.length<=16:=by decide
         exact this t ht
        rw[aF,e3,aA,e4,aA,e5,aA];refine⟨_,_,rfl,hc5,hr.1,⟨by simp,fun y hy=>?_⟩,by simp,fun y hy=>?_⟩
        ·simp at hy;rcases hy with rfl|rfl|rfl
         ·exact⟨⟨by simp,by simp,by simp⟩,by simp,by simp⟩
         ·exact⟨⟨by simp,by simp,by simpa using hs2⟩,by simp,by simp⟩
         ·exact⟨⟨by simp,by simp,by simpa using ht2⟩,by simp,by simp⟩
        ·simp at hy;subst hy;exact⟨by simp,by simp,by simp⟩
       |false=>exact⟨_,_,rfl,CP,hr⟩
theorem DL.wt{n:Nat}{l:aJ}(h:DL n l)(hn:n<=1000):sC aD.wt l<=1048576:=by
 have c1:=Bc (w:=aD.wt) (B:=200) l (fun x hx=>by
  have:=lK.wt4 (h.2 x hx);unfold aD.wt;unfold tw at*;omega)
 have d1:(200+1)*l.length<=201*1000:=dY _ (by have:=h.1;omega);omega
theorem a9L(c:ck)(h:dN c):∃c' s,j9 c=some (c',s)/\dN c'/\fV s=true:=by
 unfold j9;obtain⟨c',s,e,hc,hs⟩:=Zl c ([[97],[98],[99],[49],[50]]:aI) h (by decide) (by decide);rw[e,aA];have:∀s∈([[97],[98],[99],[49],[50]]:aI),fV s=true:=by decide
 exact⟨_,_,rfl,hc,this s hs⟩
theorem aCz(c:ck)(h:dN c):∃c' r n,pO c=some (c',(r,n))/\dN c'/\zG r=true/\r.length<=2/\0<=n/\n<=2:=by
 unfold pO;obtain⟨c1,x,e,hc,hx,hx2⟩:=qh c 6 h (by decide) (by decide);rw[e,aA];have key:x=0\/x=1\/x=2\/x=3\/x=4\/x=5:=by omega
 rcases key with rfl|rfl|rfl|rfl|rfl|rfl<;>exact⟨c1,_,_,rfl,hc,by decide,by decide,by decide,by decide⟩
theorem a2q(y:ck×(Bytes×Int))(k:bM->Int->Int->aI->Option (ck×aD)):∀(m:Nat) (fu:Nat) (v:Int) (c:ck) (w:aI),y.2.2-v=(m:Int)->m<fu->0<=v->y.2.2<=100->w.length+m<=1000->dN c->(∀x∈w,fV x=true)->
 ∃c' w',iG y k fu v c.b c.i c.h w=k c'.b c'.i c'.h w'/\dN c'/\w'.length<=w.length+m/\∀x∈w',fV x=true:=by
 intro m
 induction m with
 |zero=>
  intro fu v c w hv hf h0 hy hw hc hx;cases fu with
  |zero=>omega
  |succ fu=>
   have e:decide (v<y.2.2)=false:=by simp;omega
   rw[iG,e,aL];exact⟨c,w,rfl,hc,by omega,hx⟩
 |succ m ih=>
  intro fu v c w hv hf h0 hy hw hc hx;cases fu with
  |zero=>omega
  |succ fu=>
   have e:decide (v<y.2.2)=true:=by simp;omega
   obtain⟨c1,s,e2,hc1,hs⟩:=a9L c hc;have Vt:j9 (⟨c.b,c.i,c.h⟩:ck)=some (c1,s):=e2;have e3:IntKind.i64.wrap (v+1)=v+1:=eC (qu.i64.2 (by omega));rw[iG,e,aF,Vt,aA,gF (by omega) (by decide),aF,e3];obtain⟨c',w',q1,q2,q3,q4⟩:=ih fu (v+1) c1 (w++[s]) (by omega) (by omega) (by omega) hy (by simp;omega) hc1 (fun x WL=>by
    rcases aW.1 WL with h|h
    ·exact hx x h
    ·simp at h;subst h;exact hs)
   exact⟨c',w',q1,q2,by simp at q3;omega,q4⟩
theorem a5f(c:ck)(h:dN c):∃c' p,fO c=some (c',p)/\dN c'/\pK p=true/\p.rel.length<=2:=by
 unfold fO;obtain⟨c1,r,n,e,hc,hr,hr2,hn,hn2⟩:=aCz c h;rw[e,aA];obtain⟨c',w',q1,q2,q3,q4⟩:=a2q (c1,(r,n)) (fun a b d q=>some ((⟨a,b,d⟩:ck),(⟨r,q⟩:aD))) n.toNat fuel 0 c1 [] (by simp;omega) (by unfold fuel;omega) (by omega) (by simp;omega) (by simp;omega) hc (by simp);refine⟨_,_,q1,q2,?_,hr2⟩;unfold pK;simp only[aS,bH,b8];exact⟨q4,hr,by simp at q3;omega⟩
theorem a7Y(a:aJ)(f:aD)(K:Bool->aJ->Option aJ):∀(rest:aJ) (i:Nat) (w:aJ),(∀x∈rest,x.args.length<=1048576)->w.length+rest.length<=1048576->dF a f K rest i true w=K true (w++rest)
 | [],i,w,_,_=>by simp[dF]
 |x::xs,i,w,hs,hl=>by
  simp only[aQ]at hl;rw[dF,bU,aL,zv x (by have:=hs x (by simp);omega),aA,gF (w:=w) (c:=aD.c) (y:=[D.str x.rel,D.sl (x.args.map tx)]) (b:=40) (by omega) (by decide),aF,a7Y a f K xs (i+1) (w++[x]) (fun y hy=>hs y (by simp[hy])) (by simp;omega)];simp
theorem a7X(a:aJ)(f:aD)(K:Bool->aJ->Option aJ):∀(rest:aJ) (p:Option aD) (i:Nat) (w:aJ),(∀x∈rest,x.args.length<=1048576)->w.length+rest.length<=1048576->chainB p rest=true->f∈rest->dF a f K rest i false w=K true (w++rest)
 | [],_,_,_,_,_,_,h=>by cases h
 |x::xs,p,i,w,hs,hl,hc,hm=>by
  simp only[aQ]at hl;obtain⟨_,_,h3⟩:=yO hc;have cx:=zv x (by have:=hs x (by simp);omega);have rx:=gF (w:=w) (c:=aD.c) (y:=[D.str x.rel,D.sl (x.args.map tx)]) (b:=40) (by omega) (by decide);rw[dF,bt,aF,VH,aA];by_cases e:x=f
  ·rw[e,Rh,<-e];rw[au (by omega:(0:Int)>=0),aF,aA,ax (by omega:¬(0:Int)>0),aL,cx,aA,rx,aF,a7Y a x K xs (i+1) (w++[x]) (fun y hy=>hs y (by simp[hy])) (by simp;omega)];simp
  ·have hxs:f∈xs:=by
    rcases bV.1 hm with q|q
    ·exact absurd q.symm e
    ·exact q
   have hlt:=N9 h3 f hxs;rw[ax (by omega),aL,cx,aA,rx,aF,a7X a f K xs (some x) (i+1) (w++[x]) (fun y hy=>hs y (by simp[hy])) (by simp;omega) h3 hxs];simp
theorem aCv{l:aJ}{f:aD}(hl:fJ l=true)(hf:pK f=true)(hn:l.length<24):∃l',lV l f=some l'/\fJ l'=true/\l'.length<=l.length+1/\∀x∈l',x∈l\/x=f:=by
 have hargs:∀x∈l,x.args.length<=1048576:=fun x hx=>aD.dZ (by have:=MG (Jv hl x hx);omega)
 by_cases hm:f∈l
 ·refine⟨l,?_,hl,by omega,fun x hx=>.inl hx⟩;have hc:chainB none l=true:=by
   unfold fJ at hl;rw[aS]at hl;exact hl.1
  unfold lV;rw[a7X l f _ l none 0 [] hargs (by simp;omega) hc hm];rfl
 ·refine⟨xJ f l,a7W l f (by have:=aD.dZ (n:=1048576) (by have:=MG hf;omega:f.wt<=1048576);omega) (fun x hx=>by have:=hargs x hx;omega) (by omega) hm,Sc hf hl hm (by omega),by rw[QD];omega,fun x hx=>?_⟩;rcases(MM f l x).1 hx with h|h
  ·exact .inr h
  ·exact .inl h
theorem a9b(k:bM->Int->Int->aJ->Option (ck×aJ)):∀(m:Nat) (fu:Nat) (v:Int) (c:ck) (w:aJ),v=(m:Int)->m<fu->w.length+m<=20->dN c->fJ w=true->(∀x∈w,x.rel.length<=2)->
 ∃c' w',j0 k fu v c.b c.i c.h w=k c'.b c'.i c'.h w'/\dN c'/\fJ w'=true/\w'.length<=w.length+m/\∀x∈w',x.rel.length<=2:=by
 intro m
 induction m with
 |zero=>
  intro fu v c w hv hf hm hc hw hr;cases fu with
  |zero=>omega
  |succ fu=>
   have e:decide (v>0)=false:=by simp;omega
   rw[j0,e,aL];exact⟨c,w,rfl,hc,hw,by omega,hr⟩
 |succ m ih=>
  intro fu v c w hv hf hm hc hw hr;cases fu with
  |zero=>omega
  |succ fu=>
   have e:decide (v>0)=true:=by simp;omega
   obtain⟨c1,f,e2,hc1,hf1,hf2⟩:=a5f c hc;have Vt:fO (⟨c.b,c.i,c.h⟩:ck)=some (c1,f):=e2;obtain⟨w1,e4,hw1,hl1,hm1⟩:=aCv hw hf1 (by omega);have e3:IntKind.i64.wrap (v-1)=v-1:=eC (qu.i64.2 (by omega));rw[j0,e,aF,Vt,aA,e4,aA,e3];obtain⟨c',w',q1,q2,q3,q4,q5⟩:=ih fu (v-1) c1 w1 (by omega) (by omega) (by omega) hc1 hw1 (fun x hx=>by
    rcases hm1 x hx with h|h
    ·exact hr x h
    ·rw[h];exact hf2)
   exact⟨c',w',q1,q2,q3,by omega,q5⟩
theorem aD3(c:ck)(n:Int)(h:dN c)(h0:0<=n)(hn:n<=19):∃c' l,qy c n=some (c',l)/\dN c'/\fJ l=true/\(l.length:Int)<=n/\∀x∈l,x.rel.length<=2:=by
 unfold qy;have e3:IntKind.i64.wrap (n+1)=n+1:=eC (qu.i64.2 (by omega));obtain⟨c1,x,e,hc,hx,hx2⟩:=qh c (n+1) h (by omega) (by omega);rw[e3,e,aA];obtain⟨c',w',q1,q2,q3,q4,q5⟩:=a9b (fun a b d q=>some ((⟨a,b,d⟩:ck),q)) x.toNat fuel x c1 [] (by omega) (by unfold fuel;omega) (by simp;omega) hc rfl (by simp);exact⟨_,_,q1,q2,q3,by simp at q4;omega,q5⟩
theorem OA(r:aO)(n:Bytes):∀(cs:ay) (i:Nat),ug ⟨n,r.prio,r.conds,r.dD⟩ cs i=ug r cs i
 | [],_=>rfl
 |c::cs,i=>by
  rw[ug,ug,OA r n cs (i+1)];rfl
theorem Wk{r:aO}{n:Bytes}(h:fR r=true)(hn:zG n=true):fR ⟨n,r.prio,r.conds,r.dD⟩=true:=by
 unfold fR at h⊢;dsimp only;rw[OA];simp only[aS]at h⊢;exact⟨⟨⟨⟨hn,h.1.1.1.2⟩,h.1.1.2⟩,h.1.2⟩,h.2.1,h.2.2.1,h.2.2.2⟩
theorem UW:∀ {l:az} {k i:Nat} {r:aO},(l.map aO.name).Nodup->l[i]?=some r->Ab r.name l k=((k+i:Nat):Int)
 | [],_,_,_,_,h=>by simp at h
 |x::xs,k,i,r,hn,h=>by
  rw[bA,gw]at hn;cases i with
  |zero=>
   simp at h;subst h;rw[Ab];simp
  |succ i=>
   have hx:xs[i]?=some r:=by simpa using h
   have hne:¬x.name=r.name:=fun e=>hn.1 (by rw[e];exact cJ.2 ⟨r,aE hx,rfl⟩)
   rw[Ab,show(x.name==r.name)=false from dA.2 hne,aL,UW hn.2 hx]
   congr 1;omega
theorem XQ{all:az}(hn:(all.map aO.name).Nodup):∀(l:az) (i:Nat),(∀r∈l,fR r=true)->(∀(j:Nat) r,l[j]?=some r->all[i+j]?=some r)->LK all l i=true
 | [],_,_,_=>rfl
 |r::l,i,hv,ha=>by
  have h0:=UW (k:=0) hn (ha 0 r rfl);rw[LK,hv r (by simp),au (by rw[h0];congr 1;omega),XQ hn l (i+1) (fun x hx=>hv x (by simp[hx])) (fun j x hx=>by rw[show i+1+j=i+(j+1)by omega];exact ha (j+1) x (by simpa using hx))];rfl
theorem a4Q{l:az}(hn:(l.map aO.name).Nodup)(hv:∀r∈l,fR r=true)(h6:l.length<=6):qT l=true:=by
 unfold qT;rw[XQ hn l 0 hv (fun j r hj=>by rw[cY];exact hj)];simp;omega
def rnm(m:Nat):Bytes:=[114,UInt8.ofNat (48+m)]
theorem a9H:∀m,m<=7->zG (rnm m)=true/\∀j,j<=7->rnm m=rnm j->m=j:=by decide
theorem a2c{m:Nat}(h:m<=7):([114]:Bytes)++Lib.itoa (m:Int)=rnm m:=by
 have:Lib.itoa (m:Int)=Lib.decDigits m:=by unfold Lib.itoa;rw[bE (by omega)];rfl
 rw[this,P8 (by omega)];unfold Yt rnm;rw[bP (by omega)];rfl
theorem a9a(k:bM->Int->Int->az->Option (ck×az))(P:aO->Prop)(hP:∀c c' r,dN c->nJ c=some (c',r)->P r):∀(m:Nat) (fu:Nat) (v:Int) (c:ck) (w:az),v=(m:Int)->m<fu->w.length+m<=6->dN c->(∀r∈w,fR r=true/\vb 4 r/\∃r0,P r0/\r.conds=r0.conds)->(w.map aO.name).Nodup->(∀r∈w,∃j,m<j/\j<=7/\r.name=rnm j)->
 ∃c' w',oG k fu v c.b c.i c.h w=k c'.b c'.i c'.h w'/\dN c'/\w'.length<=w.length+m/\(∀r∈w',fR r=true/\vb 4 r/\∃r0,P r0/\r.conds=r0.conds)/\(w'.map aO.name).Nodup:=by
 intro m
 induction m with
 |zero=>
  intro fu v c w hv hf hm hc hw hn hj;cases fu with
  |zero=>omega
  |succ fu=>
   have e:decide (v>0)=false:=by simp;omega
   rw[oG,e,aL];exact⟨c,w,rfl,hc,by omega,hw,hn⟩
 |succ m ih=>
  intro fu v c w hv hf hm hc hw hn hj;cases fu with
  |zero=>omega
  |succ fu=>
   have e:decide (v>0)=true:=by simp;omega
   obtain⟨c1,r,e2,hc1,hr⟩:=a2n c hc;have Vt:nJ (⟨c.b,c.i,c.h⟩:ck)=some (c1,r):=e2;have e3:IntKind.i64.wrap (v-1)=v-1:=eC (qu.i64.2 (by omega));have e5:=a5j v (qu.i64.2 (by omega));have e6:([114]:Bytes)++Lib.itoa v=rnm (m+1):=by rw[hv];exact a2c (by omega)
   have e7:decide (([114]:Bytes).length+(Lib.itoa v).length<=maxLen)=true:=by
    have:=congrArg List.length e6;rw[bB]at this;rw[this];rfl
   have hnm:=a9H (m+1) (by omega);rw[oG,e,aF,Vt,aA,e5,aA,e7,aF,gF (by omega) (by decide),aF,e3,e6];have aAr:=Wk hr.2.1 hnm.1;obtain⟨c',w',q1,q2,q3,q4,q5⟩:=ih fu (v-1) c1 (w++[⟨rnm (m+1),r.prio,r.conds,r.dD⟩]) (by omega) (by omega) (by simp;omega) hc1 (fun x hx=>by
    rcases aW.1 hx with h|h
    ·exact hw x h
    ·rw[cH.1 h];exact⟨aAr,⟨by show(rnm (m+1)).length<=16;unfold rnm;simp,hr.1.2⟩,r,hP c c1 r hc e2,rfl⟩) (by
    rw[bI,cC];refine⟨hn,by simp,fun a ha b hb e=>?_⟩;simp at hb;obtain⟨x,hx,rfl⟩:=cJ.1 ha;obtain⟨j,j1,j2,j3⟩:=hj x hx;have:=hnm.2 j j2 (by rw[<-j3,e,hb]);omega) (fun x hx=>by
    rcases aW.1 hx with h|h
    ·obtain⟨j,j1,j2,j3⟩:=hj x h;exact⟨j,by omega,j2,j3⟩
    ·rw[cH.1 h];exact⟨m+1,by omega,by omega,rfl⟩)
   exact⟨c',w',q1,q2,by simp at q3;omega,q4,q5⟩
theorem vb.wt4{r:aO}(h:vb 4 r):r.wt<=10000:=by
 obtain⟨h1,⟨h2,h3⟩,h4,h5⟩:=h;have c1:=Bc (w:=aU.wt) (B:=200) r.conds (fun x hx=>(h3 x hx).wt);have c2:=Bc (w:=Action.wt) (B:=200) r.dD (fun x hx=>(h5 x hx).wt);have d1:(200+1)*r.conds.length<=201*4:=dY _ (by omega);have d2:(200+1)*r.dD.length<=201*4:=dY _ (by omega);unfold aO.wt;unfold tw at*;omega
theorem aD1(P:aO->Prop)(hP:∀c c' r,dN c->nJ c=some (c',r)->P r)(c:ck)(n:Int)(h:dN c)(h0:0<=n)(hn:n<=6):∃c' l,zD c n=some (c',l)/\dN c'/\qT l=true/\sC aO.wt l<=100000/\∀r∈l,∃r0,P r0/\r.conds=r0.conds:=by
 unfold zD;have e3:IntKind.i64.wrap (n+1)=n+1:=eC (qu.i64.2 (by omega));obtain⟨c1,x,e,hc,hx,hx2⟩:=qh c (n+1) h (by omega) (by omega);rw[e3,e,aA];obtain⟨c',w',q1,q2,q3,q4,q5⟩:=a9a (fun a b d q=>some ((⟨a,b,d⟩:ck),q)) P hP x.toNat fuel x c1 [] (by omega) (by unfold fuel;omega) (by simp;omega) hc (by simp) (by simp) (by simp);have h6:w'.length<=6:=by simp at q3;omega
 refine⟨_,_,q1,q2,a4Q q5 (fun r hr=>(q4 r hr).1) h6,?_,fun r hr=>(q4 r hr).2.2⟩;have h1:=Bc (w:=aO.wt) (B:=10000) w' (fun r hr=>vb.wt4 (q4 r hr).2.1);have:(10000+1)*w'.length<=(10000+1)*6:=dY _ h6;omega
theorem a2t(n:aH)(fs y:aJ)(K:bQ->Option aH)(Sp:FS fs)(A:bQ)(hA:∀a∈A,a.shape.wt<=1048576)(hl:A.length<=1048576):∀(rest pre:bQ) (fu:Nat),A=pre++rest->rest.length<fu->
 n7 n fs y K fu (pre.length:Int) (gN pre fs++rest)=K (gN A fs)
 | [],pre,fu,e,hu=>by
  obtain⟨fu,rfl⟩:∃m,fu=m+1:=⟨fu-1,by simp at hu;omega⟩
  rw[dV]at e;rw[n7,dV,aj,yU,ax (by omega),aL,e]
 |x::rest,pre,fu,e,hu=>by
  obtain⟨fu,rfl⟩:∃m,fu=m+1:=⟨fu-1,by simp at hu;omega⟩
  simp only[aQ]at hu;have hlen:A.length=pre.length+(rest.length+1):=by rw[e];simp
  have hx:=hA x (by rw[e];simp);have ih:=a2t n fs y K Sp A hA hl rest (pre++[x]) fu (by rw[e];simp) (by omega);have PC:fy (gN pre fs++x::rest) (pre.length:Int)=some x:=by
   have:=xj (a:=gN pre fs++x::rest) (pre:=gN pre fs) (xs:=rest) (x:=x) rfl;rw[yU]at this;exact this
  have xI:(gN pre fs++x::rest).set (pre.length:Int).toNat ⟨x.shape,sB x.shape [] fs⟩=gN (pre++[x]) fs++rest:=by
   have:=setAt (gN pre fs) rest x ⟨x.shape,sB x.shape [] fs⟩;rw[yU]at this;rw[kx,this,Pt,dH];rfl
  rw[n7,aj,bB,yU,aQ,au (by omega),aF,PC,aA,a5i x.shape [] fs hx PB.nil Sp,aA,Fi (by omega),xI];rw[bB,dw]at ih;exact ih
theorem a2u(n:aH)(fs y:aJ)(q:bQ)(K:bN->Option aH)(hf:FS fs)(h24:fs.length<=24)(ns:bN)(hp:D1 ns):∀(rest pre:bN) (fu:Nat),(pre++rest).map sF=ns.map sF->rest.length<fu->
 kL n fs y q K fu (pre.length:Int) (pre++rest)=K (pre++pq ns fs rest pre.length)
 | [],pre,fu,he,hu=>by
  obtain⟨fu,rfl⟩:∃m,fu=m+1:=⟨fu-1,by simp at hu;omega⟩
  rw[kL,dV,aj,ax (by omega),aL,pq,dV]
 |x::rest,pre,fu,he,hu=>by
  obtain⟨fu,rfl⟩:∃m,fu=m+1:=⟨fu-1,by simp at hu;omega⟩
  simp only[aQ]at hu;have hlen:(pre++x::rest).length=ns.length:=by have:=congrArg List.length he;simpa using this
  have hlt:=hp.len;have hok:NOk ⟨n.rules,n.ends,q,pre++x::rest,y,n.cP⟩:=by
   refine⟨by show(pre++x::rest).length<=1048576;rw[hlen];exact hp.len,fun z hz=>?_⟩;have hm:sF z∈ns.map sF:=by rw[<-he];exact cJ.2 ⟨z,hz,rfl⟩
   obtain⟨w,hw,e⟩:=cJ.1 hm;have:w.cond=z.cond:=(kz e).2;rw[<-this];exact hp.wt w hw
  have a1I:eb (pre++x::rest) ((pre.length:Nat):Int)=eb ns (dS pre.length):=wQ he _;have Ub:∀c∈eb ns (dS pre.length),c.wt<=1048576:=by
   intro c hc;obtain⟨z,hz,e⟩:=Me hc;rw[<-e];exact hp.wt z hz
  have PC:fy (pre++x::rest) (pre.length:Int)=some x:=xj rfl;have ih:=a2u n fs y q K hf h24 ns hp rest (pre++[⟨x.parent,x.cond,x.cX,rS (eb ns (dS pre.length)) fs⟩]) fu (by rw[<-he];simp[sF]) (by omega);rw[bB,aQ]at hlen;rw[kL,aj,bB,aQ,au (by omega),aF,a30 _ _ hok,aA];show((qf (eb (pre++x::rest) (pre.length:Int)) fs).bind _)=_;rw[a1I,a7h _ fs Ub (hp.path _) hf h24,aA,PC,aA,Fi (by omega),kx,setAt];rw[bB,dw,dH]at ih;rw[show pre++(⟨x.parent,x.cond,x.cX,rS (eb ns (dS pre.length)) fs⟩:Node)::rest=pre++([⟨x.parent,x.cond,x.cX,rS (eb ns (dS pre.length)) fs⟩]++rest)from rfl,ih,pq];simp
theorem a9P(n:aH)(fs:aJ)(hf:FS fs)(h24:fs.length<=24)(ha:n.bG.length<=1048576)(hs:∀x∈n.bG,x.shape.wt<=1048576)(hp:D1 n.nodes):vW n fs=some ⟨n.rules,n.ends,gN n.bG fs,fQ n.nodes fs,fs,n.cP⟩:=by
 have hl:=hp.len;unfold vW;rw[zJ fs hf.1 (fun f hf2=>by have:=aD.dZ (hf.2 f hf2);omega),aA];have e1:=a2t n fs fs (fun(lW:bQ)=>(kL n fs fs lW (fun(nA:bN)=>(some (⟨n.rules,n.ends,lW,nA,fs,n.cP⟩:aH))) fuel 0 n.nodes)) hf n.bG hs ha n.bG [] fuel rfl (by unfold fuel;omega);refine e1.trans ?_;have e2:=a2u n fs fs (gN n.bG fs) (fun(nA:bN)=>(some (⟨n.rules,n.ends,gN n.bG fs,nA,fs,n.cP⟩:aH))) hf h24 n.nodes hp n.nodes [] fuel rfl (by unfold fuel;omega);exact e2
theorem a0z{rs:az}{fs:aJ}(h1:qT rs=true)(h2:fJ fs=true)(hr:sC aO.wt rs<=1048576):vW (tG rs [] 0) fs=some (tG rs fs 0):=by
 have hv:=oP h1;have h6:=xS h1;have Sp:=FS.Fe (fs:=fs) (by have:=yo h2;omega);have e:tG rs [] 0=⟨rs,(cZ [] rs).2,(cZ [] rs).1.1,(cZ [⟨[],[]⟩] rs).1.2,[],0⟩:=by
  rw[<-Rn h1]
  congr 1
  ·rw[iV,iV]
  ·rw[iV,iV]
 have hf:(cZ [⟨[],[]⟩] rs).1.2.map sF=(cZ [] rs).1.2.map sF:=by rw[iV,iV];rfl
 rw[e,a9P _ fs Sp (qF h2) (by show(cZ [] rs).1.1.length<=1048576;have:=Qq [] h1;omega) (fun x hx=>(yX [] hv x hx).1) (Ml [⟨[],[]⟩] hv h6)];unfold tG;dsimp only;have:fQ (cZ [⟨[],[]⟩] rs).1.2 fs=fQ (cZ [] rs).1.2 fs:=by
  refine qC fun i=>?_
  rw[vX,vX,wQ hf (dS i)];rw[iV,iV];cases i with
  |zero=>rfl
  |succ i=>rfl
 rw[this]
theorem a2o(P:aO->Prop)(hP:∀c c' r,dN c->nJ c=some (c',r)->P r)(c:ck)(h:dN c):∃c' rs fs t,vV c=some (c',tG rs fs t)/\dN c'/\qT rs=true/\sC aO.wt rs<=100000/\fJ fs=true/\fs.length<=8/\(∀x∈fs,x.rel.length<=2)/\0<=t/\t<50/\∀r∈rs,∃r0,P r0/\r.conds=r0.conds:=by
 unfold vV;obtain⟨c1,rs,e1,h1,r1,r2,r3⟩:=aD1 P hP c 4 h (by decide) (by decide);obtain⟨c2,fs,e2,h2,f1,f2,f3⟩:=aD3 c1 8 h1 (by decide) (by decide);obtain⟨c3,t,e3,h3,t0,t1⟩:=qh c2 50 h2 (by decide) (by decide);rw[e1,aA,a5h rs (by omega),r1,aF,aA];dsimp only;rw[e2,aA];dsimp only;rw[a0z r1 f1 (by omega),aA,e3,aA];exact⟨_,rs,fs,t,rfl,h3,r1,r2,f1,by omega,f3,t0,t1,r3⟩
theorem vb.wt5{r:aO}(h:vb 5 r):r.wt<=10000:=by
 obtain⟨h1,⟨h2,h3⟩,h4,h5⟩:=h;have c1:=Bc (w:=aU.wt) (B:=200) r.conds (fun x hx=>(h3 x hx).wt);have c2:=Bc (w:=Action.wt) (B:=200) r.dD (fun x hx=>(h5 x hx).wt);have d1:(200+1)*r.conds.length<=201*5:=dY _ (by omega);have d2:(200+1)*r.dD.length<=201*5:=dY _ (by omega);unfold aO.wt;unfold tw at*;omega
theorem ZV{rs:az}{fs:aJ}(t:Int)(h1:qT rs=true)(h2:fJ fs=true):0<(tG rs fs t).nodes.length/\(tG rs fs t).nodes.length<=25/\(tG rs fs t).ends.length<=6/\∀x∈(tG rs fs t).nodes,x.tokens.length<=390625:=by
 have hv:=oP h1;have h6:=xS h1;have hl:=Cb [] hv h6;refine⟨?_,?_,?_,fun x hx=>?_⟩
 ·show 0<(fQ (cZ [] rs).1.2 fs).length;rw[zk,iV];simp
 ·show(fQ (cZ [] rs).1.2 fs).length<=25;rw[zk];omega
 ·show(cZ [] rs).2.length<=6;rw[(vZ [] rs).2.1];omega
 ·obtain⟨i,hi⟩:=iN (show x∈fQ (cZ [] rs).1.2 fs from hx);exact(EO h1 h2 hi).2.1
theorem QU{G:Type}{l:List G}{i:Nat}{y x:G}(h:x∈l.set i y):x∈l\/x=y:=sG h
theorem aCe(c:ck)(h:dN c):∃c' n,zE c=some (c',n)/\dN c'/\BB n/\n.cP<=50/\n.facts.length<=256:=by
 obtain⟨c1,rs,fs,t,e1,h1,r1,r2,f1,f2,_,t0,t1,_⟩:=a2o (fun _=>True) (fun _ _ _ _ _=>trivial) c h;obtain⟨c2,x,e2,h2,x0,x1⟩:=qh c1 12 h1 (by decide) (by decide);have hn:=TL t r1 f1 (by omega);obtain⟨n1,n2,n3,n4⟩:=ZV t r1 f1;have hw:sC aO.wt (tG rs fs t).rules<=100000:=r2;have ht:(tG rs fs t).cP<=50:=by show t<=50;omega
 have hfl:(tG rs fs t).facts.length<=256:=by show fs.length<=256;omega
 have hr6:(tG rs fs t).rules.length<=6:=xS r1;unfold zE;rw[e1,aA];generalize tG rs fs t=n at hn n1 n2 n3 n4 hw hr6 ht hfl;dsimp only;rw[e2,aA];dsimp only;have bq:∀k:Int,x≠k->((x:Int)==k)=false:=fun k h=>dA.2 h
 by_cases q0:x=0
 ·subst q0;exact⟨_,_,rfl,h2,⟨hn.rules,hn.facts,hn.ends,hn.bG,hn.cX,hn.nodes,hn.node⟩,by show(-1:Int)<=50;decide,hfl⟩
 rw[bq 0 q0,aL];by_cases q1:x=1
 ·subst q1;obtain⟨c3,l,e3,h3,l1⟩:=a9Q c2 h2;rw[show(((1:Int):Int)==1)=true from rfl,aF,e3,aA];exact⟨_,_,rfl,h3,⟨hn.rules,l1.wt (by decide),hn.ends,hn.bG,hn.cX,hn.nodes,hn.node⟩,ht,by have:=l1.1;show l.length<=256;omega⟩
 rw[bq 1 q1,aL];by_cases q2:x=2
 ·subst q2;obtain⟨c3,k,e3,h3,k0,k1⟩:=qh c2 (((n.nodes.map Node.c).length:Nat):Int) h2 (by rw[aj];omega) (by rw[aj];omega);obtain⟨c4,v,e4,h4,_⟩:=OW c3 ([-1,0,1,2,99]:bM) h3 (by decide) (by decide);rw[aj]at k1;have hlt:k.toNat<n.nodes.length:=by omega
  have e5:fy n.nodes k=some n.nodes[k.toNat]:=by unfold fy;rw[au k0,aF];exact av hlt
  rw[show(((2:Int):Int)==2)=true from rfl,aF,e3,aA];dsimp only;rw[e4,aA];dsimp only;rw[e5,aA];have hx:=hn.node _ (j5 hlt);refine⟨_,_,rfl,h4,⟨hn.rules,hn.facts,hn.ends,hn.bG,hn.cX,?_,fun z hz=>?_⟩,ht,hfl⟩
  ·have:=hn.nodes;rw[js];exact this
  ·rcases QU hz with hz|rfl
   ·exact hn.node z hz
   ·exact hx
 rw[bq 2 q2,aL];by_cases q3:x=3
 ·subst q3;obtain⟨c3,k,e3,h3,k0,k1⟩:=qh c2 (((n.nodes.map Node.c).length:Nat):Int) h2 (by rw[aj];omega) (by rw[aj];omega);obtain⟨c4,l,e4,h4,l1,_⟩:=a7f c3 1 h3 (by decide) (by decide);rw[aj]at k1;have hlt:k.toNat<n.nodes.length:=by omega
  have e5:fy n.nodes k=some n.nodes[k.toNat]:=by unfold fy;rw[au k0,aF];exact av hlt
  have hx:=hn.node _ (j5 hlt);have h4t:=n4 _ (j5 hlt);rw[show(((3:Int):Int)==3)=true from rfl,aF,e3,aA];dsimp only;rw[e5,aA,e4,aA];dsimp only;rw[gF (by omega) (by decide),aF];have hl:=l1.wt (by decide);refine⟨_,_,rfl,h4,⟨hn.rules,hn.facts,hn.ends,hn.bG,hn.cX,?_,fun z hz=>?_⟩,ht,hfl⟩
  ·have:=hn.nodes;rw[js];exact this
  ·rcases QU hz with hz|rfl
   ·exact hn.node z hz
   ·refine⟨hx.1,?_,fun t ht=>?_⟩
    ·show(_++[_]).length<=1048576;rw[bB,dw];omega
    ·rcases aW.1 ht with ht|ht
     ·exact hx.2.2 t ht
     ·rw[cH.1 ht];have q:=FS.Fe hl;exact⟨q.1,q.2,PB.nil⟩
 rw[bq 3 q3,aL];by_cases q4:x=4
 ·subst q4;obtain⟨c3,r,e3,h3,l1⟩:=aCd c2 h2;rw[show(((4:Int):Int)==4)=true from rfl,aF,e3,aA];dsimp only;rw[gF (by omega) (by decide),aF];refine⟨_,_,rfl,h3,⟨?_,hn.facts,hn.ends,hn.bG,hn.cX,hn.nodes,hn.node⟩,ht,hfl⟩;have:=vb.wt5 l1;show sC aO.wt (n.rules++[r])<=1048576;rw[R2,py,a68];omega
 rw[bq 4 q4,aL];by_cases q5:x=5
 ·subst q5;rw[show(((5:Int):Int)==5)=true from rfl,aF,gF (by omega) (by decide),aF];refine⟨_,_,rfl,h2,⟨hn.rules,hn.facts,?_,hn.bG,hn.cX,hn.nodes,hn.node⟩,ht,hfl⟩;show(n.ends++[0]).length<=1048576;rw[bB,dw];omega
 rw[bq 5 q5,aL];exact⟨_,_,rfl,h2,hn,ht,hfl⟩
theorem lK.wt1{p:aD}(h:lK 4 p):p.wt<=1048576:=by have:=lK.wt4 h;unfold aD.wt;omega
theorem lK.up{k:Nat}{p:aD}(h:lK 2 p):lK 4 p:=⟨h.1,by have:=h.2.1;omega,h.2.2⟩
theorem a9O(c:ck)(h:dN c):∃c' n f,xb c=some (c',(n,f))/\dN c'/\BB n/\n.cP<=50/\f.wt<=1048576:=by
 have last:∀(c0:ck) (n:aH),dN c0->BB n->n.cP<=50->∃c' n' f,((eZ c0 8).bind fun y=>(bif y.2 then((lU y.1).bind fun z=>(some (z.1,(n,z.2))))else((fO y.1).bind fun z=>(some (z.1,(n,z.2))))))=some (c',(n',f))/\dN c'/\BB n'/\n'.cP<=50/\f.wt<=1048576:=by
  intro c0 n h0 hn ht;obtain⟨c1,b,e1,h1⟩:=Qm c0 8 h0 (by decide) (by decide);rw[e1,aA];cases b with
  |true=>
   obtain⟨c2,f,e2,h2,hf⟩:=a7N c1 h1;dsimp only;rw[aF,e2,aA];exact⟨_,_,_,rfl,h2,hn,ht,hf.wt1⟩
  |false=>
   obtain⟨c2,f,e2,h2,hf,_⟩:=Wp c1 h1;dsimp only;rw[aL,e2,aA];exact⟨_,_,_,rfl,h2,hn,ht,(lK.up (k:=2) hf).wt1⟩
 have body:∀(c0:ck) (n:aH) (K:Option (ck×(aH×aD))),dN c0->BB n->n.cP<=50->n.facts.length<=256->K=((eZ c0 8).bind fun y=>(bif y.2 then((lU y.1).bind fun z=>(some (z.1,(n,z.2))))else((fO y.1).bind fun z=>(some (z.1,(n,z.2))))))->∃c' n' f,(bif decide ((((n.facts.map aD.c).length:Int):Int)>0)then((eZ c0 2).bind fun y9=>(bif y9.2 then((cg y9.1 ((n.facts.map aD.c).length:Int)).bind fun P0=>((fy n.facts P0.2).bind fun x20=>((eE x20).bind fun rU=>(some (P0.1,(n,rU))))))else((eZ y9.1 8).bind fun EY=>(bif EY.2 then((lU EY.1).bind fun Dm=>(some (Dm.1,(n,Dm.2))))else((fO EY.1).bind fun ue=>(some (ue.1,(n,ue.2))))))))else K)=some (c',(n',f))/\dN c'/\BB n'/\n'.cP<=50/\f.wt<=1048576:=by
  intro c0 n K h0 hn ht hl hK;rw[aj];cases hd:decide (((n.facts.length:Int):Int)>0)with
  |false=>rw[aL,hK];exact last c0 n h0 hn ht
  |true=>
   have hpos:0<n.facts.length:=by have:=bh hd;omega
   obtain⟨c1,b,e1,h1⟩:=Qm c0 2 h0 (by decide) (by decide);rw[aF,e1,aA];cases b with
   |false=>dsimp only;rw[aL];exact last c1 n h1 hn ht
   |true=>
    obtain⟨c2,x,e2,h2,x0,x1⟩:=qh c1 (n.facts.length:Int) h1 (by omega) (by omega);have hlt:x.toNat<n.facts.length:=by omega
    have e3:fy n.facts x=some n.facts[x.toNat]:=by unfold fy;rw[au x0,aF];exact av hlt
    have hw:=qR (w:=aD.wt) (j5 hlt);have hf:=hn.facts;have Xv:(n.facts[x.toNat]).wt<=1048576:=by omega
    dsimp only;rw[aF,e2,aA];dsimp only;rw[e3,aA,zv _ (by have:=aD.dZ Xv;omega),aA];exact⟨_,_,_,rfl,h2,hn,ht,Xv⟩
 unfold xb;obtain⟨c1,rs,fs,t,e1,h1,r1,r2,f1,f2,_,t0,t1,_⟩:=a2o (fun _=>True) (fun _ _ _ _ _=>trivial) c h;obtain⟨c2,b,e2,h2⟩:=Qm c1 10 h1 (by decide) (by decide);rw[e1,aA];dsimp only;rw[e2,aA];cases b with
 |false=>
  dsimp only;rw[aL];exact body c2 (tG rs fs t) _ h2 (TL t r1 f1 (by omega)) (by show t<=50;omega) (by show fs.length<=256;omega) rfl
 |true=>
  obtain⟨c3,n,e3,h3,hn,ht,hl⟩:=aCe c2 h2;dsimp only;rw[aF,e3,aA];exact body c3 n _ h3 hn ht hl rfl
def MOk(m:aq):Prop:=m.facts.length<=1048576/\(∀f∈m.facts,f.args.length<=1048576)/\m.bind.length<=1099511627776
theorem TY{fs:aJ}:∀(cs:ay) (F:aJ) (b b':aP),runT fs cs F b=some b'->F.length<=cs.length
 | [],[],_,_,_=>br _
 | [],_::_,_,_,h=>by simp[runT]at h
 |c::cs,F,b,b',h=>by
  simp only[runT]at h;split at h
  ·cases F with
   |nil=>cases h
   |cons f F=>
    dsimp only at h;split at h
    ·have:=TY cs F _ _ h;simp only[aQ];omega
    ·cases h
  ·split at h
   ·have:=TY cs F _ _ h;simp only[aQ];omega
   ·cases h
theorem a0b{rs:az}{fs:aJ}(h1:qT rs=true)(h2:fJ fs=true){m:aq}(hm:m∈zK rs fs):∃(j:Nat) (r:aO),rs[j]?=some r/\m.rule=r.name/\fR r=true/\Ab m.rule rs 0=(j:Int)/\runT fs r.conds m.facts []=some m.bind:=by
 obtain⟨j,r,e1,e2,e3⟩:=(Y7 h1 h2 m).1 hm;obtain⟨q1,q2⟩:=LJ h1 e1;exact⟨j,r,e1,e2,q1,by rw[e2];exact q2,e3⟩
theorem Sb{rs:az}{fs:aJ}(h1:qT rs=true)(h2:fJ fs=true){m:aq}(hm:m∈zK rs fs):MOk m:=by
 obtain⟨j,r,_,_,e1,_,e2⟩:=a0b h1 h2 hm;have q1:=TY _ _ _ _ e2;have q2:=Nv e1;refine⟨by omega,fun f hf=>?_,?_⟩
 ·have q3:=yo h2;have q4:=qR (w:=aD.wt) (IR _ _ _ _ e2 f hf);exact aD.dZ (n:=1048576) (by omega)
 ·have q5:(⟨m.facts,m.bind⟩:aV)∈r.conds.foldl (sH fs) [⟨[],[]⟩]:=(Tm fs r.conds _ _).2 ⟨⟨[],[]⟩,by simp,m.facts,rfl,e2⟩;have q6:=Qw fs r.conds [⟨[],[]⟩] (fun t ht=>by rw[cH.1 ht];rfl) _ q5;have:m.bind.length<=6:=Dr q6;omega
theorem a4O{rs:az}{fs:aJ}(h1:qT rs=true):(zK rs fs).length<=390625*rs.length:=by
 unfold zK;rw[h1,aF];clear h1
 induction rs with
 |nil=>simp
 |cons r rs ih=>
  rw[cw,bB,aQ];have:(mtB r fs).length<=390625:=by unfold mtB;rw[aj];exact a63 r _ fs
  omega
theorem a0c{rs:az}{fs gs:aJ}(h1:qT rs=true)(h3:fJ gs=true){m:aq}{j:Nat}{r:aO}(hr:rs[j]?=some r)(hn:m.rule=r.name)(hrun:runT fs r.conds m.facts []=some m.bind)(hk:(r.conds.any fun c=>c.kind==2)=false)(hs:∀f∈m.facts,f∈fs->f∈gs):m∈zK rs gs:=by
 refine(Y7 h1 h3 m).2 ⟨j,r,hr,hn,Nx _ _ _ _ (fun c hc e=>?_) hs hrun⟩;have:=yc.1 hk c hc;simp[e]at this
theorem aBF(l:bL)(m:aq):vF l m=some (decide (m∈l)):=by
 unfold vF;have main:∀(r:bL) (i:Nat),jY l m (some false) r i=some (decide (m∈r)):=by
  intro r
  induction r with
  |nil=>intro i;simp[jY]
  |cons x r ih=>
   intro i;rw[jY,a8q,aA];by_cases e:x=m
   ·rw[au e,aF];simp[e]
   ·rw[ax e,aL,ih];simp[rq e]
 exact main l 0
theorem a8i(m:aq)(h:MOk m):uH m=some m:=by
 unfold uH;rw[wO _ h.1 h.2.1,aA,T7 _ h.2.2,aA]
theorem Xy(l old:bL)(h:∀m∈l,MOk m)(hl:l.length<=1000000000):l7 l old=some (l.filter fun m=> !decide (m∈old)):=by
 unfold l7;have main:∀(r:bL) (i:Nat) (w:bL),(∀m∈r,MOk m)->w.length+r.length<=1000000000->gJ l old (fun q=>some q) r i w=some (w++r.filter fun m=> !decide (m∈old)):=by
  intro r
  induction r with
  |nil=>intro i w _ _;simp[gJ]
  |cons x r ih=>
   intro i w hm hw;simp only[aQ]at hw;rw[gJ,aBF,aA];cases hd:decide (x∈old)with
   |false=>
    rw[bt,aF,a8i x (hm x (by simp)),aA,gF (by omega) (by decide),aF,ih _ _ (fun m hm'=>hm m (by simp[hm'])) (by simp;omega),gz (by simp[hd])];simp
   |true=>rw[bU,aL,ih _ _ (fun m hm'=>hm m (by simp[hm'])) (by omega),gy (by simp[hd])]
 have:=main l 0 [] h (by simpa using hl);simpa using this
theorem a4z{n:aH}(hb:Gd n=true)(hr:sC aO.wt n.rules<=1048576)(hf:sC aD.wt n.facts<=1048576):fZ n=some (zK n.rules n.facts):=by
 have:=aB9 n hr hf;unfold xq at this;rw[T8 n hr hf,aA,hb,a0l hb]at this;simpa using this
theorem a2p(code:bM)(h:code.length<=4096):∃n f b,pX code=some (n,f,b)/\BB n/\n.cP<=50/\f.wt<=1048576:=by
 unfold pX;obtain⟨c0,e0,h0⟩:=aCt code h;obtain⟨c1,n,f,e1,h1,q⟩:=a9O c0 h0;obtain⟨c2,b,e2,_⟩:=Qm c1 8 h1 (by decide) (by decide);rw[e0,aA,e1,aA];dsimp only;rw[Wq,aA,e2,aA];exact⟨n,f,_,rfl,q⟩
set_option maxRecDepth 100000
variable{Z:wV}{N:Nat->St->Prop}
def F3(aC:bM):Option Bool:=(some (decide ((((aC.map yx).length:Int):Int)>4096)))
theorem FW{aC:bM}{r:Bool}(h:F3 aC=some r):Good prog 7 [D.sl (aC.map yx)] (D.bool r):=by
 refine gd func7 [[none]] 6 fun hr Z hZ=>?_
 rw[F3]at h;cases h;exact aY.ret hZ
def jc(aC:bL)(aa:aq)(k1:Option Bool):bL->Nat->Option Bool
 | [],i1=>(k1)
 |bg::cj,i1=>((uP bg aa).bind fun L7=>(bif L7 then(some true)else(jc aC aa k1 cj (i1+1))))
def gx(aC:bL)(aa:aq):Option Bool:=(jc aC aa (some false) aC 0)
def KG(aC:bL)(aa:aq)(dL:Int):St:=⟨[(0,D.sl (aC.map aq.c)),(3,D.ptr 0 0),(5,D.int .i64 dL)],[Ob.box (aq.c aa)]⟩
theorem J3(hZ:Z.nt=18){aC:bL}{aa:aq}{r:Bool}{k1:Option Bool}(eA:k1=some r->Ax Z N f31 (.q [[none]] (D.bool r)) [1,1] ⟨[],[]⟩)(hm1:aC.length<=maxLen):∀(rest:bL) (i1:Nat),aC.drop i1=rest->jc aC aa k1 rest i1=some r->Ar Z N f31 (.q [[none]] (D.bool r)) [1,0,1,0] (rest.length+1) (KG aC aa (i1:Int)):=by
 intro rest
 induction rest with
 |nil=>
  intro i1 bD h;rw[jc]at h;refine aT fun N1 cq cS=>?_
  exact((aY.ge aq.c bD).a [.hl 0 [] []]).ex hZ cq (eA h)
 |cons bg cj ih1=>
  intro i1 bD h;rw[jc]at h;refine aT fun N1 cq cS=>?_
  obtain⟨L7,h22,h⟩:=aG h;have fF:=((((aY.lt aq.c bD).a [.n 5]).l (bK aq.c 3 (dc bD) rfl)).g (GM h22))
  obtain⟨h23,h⟩|⟨h23,h⟩:=aK h
  ·have h:=aM h;subst h;exact(fF.b h23).ret hZ
  ·exact((fF.b h23).a [.cn [0,3,5] [0]]).ct hZ cS (iS bD hm1) (ih1 (i1+1) (dn bD) h)
theorem iT{aC:bL}{aa:aq}{r:Bool}(h:gx aC aa=some r):Good prog 31 [D.sl (aC.map aq.c),D.agg (aq.c aa)] (D.bool r):=by
 refine gd func31 [[none]] 18 fun hr Z hZ=>?_
 rw[gx]at h;refine(aY.a [.cn [0,3,5] [0]]).lp hZ (J3 hZ (fun h=>?_) (by have:=(gX.sl (hr _ (aE (i:=0) rfl))).1;simpa using this) aC 0 rfl h);have h:=aM h;subst h;exact aY.ret hZ
def rW(aC:aO)(k1:Option Bool):ay->Nat->Option Bool
 | [],i1=>(k1)
 |bg::cj,i1=>(bif (bg.kind:Int)==2 then(some true)else(rW aC k1 cj (i1+1)))
def gb(aC:aO):Option Bool:=(rW aC (some false) aC.conds 0)
def Pm(aC:aO)(dL:Int):St:=⟨[(1,D.ptr 0 0),(3,D.int .i64 dL)],[Ob.box (aO.c aC)]⟩
theorem Og(hZ:Z.nt=18){aC:aO}{r:Bool}{k1:Option Bool}(eA:k1=some r->Ax Z N f32 (.q [[none]] (D.bool r)) [1,1] ⟨[],[]⟩)(hm1:aC.conds.length<=maxLen):∀(rest:ay) (i1:Nat),aC.conds.drop i1=rest->rW aC k1 rest i1=some r->Ar Z N f32 (.q [[none]] (D.bool r)) [1,0,1,0] (rest.length+1) (Pm aC (i1:Int)):=by
 intro rest
 induction rest with
 |nil=>
  intro i1 bD h;rw[rW]at h;refine aT fun N1 cq cS=>?_
  exact((aY.ge aU.c bD).a [.hl 0 [] []]).ex hZ cq (eA h)
 |cons bg cj ih1=>
  intro i1 bD h;rw[rW]at h;refine aT fun N1 cq cS=>?_
  have fF:=((aY.lt aU.c bD).l (bK aU.c 5 (dc bD) rfl))
  obtain⟨h13,h⟩|⟨h13,h⟩:=aK h
  ·have h:=aM h;subst h;exact(fF.b h13).ret hZ
  ·exact((fF.b h13).a [.cn [1,3] [0]]).ct hZ cS (iS bD hm1) (ih1 (i1+1) (dn bD) h)
theorem eg{aC:aO}{r:Bool}(h:gb aC=some r):Good prog 32 [D.agg (aO.c aC)] (D.bool r):=by
 refine gd func32 [[none]] 18 fun hr Z hZ=>?_
 rw[gb]at h;refine(aY.a [.cn [1,3] [0]]).lp hZ (Og hZ (fun h=>?_) (by have:=(gX.sl (gX.agg (hr _ (aE (i:=0) rfl)) (.sl (aC.conds.map aU.c)) (by simp))).1;simpa using this) aC.conds 0 rfl h);have h:=aM h;subst h;exact aY.ret hZ
variable{Z:wV}{N:Nat->St->Prop}
def eT(y4:aH×aD×Bool)(y6:bL×bL)(yL:bL)(Ce:bL)(k1:Option Bool):bL->Nat->Option Bool
 | [],i1=>(k1)
 |bg::cj,i1=>((lT y4.1.rules bg.rule).bind fun a6A=>((gx Ce bg).bind fun aDK=>(bif !(aDK)then(some false)else((gx yL bg).bind fun aDL=>(bif aDL then(some false)else(bif decide ((a6A:Int)<0)then(some false)else(bif y4.2.2 then((fy y4.1.rules a6A).bind fun x170=>((gb x170).bind fun aDM=>(bif !(aDM)then((jv bg y4.2.1).bind fun aDN=>(bif !(aDN)then(some false)else(bif !(y4.2.2)then((gb x170).bind fun GZ=>(bif !(GZ)then(some false)else(eT y4 y6 yL Ce k1 cj (i1+1))))else(eT y4 y6 yL Ce k1 cj (i1+1)))))else(bif !(y4.2.2)then((gb x170).bind fun a05=>(bif !(a05)then(some false)else(eT y4 y6 yL Ce k1 cj (i1+1))))else(eT y4 y6 yL Ce k1 cj (i1+1))))))else(bif !(y4.2.2)then((fy y4.1.rules a6A).bind fun x187=>((gb x187).bind fun aDP=>(bif !(aDP)then(some false)else(eT y4 y6 yL Ce k1 cj (i1+1)))))else(eT y4 y6 yL Ce k1 cj (i1+1))))))))))
def eU(y4:aH×aD×Bool)(y6:bL×bL)(yL:bL)(Ce:bL)(k2:Option Bool):bL->Nat->Option Bool
 | [],i2=>(k2)
 |jL::tK,i2=>((lT y4.1.rules jL.rule).bind fun a6B=>((gx Ce jL).bind fun aDU=>(bif aDU then(some false)else((gx yL jL).bind fun aDV=>(bif !(aDV)then(some false)else(bif decide ((a6B:Int)<0)then(some false)else(bif y4.2.2 then((fy y4.1.rules a6B).bind fun x339=>((gb x339).bind fun aDW=>(bif !(aDW)then(some false)else(bif !(y4.2.2)then((gb x339).bind fun aDX=>(bif !(aDX)then((jv jL y4.2.1).bind fun aDY=>(bif !(aDY)then(some false)else(eU y4 y6 yL Ce k2 tK (i2+1))))else(eU y4 y6 yL Ce k2 tK (i2+1))))else(eU y4 y6 yL Ce k2 tK (i2+1))))))else(bif !(y4.2.2)then((fy y4.1.rules a6B).bind fun x352=>((gb x352).bind fun aDZ=>(bif !(aDZ)then((jv jL y4.2.1).bind fun aDa=>(bif !(aDa)then(some false)else(eU y4 y6 yL Ce k2 tK (i2+1))))else(eU y4 y6 yL Ce k2 tK (i2+1)))))else(eU y4 y6 yL Ce k2 tK (i2+1))))))))))
def eV(y4:aH×aD×Bool)(y6:bL×bL)(yM:bL)(yN:bL)(k3:Option Bool):bL->Nat->Option Bool
 | [],i3=>(k3)
 |OZ::Kz,i3=>((lT y4.1.rules OZ.rule).bind fun a6E=>((gx yN OZ).bind fun aDd=>(bif !(aDd)then(some false)else((gx yM OZ).bind fun aDe=>(bif aDe then(some false)else(bif decide ((a6E:Int)<0)then(some false)else(bif y4.2.2 then((fy y4.1.rules a6E).bind fun x519=>((gb x519).bind fun aDf=>(bif !(aDf)then((jv OZ y4.2.1).bind fun aDg=>(bif !(aDg)then(some false)else(bif !(y4.2.2)then((gb x519).bind fun aDh=>(bif !(aDh)then(some false)else(eV y4 y6 yM yN k3 Kz (i3+1))))else(eV y4 y6 yM yN k3 Kz (i3+1)))))else(bif !(y4.2.2)then((gb x519).bind fun aDj=>(bif !(aDj)then(some false)else(eV y4 y6 yM yN k3 Kz (i3+1))))else(eV y4 y6 yM yN k3 Kz (i3+1))))))else(bif !(y4.2.2)then((fy y4.1.rules a6E).bind fun x536=>((gb x536).bind fun aDk=>(bif !(aDk)then(some false)else(eV y4 y6 yM yN k3 Kz (i3+1)))))else(eV y4 y6 yM yN k3 Kz (i3+1))))))))))
def eW(y4:aH×aD×Bool)(y6:bL×bL)(yM:bL)(yN:bL)(k4:Option Bool):bL->Nat->Option Bool
 | [],i4=>(k4)
 |x4_::xs4,i4=>((lT y4.1.rules x4_.rule).bind fun a6F=>((gx yN x4_).bind fun aDo=>(bif aDo then(some false)else((gx yM x4_).bind fun aDp=>(bif !(aDp)then(some false)else(bif decide ((a6F:Int)<0)then(some false)else(bif y4.2.2 then((fy y4.1.rules a6F).bind fun x688=>((gb x688).bind fun aDq=>(bif !(aDq)then(some false)else(bif !(y4.2.2)then((gb x688).bind fun aDr=>(bif !(aDr)then((jv x4_ y4.2.1).bind fun aDs=>(bif !(aDs)then(some false)else(eW y4 y6 yM yN k4 xs4 (i4+1))))else(eW y4 y6 yM yN k4 xs4 (i4+1))))else(eW y4 y6 yM yN k4 xs4 (i4+1))))))else(bif !(y4.2.2)then((fy y4.1.rules a6F).bind fun x701=>((gb x701).bind fun aDt=>(bif !(aDt)then((jv x4_ y4.2.1).bind fun aDu=>(bif !(aDu)then(some false)else(eW y4 y6 yM yN k4 xs4 (i4+1))))else(eW y4 y6 yM yN k4 xs4 (i4+1)))))else(eW y4 y6 yM yN k4 xs4 (i4+1))))))))))
def wg(aC:bM):Option Bool:=((F3 aC).bind fun y1=>(bif y1 then(some true)else((pX aC).bind fun y4=>((wZ y4.1 y4.2.1 y4.2.2).bind fun y6=>((nX y4.1 y4.2.1).bind fun y8=>(bif y4.2.2 then((qm y4.1 y4.2.1).bind fun yb=>(bif !(yb.2)then(bif (((y6.1.map aq.c).length:Int):Int)==0 then(some ((((y6.2.map aq.c).length:Int):Int)==0))else(some false))else((fc y4.1).bind fun yL=>((fc yb.1).bind fun Ce=>(bif (((Ce.map aq.c).length:Int):Int) != (IntKind.i64.wrap ((IntKind.i64.wrap (((yL.map aq.c).length:Int)+((y6.1.map aq.c).length:Int)))-((y6.2.map aq.c).length:Int)))then(some false)else(bif decide (y6.1.length<=maxLen)then(eT y4 y6 yL Ce (bif decide (y6.2.length<=maxLen)then(eU y4 y6 yL Ce (some true) y6.2 0)else none) y6.1 0)else none))))))else(bif !(y8.2)then(bif (((y6.1.map aq.c).length:Int):Int)==0 then(some ((((y6.2.map aq.c).length:Int):Int)==0))else(some false))else((fc y4.1).bind fun yM=>((fc y8.1).bind fun yN=>(bif (((yN.map aq.c).length:Int):Int) != (IntKind.i64.wrap ((IntKind.i64.wrap (((yM.map aq.c).length:Int)+((y6.1.map aq.c).length:Int)))-((y6.2.map aq.c).length:Int)))then(some false)else(bif decide (y6.1.length<=maxLen)then(eV y4 y6 yM yN (bif decide (y6.2.length<=maxLen)then(eW y4 y6 yM yN (some true) y6.2 0)else none) y6.1 0)else none)))))))))))
def Iz(y4:aH×aD×Bool)(y6:bL×bL)(yL:bL)(Ce:bL)(dL:Int):St:=⟨[(3,bp 0 0),(4,bp 1 0),(5,bO y4.2.2),(6,b9 2),(7,b9 3),(10,b9 4),(11,b9 5),(12,aB dL)],[bu [bX (y4.1.rules.map aO.c),b9 6,b9 7,b9 8,b9 9,aB y4.1.cP],bu [aZ y4.2.1.rel,b9 10],af 57 3 (y6.1.map aq.c),af 57 3 (y6.2.map aq.c),af 57 3 (yL.map aq.c),af 57 3 (Ce.map aq.c),af 3 1 (y4.1.ends.map jM),af 83 3 (y4.1.bG.map ai.c),af 74 8 (y4.1.nodes.map Node.c),af 43 2 (y4.1.facts.map aD.c),af 9 1 (y4.2.1.args.map tx)]⟩
theorem HM(hZ:Z.nt=203){y4:aH×aD×Bool}{y6:bL×bL}{yL:bL}{Ce:bL}{r:Bool}{k1:Option Bool}(eA:k1=some r->Ax Z N f6 (.q bZ (bO r)) [1,1,1,1,1,1,1,1,1,1,1] ⟨[(3,bp 0 0),(4,bp 1 0),(5,bO y4.2.2),(7,b9 2),(10,b9 3),(11,b9 4)],[bu [bX (y4.1.rules.map aO.c),b9 5,b9 6,b9 7,b9 8,aB y4.1.cP],bu [aZ y4.2.1.rel,b9 9],af 57 3 (y6.2.map aq.c),af 57 3 (yL.map aq.c),af 57 3 (Ce.map aq.c),af 3 1 (y4.1.ends.map jM),af 83 3 (y4.1.bG.map ai.c),af 74 8 (y4.1.nodes.map Node.c),af 43 2 (y4.1.facts.map aD.c),af 9 1 (y4.2.1.args.map tx)]⟩)(hm1:y6.1.length<=maxLen):∀(rest:bL) (i1:Nat),y6.1.drop i1=rest->eT y4 y6 yL Ce k1 rest i1=some r->Ar Z N f6 (.q bZ (bO r)) [1,1,1,1,1,1,1,1,1,1,0,1,0] (rest.length+1) (Iz y4 y6 yL Ce (i1:Int)):=by
 intro rest
 induction rest with
 |nil=>
  intro i1 bD h;rw[eT]at h;refine aT fun N1 cq cS=>?_
  exact((aY.ge aq.c bD).a [.hl 0 [3,4,5,7,10,11] [0,1,3,4,5,6,7,8,9,10]]).ex hZ cq (eA h)
 |cons bg cj ih1=>
  intro i1 bD h;rw[eT]at h;refine aT fun N1 cq cS=>?_
  obtain⟨a6A,h161,aDK,h163,h⟩:=bR h;have aBn:=(((((((((aY.lt aq.c bD).a [.n 7]).i (fG aq.c 3 (dc bD))).o 3 1 .uq (cL aq.c (dc bD))).g (pY h161)).a [.n 47]).i (fG aq.c 3 (dc bD))).o 3 3 .uq (cL aq.c (dc bD))).g (iT h163))
  obtain⟨h164,h⟩|⟨h164,h⟩:=aK h
  ·obtain rfl:=aM h;exact((((((((aBn.r 7 h164).T 5).a [bF,bF,bF,bF,bF,bF,bF]).T 2).a [bF,bF,bF,bF,bF,bF,bF]).T 5).a [bF,bF,bF,bF,bF,bF,bF]).T 3).ret hZ
  ·obtain⟨aDL,h166,h⟩:=aG h;have aBo:=(((((((aBn.r 4 h164).i (fG aq.c 3 (dc bD))).b h164).o 3 3 .uq (cL aq.c (dc bD))).b h164).g (iT h166)).b h164)
   obtain⟨h167,h⟩|⟨h167,h⟩:=aK h
   ·obtain rfl:=aM h;exact((((((((aBo.r 3 h167).T 2).a [bF,bF,bF,bF,bF,bF,bF]).T 2).a [bF,bF,bF,bF,bF,bF,bF]).T 5).a [bF,bF,bF,bF,bF,bF,bF]).T 3).ret hZ
   ·have aBp:=(aBo.r 3 h167)
    obtain⟨h168,h⟩|⟨h168,h⟩:=aK h
    ·obtain rfl:=aM h;exact((((((((aBp.r 2 h168).a [bF,bF,bF,bF,bF,bF,bF]).r 2 h168).a [bF,bF,bF,bF,bF,bF,bF]).r 2 h168).T 3).a [bF,bF,bF,bF,bF,bF,bF]).T 3).ret hZ
    ·have aBq:=(aBp.r 2 h168)
     obtain⟨h169,h⟩|⟨h169,h⟩:=aK h
     ·obtain⟨x170,h171,aDM,h173,h⟩:=bR h;have aBr:=((((((((aBq.r 4 h169).l (dW aO.c 4 h171 rfl)).r 2 h169).g (eg h173)).b h169).b h168).b h169).b h168)
      obtain⟨h174,h⟩|⟨h174,h⟩:=aK h
      ·obtain⟨aDN,h176,h⟩:=aG h;have aBs:=((((((((((aBr.r 3 h174).i (fG aq.c 3 (dc bD))).b h174).o 3 3 .uq (cL aq.c (dc bD))).r 2 h174).g (mU h176)).b h174).b h168).b h174).b h168)
       obtain⟨h177,h⟩|⟨h177,h⟩:=aK h
       ·obtain rfl:=aM h;exact((((aBs.r 3 h177).a [bF,bF,bF,bF,bF,bF,bF]).r 2 h177).T 1).ret hZ
       ·have aBt:=(aBs.r 3 h177)
        obtain⟨h178,h⟩|⟨h178,h⟩:=aK h
        ·obtain⟨GZ,h180,h⟩:=aG h;have aBu:=((((((((aBt.r 4 h178).l (dW aO.c 4 h171 rfl)).r 2 h178).g (eg h180)).b h178).b h177).b h178).b h177)
         obtain⟨h181,h⟩|⟨h181,h⟩:=aK h
         ·obtain rfl:=aM h;exact(aBu.b h181).ret hZ
         ·exact((aBu.b h181).a [.cn [3,4,5,6,7,10,11,12] [0,1,2,3,4,5,6,7,8,9,10]]).ct hZ cS (iS bD hm1) (ih1 (i1+1) (dn bD) h)
        ·exact((((((aBt.r 7 h178).b h177).b h178).b h177).F 1).a [.cn [3,4,5,6,7,10,11,12] [0,1,2,3,4,5,6,7,8,9,10]]).ct hZ cS (iS bD hm1) (ih1 (i1+1) (dn bD) h)
      ·have aBv:=(((((aBr.r 7 h174).b h168).b h174).b h168).F 3)
       obtain⟨h182,h⟩|⟨h182,h⟩:=aK h
       ·obtain⟨a05,h184,h⟩:=aG h;have aBw:=((((((((aBv.r 4 h182).l (dW aO.c 4 h171 rfl)).r 2 h182).g (eg h184)).b h182).F 1).b h182).F 1)
        obtain⟨h185,h⟩|⟨h185,h⟩:=aK h
        ·obtain rfl:=aM h;exact(aBw.b h185).ret hZ
        ·exact((aBw.b h185).a [.cn [3,4,5,6,7,10,11,12] [0,1,2,3,4,5,6,7,8,9,10]]).ct hZ cS (iS bD hm1) (ih1 (i1+1) (dn bD) h)
       ·exact(((((aBv.r 7 h182).F 1).b h182).F 2).a [.cn [3,4,5,6,7,10,11,12] [0,1,2,3,4,5,6,7,8,9,10]]).ct hZ cS (iS bD hm1) (ih1 (i1+1) (dn bD) h)
     ·have aBx:=(((((((((aBq.r 7 h169).b h168).b h169).b h168).F 7).b h168).F 1).b h168).F 3)
      obtain⟨h186,h⟩|⟨h186,h⟩:=aK h
      ·obtain⟨x187,h188,aDP,h190,h⟩:=bR h;have aBy:=((((((((aBx.r 4 h186).l (dW aO.c 4 h188 rfl)).r 2 h186).g (eg h190)).b h186).F 1).b h186).F 1)
       obtain⟨h191,h⟩|⟨h191,h⟩:=aK h
       ·obtain rfl:=aM h;exact(aBy.b h191).ret hZ
       ·exact((aBy.b h191).a [.cn [3,4,5,6,7,10,11,12] [0,1,2,3,4,5,6,7,8,9,10]]).ct hZ cS (iS bD hm1) (ih1 (i1+1) (dn bD) h)
      ·exact(((((aBx.r 7 h186).F 1).b h186).F 2).a [.cn [3,4,5,6,7,10,11,12] [0,1,2,3,4,5,6,7,8,9,10]]).ct hZ cS (iS bD hm1) (ih1 (i1+1) (dn bD) h)
def J0(y4:aH×aD×Bool)(y6:bL×bL)(yL:bL)(Ce:bL)(dL:Int):St:=⟨[(3,bp 0 0),(4,bp 1 0),(5,bO y4.2.2),(7,b9 2),(10,b9 3),(11,b9 4),(14,aB dL)],[bu [bX (y4.1.rules.map aO.c),b9 5,b9 6,b9 7,b9 8,aB y4.1.cP],bu [aZ y4.2.1.rel,b9 9],af 57 3 (y6.2.map aq.c),af 57 3 (yL.map aq.c),af 57 3 (Ce.map aq.c),af 3 1 (y4.1.ends.map jM),af 83 3 (y4.1.bG.map ai.c),af 74 8 (y4.1.nodes.map Node.c),af 43 2 (y4.1.facts.map aD.c),af 9 1 (y4.2.1.args.map tx)]⟩
theorem HN(hZ:Z.nt=203){y4:aH×aD×Bool}{y6:bL×bL}{yL:bL}{Ce:bL}{r:Bool}{k2:Option Bool}(zc:k2=some r->Ax Z N f6 (.q bZ (bO r)) [1,1,1,1,1,1,1,1,1,1,1,1] ⟨[],[]⟩)(hm2:y6.2.length<=maxLen):∀(rest:bL) (i2:Nat),y6.2.drop i2=rest->eU y4 y6 yL Ce k2 rest i2=some r->Ar Z N f6 (.q bZ (bO r)) [1,1,1,1,1,1,1,1,1,1,1,0,1,0] (rest.length+1) (J0 y4 y6 yL Ce (i2:Int)):=by
 intro rest
 induction rest with
 |nil=>
  intro i2 hd2 h;rw[eU]at h;refine aT fun N2 uX qp=>?_
  exact((aY.ge aq.c hd2).a [.hl 0 [] []]).ex hZ uX (zc h)
 |cons jL tK ih2=>
  intro i2 hd2 h;rw[eU]at h;refine aT fun N2 uX qp=>?_
  obtain⟨a6B,h330,aDU,h332,h⟩:=bR h;have aBz:=(((((((((aY.lt aq.c hd2).a [.n 7]).i (fG aq.c 3 (dc hd2))).o 3 1 .uq (cL aq.c (dc hd2))).g (pY h330)).a [.n 49]).i (fG aq.c 3 (dc hd2))).o 3 3 .uq (cL aq.c (dc hd2))).g (iT h332))
  obtain⟨h333,h⟩|⟨h333,h⟩:=aK h
  ·obtain rfl:=aM h;exact((((((((aBz.r 8 h333).T 5).a [bF,bF,bF,bF,bF,bF,bF]).T 5).a [bF,bF,bF,bF,bF,bF,bF]).T 2).a [bF,bF,bF,bF,bF,bF,bF]).T 3).ret hZ
  ·obtain⟨aDV,h335,h⟩:=aG h;have aC0:=(((((((aBz.r 4 h333).i (fG aq.c 3 (dc hd2))).b h333).o 3 3 .uq (cL aq.c (dc hd2))).b h333).g (iT h335)).r 2 h333)
   obtain⟨h336,h⟩|⟨h336,h⟩:=aK h
   ·obtain rfl:=aM h;exact((((((((aC0.r 3 h336).T 2).a [bF,bF,bF,bF,bF,bF,bF]).T 5).a [bF,bF,bF,bF,bF,bF,bF]).T 2).a [bF,bF,bF,bF,bF,bF,bF]).T 3).ret hZ
   ·have aC1:=(aC0.r 3 h336)
    obtain⟨h337,h⟩|⟨h337,h⟩:=aK h
    ·obtain rfl:=aM h;exact((((((((aC1.r 2 h337).a [bF,bF,bF,bF,bF,bF,bF]).r 2 h337).T 3).a [bF,bF,bF,bF,bF,bF,bF]).T 2).a [bF,bF,bF,bF,bF,bF,bF]).T 3).ret hZ
    ·have aC2:=(aC1.r 2 h337)
     obtain⟨h338,h⟩|⟨h338,h⟩:=aK h
     ·obtain⟨x339,h340,aDW,h342,h⟩:=bR h;have aC3:=((((((((aC2.r 4 h338).l (dW aO.c 4 h340 rfl)).r 2 h338).g (eg h342)).b h338).b h337).b h338).b h337)
      obtain⟨h343,h⟩|⟨h343,h⟩:=aK h
      ·obtain rfl:=aM h;exact((((((aC3.r 3 h343).a [bF,bF,bF,bF,bF,bF,bF]).r 2 h343).a [bF,bF,bF,bF,bF,bF,bF]).r 2 h343).T 1).ret hZ
      ·have aC4:=(aC3.r 3 h343)
       obtain⟨h344,h⟩|⟨h344,h⟩:=aK h
       ·obtain⟨aDX,h346,h⟩:=aG h;have aC5:=((((((((aC4.r 4 h344).l (dW aO.c 4 h340 rfl)).r 2 h344).g (eg h346)).b h344).b h343).b h344).b h343)
        obtain⟨h347,h⟩|⟨h347,h⟩:=aK h
        ·obtain⟨aDY,h349,h⟩:=aG h;have aC6:=((((((((((aC5.r 3 h347).i (fG aq.c 3 (dc hd2))).b h347).o 3 3 .uq (cL aq.c (dc hd2))).r 2 h347).g (mU h349)).b h347).b h343).b h347).b h343)
         obtain⟨h350,h⟩|⟨h350,h⟩:=aK h
         ·obtain rfl:=aM h;exact(aC6.b h350).ret hZ
         ·exact((aC6.b h350).a [.cn [3,4,5,7,10,11,14] [0,1,2,3,4,5,6,7,8,9]]).ct hZ qp (iS hd2 hm2) (ih2 (i2+1) (dn hd2) h)
        ·exact((((((aC5.r 7 h347).b h343).b h347).b h343).F 1).a [.cn [3,4,5,7,10,11,14] [0,1,2,3,4,5,6,7,8,9]]).ct hZ qp (iS hd2 hm2) (ih2 (i2+1) (dn hd2) h)
       ·exact((((((((((aC4.r 7 h344).b h343).b h344).b h343).F 7).b h343).F 1).b h343).F 1).a [.cn [3,4,5,7,10,11,14] [0,1,2,3,4,5,6,7,8,9]]).ct hZ qp (iS hd2 hm2) (ih2 (i2+1) (dn hd2) h)
     ·have aC7:=(((((aC2.r 7 h338).b h337).b h338).b h337).F 3)
      obtain⟨h351,h⟩|⟨h351,h⟩:=aK h
      ·obtain⟨x352,h353,aDZ,h355,h⟩:=bR h;have aC8:=((((((((aC7.r 4 h351).l (dW aO.c 4 h353 rfl)).r 2 h351).g (eg h355)).b h351).F 1).b h351).F 1)
       obtain⟨h356,h⟩|⟨h356,h⟩:=aK h
       ·obtain⟨aDa,h358,h⟩:=aG h;have aC9:=((((((((((aC8.r 3 h356).i (fG aq.c 3 (dc hd2))).b h356).o 3 3 .uq (cL aq.c (dc hd2))).r 2 h356).g (mU h358)).b h356).F 1).b h356).F 1)
        obtain⟨h359,h⟩|⟨h359,h⟩:=aK h
        ·obtain rfl:=aM h;exact(aC9.b h359).ret hZ
        ·exact((aC9.b h359).a [.cn [3,4,5,7,10,11,14] [0,1,2,3,4,5,6,7,8,9]]).ct hZ qp (iS hd2 hm2) (ih2 (i2+1) (dn hd2) h)
       ·exact(((((aC8.r 7 h356).F 1).b h356).F 2).a [.cn [3,4,5,7,10,11,14] [0,1,2,3,4,5,6,7,8,9]]).ct hZ qp (iS hd2 hm2) (ih2 (i2+1) (dn hd2) h)
      ·exact(((((aC7.r 7 h351).F 1).b h351).F 12).a [.cn [3,4,5,7,10,11,14] [0,1,2,3,4,5,6,7,8,9]]).ct hZ qp (iS hd2 hm2) (ih2 (i2+1) (dn hd2) h)
def J1(y4:aH×aD×Bool)(y6:bL×bL)(yM:bL)(yN:bL)(dL:Int):St:=⟨[(3,bp 0 0),(4,bp 1 0),(5,bO y4.2.2),(6,b9 2),(7,b9 3),(10,b9 4),(11,b9 5),(12,aB dL)],[bu [bX (y4.1.rules.map aO.c),b9 6,b9 7,b9 8,b9 9,aB y4.1.cP],bu [aZ y4.2.1.rel,b9 10],af 57 3 (y6.1.map aq.c),af 57 3 (y6.2.map aq.c),af 57 3 (yM.map aq.c),af 57 3 (yN.map aq.c),af 3 1 (y4.1.ends.map jM),af 83 3 (y4.1.bG.map ai.c),af 74 8 (y4.1.nodes.map Node.c),af 43 2 (y4.1.facts.map aD.c),af 9 1 (y4.2.1.args.map tx)]⟩
theorem HO(hZ:Z.nt=203){y4:aH×aD×Bool}{y6:bL×bL}{yM:bL}{yN:bL}{r:Bool}{k3:Option Bool}(Z3:k3=some r->Ax Z N f6 (.q bZ (bO r)) [1,1,1,1,1,1,1,1,1,1,1] ⟨[(3,bp 0 0),(4,bp 1 0),(5,bO y4.2.2),(7,b9 2),(10,b9 3),(11,b9 4)],[bu [bX (y4.1.rules.map aO.c),b9 5,b9 6,b9 7,b9 8,aB y4.1.cP],bu [aZ y4.2.1.rel,b9 9],af 57 3 (y6.2.map aq.c),af 57 3 (yM.map aq.c),af 57 3 (yN.map aq.c),af 3 1 (y4.1.ends.map jM),af 83 3 (y4.1.bG.map ai.c),af 74 8 (y4.1.nodes.map Node.c),af 43 2 (y4.1.facts.map aD.c),af 9 1 (y4.2.1.args.map tx)]⟩)(On:y6.1.length<=maxLen):∀(rest:bL) (i3:Nat),y6.1.drop i3=rest->eV y4 y6 yM yN k3 rest i3=some r->Ar Z N f6 (.q bZ (bO r)) [1,1,1,1,1,1,1,1,1,1,0,1,0] (rest.length+1) (J1 y4 y6 yM yN (i3:Int)):=by
 intro rest
 induction rest with
 |nil=>
  intro i3 uU h;rw[eV]at h;refine aT fun N3 Rr Kn=>?_
  exact((aY.ge aq.c uU).a [.hl 0 [3,4,5,7,10,11] [0,1,3,4,5,6,7,8,9,10]]).ex hZ Rr (Z3 h)
 |cons OZ Kz ih3=>
  intro i3 uU h;rw[eV]at h;refine aT fun N3 Rr Kn=>?_
  obtain⟨a6E,h510,aDd,h512,h⟩:=bR h;have aCA:=(((((((((aY.lt aq.c uU).a [.n 7]).i (fG aq.c 3 (dc uU))).o 3 1 .uq (cL aq.c (dc uU))).g (pY h510)).a [.n 47]).i (fG aq.c 3 (dc uU))).o 3 3 .uq (cL aq.c (dc uU))).g (iT h512))
  obtain⟨h513,h⟩|⟨h513,h⟩:=aK h
  ·obtain rfl:=aM h;exact((((((((aCA.r 7 h513).T 5).a [bF,bF,bF,bF,bF,bF,bF]).T 2).a [bF,bF,bF,bF,bF,bF,bF]).T 5).a [bF,bF,bF,bF,bF,bF,bF]).T 3).ret hZ
  ·obtain⟨aDe,h515,h⟩:=aG h;have aCB:=(((((((aCA.r 4 h513).i (fG aq.c 3 (dc uU))).b h513).o 3 3 .uq (cL aq.c (dc uU))).b h513).g (iT h515)).b h513)
   obtain⟨h516,h⟩|⟨h516,h⟩:=aK h
   ·obtain rfl:=aM h;exact((((((((aCB.r 3 h516).T 2).a [bF,bF,bF,bF,bF,bF,bF]).T 2).a [bF,bF,bF,bF,bF,bF,bF]).T 5).a [bF,bF,bF,bF,bF,bF,bF]).T 3).ret hZ
   ·have a2L:=(aCB.r 3 h516)
    obtain⟨h517,h⟩|⟨h517,h⟩:=aK h
    ·obtain rfl:=aM h;exact((((((((a2L.r 2 h517).a [bF,bF,bF,bF,bF,bF,bF]).r 2 h517).a [bF,bF,bF,bF,bF,bF,bF]).r 2 h517).T 3).a [bF,bF,bF,bF,bF,bF,bF]).T 3).ret hZ
    ·have aCC:=(a2L.r 2 h517)
     obtain⟨h518,h⟩|⟨h518,h⟩:=aK h
     ·obtain⟨x519,h520,aDf,h522,h⟩:=bR h;have aCD:=((((((((aCC.r 4 h518).l (dW aO.c 4 h520 rfl)).r 2 h518).g (eg h522)).b h518).b h517).b h518).b h517)
      obtain⟨h523,h⟩|⟨h523,h⟩:=aK h
      ·obtain⟨aDg,h525,h⟩:=aG h;have aCE:=((((((((((aCD.r 3 h523).i (fG aq.c 3 (dc uU))).b h523).o 3 3 .uq (cL aq.c (dc uU))).r 2 h523).g (mU h525)).b h523).b h517).b h523).b h517)
       obtain⟨h526,h⟩|⟨h526,h⟩:=aK h
       ·obtain rfl:=aM h;exact((((aCE.r 3 h526).a [bF,bF,bF,bF,bF,bF,bF]).r 2 h526).T 1).ret hZ
       ·have aCF:=(aCE.r 3 h526)
        obtain⟨h527,h⟩|⟨h527,h⟩:=aK h
        ·obtain⟨aDh,h529,h⟩:=aG h;have aCG:=((((((((aCF.r 4 h527).l (dW aO.c 4 h520 rfl)).r 2 h527).g (eg h529)).b h527).b h526).b h527).b h526)
         obtain⟨h530,h⟩|⟨h530,h⟩:=aK h
         ·obtain rfl:=aM h;exact(aCG.b h530).ret hZ
         ·exact((aCG.b h530).a [.cn [3,4,5,6,7,10,11,12] [0,1,2,3,4,5,6,7,8,9,10]]).ct hZ Kn (iS uU On) (ih3 (i3+1) (dn uU) h)
        ·exact((((((aCF.r 7 h527).b h526).b h527).b h526).F 1).a [.cn [3,4,5,6,7,10,11,12] [0,1,2,3,4,5,6,7,8,9,10]]).ct hZ Kn (iS uU On) (ih3 (i3+1) (dn uU) h)
      ·have aCH:=(((((aCD.r 7 h523).b h517).b h523).b h517).F 3)
       obtain⟨h531,h⟩|⟨h531,h⟩:=aK h
       ·obtain⟨aDj,h533,h⟩:=aG h;have aCI:=((((((((aCH.r 4 h531).l (dW aO.c 4 h520 rfl)).r 2 h531).g (eg h533)).b h531).F 1).b h531).F 1)
        obtain⟨h534,h⟩|⟨h534,h⟩:=aK h
        ·obtain rfl:=aM h;exact(aCI.b h534).ret hZ
        ·exact((aCI.b h534).a [.cn [3,4,5,6,7,10,11,12] [0,1,2,3,4,5,6,7,8,9,10]]).ct hZ Kn (iS uU On) (ih3 (i3+1) (dn uU) h)
       ·exact(((((aCH.r 7 h531).F 1).b h531).F 2).a [.cn [3,4,5,6,7,10,11,12] [0,1,2,3,4,5,6,7,8,9,10]]).ct hZ Kn (iS uU On) (ih3 (i3+1) (dn uU) h)
     ·have aCJ:=(((((((((aCC.r 7 h518).b h517).b h518).b h517).F 7).b h517).F 1).b h517).F 3)
      obtain⟨h535,h⟩|⟨h535,h⟩:=aK h
      ·obtain⟨x536,h537,aDk,h539,h⟩:=bR h;have aCK:=((((((((aCJ.r 4 h535).l (dW aO.c 4 h537 rfl)).r 2 h535).g (eg h539)).b h535).F 1).b h535).F 1)
       obtain⟨h540,h⟩|⟨h540,h⟩:=aK h
       ·obtain rfl:=aM h;exact(aCK.b h540).ret hZ
       ·exact((aCK.b h540).a [.cn [3,4,5,6,7,10,11,12] [0,1,2,3,4,5,6,7,8,9,10]]).ct hZ Kn (iS uU On) (ih3 (i3+1) (dn uU) h)
      ·exact(((((aCJ.r 7 h535).F 1).b h535).F 2).a [.cn [3,4,5,6,7,10,11,12] [0,1,2,3,4,5,6,7,8,9,10]]).ct hZ Kn (iS uU On) (ih3 (i3+1) (dn uU) h)
def J2(y4:aH×aD×Bool)(y6:bL×bL)(yM:bL)(yN:bL)(dL:Int):St:=⟨[(3,bp 0 0),(4,bp 1 0),(5,bO y4.2.2),(7,b9 2),(10,b9 3),(11,b9 4),(14,aB dL)],[bu [bX (y4.1.rules.map aO.c),b9 5,b9 6,b9 7,b9 8,aB y4.1.cP],bu [aZ y4.2.1.rel,b9 9],af 57 3 (y6.2.map aq.c),af 57 3 (yM.map aq.c),af 57 3 (yN.map aq.c),af 3 1 (y4.1.ends.map jM),af 83 3 (y4.1.bG.map ai.c),af 74 8 (y4.1.nodes.map Node.c),af 43 2 (y4.1.facts.map aD.c),af 9 1 (y4.2.1.args.map tx)]⟩
theorem HP(hZ:Z.nt=203){y4:aH×aD×Bool}{y6:bL×bL}{yM:bL}{yN:bL}{r:Bool}{k4:Option Bool}(hE4:k4=some r->Ax Z N f6 (.q bZ (bO r)) [1,1,1,1,1,1,1,1,1,1,1,1] ⟨[],[]⟩)(hm4:y6.2.length<=maxLen):∀(rest:bL) (i4:Nat),y6.2.drop i4=rest->eW y4 y6 yM yN k4 rest i4=some r->Ar Z N f6 (.q bZ (bO r)) [1,1,1,1,1,1,1,1,1,1,1,0,1,0] (rest.length+1) (J2 y4 y6 yM yN (i4:Int)):=by
 intro rest
 induction rest with
 |nil=>
  intro i4 EK h;rw[eW]at h;refine aT fun N4 hN4 Z4=>?_
  exact((aY.ge aq.c EK).a [.hl 0 [] []]).ex hZ hN4 (hE4 h)
 |cons x4_ xs4 ih4=>
  intro i4 EK h;rw[eW]at h;refine aT fun N4 hN4 Z4=>?_
  obtain⟨a6F,h679,aDo,h681,h⟩:=bR h;have aCL:=(((((((((aY.lt aq.c EK).a [.n 7]).i (fG aq.c 3 (dc EK))).o 3 1 .uq (cL aq.c (dc EK))).g (pY h679)).a [.n 49]).i (fG aq.c 3 (dc EK))).o 3 3 .uq (cL aq.c (dc EK))).g (iT h681))
  obtain⟨h682,h⟩|⟨h682,h⟩:=aK h
  ·obtain rfl:=aM h;exact((((((((aCL.r 8 h682).T 5).a [bF,bF,bF,bF,bF,bF,bF]).T 5).a [bF,bF,bF,bF,bF,bF,bF]).T 2).a [bF,bF,bF,bF,bF,bF,bF]).T 3).ret hZ
  ·obtain⟨aDp,h684,h⟩:=aG h;have aCM:=(((((((aCL.r 4 h682).i (fG aq.c 3 (dc EK))).b h682).o 3 3 .uq (cL aq.c (dc EK))).b h682).g (iT h684)).r 2 h682)
   obtain⟨h685,h⟩|⟨h685,h⟩:=aK h
   ·obtain rfl:=aM h;exact((((((((aCM.r 3 h685).T 2).a [bF,bF,bF,bF,bF,bF,bF]).T 5).a [bF,bF,bF,bF,bF,bF,bF]).T 2).a [bF,bF,bF,bF,bF,bF,bF]).T 3).ret hZ
   ·have aCN:=(aCM.r 3 h685)
    obtain⟨h686,h⟩|⟨h686,h⟩:=aK h
    ·obtain rfl:=aM h;exact((((((((aCN.r 2 h686).a [bF,bF,bF,bF,bF,bF,bF]).r 2 h686).T 3).a [bF,bF,bF,bF,bF,bF,bF]).T 2).a [bF,bF,bF,bF,bF,bF,bF]).T 3).ret hZ
    ·have aCO:=(aCN.r 2 h686)
     obtain⟨h687,h⟩|⟨h687,h⟩:=aK h
     ·obtain⟨x688,h689,aDq,h691,h⟩:=bR h;have aCP:=((((((((aCO.r 4 h687).l (dW aO.c 4 h689 rfl)).r 2 h687).g (eg h691)).b h687).b h686).b h687).b h686)
      obtain⟨h692,h⟩|⟨h692,h⟩:=aK h
      ·obtain rfl:=aM h;exact((((((aCP.r 3 h692).a [bF,bF,bF,bF,bF,bF,bF]).r 2 h692).a [bF,bF,bF,bF,bF,bF,bF]).r 2 h692).T 1).ret hZ
      ·have aCQ:=(aCP.r 3 h692)
       obtain⟨h693,h⟩|⟨h693,h⟩:=aK h
       ·obtain⟨aDr,h695,h⟩:=aG h;have aCR:=((((((((aCQ.r 4 h693).l (dW aO.c 4 h689 rfl)).r 2 h693).g (eg h695)).b h693).b h692).b h693).b h692)
        obtain⟨h696,h⟩|⟨h696,h⟩:=aK h
        ·obtain⟨aDs,h698,h⟩:=aG h;have aCS:=((((((((((aCR.r 3 h696).i (fG aq.c 3 (dc EK))).b h696).o 3 3 .uq (cL aq.c (dc EK))).r 2 h696).g (mU h698)).b h696).b h692).b h696).b h692)
         obtain⟨h699,h⟩|⟨h699,h⟩:=aK h
         ·obtain rfl:=aM h;exact(aCS.b h699).ret hZ
         ·exact((aCS.b h699).a [.cn [3,4,5,7,10,11,14] [0,1,2,3,4,5,6,7,8,9]]).ct hZ Z4 (iS EK hm4) (ih4 (i4+1) (dn EK) h)
        ·exact((((((aCR.r 7 h696).b h692).b h696).b h692).F 1).a [.cn [3,4,5,7,10,11,14] [0,1,2,3,4,5,6,7,8,9]]).ct hZ Z4 (iS EK hm4) (ih4 (i4+1) (dn EK) h)
       ·exact((((((((((aCQ.r 7 h693).b h692).b h693).b h692).F 7).b h692).F 1).b h692).F 1).a [.cn [3,4,5,7,10,11,14] [0,1,2,3,4,5,6,7,8,9]]).ct hZ Z4 (iS EK hm4) (ih4 (i4+1) (dn EK) h)
     ·have a2M:=(((((aCO.r 7 h687).b h686).b h687).b h686).F 3)
      obtain⟨h700,h⟩|⟨h700,h⟩:=aK h
      ·obtain⟨x701,h702,aDt,h704,h⟩:=bR h;have a2N:=((((((((a2M.r 4 h700).l (dW aO.c 4 h702 rfl)).r 2 h700).g (eg h704)).b h700).F 1).b h700).F 1)
       obtain⟨h705,h⟩|⟨h705,h⟩:=aK h
       ·obtain⟨aDu,h707,h⟩:=aG h;have a2O:=((((((((((a2N.r 3 h705).i (fG aq.c 3 (dc EK))).b h705).o 3 3 .uq (cL aq.c (dc EK))).r 2 h705).g (mU h707)).b h705).F 1).b h705).F 1)
        obtain⟨h708,h⟩|⟨h708,h⟩:=aK h
        ·obtain rfl:=aM h;exact(a2O.b h708).ret hZ
        ·exact((a2O.b h708).a [.cn [3,4,5,7,10,11,14] [0,1,2,3,4,5,6,7,8,9]]).ct hZ Z4 (iS EK hm4) (ih4 (i4+1) (dn EK) h)
       ·exact(((((a2N.r 7 h705).F 1).b h705).F 2).a [.cn [3,4,5,7,10,11,14] [0,1,2,3,4,5,6,7,8,9]]).ct hZ Z4 (iS EK hm4) (ih4 (i4+1) (dn EK) h)
      ·exact(((((a2M.r 7 h700).F 1).b h700).F 12).a [.cn [3,4,5,7,10,11,14] [0,1,2,3,4,5,6,7,8,9]]).ct hZ Z4 (iS EK hm4) (ih4 (i4+1) (dn EK) h)
theorem GA{aC:bM}{r:Bool}(h:wg aC=some r):Good prog 6 [bX (aC.map yx)] (bO r):=by
 refine gd func6 bZ 203 fun hr Z hZ=>?_
 rw[wg]at h;obtain⟨y1,h2,h⟩:=aG h;obtain⟨h3,h⟩|⟨h3,h⟩:=aK h
 ·obtain rfl:=aM h;exact((aY.g (FW h2)).b h3).ret hZ
 ·obtain⟨y4,h5,y6,h7,y8,h9,h⟩:=gW h;have a97:=(((((aY.g (FW h2)).b h3).g (Cu h5)).g (Fq h7)).g (BW h9))
  obtain⟨h10,h⟩|⟨h10,h⟩:=aK h
  ·obtain⟨yb,h12,h⟩:=aG h;have a98:=((a97.b h10).g (DU h12))
   obtain⟨h13,h⟩|⟨h13,h⟩:=aK h
   ·obtain⟨h14,h⟩|⟨h14,h⟩:=aK h
    ·cases h;exact((a98.b h13).r 4 h14).ret hZ
    ·obtain rfl:=aM h;exact((a98.b h13).r 4 h14).ret hZ
   ·obtain⟨yL,h16,Ce,h18,h⟩:=bR h;have aCT:=(((a98.b h13).g (qO h16)).g (qO h18))
    obtain⟨h19,h⟩|⟨h19,h⟩:=aK h
    ·obtain rfl:=aM h;exact(aCT.b h19).ret hZ
    ·obtain⟨h361,h⟩:=bf h;refine((aCT.b h19).a [.cn [3,4,5,6,7,10,11,12] [5,6,7,8,20,21,0,1,2,3,4]]).lp hZ (HM hZ (fun h=>?_) (bh h361) y6.1 0 rfl h);obtain⟨h360,h⟩:=bf h;refine(aY.a [.cn [3,4,5,7,10,11,14] [0,1,2,3,4,5,6,7,8,9]]).lp hZ (HN hZ (fun h=>?_) (bh h360) y6.2 0 rfl h);obtain rfl:=aM h;exact aY.ret hZ
  ·obtain⟨h362,h⟩|⟨h362,h⟩:=aK h
   ·have aCU:=((a97.b h10).b h362)
    obtain⟨h363,h⟩|⟨h363,h⟩:=aK h
    ·cases h;exact(aCU.r 4 h363).ret hZ
    ·obtain rfl:=aM h;exact(aCU.r 4 h363).ret hZ
   ·obtain⟨yM,h365,yN,h367,h⟩:=bR h;have aCV:=((((a97.b h10).b h362).g (qO h365)).g (qO h367))
    obtain⟨h368,h⟩|⟨h368,h⟩:=aK h
    ·obtain rfl:=aM h;exact(aCV.b h368).ret hZ
    ·obtain⟨h710,h⟩:=bf h;refine((aCV.b h368).a [.cn [3,4,5,6,7,10,11,12] [5,6,7,8,15,16,0,1,2,3,4]]).lp hZ (HO hZ (fun h=>?_) (bh h710) y6.1 0 rfl h);obtain⟨h709,h⟩:=bf h;refine(aY.a [.cn [3,4,5,7,10,11,14] [0,1,2,3,4,5,6,7,8,9]]).lp hZ (HP hZ (fun h=>?_) (bh h709) y6.2 0 rfl h);obtain rfl:=aM h;exact aY.ret hZ
namespace LawFnChanges
theorem OI(l:bL)(m:aq):gx l m=some (decide (m∈l)):=by
 unfold gx;have main:∀(r:bL) (i:Nat),jc l m (some false) r i=some (decide (m∈r)):=by
  intro r
  induction r with
  |nil=>intro i;simp[jc]
  |cons x r ih=>
   intro i;rw[jc,a9Z,aA];by_cases e:x=m
   ·rw[au e,aF];simp[e]
   ·rw[ax e,aL,ih];simp[rq e]
 exact main l 0
def nt(r:aO):Bool:=r.conds.any fun c=>c.kind==2
theorem Y5(r:aO):gb r=some (nt r):=by
 unfold gb nt;have main:∀(l:ay) (i:Nat),rW r (some false) l i=some (l.any fun c=>c.kind==2):=by
  intro l
  induction l with
  |nil=>intro i;rfl
  |cons c l ih=>
   intro i;rw[rW,ih,tL];cases(c.kind==2)<;>rfl
 exact main r.conds 0
def a0W(rs:az)(old now:bL)(p:aO->aq->Prop)(m:aq):Prop:=∃(j:Nat) (r:aO),rs[j]?=some r/\Ab m.rule rs 0=(j:Int)/\m∈now/\m∉old/\p r m
theorem Sd{G:Type}{l:List G}{j:Nat}{x:G}(h:l[j]?=some x):fy l (j:Int)=some x:=by unfold fy;rw[au (by omega),aF];exact h
theorem a6n(y:aH×aD×Bool)(z:bL×bL)(old now:bL)(k:Option Bool)(hp:y.2.2=true):∀(l:bL) (i:Nat),(∀m∈l,a0W y.1.rules old now (fun r m=>nt r=true\/y.2.1∈m.facts) m)->eT y z old now k l i=k
 | [],_,_=>rfl
 |m::l,i,h=>by
  obtain⟨j,r,e1,e2,e3,e4,e5⟩:=h m (by simp);rw[eT,VJ,aA,OI,aA,au e3,bU,aL,OI,aA,ax e4,aL,e2,ax (by omega),aL,hp,aF,Sd e1,aA,Y5,aA];have ih:=a6n y z old now k hp l (i+1) fun x hx=>h x (by simp[hx])
  cases hn:nt r with
  |true=>simpa using ih
  |false=>
   have e6:y.2.1∈m.facts:=by
    rcases e5 with e5|e5
    ·rw[hn]at e5;cases e5
    ·exact e5
   rw[a6i,aA,au e6];simpa using ih
theorem a6o(y:aH×aD×Bool)(z:bL×bL)(old now:bL)(k:Option Bool)(hp:y.2.2=true):∀(l:bL) (i:Nat),(∀m∈l,a0W y.1.rules now old (fun r m=>nt r=true) m)->eU y z old now k l i=k
 | [],_,_=>rfl
 |m::l,i,h=>by
  obtain⟨j,r,e1,e2,e3,e4,e5⟩:=h m (by simp);rw[eU,VJ,aA,OI,aA,ax e4,aL,OI,aA,au e3,bU,aL,e2,ax (by omega),aL,hp,aF,Sd e1,aA,Y5,aA,e5];have ih:=a6o y z old now k hp l (i+1) fun x hx=>h x (by simp[hx])
  simpa using ih
theorem a6p(y:aH×aD×Bool)(z:bL×bL)(old now:bL)(k:Option Bool)(hp:y.2.2=false):∀(l:bL) (i:Nat),(∀m∈l,a0W y.1.rules old now (fun r m=>nt r=true) m)->eV y z old now k l i=k
 | [],_,_=>rfl
 |m::l,i,h=>by
  obtain⟨j,r,e1,e2,e3,e4,e5⟩:=h m (by simp);rw[eV,VJ,aA,OI,aA,au e3,bU,aL,OI,aA,ax e4,aL,e2,ax (by omega),aL,hp,aL,bt,aF,Sd e1,aA,Y5,aA,e5];have ih:=a6p y z old now k hp l (i+1) fun x hx=>h x (by simp[hx])
  simpa using ih
theorem a6q(y:aH×aD×Bool)(z:bL×bL)(old now:bL)(k:Option Bool)(hp:y.2.2=false):∀(l:bL) (i:Nat),(∀m∈l,a0W y.1.rules now old (fun r m=>nt r=true\/y.2.1∈m.facts) m)->eW y z old now k l i=k
 | [],_,_=>rfl
 |m::l,i,h=>by
  obtain⟨j,r,e1,e2,e3,e4,e5⟩:=h m (by simp);rw[eW,VJ,aA,OI,aA,ax e4,aL,OI,aA,au e3,bU,aL,e2,ax (by omega),aL,hp,aL,bt,aF,Sd e1,aA,Y5,aA];have ih:=a6q y z old now k hp l (i+1) fun x hx=>h x (by simp[hx])
  cases hn:nt r with
  |true=>simpa using ih
  |false=>
   have e6:y.2.1∈m.facts:=by
    rcases e5 with e5|e5
    ·rw[hn]at e5;cases e5
    ·exact e5
   rw[a6i,aA,au e6];simpa using ih
theorem P7{rs:az}{fs gs:aJ}(h1:qT rs=true)(hf:fJ fs=true)(hg:fJ gs=true){p:aO->aq->Prop}(hp:∀r m,(∀f∈m.facts,f∈gs)->(nt r=false->¬ ∀f∈m.facts,f∈gs->f∈fs)->p r m):∀m∈(zK rs gs).filter (fun m=> !decide (m∈zK rs fs)),a0W rs (zK rs fs) (zK rs gs) p m:=by
 intro m hm;obtain⟨q1,q2⟩:=gu.1 hm;have q3:m∉zK rs fs:=by simpa using q2
 obtain⟨j,r,e1,e2,_,e3,e4⟩:=a0b h1 hg q1;exact⟨j,r,e1,e3,q1,q3,hp r m (IR _ _ _ _ e4) fun hn hs=>q3 (a0c h1 hf e1 e2 e4 hn hs)⟩
theorem sCf{n:aH}(hb:Gd n=true)(hr:sC aO.wt n.rules<=1048576)(hf:sC aD.wt n.facts<=1048576):fc n=some (zK n.rules n.facts):=by
 rw[aCk n hr hf,hb,aF,a0l hb]
theorem a61{n:aH}{f:aD}(h:f∉n.facts):Ox n f=(n,false):=by
 have ha:(Kv n.facts f).2=false:=by unfold Kv;rw[bE (fun q=>h q.2)]
 unfold Ox;rw[ha,w9];rfl
theorem cnt{a b c d:Nat}(h:a+c=b+d)(ha:a<=100000000)(hb:b<=100000000)(hd:d<=100000000):((b:Int) != IntKind.i64.wrap (IntKind.i64.wrap ((a:Int)+(c:Int))-(d:Int)))=false:=by
 have e1:IntKind.i64.wrap ((a:Int)+(c:Int))=(a:Int)+(c:Int):=eC (qu.i64.2 (by omega));have e2:IntKind.i64.wrap ((a:Int)+(c:Int)-(d:Int))=(a:Int)+(c:Int)-(d:Int):=eC (qu.i64.2 (by omega));rw[e1,e2];simp;omega
theorem a4l{rs:az}{fs gs:aJ}(h1:qT rs=true):((zK rs gs).filter fun m=> !decide (m∈zK rs fs)).length<=3000000/\(zK rs gs).length<=3000000:=by
 have q:=lE (fun m=> !decide (m∈zK rs fs)) (zK rs gs);have q2:=a4O (fs:=gs) h1;have q3:rs.length<=6:=by
  have Om:=h1;unfold qT at Om;simp only[aS,bH]at Om;omega
 omega
theorem a8z(code:bM):wg code=some true:=by
 unfold wg F3;rw[aA,aj];by_cases hc:code.length<=4096
 ·rw[ax (by omega),aL];obtain⟨n,f,b,e1,hn,ht,hf⟩:=a2p code hc;have hr:=hn.rules;have hfs:=hn.facts;rw[e1,aA];dsimp only;unfold wZ;rw[aBR n f hn hf,aA];cases b with
  |true=>
   rw[aF,aBL n f hn hf,aA];cases hk:(RR n f).2 with
   |false=>
    rw[bt,aF,aA,YL n f hn hf,aA,aF,a7d n f hn hf,aA,hk,bt,aF];rfl
   |true=>
    have hk2:Gd n=true/\(IX n.facts f).2=true:=by
     unfold RR at hk;cases h:Gd n with
     |false=>rw[h]at hk;cases hk
     |true=>
      cases h':(IX n.facts f).2 with
      |true=>exact⟨rfl,rfl⟩
      |false=>rw[h,h']at hk;cases hk
    obtain⟨hb,ha⟩:=hk2;obtain⟨h1,h2,h0,_⟩:=I1 hb;have a8E:pK f=true/\f∉n.facts/\n.facts.length≠24:=by
     unfold IX at ha;split at ha
     ·rename_i h;exact⟨h.2.1,h.2.2.1,h.2.2.2⟩
     ·cases ha
    have h24:=qF h2;obtain⟨t,q1,q2,q3,q4⟩:=a2T hb a8E.1 a8E.2.1 (by omega) (by omega);have hbz:Gd (tG n.rules (xJ f n.facts) t)=true:=by rw[Y1 h1 q2];exact au (by omega)
    have hw:=yo q2;have hw2:sC aD.wt (tG n.rules (xJ f n.facts) t).facts<=1048576:=by show sC aD.wt (xJ f n.facts)<=1048576;omega
    have l1:=a4l (fs:=n.facts) (gs:=xJ f n.facts) h1;have l2:=a4l (fs:=xJ f n.facts) (gs:=n.facts) h1;have hd:=UP (IJ h1 h2) (IJ h1 q2);have e3:fZ (RR n f).1=some (zK n.rules (xJ f n.facts)):=by rw[q1];exact a4z hbz hr hw2
    have e4:fc (RR n f).1=some (zK n.rules (xJ f n.facts)):=by rw[q1];exact sCf hbz hr hw2
    rw[bU,aL,a4z hb hr hfs,aA,e3,aA,Xy _ _ (fun m hm=>Sb h1 q2 hm) (by omega),aA,Xy _ _ (fun m hm=>Sb h1 h2 hm) (by omega),aA,aA,YL n f hn hf,aA,aF,a7d n f hn hf,aA,hk,bU,aL,sCf hb hr hfs,aA,e4,aA];dsimp only;simp only[aj];rw[cnt (by omega) (by omega) (by omega) (by omega),aL,sE (by omega),aF,sE (by omega),aF];rw[a6n (n,f,true) _ _ _ _ rfl _ _ (P7 h1 h2 q2 fun r m hm hs=>?_),a6o (n,f,true) _ _ _ _ rfl _ _ (P7 h1 q2 h2 fun r m hm hs=>?_)]
    ·cases hnt:nt r with
     |true=>rfl
     |false=>exact absurd (fun g hg Sv=>(MM f n.facts g).2 (.inr Sv)) (hs hnt)
    ·cases hnt:nt r with
     |true=>exact .inl rfl
     |false=>
      refine .inr (dK fun hnf=>hs hnt fun g hg Sv=>?_);rcases(MM f n.facts g).1 Sv with e|e
      ·subst e;exact absurd hg hnf
      ·exact e
  |false=>
   rw[aL];cases hk:(Ox n f).2 with
   |false=>
    rw[bt,aF,aA,YL n f hn hf,aA,aL,hk,bt,aF];rfl
   |true=>
    have hb:Gd n=true:=by
     unfold Ox at hk;cases h:Gd n with
     |true=>rfl
     |false=>rw[h]at hk;cases hk
    have hin:f∈n.facts:=by
     by_cases h:f∈n.facts
     ·exact h
     ·rw[a61 h]at hk;cases hk
    obtain⟨h1,h2,h0,_⟩:=I1 hb;obtain⟨t,q1,q2,q3,q4⟩:=a3P hb hin (by omega);have hbz:Gd (tG n.rules (BX f n.facts) t)=true:=by rw[Y1 h1 q2];exact au (by omega)
    have hw:=yo q2;have hw2:sC aD.wt (tG n.rules (BX f n.facts) t).facts<=1048576:=by show sC aD.wt (BX f n.facts)<=1048576;omega
    have l1:=a4l (fs:=n.facts) (gs:=BX f n.facts) h1;have l2:=a4l (fs:=BX f n.facts) (gs:=n.facts) h1;have hd:=UP (IJ h1 h2) (IJ h1 q2);have e3:fZ (Ox n f).1=some (zK n.rules (BX f n.facts)):=by rw[q1];exact a4z hbz hr hw2
    have e4:fc (Ox n f).1=some (zK n.rules (BX f n.facts)):=by rw[q1];exact sCf hbz hr hw2
    rw[bU,aL,a4z hb hr hfs,aA,e3,aA,Xy _ _ (fun m hm=>Sb h1 q2 hm) (by omega),aA,Xy _ _ (fun m hm=>Sb h1 h2 hm) (by omega),aA,aA,YL n f hn hf,aA,aL,hk,bU,aL,sCf hb hr hfs,aA,e4,aA];dsimp only;simp only[aj];rw[cnt (by omega) (by omega) (by omega) (by omega),aL,sE (by omega),aF,sE (by omega),aF];rw[a6p (n,f,false) _ _ _ _ rfl _ _ (P7 h1 h2 q2 fun r m hm hs=>?_),a6q (n,f,false) _ _ _ _ rfl _ _ (P7 h1 q2 h2 fun r m hm hs=>?_)]
    ·cases hnt:nt r with
     |true=>exact .inl rfl
     |false=>
      refine .inr (dK fun hnf=>hs hnt fun g hg Sv=>?_);exact UO.2 ⟨Sv,fun e=>hnf (e▸hg)⟩
    ·cases hnt:nt r with
     |true=>rfl
     |false=>exact absurd (fun g hg Sv=>(UO.1 Sv).1) (hs hnt)
 ·rw[au (by omega),aF]
theorem a1p(code:bM):Good prog 6 [D.sl (code.map yx)] (.bool true):=GA (a8z code)
end LawFnChanges
open Go.RowKit
inductive Sh where
 |int (k:IntKind)
 |str
 |bool
 |sl (row:List Sh)
mutual
inductive R6:Sh->D->Prop
 |int (k:IntKind) (n:Int):R6 (.int k) (.int k n)
 |str (s:Bytes):R6 .str (.str s)
 |bool (b:Bool):R6 .bool (.bool b)
 |sl (row:List Sh) (rows:List aR):(∀r∈rows,x6 row r)->R6 (.sl row) (.sl rows)
inductive x6:List Sh->List D->Prop
 |nil:x6 [] []
 |cons (s:Sh) (ss:List Sh) (d:D) (ds:aR):R6 s d->x6 ss ds->x6 (s::ss) (d::ds)
end
theorem x6.app{s1 s2:List Sh}{d1 d2:aR}(h1:x6 s1 d1)(h2:x6 s2 d2):x6 (s1++s2) (d1++d2):=by
 induction s1 generalizing d1 with
 |nil=>cases h1;exact h2
 |cons s s1 ih=>cases h1 with|cons _ _ d ds h h'=>exact .cons _ _ _ _ h (ih h')
theorem x6.length{s:List Sh}{d:aR}(h:x6 s d):d.length=s.length:=by
 induction s generalizing d with
 |nil=>cases h;rfl
 |cons s ss ih=>cases h with|cons _ _ d ds h h'=>simp[ih h']
def TO(P:Program):Nat->List Field->List (List Sh)->Bool
 |_,[],[]=>true
 |off,f::fs,r::rs=>(f.offset==off)&&(r.length==P.cellsOf f.type)&&TO P (off+r.length) fs rs
 |_,_,_=>false
def DA(P:Program):Nat->TypeId->Option (List Sh)
 |0,_=>none
 |n+1,t=>match P.underlying t with
  |some .bool=>some [.bool]
  |some (.int k)=>some [.int k]
  |some .string=>some [.str]
  |some (.slice e)=>(DA P n e).bind fun r=>if r.length=P.cellsOf e/\0<r.length then some [.sl r]else none
  |some (.struct fs)=>(fs.toList.mapM fun f=>DA P n f.type).bind fun rs=>if TO P 0 fs.toList rs=true/\rs.flatten.length=P.cellsOf t then some rs.flatten else none
  |_=>none
theorem Uw{G E:Type}{f:G->Option E}:∀ {l:List G} {ys:List E},l.mapM f=some ys->ys.length=l.length/\∀(i:Nat) x,l[i]?=some x->∃y,ys[i]?=some y/\f x=some y:=by
 intro l
 induction l with
 |nil=>intro ys h;simp at h;subst h;simp
 |cons a l ih=>
  intro ys h;simp only[Gf,Option.bind_eq_bind,Option.pure_def]at h;cases ha:f a with
  |none=>simp[ha]at h
  |some b=>
   cases hl:l.mapM f with
   |none=>simp[ha,hl]at h
   |some bs=>
    simp[ha,hl]at h;subst h;obtain⟨h1,h2⟩:=ih hl;refine⟨by simp[h1],fun i x hx=>?_⟩;cases i with
    |zero=>simp at hx;subst hx;exact⟨b,by simp,ha⟩
    |succ i=>simp at hx;obtain⟨y,k1,k2⟩:=h2 i x hx;exact⟨y,by simpa using k1,k2⟩
section
variable{P:Program}{w:World}{H:Type}{enc:TypeId×Value->H}{base:Nat}{sp:Nat->Bool}{held:Bool}
theorem Pa{a:Addr}{n:Nat}{cs:cG}(h:w.cells? base a n=some cs):cs.length=n/\∀(j:Nat) c,cs[j]?=some c->w.cell? (a.add j)=some c:=by
 unfold World.cells? at h;split at h
 ·obtain⟨h1,h2⟩:=Uw h;refine⟨by simpa using h1,fun j c hj=>?_⟩;have hlt:j<n:=by have:=(aN.1 hj).1;rw[h1]at this;simpa using this
  obtain⟨y,k1,k2⟩:=h2 j j (by simp[hlt]);rw[hj]at k1;cases k1;exact k2
 ·cases h
theorem a90{k:IntKind}{n:Int}(h:(Lit.int k n).wf=true):qu k n:=by
 simpa[Lit.wf,qu]using h
theorem YV:∀(fuel:Nat) {t:TypeId} {cs:cG} {d:DataW H} {ps:List MemPlace} {n:Nat} {shs:List Sh},
 DataW.trod enc P w base sp held fuel t cs=some (d,ps)->DA P n t=some shs->∃ds bs,oH w cs ds bs/\x6 shs ds:=by
 intro fuel
 induction fuel with
 |zero=>intro t cs d ps n shs h;simp[DataW.trod]at h
 |succ fuel ih=>
  intro t cs d ps n shs h hf;cases n with
  |zero=>simp[DA]at hf
  |succ n=>
   simp only[DA]at hf;simp only[DataW.trod]at h;split at hf
   ·rename_i hu;cases hf;simp only[hu]at h;split at h<;>rename_i h1<;>try(simp at h1;done)
    all_goals try(cases h;done)
    all_goals simp at h1
    exact⟨[.bool _],[],.cons _ _ _ _ [] [] rfl (.bool _) .nil,.cons _ _ _ _ (.bool _) .nil⟩
   ·rename_i k hu;cases hf;simp only[hu]at h;split at h<;>rename_i h1<;>try(simp at h1;done)
    all_goals try(cases h;done)
    all_goals simp at h1
    rename_i k1 k2 m _;subst h1;split at h
    ·rename_i hc;obtain⟨rfl,hwf⟩:=hc;exact⟨[.int _ _],[],.cons _ _ _ _ [] [] rfl (.int _ _ (a90 hwf)) .nil,.cons _ _ _ _ (.int _ _) .nil⟩
    ·cases h
   ·rename_i hu;cases hf;simp only[hu]at h;split at h<;>rename_i h1<;>try(simp at h1;done)
    all_goals try(cases h;done)
    all_goals simp at h1
    split at h
    ·rename_i hc;exact⟨[.str _],[],.cons _ _ _ _ [] [] rfl (.str _ hc) .nil,.cons _ _ _ _ (.str _) .nil⟩
    ·cases h
   ·rename_i e hu;cases hr:DA P n e with
    |none=>simp[hr]at hf
    |some r=>
     simp only[hr,aA]at hf;split at hf
     ·rename_i hsz;cases hf;simp only[hu]at h;split at h<;>rename_i h1<;>try(simp at h1;done)
      all_goals try(cases h;done)
      all_goals simp at h1
      ·exact⟨[.sl []],[],.cons _ _ _ _ [] [] rfl .Af .nil,.cons _ _ _ _ (.sl _ _ (by simp)) .nil⟩
      ·rename_i a len cap
       try subst h1
       split at h
       ·rename_i hc;cases hm:(List.range len).mapM (fun i=>(w.cells? base (a.add (i*P.cellsOf e)) (P.cellsOf e)).bind (DataW.trod enc P w base sp held fuel e))with
        |none=>simp[hm]at h
        |some elems=>
         obtain⟨_,hall⟩:=Uw hm;have hel:∀i,i<len->∃cs ds bs,w.cells? base (a.add (i*P.cellsOf e)) (P.cellsOf e)=some cs/\oH w cs ds bs/\x6 r ds:=by
          intro i hi;obtain⟨y,_,hy⟩:=hall i i (by simp[hi]);obtain⟨cs,hcs,hy⟩:=qD.1 hy;obtain⟨ds,bs,k1,k2⟩:=ih (d:=y.1) (ps:=y.2) hy hr;exact⟨cs,ds,bs,hcs,k1,k2⟩
         by_cases hl0:len=0
         ·subst hl0;exact⟨[.sl []],[],.cons _ _ _ _ [] [] rfl (.sA a cap hc.2.2) .nil,.cons _ _ _ _ (.sl _ _ (by simp)) .nil⟩
         ·
          obtain⟨cs0,ds0,XX,a8M,hr0,aHr⟩:=hel 0 (by omega);obtain⟨hl1,PC⟩:=Pa a8M;have hpos:0<cs0.length:=by rw[hl1];omega
          have hc0:=PC 0 cs0[0] (av hpos);have ha0:(a.add (0*P.cellsOf e)).add 0=a:=by simp[Addr.add]
          rw[ha0]at hc0;obtain⟨b,off,spot⟩:=a;have aAu:spot=none:=by
           cases spot with
           |none=>rfl
           |some x=>
            unfold World.cell? at hc0;split at hc0
            ·simp at hc0
            ·cases hc0
          subst aAu;have hb:b<w.heap.size:=World.block_lt_of_cell? w _ hc0;have build:∀m,m<=len->∃(rows:List aR) (cs:cG) (bs:ah),rows.length=m/\cs.length=m*P.cellsOf e/\(∀(j:Nat) c,cs[j]?=some c->w.cell? ⟨b,off+j,none⟩=some c)/\
           oH w cs rows.flatten bs/\∀x∈rows,x6 r x:=by
           intro m
           induction m with
           |zero=>intro _;exact⟨[],[],[],rfl,by simp,by simp,.nil,by simp⟩
           |succ m ihm=>
            intro hm1;obtain⟨rows,cs,bs,q1,q2,q3,q4,q5⟩:=ihm (by omega);obtain⟨cs',ds',bs',g1,g2,g3⟩:=hel m (by omega);obtain⟨g4,g5⟩:=Pa g1;refine⟨rows++[ds'],cs++cs',bs++bs',by simp[q1],by simp[q2,g4,oA],?_,?_,?_⟩
            ·intro j c hj;by_cases hlt:j<cs.length
             ·rw[bJ hlt]at hj;exact q3 j c hj
             ·rw[bW (by omega)]at hj;have:=g5 _ c hj;rw[Addr.add_lit,Addr.add_lit,q2]at this;have e1:off+m*P.cellsOf e+(j-m*P.cellsOf e)=off+j:=by omega
              rw[e1]at this;exact this
            ·rw[kR];have:=q4.app g2;simpa using this
            ·intro x hx;rcases aW.1 hx with hx|hx
             ·exact q5 x hx
             ·simp at hx;subst hx;exact g3
          obtain⟨rows,cs,bs,q1,q2,q3,q4,q5⟩:=build len (br _);subst q1;refine⟨[.sl rows],b::bs,?_,.cons _ _ _ _ (.sl _ _ q5) .nil⟩;have:=oH.cons (w:=w) _ [] _ [] _ [] rfl (Rd.sl b off cap r.length rows cs bs hb hc.2.1 hc.2.2 (fun x hx=>(q5 x hx).length) q3 q4) .nil;simpa using this
       ·cases h
     ·cases hf
   ·rename_i fs hu;cases hr:fs.toList.mapM (fun f=>DA P n f.type)with
    |none=>simp[hr]at hf
    |some rs=>
     simp only[hr,aA]at hf;split at hf
     ·rename_i hok;cases hf;simp only[hu]at h;split at h
      ·rename_i hlen;cases hm:fs.toList.mapM (fun f=>DataW.trod enc P w base sp held fuel f.type ((cs.drop f.offset).take (P.cellsOf f.type)))with
       |none=>simp[hm]at h
       |some xs=>
        have go:∀(fl:List Field) (rl:List (List Sh)) (xl:List (DataW H×List MemPlace)) (off:Nat),fl.mapM (fun f=>DA P n f.type)=some rl->
         fl.mapM (fun f=>DataW.trod enc P w base sp held fuel f.type ((cs.drop f.offset).take (P.cellsOf f.type)))=some xl->TO P off fl rl=true->
         ∃ds bs,oH w ((cs.drop off).take rl.flatten.length) ds bs/\x6 rl.flatten ds:=by
         intro fl
         induction fl with
         |nil=>
          intro rl xl off h1 _ _;simp at h1;subst h1;exact⟨[],[],by simpa using oH.nil,.nil⟩
         |cons f fl ihf=>
          intro rl xl off h1 h2 h3;simp only[Gf,Option.bind_eq_bind,Option.pure_def]at h1 h2;cases a1:DA P n f.type with
          |none=>simp[a1]at h1
          |some r1=>
           cases a2:fl.mapM (fun f=>DA P n f.type)with
           |none=>simp[a1,a2]at h1
           |some rl'=>
            simp[a1,a2]at h1;subst h1;cases b1:DataW.trod enc P w base sp held fuel f.type ((cs.drop f.offset).take (P.cellsOf f.type))with
            |none=>simp[b1]at h2
            |some x1=>
             cases b2:fl.mapM (fun f=>DataW.trod enc P w base sp held fuel f.type ((cs.drop f.offset).take (P.cellsOf f.type)))with
             |none=>simp[b1,b2]at h2
             |some xl'=>
              simp only[TO,aS,cr]at h3;obtain⟨⟨o1,o2⟩,o3⟩:=h3;obtain⟨OB,bs1,k1,k2⟩:=ih (d:=x1.1) (ps:=x1.2) b1 a1;obtain⟨ds2,bs2,k3,k4⟩:=ihf rl' xl' (off+r1.length) a2 b2 o3;refine⟨OB++ds2,bs1++bs2,?_,by simpa using k2.app k4⟩;have e1:(cs.drop off).take (r1::rl').flatten.length=(cs.drop f.offset).take (P.cellsOf f.type)++(cs.drop (off+r1.length)).take rl'.flatten.length:=by
               rw[o1,<-o2,iJ,bB,<-jR,List.take_add]
              rw[e1];exact k1.app k3
        obtain⟨ds,bs,k1,k2⟩:=go fs.toList rs xs 0 hr hm hok.1;rw[Bq,hok.2,<-hlen,zg]at k1;exact⟨ds,bs,k1,k2⟩
      ·cases h
     ·cases hf
   ·cases hf
def a0V(P:Program)(n:Nat)(t:TypeId)(d:D):Prop:=
 (Dd P t=some true/\∃shs cells,DA P n t=some shs/\d=.agg cells/\x6 shs cells)\/(Dd P t=some false/\∃sh,DA P n t=some [sh]/\R6 sh d)
inductive RX(P:Program)(n:Nat):List TypeId->List D->Prop
 |nil:RX P n [] []
 |cons (t:TypeId) (ts:List TypeId) (d:D) (ds:aR):a0V P n t d->RX P n ts ds->RX P n (t::ts) (d::ds)
def UD(P:Program)(n:Nat)(t:TypeId):Bool:=
 match Dd P t,DA P n t with
 |some true,some _=>(match P.underlying t with|some (.struct _)=>true|_=>false)
 |some false,some [_]=>true
 |_,_=>false
theorem a2P{n:Nat}{t:TypeId}{v:Value}{d:DataW H}{ps:List MemPlace}(hok:UD P n t=true)(hval:Value.okWide P w .any base t v)(h:DataW.Trod enc P w 0 sp held t v d ps):
 ∃x bs,Rd w v x bs/\a0V P n t x:=by
 obtain⟨fuel,h⟩:=h;unfold UD at hok;split at hok
 ·rename_i shs ht hf;split at hok
  ·rename_i fs hu;unfold Value.okWide at hval;simp only[hu]at hval;obtain⟨cs,rfl,_⟩:=hval;obtain⟨ds,bs,k1,k2⟩:=YV fuel h hf;refine⟨.agg ds,bs,?_,.inl ⟨ht,shs,ds,hf,rfl,k2⟩⟩;have:=Rd.agg (w:=w) cs.toList ds bs k1;simpa using this
  ·cases hok
 ·rename_i sh ht hf;have hone:v.oneCell'=true:=by
   unfold Dd at ht;split at ht<;>first
    | (cases ht;done)
    |skip
   rename_i dsc h1 h2 hu;unfold Value.okWide at hval;rw[hu]at hval;cases v with
   |agg cs=>
    cases dsc<;>first
     | (exfalso;exact h1 _ rfl)
     | (exfalso;exact h2 _ _ rfl)
     | (simp[Cell.okWide,Cell.ok,hu]at hval)
   |tuple vs=>
    cases dsc<;>first
     | (exfalso;exact h1 _ rfl)
     | (exfalso;exact h2 _ _ rfl)
     | (simp[Cell.okWide,Cell.ok,hu]at hval)
   |_=>rfl
  rw[S5 hone]at h;obtain⟨ds,bs,k1,k2⟩:=YV fuel h hf;cases k2 with
  |cons _ _ x ds' hx hn=>
   cases hn;cases k1 with
   |cons _ _ _ _ b1 b2 _ hrd hn=>exact⟨x,b1,hrd,.inr ⟨ht,sh,hf,hx⟩⟩
 ·cases hok
theorem ZZ{n:Nat}:∀ {ts:List TypeId} {vs:cG} {ds:List (DataW H)} {ps:List MemPlace},(∀t∈ts,UD P n t=true)->
 (∀(j:Nat) t v,ts[j]?=some t->vs[j]?=some v->Value.okWide P w .any base t v)->DataW.TrodAll enc P w 0 sp held ts vs ds ps->
 ∃xs bs,XJ w vs xs bs/\RX P n ts xs/\ds.length=ts.length:=by
 intro ts
 induction ts with
 |nil=>
  intro vs ds ps _ _ h;cases vs with
  |nil=>cases ds with
   |nil=>exact⟨[],[],.nil,.nil,rfl⟩
   |cons=>cases h
  |cons=>cases ds<;>cases h
 |cons t ts ih=>
  intro vs ds ps hok hval h;cases vs with
  |nil=>cases h
  |cons v vs=>
   cases ds with
   |nil=>cases h
   |cons d ds=>
    obtain⟨p,q,h1,h2,rfl⟩:=h;obtain⟨x,b1,k1,k2⟩:=a2P (hok t (by simp)) (hval 0 t v rfl rfl) h1;obtain⟨xs,b2,k3,k4,k5⟩:=ih (fun u hu=>hok u (by simp[hu])) (fun j u y hj hv=>hval (j+1) u y (by simpa using hj) (by simpa using hv)) h2;exact⟨x::xs,b1++b2,.cons _ _ _ _ _ _ k1 k3,.cons _ _ _ _ k2 k4,by simp[k5]⟩
theorem RS{W W':World}(hl:laidOutB P=true)(hb:Below W.heap.size W W')(spn:Nat->Bool):∀ {ts:List TypeId} {vs:cG} {ds:List (DataW H)} {ps:List MemPlace},
 (∀t∈ts,P.readableRec t=true/\t<P.types.size)->DataW.TrodAll enc P W 0 (fun _=>true) true ts vs ds ps->(∀x∈ps,x.block<W.heap.size)->(∀x∈ps,spn x.block=true)->
 DataW.TrodAll enc P W' 0 spn true ts vs ds ps:=by
 intro ts
 induction ts with
 |nil=>intro vs ds ps _ h _ _;cases vs<;>cases ds<;>first|exact h|cases h
 |cons t ts ih=>
  intro vs ds ps ht h hlt hsp;cases vs with
  |nil=>cases h
  |cons v vs=>
   cases ds with
   |nil=>cases h
   |cons d ds=>
    obtain⟨p,q,h1,h2,rfl⟩:=h;refine⟨p,q,?_,ih (fun u hu=>ht u (by simp[hu])) h2 (fun x hx=>hlt x (by simp[hx])) (fun x hx=>hsp x (by simp[hx])),rfl⟩;exact WideElems.Trod_stays hl (ht t (by simp)).1 (ht t (by simp)).2 h1 (fun x hx=>hb.same (hlt x (by simp[hx]))) (fun x hx=>hsp x (by simp[hx]))
theorem Bv.yt{w:World}{v:Value}{b:Bool}{bs ts us:ah}(h:Bv w v (.bool b) bs ts us):v=.bool b:=by
 cases h with|v h=>cases h with|cell h=>cases h with|pure h=>cases h;rfl
theorem TG{f:FuncId}{fn:Func}{s:ChangeSpec}{n rt:Nat}{W:World}{args:Array Value}{ds gs:List (DataW H)}{before:List MemPlace}
 (hl:laidOutB P=true) (Xs:∀t∈fn.params.toList,UD P n t=true/\P.readableRec t=true/\t<P.types.size) (hres:fn.resultTypes= #[rt]) (hrt:P.underlying rt=some .bool)
 (hv:s.vars=[]) (hfn:∀ds:List (DataW H),ds.length=fn.params.toList.length->s.fn H ds= {results:=[.lit (.bool true)],args:=ds})
 (hvs:SZ W fun _=>False) (sD:∀xs,RX P n fn.params.toList xs->Good P f xs (.bool true))
 (hval:∀(j:Nat) t v,fn.params[j]?=some t->args[j]?=some v->Value.okWide P W .any base t v)
 (hW:DataW.Whole enc P fn.params.toList s.vars false W args.toList ds gs before):
 Calls P f args W fun e W'=>∃v,e=.returned v/\s.post enc P fn false true false false W args v W':=by
 have hW':=hW;obtain⟨p,q,hA,hV,hpq,hz,_⟩:=hW;have hgs:gs=[]/\q=[]:=by
  rw[hv]at hV;cases gs with
  |nil=>exact⟨rfl,hV⟩
  |cons=>cases hV
 obtain⟨rfl,rfl⟩:=hgs;rw[dV]at hpq;subst hpq;obtain⟨xs,bs,k1,k2,k3⟩:=ZZ (fun t ht=>(Xs t ht).1) (fun j t v hj hv=>hval j t v (by simpa using hj) (by simpa using hv)) hA;have hc:=(sD xs k2).2 W (fun _=>0) args.toList bs hvs k1 (fun _ _=>rfl) (fun b hb=>absurd rfl hb) (fun _=>Gh _);rw[sR]at hc;refine hc.mono ?_;rintro e W' ⟨v,bs',ts,us,rfl,hb,hr,_⟩;refine⟨v,rfl,?_⟩;obtain rfl:=hr.yt;have hlt:=hW'.lt;have hfd:=hfn ds k3;have a1L:∀(b:Nat) (sp:Nat->Bool) (hd:Bool),DataW.TrodAll enc P W' b sp hd fn.resultTypes.toList ((Value.bool true).resultList fn.resultTypes.size) [.lit (.bool true)] []:=by
  intro b sp hd;rw[hres];exact⟨[],[],⟨1,by simp[DataW.trod,hrt,Value.cells]⟩,rfl,rfl⟩
 have hargs:∀spn:Nat->Bool,(∀x∈before,spn x.block=true)->DataW.TrodAll enc P W' 0 spn true fn.params.toList args.toList ds before:=
  fun spn hsp=>RS hl hb spn (fun t ht=>(Xs t ht).2) hA hlt hsp
 have hvars:∀spn:Nat->Bool,DataW.TrodVars enc P W' spn s.vars [] []:=fun spn=>by rw[hv];rfl
 unfold ChangeSpec.post;refine⟨ds,[],before,[],before,[],hW',?_,?_,?_,hb.frame _,fun h=>by cases h⟩
 ·rw[dV,hfd];exact a1L _ _ _
 ·rw[dV,hfd];exact hargs _ (fun x hx=>by simpa using hlt x hx)
 ·rw[dV,hfd];exact hvars _
end
abbrev B7:=List Sh
theorem Yq{G:Type}{c:G->aR}{row:B7}(hc:∀r,x6 row r->∃x,r=c x):∀ {rows:List aR},(∀r∈rows,x6 row r)->∃l:List G,rows=l.map c:=by
 intro rows
 induction rows with
 |nil=>intro _;exact⟨[],rfl⟩
 |cons r rows ih=>
  intro h;obtain⟨x,rfl⟩:=hc r (h r (by simp));obtain⟨l,rfl⟩:=ih (fun s hs=>h s (by simp[hs]));exact⟨x::l,rfl⟩
theorem a4d{G:Type}{c:G->aR}{row:B7}(hc:∀r,x6 row r->∃x,r=c x){d:D}(h:R6 (.sl row) d):∃l:List G,d=.sl (l.map c):=by
 cases h with
 |sl _ rows hr=>
  obtain⟨l,rfl⟩:=Yq hc hr;exact⟨l,rfl⟩
theorem a0q{k:IntKind}{d:D}(h:R6 (.int k) d):∃n,d=.int k n:=by cases h;exact⟨_,rfl⟩
theorem Vq{s:Sh}{ss:B7}{ds:aR}(h:x6 (s::ss) ds):∃d r,ds=d::r/\R6 s d/\x6 ss r:=by
 cases h with|cons _ _ d r h1 h2=>exact⟨d,r,rfl,h1,h2⟩
theorem Yr{ds:aR}(h:x6 [] ds):ds=[]:=by cases h;rfl
theorem a4e(r:aR)(h:x6 [.int .u8] r):∃s,r=yx s:=by
 obtain⟨_,_,rfl,h1,h⟩:=Vq h;cases Yr h;obtain⟨s,rfl⟩:=a0q h1;exact⟨s,rfl⟩
section
variable{P:Program}{n:Nat}{t:TypeId}{d:D}
theorem a0V.cell{sh:Sh}(ha:Dd P t=some false)(hf:DA P n t=some [sh])(h:a0V P n t d):R6 sh d:=by
 rcases h with⟨h1,_⟩|⟨_,sh',h1,h2⟩
 ·rw[ha]at h1;cases h1
 ·rw[hf]at h1;cases h1;exact h2
end
open Go.ChangeShapes Go.WideShapes Go.ChangeAt Go.RowKit
def jp0(P:Program)(f:FuncId)(fn:Func)(s:ChangeSpec)(c:OpenClaim):Bool:=(c.wf (OpenSpec.ofChange s)&&laidOutB P&&mapsRowed P)
def jp1(P:Program)(f:FuncId)(fn:Func)(s:ChangeSpec)(c:OpenClaim):Bool:=(fn.params.all (P.readableRec ·)&&namedTie P c.named s.vars)&&((c.stops==[])&&(P.stops==[])&&(c.knobs==[])&&(P.stopKnobs==[]))&&((c.maps==(fn.params.toList++s.plain.varTypes P).any (P.mapsRec ·))&&(c.ifaces==(fn.params.toList++s.plain.varTypes P).any (P.ifacesRec ·))&&(c.mapsOut==P.mapsAmong fn.resultTypes.toList))&&((c.loops==(fn.params.toList++s.plain.varTypes P).any (P.loopsFrom ·))&&(c.wideKeys==(fn.params.toList++s.plain.varTypes P++fn.resultTypes.toList).any (P.wideKeysFrom ·)))&&(s.vars.all (P.varReadable ·)&&fn.resultTypes.all (fun t=>P.readableRec t&&decide (t<P.types.size))&&(c.ifacesOut==fn.resultTypes.toList.any (P.ifacesRec ·))&&(c.loopsOut==fn.resultTypes.toList.any (P.loopsFrom ·)))&&((c.kinds==(if c.domain.isEmpty then []else fn.params.toList.map fun t=>match P.underlying t with|some (.int k)=>some k|_=>none))&&(c.pinned==c.pinnedBy))&&((c.veiled==(fn.params.toList++s.plain.varTypes P++fn.resultTypes.toList).any (P.veiledRec ·))&&c.veiledFits P fn.params.toList (fn.params.toList++s.plain.varTypes P++fn.resultTypes.toList))
def jp2(P:Program)(f:FuncId)(fn:Func)(s:ChangeSpec)(c:OpenClaim):Bool:=(c.inPlace==P.inPlace f)&&(c.unfollowed==P.unfollowed f)&&(c.recurses==P.recurses f)&&(c.named==P.varsNamed f)
def jp3(P:Program)(f:FuncId)(fn:Func)(s:ChangeSpec)(c:OpenClaim):Bool:=(c.plainKeys==P.plainKeys)&&(c.shortTexts.isNone&&P.stopsHeard)&&P.mayEnter&&(c.lifted==P.liftsFinal)&&(P.make==some c.make)
theorem ZI{P:Program}{f:FuncId}{fn:Func}{s:ChangeSpec}{c:OpenClaim}(h0:jp0 P f fn s c=true)(h1:jp1 P f fn s c=true)(h2:jp2 P f fn s c=true)(h3:jp3 P f fn s c=true):joinedFacts P f fn s c=true:=by
 unfold jp0 at h0;unfold jp1 at h1;unfold jp2 at h2;unfold jp3 at h3;unfold joinedFacts;simp only[aS]at h0 h1 h2 h3⊢;obtain⟨⟨aIg,aIh⟩,aIi⟩:=h0;obtain⟨⟨⟨⟨⟨⟨⟨aIj,aIk⟩,⟨⟨⟨aIl,aIm⟩,aIn⟩,aIo⟩⟩,⟨⟨aIt,aIu⟩,aIv⟩⟩,⟨aIw,aIx⟩⟩,⟨⟨⟨aIy,aIz⟩,aJ0⟩,aJ1⟩⟩,⟨aH9,aHA⟩⟩,⟨aHB,aHC⟩⟩:=h1;obtain⟨⟨⟨aIp,aIq⟩,aIr⟩,aIs⟩:=h2;obtain⟨⟨⟨⟨aH3,⟨aH4,aH5⟩⟩,aH6⟩,aH7⟩,aH8⟩:=h3
 and_intros<;>assumption
end Go.Cx

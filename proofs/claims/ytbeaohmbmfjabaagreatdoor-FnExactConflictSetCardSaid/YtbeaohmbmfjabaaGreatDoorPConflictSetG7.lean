/- Numbers as texts, and plain names of variables, in plain words: of the program and of the reference. No condition but bounds on sizes. -/
import Derived.Test.YtbeaohmbmfjabaaGreatDoorPConflictSetG6
import Derived.Lib.ItoaNum
import Derived.Lib.ItoaLen
import Derived.Lib.Atoi
import Derived.Test.YtbeaohmbmfjabaaGreatDoorPConflictSetG3
import Derived.Test.YtbeaohmbmfjabaaGreatDoorPConflictSetG4
import Derived.ProofKit
set_option linter.unusedVariables false
set_option linter.unusedSimpArgs false
namespace Go.Cx
open Go.RowKit Go.Proofs Tryz
theorem a27:∀(k v:Nat),v<10^k->1<=k->Lib.nDigits v<=k:=by
 intro k
 induction k with
 |zero=>intro v _ h;omega
 |succ k ih=>
  intro v hv _;by_cases h10:v<10
  ·rw[Lib.nDigits_small h10];omega
  ·rw[Lib.nDigits_big h10];have h3:v/10<10^k:=by rw[wU]at hv;omega
   have hk1:1<=k:=by
    cases k with
    |zero=>simp at hv;omega
    |succ k=>omega
   have:=ih (v/10) h3 hk1;omega
theorem UW{u:Nat}(h:u<=9223372036854775808):Lib.nDigits u<=19:=a27 19 u (by omega) (by omega)
theorem a8v(u:Nat):UInt8.ofNat (IntKind.u8.wrap (IntKind.i64.wrap (48+((u:Int)%10)))).toNat=UInt8.ofNat (48+u%10):=by
 rw[gM (k:=.i64) (sC.i64.2 (by omega)),gM (sC.u8.2 (by omega))]
 congr 1
theorem a3h(k:Option Bytes):∀(n u:Nat) (acc:Bytes),Lib.nDigits u<=n->acc.length+Lib.nDigits u<=1000->gj k n (u:Int) acc=some (Lib.decDigits u++acc):=by
 intro n
 induction n with
 |zero=>intro u acc h _;have:=Lib.nDigits_pos u;omega
 |succ n ih=>
  intro u acc hn hl;have hp:=Lib.nDigits_pos u;have e0:(decide (0<=(u:Int))&&decide (0<(10:Int)))=true:=by simp
  have e1:decide (([UInt8.ofNat (48+u%10)]:Bytes).length+(acc:Bytes).length<=maxLen)=true:=by unfold maxLen;simp;omega
  rw[gj];simp only[a8v,e0,e1,aU];by_cases h10:u<10
  ·have e2:(((u:Int)/10:Int)==0)=true:=by rw[cj];omega
   rw[e2,aU,Lib.decDigits,dif_pos h10,Nat.mod_eq_of_lt h10]
  ·have e2:(((u:Int)/10:Int)==0)=false:=by rw[dJ];omega
   have e3:((u:Int)/10)=((u/10:Nat):Int):=by omega
   have hd:=Lib.nDigits_big h10;rw[e2,af,e3,ih (u/10) _ (by omega) (by simp;omega)]
   conv=>rhs;rw[Lib.decDigits,dif_neg h10]
   simp
theorem a7u(m u:Nat)(h:u<=9223372036854775807):gG (m+1) (u:Int)=some (Lib.decDigits u):=by
 rw[gG];have e1:((u:Int)==(-9223372036854775808))=false:=by rw[dJ];omega
 have e2:decide ((u:Int)<0)=false:=by simp
 have:=UW (u:=u) (by omega);rw[e1,af,e2,af,a3h _ _ _ _ (by unfold fuel;omega) (by simp;omega)];simp
theorem ZK:Lib.itoa (-9223372036854775808)=[45,57,50,50,51,51,55,50,48,51,54,56,53,52,55,55,53,56,48,56]:=by
 unfold Lib.itoa;simp[Lib.decDigits]
theorem a7t(n:Int)(h:sC .i64 n):oh n=some (Lib.itoa n):=by
 have h:=sC.i64.1 h;unfold oh;rw[show fuel=4194303+1 from rfl,gG];by_cases hm:n= -9223372036854775808
 ·subst hm;rw[ZK];rfl
 have e1:((n:Int)==(-9223372036854775808))=false:=by rw[dJ];exact hm
 rw[e1,af];by_cases hn:n<0
 ·have e2:decide (n<0)=true:=by simpa using hn
  have e3:IntKind.i64.wrap (0-n)=((n.natAbs:Nat):Int):=by rw[gM (sC.i64.2 (by omega))];omega
  have hd:=UW (u:=n.natAbs) (by omega);rw[e2,aU,e3,show(4194303:Nat)=4194302+1 from rfl,a7u _ _ (by omega),aA];have e4:decide (([45]:Bytes).length+(Lib.decDigits n.natAbs:Bytes).length<=maxLen)=true:=by unfold maxLen;rw[Lib.decDigits_length];simp;omega
  rw[e4,aU];unfold Lib.itoa;rw[bX hn];rfl
 ·have e2:decide (n<0)=false:=by simpa using hn
  have e3:n=((n.toNat:Nat):Int):=by omega
  have:=UW (u:=n.toNat) (by omega);rw[e2,af]
  conv=>lhs;rw[e3]
  rw[a3h _ _ _ _ (by unfold fuel;omega) (by simp;omega)];unfold Lib.itoa;rw[bL hn];simp
theorem a4o(n:Int):jj n=some (Lib.itoa n):=by
 unfold jj AV;rfl
theorem OC(n:Int)(h:sC .i64 n):(Lib.itoa n).length<=21:=by
 have:=sC.i64.1 h;exact Lib.itoa_length_le n this.1 this.2
def DZ(to:aI)(s:Bytes):Bytes:=match to with
 | []=>s
 |p::r=>bif p.var==s then p.value else DZ r s
def Oe(to:aI)(x:aM):aM:=⟨x.kind,⟨x.pat.rel,x.pat.args.map (DZ to)⟩,DZ to x.left,DZ to x.right⟩
theorem sRn(to:aI)(s:Bytes):k9 s to=some (DZ to s):=by
 unfold k9;have:∀(r:aI) (i:Nat),jB s to (some s) r i=some (DZ r s):=by
  intro r
  induction r with
  |nil=>intro i;rfl
  |cons x r ih=>
   intro i;rw[jB,ih,DZ];cases x.var==s<;>rfl
 exact this to 0
theorem iRn(to:aI)(s:Bytes):hO s to=some (DZ to s):=by
 unfold hO;have:∀(r:aI) (i:Nat),gi s to (some s) r i=some (DZ r s):=by
  intro r
  induction r with
  |nil=>intro i;rfl
  |cons x r ih=>
   intro i;rw[gi,ih,DZ];cases x.var==s<;>rfl
 exact this to 0
theorem a5Y(x:aM)(to:aI)(h:x.pat.args.length<=1099511627770):jD x to=some (Oe to x):=by
 unfold jD;rw[sRn,aA,sRn,aA];rw[NE (c:=tx) (b:=16) (f:=fun a=>k9 a to) (g:=DZ to) (L:=k6 x to (DZ to x.left) (DZ to x.right) _) (k:=_) (by decide) (fun _ _=>rfl) (fun _ _ _ _=>rfl) _ _ _ (fun a _=>sRn to a) (by simp;omega)];rfl
theorem a7I(x:aM)(to:aI)(h:x.pat.args.length<=1099511627770):kM x to=some (Oe to x):=by
 unfold kM;rw[iRn,aA,iRn,aA];rw[NE (c:=tx) (b:=16) (f:=fun a=>hO a to) (g:=DZ to) (L:=jq x to (DZ to x.left) (DZ to x.right) _) (k:=_) (by decide) (fun _ _=>rfl) (fun _ _ _ _=>rfl) _ _ _ (fun a _=>iRn to a) (by simp;omega)];rfl
def G1(l:aI)(t:Bytes):Bool:=l.any fun p=>p.var==t
def kW(l:aI)(t:Bytes):aI:=bif ez t&& !G1 l t then l++[⟨t,[63]++Lib.itoa ((l.length:Int)+1)⟩]else l
theorem CK(l:aI)(t:Bytes):(kW l t).length<=l.length+1:=by
 unfold kW;cases ez t&& !G1 l t<;>simp
theorem yp:∀(ts:aH) (l:aI),(ts.foldl kW l).length<=l.length+ts.length
 | [],l=>by simp
 |t::ts,l=>by
  have h1:=yp ts (kW l t);have h2:=CK l t;rw[cm,aL];omega
theorem R4(l:aI)(t:Bytes)(hl:l.length<=1099511627770)(ht:t.length<=1048576):oO l t=some (kW l t):=by
 unfold oO;rw[T6 t ht,aA,kW];cases hv:ez t with
 |false=>rfl
 |true=>
  rw[bW,af,eP];have key:∀(k:Option aI) (r:aI) (i:Nat),mY l t k r i=bif G1 r t then some l else k:=by
   intro k r
   induction r with
   |nil=>intro i;rfl
   |cons x r ih=>
    intro i;rw[mY,ih];simp only[G1,BI];cases x.var==t<;>simp
  rw[key];cases G1 l t with
  |true=>rfl
  |false=>
   have e1:IntKind.i64.wrap (((l.map aK.c).length:Int)+1)=(l.length:Int)+1:=by rw[gM (sC.i64.2 (by simp;omega))];simp
   have hr:sC .i64 ((l.length:Int)+1):=sC.i64.2 (by omega);have hi:=OC _ hr;have e2:decide (([63]:Bytes).length+(Lib.itoa ((l.length:Int)+1):Bytes).length<=maxLen)=true:=by unfold maxLen;simp;omega
   simp only[af,eY,aU];rw[e1,a7t _ hr,aA,e2,aU,ni (by omega) (by decide)];rfl
theorem Sd(x y:Bytes):∀(m:List (Bytes×Bool)),LH false y (OJ x true m)=(y==x||LH false y m)
 | []=>by simp only[OJ,LH];cases y==x<;>rfl
 |p::m=>by
  simp only[OJ];cases h:x==p.1 with
  |true=>
   have h':x=p.1:=by simpa using h
   subst h';simp only[aU,LH];cases y==p.1<;>simp
  |false=>
   simp only[af,LH,Sd x y m];cases hy:y==p.1 with
   |true=>
    have h1:y=p.1:=by simpa using hy
    have h2:(y==x)=false:=by
     rw[dJ]at h⊢;intro e;exact h (e.symm.trans h1)
    simp[h2]
   |false=>simp
theorem Wj(l:aI)(x y v:Bytes):G1 (l++[⟨x,v⟩]) y=(y==x||G1 l y):=by
 have:(x==y)=(y==x):=by rw[bf,cj,cj];exact eq_comm
 simp only[G1,List.any_append,BI,K1,tF,this];cases y==x<;>simp
theorem Vc(ts:aH)(hl:ts.length<=1099511627700)(h:∀x∈ts,x.length<=1048576):nJ ts=some (ts.foldl kW []):=by
 unfold nJ;have key:∀(r:aH) (i:Nat) (w:aI) (m:List (Bytes×Bool)),(∀x∈r,x.length<=1048576)->w.length+r.length<=1099511627700->(∀y,LH false y m=G1 w y)->
  eb ts (fun q=>some q) r i w m=some (r.foldl kW w):=by
  intro r
  induction r with
  |nil=>intro i w m _ _ _;rfl
  |cons x r ih=>
   intro i w m hx hw hm;simp only[aL]at hw;have hr:sC .i64 ((w.length:Int)+1):=sC.i64.2 (by omega);have hi:=OC _ hr;have e1:IntKind.i64.wrap (((w.map aK.c).length:Int)+1)=(w.length:Int)+1:=by rw[gM (sC.i64.2 (by simp;omega))];simp
   have e2:decide (([63]:Bytes).length+(Lib.itoa ((w.length:Int)+1):Bytes).length<=maxLen)=true:=by unfold maxLen;simp;omega
   rw[eb,Wq x (hx x (by simp)),aA,cm,kW,hm x];cases hv:ez x with
   |false=>simp only[af,Bool.false_and];exact ih _ _ _ (fun y hy=>hx y (by simp[hy])) (by omega) hm
   |true=>
    cases hh:G1 w x with
    |true=>simp only[aU,bW,af,eP];exact ih _ _ _ (fun y hy=>hx y (by simp[hy])) (by omega) hm
    |false=>
     simp only[aU,eY,eP];rw[e1,a4o,aA,e2,aU,ni (by omega) (by decide),aU];exact ih _ _ _ (fun y hy=>hx y (by simp[hy])) (by simp;omega) (fun y=>by rw[Sd,Wj,hm])
 exact key ts 0 [] [] h (by simpa using hl) (fun y=>rfl)
def Jq(p:aG):aG:=(Oe (p.args.foldl kW []) ⟨0,p,[],[]⟩).pat
theorem a5c(p:aG)(h:p.wt<=1048576):rW p=some (Jq p):=by
 have hl:=aG.fJ h;unfold rW;have key:∀(k:aI->Option aG) (r:aH) (i:Nat) (w:aI),(∀x∈r,x.length<=1048576)->w.length+r.length<=1099511627700->kR p k r i w=k (r.foldl kW w):=by
  intro k r
  induction r with
  |nil=>intro i w _ _;rfl
  |cons x r ih=>
   intro i w hx hw;simp only[aL]at hw;have:=CK w x;rw[kR,R4 w x (by omega) (hx x (by simp)),aA,ih _ _ (fun y hy=>hx y (by simp[hy])) (by omega)];rfl
 rw[key _ _ _ _ (fun x hx=>aG.tZ h hx) (by simp;omega),a5Y _ _ (by simp;omega)];rfl
theorem a4w(p:aG)(h:p.wt<=1048576):qw p=some (Jq p):=by
 have hl:=aG.fJ h;unfold qw;rw[Vc _ (by omega) (fun x hx=>aG.tZ h hx),aA,a7I _ _ (by simp;omega)];rfl
def wC(l:ai):aH:=l.flatMap fun c=>c.pat.args++[c.left,c.right]
theorem Uv(l:ai):(wC l).length<=3*kD aM.wt l:=by
 unfold wC
 induction l with
 |nil=>simp
 |cons x l ih=>
  rw[cT,aS,qK];have:=aG.fJ (aM.fX (c:=x) (bR _));simp only[aS,aL,bG];omega
def fW(r:aN):aI:=(wC r.conds).foldl kW []
def gJ(r:aN):ai:=r.conds.map (Oe (fW r))
theorem a06(a:aN)(i:Nat)(c:aM)(k:aI->Option aI):∀(r:aH) (j:Nat) (w:aI),(∀x∈r,x.length<=1048576)->w.length+r.length<=1099511627700->iF a i c k r j w=k (r.foldl kW w):=by
 intro r
 induction r with
 |nil=>intro i w _ _;rfl
 |cons x r ih=>
  intro i w hx hw;simp only[aL]at hw;have:=CK w x;rw[iF,R4 w x (by omega) (hx x (by simp)),aA,ih _ _ (fun y hy=>hx y (by simp[hy])) (by omega)];rfl
theorem a05(r:aN)(h:r.wt<=1048576):nh r=some (fW r):=by
 unfold nh;have key:∀(l:ai) (i:Nat) (w:aI),(∀c∈l,c.wt<=1048576)->w.length+3*kD aM.wt l<=1099511627700->iE r (fun q=>some q) l i w=some ((wC l).foldl kW w):=by
  intro l
  induction l with
  |nil=>intro i w _ _;rfl
  |cons c l ih=>
   intro i w hc hw;rw[qK]at hw;have Wm:=hc c (by simp);have ha:=aG.fJ (aM.fX (c:=c) (bR _));have h1:=yp c.pat.args w;have h2:=CK (c.pat.args.foldl kW w) c.left;have h3:=CK (kW (c.pat.args.foldl kW w) c.left) c.right;rw[iE,uz (by omega),aU,a06 _ _ _ _ _ _ _ (fun x hx=>aG.tZ (aM.fX Wm) hx) (by omega),R4 _ _ (by omega) (aM.BD Wm),aA,R4 _ _ (by omega) (aM.yV Wm),aA,
    ih _ _ (fun y hy=>hc y (by simp[hy])) (by omega)]
   simp[wC]
 have:=aN.sM h;exact key r.conds 0 [] (fun c hc=>aN.py h hc) (by simp;omega)
theorem ZC(r:aN)(h:r.wt<=1048576):nH r=some (fW r):=by
 unfold nH;have hw:=aN.sM h;have key:∀(k:aH->Option aI) (l:ai) (i:Nat) (w:aH),(∀c∈l,c.wt<=1048576)->w.length+3*kD aM.wt l<=1099511627700->ff r k l i w=k (w++wC l):=by
  intro k l
  induction l with
  |nil=>intro i w _ _;simp[ff,wC]
  |cons c l ih=>
   intro i w hc hw;rw[qK]at hw;have Wm:=hc c (by simp);have ha:=aG.fJ (aM.fX (c:=c) (bR _));rw[ff,ZG c Wm,aA,Zw (by simp;omega) (by decide),aU,ih _ _ (fun y hy=>hc y (by simp[hy])) (by simp;omega)];simp[wC]
 have hl:=Uv r.conds;rw[key _ _ _ _ (fun c hc=>aN.py h hc) (by simp;omega),cL,Vc _ (by omega) ?_]
 ·rfl
 ·intro x hx;unfold wC at hx;obtain⟨c,hc,hx⟩:=br.1 hx;have Wm:=aN.py h hc;rcases aj.1 hx with hx|hx
  ·exact aG.tZ (aM.fX Wm) hx
  ·simp only[bI,ql,Ea]at hx;rcases hx with rfl|rfl
   ·exact aM.BD Wm
   ·exact aM.yV Wm
theorem a5O(r:aN)(h:r.wt<=1048576):qE r=some (gJ r):=by
 unfold qE;have hw:=aN.sM h;have hl:=gN aM.wt r.conds;rw[a05 r h,aA];rw[NE (c:=aM.c) (b:=80) (f:=fun a=>jD a (fW r)) (g:=Oe (fW r)) (L:=jz r (fW r) _) (k:=_) (by decide) (fun _ _=>rfl) (fun _ _ _ _=>rfl) _ _ _ (fun c hc=>a5Y c _ (by have:=aG.fJ (aM.fX (aN.py h hc));omega)) (by simp;omega)];simp[gJ]
theorem a4k(r:aN)(h:r.wt<=1048576):q8 r=some (gJ r):=by
 unfold q8;have hw:=aN.sM h;have hl:=gN aM.wt r.conds;rw[ZC r h,aA];rw[NE (c:=aM.c) (b:=80) (f:=fun a=>kM a (fW r)) (g:=Oe (fW r)) (L:=jo r (fW r) _) (k:=_) (by decide) (fun _ _=>rfl) (fun _ _ _ _=>rfl) _ _ _ (fun c hc=>a7I c _ (by have:=aG.fJ (aM.fX (aN.py h hc));omega)) (by simp;omega)];simp[gJ]
end Go.Cx
namespace Go.Cx
open Go.RowKit Go.Proofs Tryz
def NOk(n:aJ):Prop:=n.nodes.length<=1048576/\∀x∈n.nodes,x.cond.wt<=1048576
theorem a2H(s:Bytes):DZ [] s=s:=rfl
theorem Zq(x:aM):Oe [] x=x:=by
 have:x.pat.args.map (DZ [])=x.pat.args:=by
  rw[show(DZ [])=id from funext a2H];simp
 unfold Oe;rw[this];rfl
def di(i:Nat):Int:=(i:Int)
def PS(ns:bE):Nat->Nat->aY
 |0,_=>[]
 |k+1,v=>v::(match ns[v]? with
  |some x=>if 1<=x.parent/\x.parent<(v:Int)then PS ns k x.parent.toNat else []
  |none=>[])
def BM(ns:bE)(i:Nat):Option aM:=(ns[i]?).map Node.cond
def IF(ns:bE)(k v:Nat):ai:=(PS ns k v).reverse.filterMap (BM ns)
def jF(ns:bE)(v:Int):ai:=if 1<=v/\v<(ns.length:Int)then IF ns v.toNat v.toNat else []
theorem TQ{ns:bE}{k v:Nat}{x:Node}(hx:ns[v]?=some x):PS ns (k+1) v=v::(if 1<=x.parent/\x.parent<(v:Int)then PS ns k x.parent.toNat else []):=by simp only[PS,hx]
theorem a0Y(ns:bE):∀(k v:Nat),v<ns.length->∀i∈PS ns k v,i<ns.length
 |0,v,_,i,hi=>by cases hi
 |k+1,v,hv,i,hi=>by
  rw[PS]at hi;rcases bI.1 hi with rfl|hi
  ·exact hv
  ·split at hi
   ·split at hi
    ·rename_i x hx hp;exact a0Y ns k _ (by omega) i hi
    ·cases hi
   ·cases hi
theorem Vy(ns:bE):∀(k v:Nat),(PS ns k v).length<=k
 |0,v=>by simp[PS]
 |k+1,v=>by
  rw[PS,aL];split
  ·split
   ·have:=Vy ns k (by assumption:Node).parent.toNat;omega
   ·simp
  ·simp
theorem OY{ns:bE}{k v:Nat}{x:Node}(hx:ns[v]?=some x):IF ns (k+1) v=(if 1<=x.parent/\x.parent<(v:Int)then IF ns k x.parent.toNat else [])++[x.cond]:=by
 have hc:BM ns v=some x.cond:=by unfold BM;rw[hx];rfl
 unfold IF;rw[TQ hx];by_cases hp:1<=x.parent/\x.parent<(v:Int)
 ·rw[bX hp,bX hp];simp[hc]
 ·rw[bL hp,bL hp];simp[hc]
theorem Ui(x:aM)(h:x.pat.args.length<=1099511627770):oN x=some x:=by
 unfold oN;rw[a5Y x [] h,aA,Zq]
theorem UJ(x:aM)(h:x.pat.args.length<=1099511627770):iO x=some x:=by
 unfold iO gB;rw[Qf x.pat.args (by omega)];rfl
theorem a5W(n:aJ)(h:NOk n)(K:ai->Option ai):∀(k v fu:Nat) (w:ai),v<=k->1<=v->v<n.nodes.length->k<fu->w.length+k<=4194304->ia n K fu (v:Int) w=K (IF n.nodes k v++w):=by
 have hl:=h.1;intro k
 induction k with
 |zero=>intro v fu w h1 h2;omega
 |succ k ih=>
  intro v fu w h1 h2 h3 h4 h5;obtain⟨fu,rfl⟩:∃m,fu=m+1:=⟨fu-1,by omega⟩
  have hx:n.nodes[v]?=some n.nodes[v]:=ah h3;have hw:=h.2 _ (Bj h3);generalize hxe:n.nodes[v]=x at*;have e1:IntKind.i64.wrap (((n.nodes.map Node.c).length:Int)-1)=(n.nodes.length:Int)-1:=by rw[aa];exact gM (sC.i64.2 (by omega))
  have e2:(decide ((v:Int)>=1)&&decide ((v:Int)<=(n.nodes.length:Int)-1))=true:=by simp;omega
  have e3:nF n.nodes (v:Int)=some x:=by unfold nF;rw[bn (by omega),aU];exact hx
  have e4:=Ui x.cond (by have:=aG.fJ (aM.fX hw);omega);rw[ia,e1,LB,aA,e2,aU,e3,aA,e4,aA,Oh (by simp;omega) (by decide),aU,OY hx];by_cases h6:x.parent>=(v:Int)
  ·rw[bn h6,aU,bL (by omega)];rfl
  ·rw[bB h6,af];by_cases h7:1<=x.parent
   ·rw[bX ⟨h7,by omega⟩];obtain⟨m,hm⟩:=nC (by omega:0<=x.parent);rw[hm];rw[ih m fu ([x.cond]++w) (by omega) (by omega) (by omega) (by omega) (by simp;omega)];simp
   ·rw[bL (by omega)];obtain⟨fu,rfl⟩:∃m,fu=m+1:=⟨fu-1,by omega⟩
    have e5:(decide (x.parent>=1)&&decide (x.parent<=(n.nodes.length:Int)-1))=false:=by
     rw[bB (by omega)];rfl
    rw[ia,e1,LB,aA,e5,af];rfl
theorem a5X(n:aJ)(v:Int)(h:NOk n):vU n v=some (jF n.nodes v):=by
 have hl:=h.1;unfold vU jF;by_cases hv:1<=v/\v<(n.nodes.length:Int)
 ·rw[bX hv];obtain⟨m,rfl⟩:=nC (by omega:0<=v);rw[a5W n h _ m m fuel [] (bR _) (by omega) (by omega) (by unfold fuel;omega) (by simp;omega)];simp
 ·rw[bL hv];have e1:IntKind.i64.wrap (((n.nodes.map Node.c).length:Int)-1)=(n.nodes.length:Int)-1:=by rw[aa];exact gM (sC.i64.2 (by omega))
  have e2:(decide (v>=1)&&decide (v<=(n.nodes.length:Int)-1))=false:=by
   by_cases h1:1<=v
   ·have h2:¬v<=(n.nodes.length:Int)-1:=by omega
    rw[bB h2,wQ]
   ·rw[bB h1];rfl
  rw[show fuel=4194303+1 from rfl,ia,e1,LB,aA,e2,af]
theorem a1j(n:aJ)(h:NOk n)(K:bP->Option ai):∀(k v fu:Nat) (w:bP),v<=k->1<=v->v<n.nodes.length->k<fu->w.length+k<=4194304->ld n K fu (v:Int) w=K (w++(PS n.nodes k v).map di):=by
 have hl:=h.1;intro k
 induction k with
 |zero=>intro v fu w h1 h2;omega
 |succ k ih=>
  intro v fu w h1 h2 h3 h4 h5;obtain⟨fu,rfl⟩:∃m,fu=m+1:=⟨fu-1,by omega⟩
  have hx:n.nodes[v]?=some n.nodes[v]:=ah h3;generalize hxe:n.nodes[v]=x at*;have e3:nF n.nodes (v:Int)=some x:=by unfold nF;rw[bn (by omega),aU];exact hx
  rw[ld,ni (by omega) (by decide),aU,e3,aA,TQ hx];by_cases h7:x.parent<1
  ·rw[bn h7,aU,bL (by omega)];rfl
  ·rw[bB h7,af];by_cases h6:x.parent>=(v:Int)
   ·rw[bn h6,aU,bL (by omega)];rfl
   ·rw[bB h6,af,bX ⟨by omega,by omega⟩];obtain⟨m,hm⟩:=nC (by omega:0<=x.parent);rw[hm,ih m fu (w++[(v:Int)]) (by omega) (by omega) (by omega) (by omega) (by simp;omega)];simp[di]
theorem a1k(n:aJ)(h:NOk n)(us:aY)(uy:∀i∈us,i<n.nodes.length)(hul:us.length<=1048576)(K:ai->Option ai):∀(j fu:Nat) (w:ai),j<=us.length->j<fu->w.length+j<=4194304->jm n (us.map di) K fu ((j:Int)-1) w=K (w++((us.take j).reverse.filterMap (BM n.nodes))):=by
 intro j
 induction j with
 |zero=>
  intro fu w _ hf _;obtain⟨fu,rfl⟩:∃m,fu=m+1:=⟨fu-1,by omega⟩
  rw[jm,bB (by omega),af];simp
 |succ j ih=>
  intro fu w hj hf hw;obtain⟨fu,rfl⟩:∃m,fu=m+1:=⟨fu-1,by omega⟩
  have hlt:j<us.length:=by omega
  have h3:=uy us[j] (Bj hlt);have hx:n.nodes[us[j]]?=some n.nodes[us[j]]:=ah h3;have hww:=h.2 _ (Bj h3);generalize hxe:n.nodes[us[j]]=x at*;have e0:((j+1:Nat):Int)-1=(j:Int):=by omega
  have e1:nF (us.map di) (j:Int)=some ((us[j]:Nat):Int):=by
   unfold nF;rw[bn (by omega),aU];show(us.map di)[(j:Int).toNat]?=_;rw[wR,cF,ah hlt];rfl
  have e3:nF n.nodes ((us[j]:Nat):Int)=some x:=by unfold nF;rw[bn (by omega),aU];exact hx
  have e4:=UJ x.cond (by have:=aG.fJ (aM.fX hww);omega);have e5:IntKind.i64.wrap ((j:Int)-1)=(j:Int)-1:=gM (sC.i64.2 (by omega));rw[e0,jm,bn (by omega),aU,e1,aA,e3,aA,e4,aA,ni (by omega) (by decide),aU,e5,ih fu _ (by omega) (by omega) (by simp;omega)];have hc:BM n.nodes us[j]=some x.cond:=by unfold BM;rw[hx];rfl
  have ht:us.take (j+1)=us.take j++[us[j]]:=by rw[List.take_add_one,ah hlt];rfl
  rw[ht,List.reverse_append,List.filterMap_append];simp[hc]
theorem a4r(n:aJ)(v:Int)(h:NOk n):vN n v=some (jF n.nodes v):=by
 have hl:=h.1;unfold vN jF;rw[aa];by_cases h1:v<1
 ·rw[bn h1,aU,bL (by omega)]
 ·rw[bB h1,af];by_cases h2:v>=(n.nodes.length:Int)
  ·rw[bn h2,aU,bL (by omega)]
  ·rw[bB h2,af,bX ⟨by omega,by omega⟩];obtain⟨m,rfl⟩:=nC (by omega:0<=v);rw[a1j n h _ m m fuel [] (bR _) (by omega) (by omega) (by unfold fuel;omega) (by simp;omega)];have hul:=Vy n.nodes m m;have e5:IntKind.i64.wrap ((((([]:bP)++(PS n.nodes m m).map di).map gQ).length:Int)-1)=(((PS n.nodes m m).length:Nat):Int)-1:=by
    rw[cL,aa,aa];exact gM (sC.i64.2 (by omega))
   rw[e5,cL,a1k n h (PS n.nodes m m) (a0Y n.nodes m m (by omega)) (by omega) _ (PS n.nodes m m).length fuel [] (bR _) (by unfold fuel;omega) (by simp;omega),Bl];rfl
end Go.Cx
namespace Go.Cx
open Go.RowKit Go.Proofs Tryz
def nmB(k:Nat):Bytes:=[63]++Lib.itoa ((k:Int)+1)
theorem decDigits_one{u:Nat}(h:u<10):Lib.decDigits u=[UInt8.ofNat (48+u)]:=by
 rw[Lib.decDigits,dif_pos h]
theorem NS:∀i,i<6->nmB i=[63,UInt8.ofNat (49+i)]
 |0,_|1,_|2,_|3,_|4,_|5,_=>by
  unfold nmB Lib.itoa;rw[bL (by decide),decDigits_one (by decide)];decide
 |n+6,h=>by omega
theorem a2B:∀i,i<6->∀j,j<6->nmB i=nmB j->i=j:=by
 intro i hi j hj e;rw[NS i hi,NS j hj]at e
 revert i j
 decide
theorem Vi:∀i,i<6->ez (nmB i)=true:=by
 intro i hi;rw[NS i hi]
 revert i
 decide
def YF(N:aI):Prop:=∀(i:Nat) p,N[i]?=some p->p.value=nmB i/\ez p.var=true
theorem SL(N:aI)(t:Bytes):G1 N t=true↔∃p∈N,p.var=t:=by simp[G1]
theorem X9(N:aI)(t:Bytes){p:aK}(h:p∈N):p∈kW N t:=by
 unfold kW;cases ez t&& !G1 N t<;>simp[h]
theorem SI:∀(ts:aH) (N:aI) {p:aK},p∈N->p∈ts.foldl kW N
 | [],_,_,h=>h
 |t::ts,N,p,h=>SI ts (kW N t) (X9 N t h)
theorem a0e{N:aI}(h:YF N)(t:Bytes):YF (kW N t):=by
 unfold kW;cases hv:ez t&& !G1 N t with
 |false=>exact h
 |true=>
  simp only[aZ]at hv;intro i p hp;rw[aU]at hp;rcases dh i N.length with hlt|hge
  ·rw[ax hlt]at hp;exact h i p hp
  ·rw[bC hge]at hp;cases hi:i-N.length with
   |zero=>
    rw[hi]at hp;simp at hp;subst hp;have:i=N.length:=by omega
    subst this;exact⟨rfl,hv.1⟩
   |succ m=>rw[hi]at hp;simp at hp
theorem LX:∀(ts:aH) {N:aI},YF N->YF (ts.foldl kW N)
 | [],_,h=>h
 |t::ts,_,h=>LX ts (a0e h t)
def TW(N:aI):Prop:=(N.map aK.var).Nodup
theorem XB{N:aI}(h:TW N)(t:Bytes):TW (kW N t):=by
 unfold kW;cases hv:ez t&& !G1 N t with
 |false=>exact h
 |true=>
  simp only[aZ,pZ]at hv;rw[aU];unfold TW;rw[bu,bO];refine⟨h,by simp,?_⟩;intro a ha b hb e;simp at hb;subst hb;subst e;obtain⟨p,hp,he⟩:=cC.1 ha;have:=(SL N a).2 ⟨p,hp,he⟩;rw[hv.2]at this;cases this
theorem CL:∀(ts:aH) {N:aI},TW N->TW (ts.foldl kW N)
 | [],_,h=>h
 |t::ts,_,h=>CL ts (XB h t)
theorem SG:∀(ts:aH) (N:aI) {t:Bytes},t∈ts->ez t=true->∃p∈ts.foldl kW N,p.var=t
 |x::ts,N,t,h,hv=>by
  rcases bI.1 h with rfl|h
  ·have:∃p∈kW N t,p.var=t:=by
    unfold kW;cases hh:G1 N t with
    |true=>rw[hv];exact(SL N t).1 hh
    |false=>rw[hv];exact⟨⟨t,[63]++Lib.itoa ((N.length:Int)+1)⟩,by simp,rfl⟩
   obtain⟨p,hp,he⟩:=this;exact⟨p,SI ts _ hp,he⟩
  ·exact SG ts _ h hv
theorem NT:∀ {N:aI} {p:aK},TW N->p∈N->DZ N p.var=p.value
 |q::N,p,hn,hp=>by
  unfold TW at hn;rw[bD,dU]at hn;rcases bI.1 hp with rfl|hp
  ·simp[DZ]
  ·have hne:(q.var==p.var)=false:=by
    rw[dJ];intro e;exact hn.1 (by rw[e];exact cC.2 ⟨p,hp,rfl⟩)
   rw[DZ,hne,af];exact NT (show TW N from hn.2) hp
theorem MN:∀ {N:aI} {t:Bytes},(∀p∈N,p.var≠t)->DZ N t=t
 | [],t,_=>rfl
 |q::N,t,h=>by
  have hne:(q.var==t)=false:=by rw[dJ];exact h q (by simp)
  rw[DZ,hne,af];exact MN fun p hp=>h p (by simp[hp])
theorem YF.nil:YF []:=fun i p h=>by simp at h
theorem TW.nil:TW []:=by simp[TW]
theorem SH(ts:aH):(ts.foldl kW []).length<=ts.length:=by simpa using yp ts []
theorem RR{N:aI}(h:YF N){p:aK}(hp:p∈N):∃i,i<N.length/\N[i]?=some p/\p.value=nmB i/\ez p.var=true:=by
 obtain⟨i,hi⟩:=dM hp;exact⟨i,(aF.1 hi).1,hi,h i p hi⟩
theorem Sp{ts:aH}{t:Bytes}(ht:ez t=false):DZ (ts.foldl kW []) t=t:=
 MN fun p hp e=>by
  obtain⟨i,_,_,_,hv⟩:=RR (LX ts YF.nil) hp;rw[e,ht]at hv;cases hv
theorem Vh:∀i,i<6->(nmB i).length<=16:=by
 intro i hi;rw[NS i hi];simp
theorem a5L{ts:aH}(hl:ts.length<=5){t:Bytes}(ht:t.length<=16):(DZ (ts.foldl kW []) t).length<=16:=by
 by_cases h:∃p∈ts.foldl kW [],p.var=t
 ·obtain⟨p,hp,he⟩:=h;rw[<-he,NT (CL ts TW.nil) hp];obtain⟨i,hi,_,hpv,_⟩:=RR (LX ts YF.nil) hp;have:=SH ts;rw[hpv];exact Vh i (by omega)
 ·rw[MN (fun p hp e=>h ⟨p,hp,e⟩)];exact ht
end Go.Cx
namespace Go.Cx
open Go.RowKit Go.Proofs Tryz
def N6(c:aM):aH:=bif decide (c.kind=1)then iq c.pat.args else []
theorem YO{c:aM}:(N6 c).length<=c.wt:=by
 unfold N6;have h2:=wN c.pat.args;have h3:=aG.fJ (aM.fX (bR c.wt));cases decide (c.kind=1)<;>simp;omega
def Ay(r:aN)(n:Int):aH:=(r.conds.take n.toNat).flatMap N6
theorem Pv{α:Type}(x:α)(xs:List α)(n:Int)(i:Nat):(x::xs).take (n-(i:Int)).toNat=if(i:Int)<n then x::xs.take (n-((i+1:Nat):Int)).toNat else []:=by
 by_cases h:(i:Int)<n
 ·rw[bX h];obtain⟨m,hm⟩:∃m,(n-(i:Int)).toNat=m+1:=⟨(n-(i:Int)).toNat -1,by omega⟩
  have:(n-((i+1:Nat):Int)).toNat=m:=by omega
  rw[hm,this];rfl
 ·rw[bL h,show(n-(i:Int)).toNat=0 from by omega];rfl
theorem Fw{α β:Type}{f:α->List β}{w:α->Nat}(l:List α)(h:∀x∈l,(f x).length<=w x+2):(l.flatMap f).length<=3*kD w l:=by
 induction l with
 |nil=>simp[kD]
 |cons x l ih=>
  rw[cT,aS,qK];have h1:=h x (by simp);have h2:=ih (fun y hy=>h y (by simp[hy]));omega
theorem YP{r:aN}{n:Nat}(h:r.wt<=n)(m:Int):(Ay r m).length<=3*n:=by
 unfold Ay;have h1:=Fw (w:=aM.wt) (f:=N6) (r.conds.take m.toNat) (fun c _=>by have:= @YO c;omega);have h2:kD aM.wt (r.conds.take m.toNat)<=kD aM.wt r.conds:=by
  conv=>rhs;rw[<-cG m.toNat r.conds]
  rw[V8];omega
 have h3:=aN.sM h;omega
theorem a00(a:aN)(n:Int)(i:Nat)(y:aH)(k:aH->Option aH):∀(l:aH) (j:Nat) (w:aH),w.length+l.length<=1099511627770->j3 a n i y k l j w=k (l.foldl yx w):=by
 intro l
 induction l with
 |nil=>intro j w _;rfl
 |cons x l ih=>
  intro j w hw;simp only[aL]at hw;have:=AZ w x;rw[j3,Ul w x (by omega),aA,ih _ _ (by omega)];rfl
theorem a2I(a:aN)(n:Int)(k:aH->Option aH):∀(l:ai) (i:Nat) (acc:aH),(∀c∈l,c.wt<=1048576)->acc.length+kD aM.wt l<=2097152->
 fL a n k l i (eH acc)=k (eH (acc++(l.take (n-(i:Int)).toNat).flatMap N6)):=by
 intro l
 induction l with
 |nil=>intro i acc _ _;simp[fL]
 |cons c l ih=>
  intro i acc hc hb;rw[qK]at hb;have Z0:=hc c (by simp);have hv:=wN c.pat.args;have ha:=aG.fJ (aM.fX (bR c.wt));have hu:=pX (iq c.pat.args);have hu2:=pX acc;rw[fL,Pv];by_cases hi:(i:Int)<n
  ·have e1:decide (((i:Int):Int)<n)=true:=by simp[hi]
   rw[e1,aU,bX hi];by_cases hk:c.kind=1
   ·have e2:((c.kind:Int)==1)=true:=by simp[hk]
    rw[e2,aU,LR _ (aM.fX Z0),aA,uz (by omega),aU,a00 _ _ _ _ _ _ _ _ (by omega),GH,ih _ _ (fun x hx=>hc x (by simp[hx])) (by simp;omega)];simp[N6,hk]
   ·have e2:((c.kind:Int)==1)=false:=by simp[hk]
    rw[e2,af,ih _ _ (fun x hx=>hc x (by simp[hx])) (by omega)];simp[N6,hk]
  ·have e1:decide (((i:Int):Int)<n)=false:=by simp[hi]
   rw[e1,af,bL hi];simp
theorem Zz(r:aN)(n:Int)(h:r.wt<=1048576):mM r n=some (eH (Ay r n)):=by
 unfold mM;have:=a2I r n (fun q=>some q) r.conds 0 [] (fun c hc=>aN.py h hc) (by have:=aN.sM h;simp;omega);rw[show eH []=[]from rfl]at this;rw[this];simp[Ay]
theorem a1g(a:aN)(n:Int)(k:aH->Option aH):∀(l:ai) (i:Nat) (w:aH),(∀c∈l,c.wt<=1048576)->w.length+kD aM.wt l<=2097152->
 eR a n k l i w=k (w++(l.take (n-(i:Int)).toNat).flatMap N6):=by
 intro l
 induction l with
 |nil=>intro i w _ _;simp[eR]
 |cons c l ih=>
  intro i w hc hb;rw[qK]at hb;have Z0:=hc c (by simp);have hv:=wN c.pat.args;have ha:=aG.fJ (aM.fX (bR c.wt));rw[eR,Pv];by_cases hi:(i:Int)<n
  ·have e1:decide (((i:Int):Int)<n)=true:=by simp[hi]
   rw[e1,aU,bX hi];by_cases hk:c.kind=1
   ·have e2:((c.kind:Int)==1)=true:=by simp[hk]
    rw[e2,aU,ZH _ (by omega) (fun x hx=>aG.tZ (aM.fX Z0) hx),aA,Zw (by omega) (by decide),aU,ih _ _ (fun x hx=>hc x (by simp[hx])) (by simp;omega)];simp[N6,hk]
   ·have e2:((c.kind:Int)==1)=false:=by simp[hk]
    rw[e2,af,ih _ _ (fun x hx=>hc x (by simp[hx])) (by omega)];simp[N6,hk]
  ·have e1:decide (((i:Int):Int)<n)=false:=by simp[hi]
   rw[e1,af,bL hi,ih _ _ (fun x hx=>hc x (by simp[hx])) (by omega),show(n-((i+1:Nat):Int)).toNat=0 from by omega];simp
theorem Z6(r:aN)(n:Int)(h:r.wt<=1048576):oS r n=some (eH (Ay r n)):=by
 unfold oS;have hl:=YP h n;rw[a1g r n _ r.conds 0 [] (fun c hc=>aN.py h hc) (by have:=aN.sM h;simp;omega)];have e:([]:aH)++(r.conds.take (n-((0:Nat):Int)).toNat).flatMap N6=Ay r n:=by simp[Ay]
 rw[e,Qe _ (by omega)];rfl
def yl(l:ai):aH:=l.flatMap pu
def a1G(l:c8):aH:=l.flatMap fun a=>iq a.pat.args
def a5M(r:aN):aH:=yl r.conds++a1G r.ck
theorem YS(l:ai):(yl l).length<=3*kD aM.wt l:=Fw l (fun c _=>xe (bR _))
theorem a08(a:aN)(i:Nat)(y:aH)(k:aH->Option aH):∀(l:aH) (j:Nat) (w:aH),w.length+l.length<=1099511627770->jb a i y k l j w=k (l.foldl yx w):=by
 intro l
 induction l with
 |nil=>intro j w _;rfl
 |cons x l ih=>
  intro j w hw;simp only[aL]at hw;have:=AZ w x;rw[jb,Ul w x (by omega),aA,ih _ _ (by omega)];rfl
theorem a0A(a:aN)(i:Nat)(y:aH)(k:aH->Option aH):∀(l:aH) (j:Nat) (w:aH),w.length+l.length<=1099511627770->jc a i y k l j w=k (l.foldl yx w):=by
 intro l
 induction l with
 |nil=>intro j w _;rfl
 |cons x l ih=>
  intro j w hw;simp only[aL]at hw;have:=AZ w x;rw[jc,Ul w x (by omega),aA,ih _ _ (by omega)];rfl
theorem a07(a:aN)(k:aH->Option aH):∀(l:ai) (i:Nat) (acc:aH),(∀c∈l,c.wt<=1048576)->acc.length+3*kD aM.wt l<=16777216->
 iG a k l i (eH acc)=k (eH (acc++yl l)):=by
 intro l
 induction l with
 |nil=>intro i acc _ _;simp[iG,yl]
 |cons c l ih=>
  intro i acc hc hb;rw[qK]at hb;have Z0:=hc c (by simp);have h1:=xe (bR c.wt);have hu:=pX (pu c);have hu2:=pX acc;rw[iG,Uh c Z0,aA,uz (by omega),aU,a08 _ _ _ _ _ _ _ (by omega),GH,ih _ _ (fun x hx=>hc x (by simp[hx])) (by simp;omega)];simp[yl]
theorem a09(a:aN)(k:aH->Option aH):∀(l:c8) (i:Nat) (acc:aH),(∀c∈l,c.wt<=1048576)->acc.length+3*kD Action.wt l<=16777216->
 gH a k l i (eH acc)=k (eH (acc++a1G l)):=by
 intro l
 induction l with
 |nil=>intro i acc _ _;simp[gH,a1G]
 |cons c l ih=>
  intro i acc hc hb;rw[qK]at hb;have Z0:=hc c (by simp);have h1:=wN c.pat.args;have h2:=aG.fJ (Action.fX (bR c.wt));have hu:=pX (iq c.pat.args);have hu2:=pX acc;rw[gH,LR _ (Action.fX Z0),aA,uz (by omega),aU,a0A _ _ _ _ _ _ _ (by omega),GH,ih _ _ (fun x hx=>hc x (by simp[hx])) (by simp;omega)];simp[a1G]
theorem a5Z(r:aN)(h:r.wt<=1048576):sx r=some (eH (a5M r)):=by
 unfold sx;have h3:=aN.sM h;have h4:=aN.KC h;have hl:=YS r.conds;have:=a07 r (fun q=>gH r (fun q=>some q) r.ck 0 q) r.conds 0 [] (fun c hc=>aN.py h hc) (by simp;omega);rw[show eH []=[]from rfl]at this;rw[this];simp only[cL];rw[a09 r _ r.ck 0 _ (fun c hc=>aN.QF h hc) (by omega)];rfl
theorem a78(l:ai)(hc:∀c∈l,c.wt<=1048576)(hb:kD aM.wt l<=1048576):q9 l=some (l.flatMap fun c=>eH (pu c)):=by
 unfold q9;have:∀(r:ai) (i:Nat) (w:aH),(∀c∈r,c.wt<=1048576)->w.length+3*kD aM.wt r<=16777216->fk l (fun q=>some q) r i w=some (w++r.flatMap fun c=>eH (pu c)):=by
  intro r
  induction r with
  |nil=>intro i w _ _;simp[fk]
  |cons c r ih=>
   intro i w hc hb;rw[qK]at hb;have h1:=xe (bR c.wt);have hu:=pX (pu c);rw[fk,UI c (hc c (by simp)),aA,Zw (by omega) (by decide),aU,ih _ _ (fun x hx=>hc x (by simp[hx])) (by simp;omega)];simp
 exact this l 0 [] hc (by simp;omega)
theorem YR(l:ai):(l.flatMap fun c=>eH (pu c)).length<=3*kD aM.wt l:=Fw l (fun c _=>by
 have h1:=xe (bR c.wt);have hu:=pX (pu c);omega)
theorem a8t(l:ai)(b:aH):eH ((l.flatMap fun c=>eH (pu c))++b)=eH (yl l++b):=GG (fun x=>by simp[yl,oq])
def Wb(v:Bytes)(k:Int):ai->Nat->Bool
 | [],_=>false
 |c::cs,i=>(decide (((i:Nat):Int)≠k)&&(pu c).contains v)||Wb v k cs (i+1)
def S6(r:aN)(k:Int)(v:Bytes):Bool:=Wb v k r.conds 0||r.ck.any fun a=>(iq a.pat.args).contains v
theorem PF{l:aH}{v:Bytes}(h:ez v=true):l.contains v=(iq l).contains v:=by
 rw[bf];simp[iq,h]
theorem a7q(r:aN)(k:Int)(v:Bytes)(h:r.wt<=1048576):mW r k v=some (S6 r k v):=by
 unfold mW S6;have k2:∀(l:c8) (i:Nat),(∀c∈l,c.wt<=1048576)->gl r v (some false) l i=some (l.any fun a=>(iq a.pat.args).contains v):=by
  intro l
  induction l with
  |nil=>intro i _;rfl
  |cons a l ih=>
   intro i hc;rw[gl,LR _ (Action.fX (hc a (by simp))),aA,a03,aA,mo,ih _ (fun x hx=>hc x (by simp[hx])),BI];cases(iq a.pat.args).contains v<;>rfl
 have k1:∀(l:ai) (i:Nat),(∀c∈l,c.wt<=1048576)->fH r k v (some (r.ck.any fun a=>(iq a.pat.args).contains v)) l i=some (Wb v k l i||r.ck.any fun a=>(iq a.pat.args).contains v):=by
  intro l
  induction l with
  |nil=>intro i _;rfl
  |cons c l ih=>
   intro i hc;rw[fH,Uh _ (hc c (by simp)),aA,a03,aA,mo,ih _ (fun x hx=>hc x (by simp[hx]))];simp only[Wb,bne,eS];by_cases hi:((i:Nat):Int)=k
   ·simp[hi]
   ·cases(pu c).contains v<;>simp[hi]
 rw[k2 _ _ (fun c hc=>aN.QF h hc),k1 _ _ (fun c hc=>aN.py h hc)]
theorem aA9(r:aN)(k:Int)(v:Bytes)(hv:ez v=true)(h:r.wt<=1048576):kQ r k v=some (S6 r k v):=by
 unfold kQ S6;have k2:∀(l:c8) (i:Nat),eW r v (some false) l i=some (l.any fun a=>(iq a.pat.args).contains v):=by
  intro l
  induction l with
  |nil=>intro i;rfl
  |cons a l ih=>
   intro i;rw[eW,a1h,aA,PF hv,ih,BI];cases(iq a.pat.args).contains v<;>rfl
 have k1:∀(l:ai) (i:Nat),(∀c∈l,c.wt<=1048576)->dX r k v (some (r.ck.any fun a=>(iq a.pat.args).contains v)) l i=some (Wb v k l i||r.ck.any fun a=>(iq a.pat.args).contains v):=by
  intro l
  induction l with
  |nil=>intro i _;rfl
  |cons c l ih=>
   intro i hc;rw[dX,UI _ (hc c (by simp)),aA,a1h,aA,mo,ih _ (fun x hx=>hc x (by simp[hx]))];simp only[Wb,bne,eS];by_cases hi:((i:Nat):Int)=k
   ·simp[hi]
   ·cases(pu c).contains v<;>simp[hi]
 rw[k2,k1 _ _ (fun c hc=>aN.py h hc)]
def NA(r:aN)(i:Nat)(c:aM)(v:Bytes):Bool:=decide (c.kind=1)||(Ay r i).contains v||(decide (c.kind=2)&& !S6 r i v)
def vo(r:aN):ai->Nat->Bool
 | [],_=>true
 |c::cs,i=>(mm c&&(!decide (i=0)||decide (c.kind=1))&&(eH (pu c)).all (NA r i c))&&vo r cs (i+1)
def Nd(r:aN):Bool:=r.ck.all fun a=>Nc a&&(iq a.pat.args).all fun v=>(Ay r r.conds.length).contains v
def gr(r:aN):Bool:=zQ r.name&&(decide (0<=r.prio)&&decide (r.prio<=9))&&(decide (1<=(r.conds.length:Int))&&decide ((r.conds.length:Int)<=4))&&(decide (1<=(r.ck.length:Int))&&decide ((r.ck.length:Int)<=2))&&
 (vo r r.conds 0&&(Nd r&&decide (((eH (yl r.conds)).length:Int)<=6)))
theorem PZ(l:aH)(p:Bytes->Bool):(eH l).all p=l.all p:=by
 rw[bf];simp[b8,oq]
theorem a1L(r:aN)(n:Int){v:Bytes}(h:v∈Ay r n):v∈yl r.conds:=by
 unfold Ay at h;obtain⟨c,hc,hv⟩:=br.1 h;refine br.2 ⟨c,cK hc,?_⟩;unfold N6 at hv;cases hk:decide (c.kind=1)with
 |false=>rw[hk]at hv;cases hv
 |true=>
  rw[hk]at hv;simp only[aU]at hv;unfold pu;rw[Q0];exact aj.2 (.inl hv)
theorem Tl{r:aN}(h:Nd r=true):eH (a5M r)=eH (yl r.conds):=by
 refine GG (fun x=>?_);unfold a5M;simp only[aj];constructor
 ·rintro(hx|hx)
  ·exact hx
  ·obtain⟨a,ha,hv⟩:=br.1 hx;unfold Nd at h;have:=b8.1 h a ha;simp only[aZ,b8]at this;have:=this.2 x hv;exact a1L r _ (by simpa using this)
 ·exact .inl
theorem a2L(r:aN)(y:aH)(i:Nat)(c:aM)(l:aH)(k:Option Bool)(hc:c.wt<=1048576)(hr:r.wt<=1048576)(hcb:mm c=true):∀(rest:aH) (j:Nat),fR r y i c (eH (Ay r i)) l k rest j=bif rest.all (NA r i c)then k else some false:=by
 have hk:=IX hcb;intro rest
 induction rest with
 |nil=>intro j;rfl
 |cons v rest ih=>
  intro j;rw[fR,a03,aA,mo,a0E c hc,aA,a7q r _ v hr,aA,ih,dD];unfold IM NA;rw[hcb];by_cases h1:c.kind=1
  ·simp[h1]
  by_cases h2:c.kind=2
  ·cases(Ay r i).contains v<;>cases S6 r i v<;>simp[h2]
  have h3:c.kind>=3:=by omega
  cases(Ay r i).contains v<;>simp[h1,h2,h3]
theorem a2M(r:aN)(y:aH)(i:Nat)(c:aM)(l:aH)(k:Option Bool)(hc:c.wt<=1048576)(hr:r.wt<=1048576)(hcb:mm c=true):∀(rest:aH) (j:Nat),fS r y i c (eH (Ay r i)) l k rest j=bif rest.all (NA r i c)then k else some false:=by
 have hk:=IX hcb;intro rest
 induction rest with
 |nil=>intro j;rfl
 |cons v rest ih=>
  intro j;rw[fS,a03,aA,mo,a0E c hc,aA,a7q r _ v hr,aA,ih,dD];unfold IM NA;rw[hcb];by_cases h1:c.kind=1
  ·simp[h1]
  by_cases h2:c.kind=2
  ·cases(Ay r i).contains v<;>cases S6 r i v<;>simp[h2]
  have h3:c.kind>=3:=by omega
  cases(Ay r i).contains v<;>simp[h1,h2,h3]
theorem a2K(r:aN)(y:aH)(k:Option Bool)(hr:r.wt<=1048576):∀(rest:ai) (i:Nat),(∀c∈rest,c.wt<=1048576)->jx r y k rest i=bif vo r rest i then k else some false:=by
 intro rest
 induction rest with
 |nil=>intro i _;rfl
 |cons c rest ih=>
  intro i h;have hc:=h c (by simp);have hl:=xe hc;have hu:=pX (pu c);rw[jx,a01 c hc,aA,vo];cases hcb:mm c with
  |false=>rfl
  |true=>
   rw[Zz r _ hr,Uh c hc,ih _ (fun x hx=>h x (by simp[hx]))];simp only[aA,uz (show(eH (pu c)).length<=1099511627776 by omega),aU];rw[a2L r y i c _ _ hc hr hcb,a2M r y i c _ _ hc hr hcb];simp only[bne,eS];have e0:decide (((i:Int):Int)=0)=decide (i=0):=by rw[bf];simp
   rw[e0];cases decide (i=0)<;>cases decide (c.kind=1)<;>cases(eH (pu c)).all (NA r i c)<;>simp
theorem a2O(r:aN)(y:aH)(i:Nat)(l:aH)(k:Option Bool):∀(rest:aH) (j:Nat),mQ r y i l k rest j=bif rest.all (fun v=>y.contains v)then k else some false:=
 fun rest j=>WQ (f:=fun v=>gO y v) (L:=mQ r y i l k) (fun _=>rfl) (fun _ _ _=>rfl) rest j (fun v _=>a03 y v)
theorem a2N(r:aN)(b:aH)(k:Option Bool):∀(rest:c8) (i:Nat),(∀a∈rest,a.wt<=1048576)->mP r (eH b) k rest i=bif rest.all (fun a=>Nc a&&(iq a.pat.args).all fun v=>b.contains v)then k else some false:=by
 intro rest
 induction rest with
 |nil=>intro i _;rfl
 |cons a rest ih=>
  intro i h;have ha:=h a (by simp);have h1:=wN a.pat.args;have h2:=aG.fJ (Action.fX ha);have hu:=pX (iq a.pat.args);rw[mP,aAP a ha,aA,LR _ (Action.fX ha),aA,uz (by omega),ih _ (fun x hx=>h x (by simp[hx])),a2O,dD,PZ];have e:((iq a.pat.args).all fun v=>(eH b).contains v)=(iq a.pat.args).all fun v=>b.contains v:=by
   congr 1;funext v;exact mo b v
  rw[e];cases Nc a<;>cases(iq a.pat.args).all (fun v=>b.contains v)<;>simp
theorem a82(r:aN)(h:r.wt<=1048576):vT r=some (gr r):=by
 unfold vT;simp only[a04 _ (aN.Vg h),aA,LB,aa];rw[Zz r _ h];simp only[aA];rw[a2K r _ _ h _ _ (fun c hc=>aN.py h hc),a2N r _ _ _ _ (fun a ha=>aN.QF h ha),a5Z r h];simp only[aA,aa];have hab:(r.ck.all fun a=>Nc a&&(iq a.pat.args).all fun v=>(Ay r r.conds.length).contains v)=Nd r:=rfl;rw[hab];unfold gr;have g1:decide (r.prio>=0)=decide (0<=r.prio):=rfl;have g2:decide ((r.conds.length:Int)>=1)=decide (1<=(r.conds.length:Int)):=rfl;have g3:decide ((r.ck.length:Int)>=1)=decide (1<=(r.ck.length:Int)):=rfl;rw[g1,g2,g3];cases ha:Nd r with
 |false=>cases zQ r.name<;>cases(decide (0<=r.prio)&&decide (r.prio<=9))<;>cases(decide (1<=(r.conds.length:Int))&&decide ((r.conds.length:Int)<=4))<;>cases(decide (1<=(r.ck.length:Int))&&decide ((r.ck.length:Int)<=2))<;>cases vo r r.conds 0<;>rfl
 |true=>
  rw[Tl ha];cases zQ r.name<;>cases(decide (0<=r.prio)&&decide (r.prio<=9))<;>cases(decide (1<=(r.conds.length:Int))&&decide ((r.conds.length:Int)<=4))<;>cases(decide (1<=(r.ck.length:Int))&&decide ((r.ck.length:Int)<=2))<;>cases vo r r.conds 0<;>simp
theorem a4n(r:aN)(i:Nat)(c:aM)(l:aH)(k:Option Bool)(hr:r.wt<=1048576)(hcb:mm c=true):∀(rest:aH) (j:Nat),(∀v∈rest,ez v=true)->gA r (i:Int) c (eH (Ay r i)) l k rest j=bif rest.all (NA r i c)then k else some false:=by
 have hk:=IX hcb;intro rest
 induction rest with
 |nil=>intro j _;rfl
 |cons v rest ih=>
  intro j hv;rw[gA,a1h,aA,mo,aA9 r _ v (hv v (by simp)) hr,aA,ih _ (fun x hx=>hv x (by simp[hx])),dD];unfold NA;simp only[bne,eS];by_cases h1:c.kind=1
  ·simp[h1]
  by_cases h2:c.kind=2
  ·cases(Ay r i).contains v<;>cases S6 r i v<;>simp[h2]
  cases(Ay r i).contains v<;>simp[h1,h2]
theorem a7E(r:aN)(i:Nat)(c:aM)(hr:r.wt<=1048576)(hi:r.conds[i]?=some c)(hcb:mm c=true):pR r (i:Int)=some ((eH (pu c)).all (NA r i c)):=by
 unfold pR;have hc:=aN.py hr (aC hi);have hl:=xe hc;have hu:=pX (pu c);have e:nF r.conds (i:Int)=some c:=by unfold nF;simp[hi]
 rw[e,aA,Z6 r _ hr,aA,UI c hc,aA,uz (by omega),aU,a4n r i c _ _ hr hcb _ _ (fun v hv=>by
  rw[oq]at hv;unfold pu iq at hv;exact(iL.1 hv).2)]
 cases(eH (pu c)).all (NA r i c)<;>rfl
theorem a1l(r:aN)(k:Option Bool)(hr:r.wt<=1048576):∀(rest pre:ai),r.conds=pre++rest->iV r k rest pre.length=bif vo r rest pre.length then k else some false:=by
 intro rest
 induction rest with
 |nil=>intro pre _;rfl
 |cons c rest ih=>
  intro pre h;have hm:c∈r.conds:=by rw[h];simp
  have hc:=aN.py hr hm;have hi:r.conds[pre.length]?=some c:=by rw[h];simp
  have t:=ih (pre++[c]) (by rw[h];simp);simp only[aS,aL,bG]at t;rw[iV,Z7 c hc,aA,vo];cases hcb:mm c with
  |false=>rfl
  |true=>
   rw[a7E r _ c hr hi hcb,aA,t];simp only[bne,eS];have e0:decide ((((pre.length:Nat):Int):Int)=0)=decide (pre.length=0):=by rw[bf];simp
   rw[e0];cases decide (pre.length=0)<;>cases decide (c.kind=1)<;>cases(eH (pu c)).all (NA r pre.length c)<;>simp
theorem a1n(r:aN)(y:aH)(i:Nat)(l:aH)(k:Option Bool):∀(rest:aH) (j:Nat),lZ r y i l k rest j=bif rest.all (fun v=>y.contains v)then k else some false:=
 fun rest j=>WQ (f:=fun v=>kO y v) (L:=lZ r y i l k) (fun _=>rfl) (fun _ _ _=>rfl) rest j (fun v _=>a1h y v)
theorem a1m(r:aN)(b:aH)(k:Option Bool):∀(rest:c8) (i:Nat),(∀a∈rest,a.wt<=1048576)->lY r (eH b) k rest i=bif rest.all (fun a=>Nc a&&(iq a.pat.args).all fun v=>b.contains v)then k else some false:=by
 intro rest
 induction rest with
 |nil=>intro i _;rfl
 |cons a rest ih=>
  intro i h;have ha:=h a (by simp);have h1:=wN a.pat.args;have h2:=aG.fJ (Action.fX ha);rw[lY,aA5 a ha,aA,ZH _ (by omega) (fun x hx=>aG.tZ (Action.fX ha) hx),aA,uz (by omega),ih _ (fun x hx=>h x (by simp[hx])),a1n,dD];have e:((iq a.pat.args).all fun v=>(eH b).contains v)=(iq a.pat.args).all fun v=>b.contains v:=by
   congr 1;funext v;exact mo b v
  rw[e];cases Nc a<;>cases(iq a.pat.args).all (fun v=>b.contains v)<;>simp
theorem a7J(r:aN)(h:r.wt<=1048576):vL r=some (gr r):=by
 unfold vL;have hcu:=YR r.conds;have hcl:=aN.sM h;rw[show iV r _ r.conds 0=_ from a1l r _ h r.conds [] rfl,Z6 r _ h,aA,a1m r _ _ _ _ (fun a ha=>aN.QF h ha),a78 _ (fun c hc=>aN.py h hc) hcl,aA,Qe _ (by omega),ZB _ (aN.Vg h)];have e:=a8t r.conds [];simp only[cO]at e;rw[e];simp only[aA,aa,bG];have hab:(r.ck.all fun a=>Nc a&&(iq a.pat.args).all fun v=>(Ay r r.conds.length).contains v)=Nd r:=rfl;rw[hab];unfold gr;have g1:decide (0<=r.prio)= !decide (r.prio<0):=by rw[bf];simp
 have g2:decide (r.prio<=9)= !decide (r.prio>9):=by rw[bf];simp
 have g3:decide (1<=(r.conds.length:Int))= !decide ((r.conds.length:Int)<1):=by rw[bf];simp
 have g4:decide ((r.conds.length:Int)<=4)= !decide ((r.conds.length:Int)>4):=by rw[bf];simp
 have g5:decide (1<=(r.ck.length:Int))= !decide ((r.ck.length:Int)<1):=by rw[bf];simp
 have g6:decide ((r.ck.length:Int)<=2)= !decide ((r.ck.length:Int)>2):=by rw[bf];simp
 rw[g1,g2,g3,g4,g5,g6];cases zQ r.name
 ·rfl
 cases decide (r.prio<0)
 case true=>rfl
 cases decide (r.prio>9)
 case true=>rfl
 cases decide ((r.conds.length:Int)<1)
 case true=>rfl
 cases decide ((r.conds.length:Int)>4)
 case true=>rfl
 cases decide ((r.ck.length:Int)<1)
 case true=>rfl
 cases decide ((r.ck.length:Int)>2)
 case true=>rfl
 cases vo r r.conds 0
 ·rfl
 cases Nd r
 ·rfl
 simp
def IA(name:Bytes):aq->Nat->Int
 | [],_=> -1
 |r::rs,i=>bif r.name==name then(i:Int)else IA name rs (i+1)
def PD(all:aq):aq->Nat->Bool
 | [],_=>true
 |r::rs,i=>(gr r&&decide (IA r.name all 0=(i:Int)))&&PD all rs (i+1)
def zX(l:aq):Bool:=PD l l 0&&decide ((l.length:Int)<=6)
theorem a7r(l:aq)(n:Bytes):su l n=some (IA n l 0):=by
 unfold su;have:∀(r:aq) (i:Nat),jZ l n (some (-1)) r i=some (IA n r i):=by
  intro r
  induction r with
  |nil=>intro i;rfl
  |cons x r ih=>intro i;rw[jZ,ih,IA];cases x.name==n<;>rfl
 exact this l 0
theorem a7C(l:aq)(n:Bytes):sQ l n=some (IA n l 0):=by
 unfold sQ;have:∀(r:aq) (i:Nat),jQ l n (some (-1)) r i=some (IA n r i):=by
  intro r
  induction r with
  |nil=>intro i;rfl
  |cons x r ih=>intro i;rw[jQ,ih,IA];cases x.name==n<;>rfl
 exact this l 0
theorem aAR(l:aq)(h:kD aN.wt l<=1048576):sr l=some (zX l):=by
 unfold sr;have:∀(r:aq) (i:Nat) (k:Option Bool),(∀x∈r,x.wt<=1048576)->jY l k r i=bif PD l r i then k else some false:=by
  intro r
  induction r with
  |nil=>intro i k _;rfl
  |cons x r ih=>
   intro i k hx;rw[jY,a82 x (hx x (by simp)),aA,a7r,aA,ih _ _ (fun y hy=>hx y (by simp[hy])),PD];simp only[bne,eS];cases gr x<;>cases decide (IA x.name l 0=(i:Int))<;>simp
 rw[this _ _ _ (fun x hx=>by have:=gu (w:=aN.wt) hx;omega),aa,zX];cases PD l l 0<;>rfl
theorem aA7(l:aq)(h:kD aN.wt l<=1048576):sP l=some (zX l):=by
 unfold sP;have:∀(r:aq) (i:Nat) (k:Option Bool),(∀x∈r,x.wt<=1048576)->jO l k r i=bif PD l r i then k else some false:=by
  intro r
  induction r with
  |nil=>intro i k _;rfl
  |cons x r ih=>
   intro i k hx;rw[jO,a7J x (hx x (by simp)),aA,a7C,aA,ih _ _ (fun y hy=>hx y (by simp[hy])),PD];simp only[bne,eS];cases gr x<;>cases decide (IA x.name l 0=(i:Int))<;>simp
 rw[this _ _ _ (fun x hx=>by have:=gu (w:=aN.wt) hx;omega),aa,zX];have g:decide ((l.length:Int)<=6)= !decide ((l.length:Int)>6):=by rw[bf];simp
 rw[g];cases PD l l 0<;>cases decide ((l.length:Int)>6)<;>rfl
end Go.Cx
namespace Go.Cx
open Go.RowKit Go.Proofs Tryz
theorem OX{α β:Type}[DecidableEq β]{f:α->α->Option Bool}{g:α->β}{a b:List α}{k:Option Bool}{L:List α->Nat->Option Bool}(hl:a.length=b.length)(tC:∀i,L [] i=k)
 (ru:∀x xs i,L (x::xs) i=(nF b (i:Int)).bind fun y=>(f x y).bind fun r=>bif !r then some false else L xs (i+1)) (hf:∀x y,f x y=some (decide (g x=g y))):
 L a 0=bif decide (a.map g=b.map g)then k else some false:=by
 have key:∀(ra rb pa pb:List α),a=pa++ra->b=pb++rb->pa.length=pb.length->L ra pa.length=bif decide (ra.map g=rb.map g)then k else some false:=by
  intro ra
  induction ra with
  |nil=>
   intro rb pa pb h1 h2 h3;rw[tC];have:rb=[]:=by
    have:=congrArg List.length h1;have:=congrArg List.length h2;simp at*;apply cW;omega
   subst this;simp
  |cons x xs ih=>
   intro rb pa pb h1 h2 h3;cases rb with
   |nil=>
    exfalso;have:=congrArg List.length h1;have:=congrArg List.length h2;simp at*;omega
   |cons y ys=>
    have e1:nF b (pa.length:Int)=some y:=by rw[h3];exact zY h2
    rw[ru,e1,aA,hf,aA];have:=ih ys (pa++[x]) (pb++[y]) (by rw[h1];simp) (by rw[h2];simp) (by simp[h3]);simp only[aS,aL,bG]at this;rw[this];by_cases hxy:g x=g y
    ·simp[hxy]
    ·simp[hxy]
 exact key a b [] [] rfl rfl rfl
theorem OL{α β:Type}{g:α->β}{a b:List α}(h:a.length≠b.length):a.map g≠b.map g:=fun e=>h (by have:=congrArg List.length e;simpa using this)
theorem GQ{α:Type}{c:α->aQ}(a b:List α):((((a.map c).length:Int):Int) != ((b.map c).length:Int))= !decide (a.length=b.length):=by
 rw[bf];simp;omega
theorem map_id'{α:Type}(l:List α):l.map (fun x=>x)=l:=by simp
theorem a4v(a b:aN):pQ a b=some (decide (a=b)):=by
 have k2:∀(k:Option Bool),a.ck.length=b.ck.length->hG a b k a.ck 0=bif decide (a.ck=b.ck)then k else some false:=fun k hl=>by
  have:=OX (g:=fun x:Action=>x) (f:=fun x y:Action=>bif x.kind != y.kind then some false else eg x.pat y.pat) (k:=k) (L:=hG a b k) hl (fun _=>rfl) (fun x xs i=>by
   rw[hG];congr 1;funext y;cases(x.kind != y.kind)<;>rfl) (fun x y=>by
   obtain⟨x0,x1⟩:=x;obtain⟨y0,y1⟩:=y;simp only[OA,bne,eS];by_cases h0:x0=y0<;>by_cases h1:x1=y1<;>simp[h0,h1])
  rw[map_id',map_id']at this;exact this
 have k1:∀(k:Option Bool),a.conds.length=b.conds.length->jS a b k a.conds 0=bif decide (a.conds=b.conds)then k else some false:=fun k hl=>by
  have:=OX (g:=fun x:aM=>x) (f:=jM) (k:=k) (L:=jS a b k) hl (fun _=>rfl) (fun _ _ _=>rfl) Qd;rw[map_id',map_id']at this;exact this
 unfold pQ;rw[GQ,GQ];obtain⟨a0,a1,a2,a3⟩:=a;obtain⟨b0,b1,b2,b3⟩:=b;simp only at k1 k2⊢;simp only[bne,eS,Bool.not_not];by_cases h0:a0=b0;rotate_left
 ·simp[h0]
 by_cases h1:a1=b1;rotate_left
 ·simp[h1]
 by_cases h2:a2.length=b2.length;rotate_left
 ·have:a2≠b2:=fun e=>h2 (by rw[e])
  simp[h2,this]
 by_cases h3:a3.length=b3.length;rotate_left
 ·have:a3≠b3:=fun e=>h3 (by rw[e])
  simp[h3,this]
 rw[k1 _ h2,k2 _ h3];by_cases h4:a2=b2<;>by_cases h5:a3=b3<;>simp[h0,h1,h2,h3,h4,h5]
theorem a1o(a b:aq):rA a b=some (decide (a=b)):=by
 unfold rA;exact PG (c:=aN.c) (f:=pQ) (fun k=>kx a b k) (fun _ _=>rfl) (fun _ _ _ _=>rfl) a4v
theorem Su(x y:aK):((x.var:Bytes)==y.var&&(x.value:Bytes)==y.value)=decide (x=y):=by
 obtain⟨x0,x1⟩:=x;obtain⟨y0,y1⟩:=y;simp only[eS];by_cases h0:x0=y0<;>by_cases h1:x1=y1<;>simp[h0,h1]
theorem a5a(a b:aI):kA a b=some (decide (a=b)):=by
 unfold kA;exact PG (c:=aK.c) (f:=fun x y=>some (decide (x=y))) (fun k=>fV a b k) (fun _ _=>rfl) (fun k x xs i=>by rw[fV];congr 1;funext y;rw[Su];rfl) (fun _ _=>rfl)
theorem a4s(a b:aI):oV a b=some (decide (a=b)):=by
 unfold oV;exact PG (c:=aK.c) (f:=fun x y=>some (decide (x=y))) (fun k=>iv a b k) (fun _ _=>rfl) (fun k x xs i=>by rw[iv];congr 1;funext y;rw[Su];rfl) (fun _ _=>rfl)
theorem a2P(a b:av):oF a b=some (decide (a=b)):=by
 unfold oF;exact PG (c:=aR.c) (f:=fun x y=>(mR x.facts y.facts).bind fun r=>bif !r then some false else kA x.bind y.bind) (fun k=>gI a b k) (fun _ _=>rfl) (fun k x xs i=>by
  rw[gI];congr 1;funext y;rw[R6,aA,aA];cases decide (x.facts=y.facts)<;>rfl) (fun x y=>by
  obtain⟨x0,x1⟩:=x;obtain⟨y0,y1⟩:=y;simp only[R6,a5a,aA];by_cases h0:x0=y0<;>by_cases h1:x1=y1<;>simp[h0,h1])
theorem a1p(a b:av):nK a b=some (decide (a=b)):=by
 unfold nK;exact PG (c:=aR.c) (f:=fun x y=>(iW x.facts y.facts).bind fun r=>bif !r then some false else oV x.bind y.bind) (fun k=>hY a b k) (fun _ _=>rfl) (fun k x xs i=>by
  rw[hY];congr 1;funext y;rw[NP,aA,aA];cases decide (x.facts=y.facts)<;>rfl) (fun x y=>by
  obtain⟨x0,x1⟩:=x;obtain⟨y0,y1⟩:=y;simp only[NP,a4s,aA];by_cases h0:x0=y0<;>by_cases h1:x1=y1<;>simp[h0,h1])
def Nx(a b:aJ):Bool:=decide (a.bJ.map aW.shape=b.bJ.map aW.shape)&&(decide (a.nodes.map (fun x=>(x.parent,x.gK,x.cond))=b.nodes.map (fun x=>(x.parent,x.gK,x.cond)))&&decide (a.ends=b.ends))
def OM(a b:aJ):Bool:=decide (a.rules=b.rules)&&(decide (a.ends=b.ends)&&(decide (a.facts=b.facts)&&(decide (a.bJ=b.bJ)&&decide (a.nodes=b.nodes))))
theorem a7v(a b:aJ):qF a b=some (Nx a b):=by
 unfold qF Nx;rw[GQ,GQ,GQ];by_cases h1:a.bJ.length=b.bJ.length;rotate_left
 ·simp[h1,OL h1]
 by_cases h2:a.nodes.length=b.nodes.length;rotate_left
 ·simp[h2,OL h2]
 by_cases h3:a.ends.length=b.ends.length;rotate_left
 ·have:a.ends≠b.ends:=fun e=>h3 (by rw[e])
  simp[h3,this]
 have k1:=fun k=>OX (g:=aW.shape) (f:=fun x y:aW=>iH x.shape y.shape) (k:=k) (L:=kC a b k) h1 (fun _=>rfl) (fun _ _ _=>rfl) (fun x y=>Um _ _)
 have k2:=fun k=>OX (g:=fun x:Node=>(x.parent,x.gK,x.cond)) (f:=fun x y:Node=>bif x.parent != y.parent then some false else bif x.gK != y.gK then some false else nx x.cond y.cond) (k:=k) (L:=iJ a b k) h2 (fun _=>rfl) (fun x xs i=>by
  rw[iJ];congr 1;funext y;cases(x.parent != y.parent)<;>cases(x.gK != y.gK)<;>rfl) (fun x y=>by
  simp only[a0B,bne,eS];by_cases q0:x.parent=y.parent<;>by_cases q1:x.gK=y.gK<;>by_cases q2:x.cond=y.cond<;>simp[q0,q1,q2])
 have k3:=fun k=>OX (g:=fun x:Int=>x) (f:=fun x y:Int=>some (decide (x=y))) (k:=k) (L:=iK a b k) h3 (fun _=>rfl) (fun x xs i=>by
  rw[iK];congr 1) (fun x y=>rfl)
 rw[k1,k2,k3,map_id',map_id'];simp only[h1,h2,h3,B7,bW,af];cases decide (a.bJ.map aW.shape=b.bJ.map aW.shape)<;>cases decide (a.nodes.map (fun x=>(x.parent,x.gK,x.cond))=b.nodes.map (fun x=>(x.parent,x.gK,x.cond)))<;>cases decide (a.ends=b.ends)<;>rfl
theorem aAA(a b:aJ):o8 a b=some (OM a b):=by
 unfold o8;simp only[a1o,a4u,NP,aA,GQ];by_cases h1:a.bJ.length=b.bJ.length;rotate_left
 ·have:a.bJ≠b.bJ:=fun e=>h1 (by rw[e])
  simp only[h1,OM,this,decide_false,eY,aU,Bool.false_and];cases decide (a.rules=b.rules)<;>cases decide (a.ends=b.ends)<;>cases decide (a.facts=b.facts)<;>rfl
 by_cases h2:a.nodes.length=b.nodes.length;rotate_left
 ·have:a.nodes≠b.nodes:=fun e=>h2 (by rw[e])
  simp only[h1,h2,OM,this,B7,decide_false,eY,bW,aU,af,wQ];cases decide (a.rules=b.rules)<;>cases decide (a.ends=b.ends)<;>cases decide (a.facts=b.facts)<;>rfl
 have k1:=fun k=>OX (g:=fun x:aW=>x) (f:=fun x y:aW=>(eg x.shape y.shape).bind fun r=>bif !r then some false else iW x.facts y.facts) (k:=k) (L:=fw a b k) h1 (fun _=>rfl) (fun x xs i=>by
  rw[fw];congr 1;funext y;rw[OA,aA,aA];cases decide (x.shape=y.shape)<;>rfl) (fun x y=>by
  obtain⟨x0,x1⟩:=x;obtain⟨y0,y1⟩:=y;simp only[OA,NP,aA];by_cases q0:x0=y0<;>by_cases q1:x1=y1<;>simp[q0,q1])
 have k2:=fun k=>OX (g:=fun x:Node=>x) (f:=fun x y:Node=>bif x.parent != y.parent then some false else bif x.gK != y.gK then some false else(jM x.cond y.cond).bind fun r=>bif !r then some false else nK x.tokens y.tokens) (k:=k) (L:=fy a b k) h2 (fun _=>rfl) (fun x xs i=>by
  rw[fy];congr 1;funext y;rw[Qd,aA,aA];cases(x.parent != y.parent)<;>cases(x.gK != y.gK)<;>cases decide (x.cond=y.cond)<;>rfl) (fun x y=>by
  obtain⟨x0,x1,x2,x3⟩:=x;obtain⟨y0,y1,y2,y3⟩:=y;simp only[Qd,a1p,aA,bne,eS];by_cases q0:x0=y0<;>by_cases q1:x1=y1<;>by_cases q2:x2=y2<;>by_cases q3:x3=y3<;>simp[q0,q1,q2,q3])
 rw[k1,k2,map_id',map_id',map_id',map_id',OM];simp only[h1,h2,B7,bW,af];cases decide (a.rules=b.rules)<;>cases decide (a.ends=b.ends)<;>cases decide (a.facts=b.facts)<;>cases decide (a.bJ=b.bJ)<;>cases decide (a.nodes=b.nodes)<;>rfl
end Go.Cx
namespace Go.Cx
open Go.RowKit Go.Proofs Tryz
def EQ(s:Bytes):Option Nat:=if 1<=s.length/\s.length<=4 then(match Lib.decFrom 0 s with|some n=>if Lib.decDigits n=s then some n else none|none=>none)else none
def pI(s:Bytes):Int×Bool:=match EQ s with|some n=>((n:Int),true)|none=>(0,false)
theorem YT:∀(u:Nat),∀b∈Lib.decDigits u,48<=b.toNat/\b.toNat<=57:=by
 intro u
 induction u using Nat.strongRecOn with
 |_ u ih=>
  have hb:∀v:Nat,v<10->48<=(UInt8.ofNat (48+v)).toNat/\(UInt8.ofNat (48+v)).toNat<=57:=by
   intro v hv;have:(UInt8.ofNat (48+v)).toNat=48+v:=by simp;omega
   omega
  intro b hm;rw[Lib.decDigits]at hm;split at hm
  ·rename_i h10;simp only[cx]at hm;subst hm;exact hb u h10
  ·rename_i h10;rcases aj.1 hm with hm|hm
   ·exact ih (u/10) (by omega) b hm
   ·simp only[cx]at hm;subst hm;exact hb (u%10) (by omega)
theorem a2J(a:Bytes)(k:Int->Option (Int×Bool))(ha:a.length<=4):∀(rest pre:Bytes) (acc:Nat),a=pre++rest->acc<10^pre.length->∀n,rest.length<n->
 iD a k n (acc:Int) (pre.length:Int)=(match Lib.decFrom acc rest with|some m=>k (m:Int)|none=>some (0,false)):=by
 intro rest
 induction rest with
 |nil=>
  intro pre acc h _ n hn;obtain⟨m,rfl⟩:∃m,n=m+1:=⟨n-1,by simp at hn;omega⟩
  have e1:decide ((pre.length:Int)<(a.length:Int))=false:=by simp[h]
  rw[iD,e1];rfl
 |cons x xs ih=>
  intro pre acc h hacc n hn;obtain⟨m,rfl⟩:∃m,n=m+1:=⟨n-1,by simp at hn;omega⟩
  have hl:a.length=pre.length+(xs.length+1):=by rw[h];simp
  have e1:decide ((pre.length:Int)<(a.length:Int))=true:=by rw[hl];simp;omega
  have e4:IntKind.i64.wrap ((pre.length:Int)+1)=((pre++[x]).length:Int):=by rw[WA (by omega)];simp
  have h10:acc<10000:=dV hacc (uD (by omega) (show pre.length<=4 by omega));have hx:=x.toNat_lt;rw[iD,e1,aU,zY h,aA,e4];by_cases c1:(x.toNat:Int)<48
  ·have:Lib.digitVal x=none:=by unfold Lib.digitVal;rw[bL (by omega)]
   simp only[Lib.decFrom,this];rw[bn c1,aU]
  ·by_cases c2:(x.toNat:Int)>57
   ·have:Lib.digitVal x=none:=by unfold Lib.digitVal;rw[bL (by omega)]
    simp only[Lib.decFrom,this];rw[bB c1,af,bn c2,aU]
   ·have hd:Lib.digitVal x=some (x.toNat-48):=by unfold Lib.digitVal;rw[bX (by omega)]
    have e5:IntKind.i64.wrap ((IntKind.i64.wrap (10*(acc:Int)))+(IntKind.i64.wrap (IntKind.u8.wrap ((x.toNat:Int)-48))))=((acc*10+(x.toNat-48):Nat):Int):=by
     rw[gM (k:=.u8) (sC.u8.2 (by omega)),gM (n:=(10:Int)*(acc:Int)) (sC.i64.2 (by omega)),gM (n:=(x.toNat:Int)-48) (sC.i64.2 (by omega)),gM (sC.i64.2 (by omega))];omega
    simp only[Lib.decFrom,hd];rw[bB c1,af,bB c2,af,e5];refine ih (pre++[x]) _ (by simp[h]) ?_ m (by simp at hn;omega);rw[aS,gh,wU];omega
theorem R5(s:Bytes):nw s=some (pI s):=by
 unfold nw;rw[LB,aA];by_cases hl:1<=s.length/\s.length<=4
 ·have e1:(decide ((s.length:Int)>=1)&&decide ((s.length:Int)<=4))=true:=by simp;omega
  have t:=a2J s (fun z=>((oh z).bind fun GL=>(bif !((GL:Bytes)==s)then(some (0,false))else(some (z,true))))) hl.2 s [] 0 rfl (by simp) fuel (by unfold fuel;omega);rw[e1,bW,af];refine t.trans ?_;unfold pI EQ;rw[bX hl];cases hd:Lib.decFrom 0 s with
  |none=>rfl
  |some m=>
   have hm:=Lib.decFrom_lt s 0 m hd;have h10:m<10000:=by
    have:=uD (n:=10) (by omega) hl.2;omega
   simp only;rw[a7t _ (sC.i64.2 (by omega)),aA];have e2:Lib.itoa (m:Int)=Lib.decDigits m:=by unfold Lib.itoa;rw[bL (by omega)];simp
   rw[e2];by_cases he:Lib.decDigits m=s
   ·rw[bX he,he];simp
   ·rw[bL he];have:(Lib.decDigits m==s)=false:=by simpa using he
    rw[this];rfl
 ·have e1:(decide ((s.length:Int)>=1)&&decide ((s.length:Int)<=4))=false:=by
   rw[Dc,nE,nE];omega
  rw[e1];unfold pI EQ;rw[bL hl];rfl
theorem Qc(s:Bytes):lF s=some (pI s):=by
 unfold lF pI EQ;by_cases hl:1<=s.length/\s.length<=4
 ·have e1:decide ((s.length:Int)<1)=false:=by simp;omega
  have e2:decide ((s.length:Int)>4)=false:=by simp;omega
  rw[bX hl,e1,af,e2,af];unfold AU Qg;rw[bX (by omega)];cases s with
  |nil=>simp at hl
  |cons b t=>
   have fin:∀(m:Nat),Lib.decFrom 0 (b::t)=some m->(bif decide ((m:Int)<0)then some ((0:Int),false)else bif decide ((m:Int)>9999)then some (0,false)else(jj (m:Int)).bind fun y8=>bif !((y8:Bytes)==(b::t))then some (0,false)else some ((m:Int),true))=
    some (match(if Lib.decDigits m=b::t then some m else none)with|some n=>((n:Int),true)|none=>(0,false)):=by
    intro m hd;have hm:=Lib.decFrom_lt (b::t) 0 m hd;have h10:m<10000:=by
     have:=uD (n:=10) (by omega) hl.2;omega
    have e3:decide ((m:Int)<0)=false:=by simp
    have e4:decide ((m:Int)>9999)=false:=by simp;omega
    have e5:Lib.itoa (m:Int)=Lib.decDigits m:=by unfold Lib.itoa;rw[bL (by omega)];simp
    rw[e3,af,e4,af,a4o,aA,e5];by_cases he:Lib.decDigits m=b::t
    ·rw[bX he,he];simp
    ·rw[bL he];have:(Lib.decDigits m==(b::t))=false:=by simpa using he
     rw[this];rfl
   have sign:∀(n:Int),b.toNat<48->(bif decide (n<0)then some ((0:Int),false)else bif decide (n>9999)then some (0,false)else(jj n).bind fun y8=>bif !((y8:Bytes)==(b::t))then some (0,false)else some (n,true))=some (0,false):=by
    intro n hb;by_cases hn:n<0
    ·rw[bn hn];rfl
    rw[bB hn,af,a4o,aA];cases decide (n>9999)with
    |true=>rfl
    |false=>
     have e5:Lib.itoa n=Lib.decDigits n.toNat:=by unfold Lib.itoa;rw[bL hn]
     have:(Lib.itoa n==(b::t))=false:=by
      rw[e5,dJ];intro h;have:=YT n.toNat b (by rw[h];simp);omega
     rw[this];rfl
   simp only[Lib.atoi];by_cases hb:b=45
   ·subst hb;have hd:Lib.decFrom 0 ((45:UInt8)::t)=none:=by simp[Lib.decFrom,Lib.digitVal]
    rw[bX (by decide),hd];cases Lib.decNat t with
    |none=>rfl
    |some m=>exact sign _ (by decide)
   ·rw[bL (by simpa using hb)];by_cases Ph:b=43
    ·subst Ph;have hd:Lib.decFrom 0 ((43:UInt8)::t)=none:=by simp[Lib.decFrom,Lib.digitVal]
     rw[bX (by decide),hd];cases Lib.decNat t with
     |none=>rfl
     |some m=>exact sign (m:Int) (by decide)
    ·rw[bL (by simpa using Ph)];have hdn:Lib.decNat (b::t)=Lib.decFrom 0 (b::t):=by simp[Lib.decNat]
     rw[hdn];cases hd:Lib.decFrom 0 (b::t)with
     |none=>rfl
     |some m=>exact fin m hd
 ·rw[bL hl];by_cases h1:(s.length:Int)<1
  ·rw[bn h1];rfl
  ·have h2:(s.length:Int)>4:=by omega
   rw[bB h1,af,bn h2];rfl
def Eg(a b:Bytes):Int:=if Op.bytesLess a b=true then-1 else if a=b then 0 else 1
def WT(x y:Int):Int:=if x<y then-1 else if x>y then 1 else 0
def PE(a b:Bytes):Int:=match EQ a,EQ b with
 |some x,some y=>WT x y
 |some _,none=> -1
 |none,some _=>1
 |none,none=>Eg a b
def Pd{α:Type}(g:α->α->Int):List α->List α->Option Int
 |x::xs,y::ys=>if g x y≠0 then some (g x y)else Pd g xs ys
 |_,_=>none
def cmpL{α:Type}(g:α->α->Int)(a b:List α):Int:=match Pd g a b with|some z=>z|none=>WT a.length b.length
def Nj(a b:aG):Int:=if a.rel≠b.rel then Eg a.rel b.rel else cmpL PE a.args b.args
theorem a1R{a b:Bytes}(h:a≠b):Eg a b≠0:=by
 unfold Eg;split
 ·omega
 ·first|omega| (rw[bL h];omega)
theorem WU(a:Bytes):Eg a a=0:=by
 unfold Eg;rw[qm];simp
theorem VJ:∀(a b:Bytes),Lib.compareBytes a b=Eg a b
 | [],[]=>by simp[Lib.compareBytes,Eg,Op.bytesLess]
 | [],_::_=>by simp[Lib.compareBytes,Eg,Op.bytesLess]
 |_::_,[]=>by simp[Lib.compareBytes,Eg,Op.bytesLess]
 |a::xs,b::ys=>by
  have ih:=VJ xs ys;simp only[Lib.compareBytes,Eg,Op.bytesLess];by_cases h1:a<b
  ·simp[h1]
  ·by_cases h2:b<a
   ·have hne:a≠b:=fun e=>by subst e;exact h1 h2
    simp[h1,h2,hne]
   ·have e:a=b:=by
     rw[Df]at h1 h2;exact UInt8.toNat_inj.1 (by omega)
    subst e;rw[bL h1,bL h1,ih];simp[Eg,h1]
theorem VL{α:Type}{f:α->α->Option Int}{g:α->α->Int}{c:α->aQ}{L:List α->Nat->Option Int}{k:Option Int}{b:List α}(tC:∀i,L [] i=k)
 (ru:∀x xs i,L (x::xs) i=bif decide (((i:Int):Int)<((b.map c).length:Int))then((nF b (i:Int)).bind fun y=>((f x y).bind fun z=>(bif (z:Int) != 0 then(some z)else(L xs (i+1)))))else k):
 ∀(l pre rest:List α),b=pre++rest->(∀x∈l,∀y∈rest,f x y=some (g x y))->L l pre.length=(match Pd g l rest with|some z=>some z|none=>k):=by
 intro l
 induction l with
 |nil=>intro pre rest h _;rw[tC];cases rest<;>rfl
 |cons x xs ih=>
  intro pre rest h hf;rw[ru];cases rest with
  |nil=>
   have e1:decide ((pre.length:Int)<((b.map c).length:Int))=false:=by simp[h]
   rw[e1];rfl
  |cons y ys=>
   have e1:decide ((pre.length:Int)<((b.map c).length:Int))=true:=by simp[h];omega
   rw[e1,aU,zY h,aA,hf x (by simp) y (by simp),aA];simp only[Pd];have t:=ih (pre++[y]) ys (by simp[h]) (fun x' hx y' hy=>hf x' (by simp[hx]) y' (by simp[hy]));rw[aS,gh]at t;by_cases hz:g x y=0
   ·have e2:(g x y != 0)=false:=by simp[hz]
    rw[e2,af,t,bL (by simp[hz])]
   ·have e2:(g x y != 0)=true:=by simp[hz]
    rw[e2,aU,bX hz]
theorem QL(x y:Int):(bif decide (x<y)then some (-1:Int)else bif decide (x>y)then some 1 else some 0)=some (WT x y):=by
 unfold WT;by_cases h1:x<y
 ·simp[h1]
 ·by_cases h2:x>y
  ·simp[h1,h2]
  ·simp[h1,h2]
theorem a3f(a b:Bytes):sI a b=some (Eg a b):=by
 unfold sI Eg;cases h:Op.bytesLess a b with
 |true=>rfl
 |false=>
  by_cases e:a=b
  ·simp[e]
  ·have e':(a==b)=false:=by simpa using e
   simp[e,e']
theorem a3e(a b:Bytes):j4 a b=some (PE a b):=by
 unfold j4 PE;rw[R5,R5,aA,aA,a3f];unfold pI;cases EQ a with
 |none=>cases EQ b<;>rfl
 |some x=>
  cases EQ b with
  |none=>rfl
  |some y=>
   simp only[aU,bW,af];exact QL _ _
theorem a35(x y:Int):lf x y=some (WT x y):=by
 unfold lf;exact QL x y
theorem a34(a b:Bytes):qG a b=some (Eg a b):=by
 unfold qG;show some (Lib.compareBytes a b)=_;rw[VJ]
theorem a74(a b:Bytes):kj a b=some (PE a b):=by
 unfold kj PE;rw[Qc,Qc,aA,aA,a34];unfold pI;cases EQ a with
 |none=>cases EQ b<;>rfl
 |some x=>
  cases EQ b with
  |none=>rfl
  |some y=>
   simp only[aU,a35,aA]
theorem a7o(a b:aG):j5 a b=some (Nj a b):=by
 unfold j5 Nj;by_cases h:a.rel=b.rel
 ·have e:(a.rel==b.rel)=true:=by simpa using h
  rw[e,bW,af,bL (by simpa using h)];have t:=fun k=>VL (f:=j4) (g:=PE) (c:=tx) (L:=iX a b k) (b:=b.args) (k:=k) (fun _=>rfl) (fun _ _ _=>rfl) a.args [] b.args rfl (fun x _ y _=>a3e x y)
  refine(t _).trans ?_;unfold cmpL;cases Pd PE a.args b.args with
  |some z=>rfl
  |none=>simp only[aa];exact QL _ _
 ·have e:(a.rel==b.rel)=false:=by simpa using h
  rw[e,eY,aU,bX h,a3f];rfl
theorem a77(a b:aG):kn a b=some (Nj a b):=by
 unfold kn Nj;rw[a34,aA];by_cases h:a.rel=b.rel
 ·have e:(Eg a.rel b.rel != 0)=false:=by rw[h,WU];rfl
  rw[e,af,bL (by simpa using h)];have t:=fun k=>VL (f:=kj) (g:=PE) (c:=tx) (L:=iT a b k) (b:=b.args) (k:=k) (fun _=>rfl) (fun _ _ _=>rfl) a.args [] b.args rfl (fun x _ y _=>a74 x y)
  refine(t _).trans ?_;unfold cmpL;cases Pd PE a.args b.args with
  |some z=>rfl
  |none=>simp only[aa,a35,aA]
 ·have e:(Eg a.rel b.rel != 0)=true:=by simpa using a1R h
  rw[e,aU,bX h]
def chainB:Option aG->aX->Bool
 |_,[]=>true
 |p,x::xs=>zO x&&(match p with|some q=>decide (Nj q x<0)|none=>true)&&chainB (some x) xs
def zA(l:aX):Bool:=chainB none l&&decide (l.length<=24)
theorem Pa{isF:aG->Option Bool}{cmp:aG->aG->Option Int}{a:aX}{L:aX->Nat->Option Bool}{k:Option Bool}(ha:a.length<=1099511627770)(hc:∀x y,cmp x y=some (Nj x y))(tC:∀i,L [] i=k)
 (ru:∀x xs i,L (x::xs) i=((isF x).bind fun y=>(bif !(y)then(some false)else(bif decide (((i:Int):Int)>0)then((nF a (IntKind.i64.wrap ((i:Int)-1))).bind fun q=>((cmp q x).bind fun z=>(bif decide ((z:Int)>=0)then(some false)else(L xs (i+1)))))else(L xs (i+1)))))):
 ∀(l pre:aX),a=pre++l->(∀x∈l,isF x=some (zO x))->L l pre.length=bif chainB pre.getLast? l then k else some false:=by
 intro l
 induction l with
 |nil=>intro pre _ _;rw[tC];rfl
 |cons x xs ih=>
  intro pre h hf;have hl:a.length=pre.length+(xs.length+1):=by rw[h];simp
  have t:=ih (pre++[x]) (by simp[h]) (fun y hy=>hf y (by simp[hy]));rw[aS,gh,mi]at t;rw[ru,hf x (by simp),aA,t];simp only[chainB];cases zO x with
  |false=>rfl
  |true=>
   rw[bW,af,eP];rcases xE pre with rfl|⟨p,z,hpz⟩
   ·simp
   ·rw[xD]at hpz;subst hpz;have e0:decide (((p++[z]).length:Int)>0)=true:=by simp<;>omega
    have e1:IntKind.i64.wrap (((p++[z]).length:Int)-1)=(p.length:Int):=by
     rw[gM (sC.i64.2 (by simp at hl⊢;omega))];simp
    have e2:nF a (p.length:Int)=some z:=zY (xs:=x::xs) (by rw[h];simp);rw[e0,aU,e1,e2,aA,hc,aA,mi];by_cases hz:Nj z x<0
    ·have e3:decide (Nj z x>=0)=false:=by simp;omega
     rw[e3,af];show _=bif (decide (Nj z x<0)&&chainB (some x) xs)then k else some false
     rw[bn hz,eP]
    ·have e3:decide (Nj z x>=0)=true:=by simp;omega
     rw[e3,aU];show _=bif (decide (Nj z x<0)&&chainB (some x) xs)then k else some false
     rw[bB hz];rfl
theorem a7m(l:aX)(h:kD aG.wt l<=1048576):sn l=some (zA l):=by
 unfold sn zA;have hl:=gN aG.wt l;have t:=Pa (isF:=qV) (cmp:=j5) (a:=l) (L:=jX l (some (decide ((((l.map aG.c).length:Int):Int)<=24)))) (k:=_) (by omega) a7o (fun _=>rfl) (fun _ _ _=>rfl) l [] rfl (fun x hx=>a3g x (by have:=gu (w:=aG.wt) hx;omega));refine t.trans ?_;have e:decide (((l.map aG.c).length:Int)<=24)=decide (l.length<=24):=by rw[aa];congr 1;rw[Cd];omega
 rw[e];show(bif chainB none l then _ else _)=_;cases chainB none l<;>rfl
theorem a73(l:aX)(h:kD aG.wt l<=1048576):sO l=some (zA l):=by
 unfold sO zA;have hl:=gN aG.wt l;have t:=Pa (isF:=qP) (cmp:=kn) (a:=l) (L:=gy l (some true)) (k:=_) (by omega) a77 (fun _=>rfl) (fun _ _ _=>rfl) l [] rfl (fun x hx=>a36 x (by have:=gu (w:=aG.wt) hx;omega));rw[show gy l (some true) l 0=_ from t];by_cases h24:l.length<=24
 ·have e:decide (((l.map aG.c).length:Int)>24)=false:=by rw[aa];simp;omega
  rw[e,af,bn h24,vI];show(bif chainB none l then _ else _)=_;cases chainB none l<;>rfl
 ·have e:decide (((l.map aG.c).length:Int)>24)=true:=by rw[aa];simp;omega
  rw[e,aU,bB h24,wQ]
end Go.Cx
namespace Go.Cx
open Go.RowKit Go.Proofs Tryz
def PB(b:aI):Prop:=b.length<=1048576/\∀x∈b,x.var.length<=1048576/\x.value.length<=1048576
theorem PB.nil:PB []:=⟨by simp,by simp⟩
def nr:Option aK->aI->Bool
 |_,[]=>true
 |p,x::xs=>ez x.var&&(fZ x.value&&((match p with|some q=>Op.bytesLess q.var x.var|none=>true)&&nr (some x) xs))
def gw(b:aI):Bool:=nr none b&&decide (b.length<=6)
theorem GP{b:aI}(h:gw b=true):b.length<=6:=by
 unfold gw at h;simp only[aZ,bM]at h;exact h.2
theorem Rv{isV isA:Bytes->Option Bool}{a:aI}{L:aI->Nat->Option Bool}{k:Option Bool}(ha:a.length<=1099511627770)(hV:∀x:Bytes,x.length<=1048576->isV x=some (ez x))(hA:∀x:Bytes,x.length<=1048576->isA x=some (fZ x))(tC:∀i,L [] i=k)
 (ru:∀x xs i,L (x::xs) i=((isV x.var).bind fun y=>(bif !(y)then(some false)else((isA x.value).bind fun z=>(bif !(z)then(some false)else(bif decide (((i:Int):Int)>0)then((nF a (IntKind.i64.wrap ((i:Int)-1))).bind fun q=>(bif !(Op.bytesLess q.var x.var)then(some false)else(L xs (i+1))))else(L xs (i+1)))))))):
 ∀(l pre:aI),a=pre++l->(∀x∈l,x.var.length<=1048576/\x.value.length<=1048576)->L l pre.length=bif nr pre.getLast? l then k else some false:=by
 intro l
 induction l with
 |nil=>intro pre _ _;rw[tC];rfl
 |cons x xs ih=>
  intro pre h hf;have hl:a.length=pre.length+(xs.length+1):=by rw[h];simp
  have t:=ih (pre++[x]) (by simp[h]) (fun y hy=>hf y (by simp[hy]));rw[aS,gh,mi]at t;rw[ru,hV _ (hf x (by simp)).1,aA,hA _ (hf x (by simp)).2,aA,t];simp only[nr];cases ez x.var with
  |false=>rfl
  |true=>
   cases fZ x.value with
   |false=>rfl
   |true=>
    simp only[bW,af,eP];rcases xE pre with rfl|⟨p,z,hpz⟩
    ·simp
    ·rw[xD]at hpz;subst hpz;have e0:decide (((p++[z]).length:Int)>0)=true:=by simp<;>omega
     have e1:IntKind.i64.wrap (((p++[z]).length:Int)-1)=(p.length:Int):=by
      rw[gM (sC.i64.2 (by simp at hl⊢;omega))];simp
     have e2:nF a (p.length:Int)=some z:=zY (xs:=x::xs) (by rw[h];simp);rw[e0,aU,e1,e2,aA,mi];show _=bif (Op.bytesLess z.var x.var&&nr (some x) xs)then k else some false
     cases Op.bytesLess z.var x.var<;>rfl
theorem Vn(b:aI)(h:PB b):jw b=some (gw b):=by
 unfold jw gw;have t:=fun k=>Rv (isV:=gm) (isA:=ey) (a:=b) (L:=j6 b k) (k:=k) (by have:=h.1;omega) T6 Mn (fun _=>rfl) (fun _ _ _=>rfl) b [] rfl h.2
 refine(t _).trans ?_;have e:decide (((b.map aK.c).length:Int)<=6)=decide (b.length<=6):=by rw[aa];congr 1;rw[Cd];omega
 rw[e];show(bif nr none b then _ else _)=_;cases nr none b<;>rfl
theorem Vb(b:aI)(h:PB b):jk b=some (gw b):=by
 unfold jk gw;have t:=fun k=>Rv (isV:=kL) (isA:=ed) (a:=b) (L:=gT b k) (k:=k) (by have:=h.1;omega) Wq Me (fun _=>rfl) (fun _ _ _=>rfl) b [] rfl h.2
 rw[show gT b (some true) b 0=_ from t _];by_cases h6:b.length<=6
 ·have e:decide (((b.map aK.c).length:Int)>6)=false:=by rw[aa];simp;omega
  rw[e,af,bn h6,vI];show(bif nr none b then _ else _)=_;cases nr none b<;>rfl
 ·have e:decide (((b.map aK.c).length:Int)>6)=true:=by rw[aa];simp;omega
  rw[e,aU,bB h6,wQ]
def cw(t:Bytes):aI->Option Bytes
 | []=>none
 |x::xs=>bif x.var==t then some x.value else cw t xs
def ou(b:aI)(t:Bytes):Bytes×Bool:=bif fZ t then(t,true)else bif ez t then(match cw t b with|some v=>(v,true)|none=>([],false))else([],false)
theorem a2Q(b:aI)(t:Bytes)(ht:t.length<=1048576):n9 b t=some (ou b t):=by
 unfold n9 ou;have key:∀(l:aI) (i:Nat),gq b t (some ([],false)) l i=some (bif ez t then(match cw t l with|some v=>(v,true)|none=>([],false))else([],false)):=by
  intro l
  induction l with
  |nil=>intro i;rw[gq];cases ez t<;>rfl
  |cons x xs ih=>
   intro i;rw[gq,T6 t ht,aA,ih];simp only[cw];cases x.var==t<;>cases ez t<;>rfl
 rw[Mn t ht,aA,key];cases fZ t<;>rfl
theorem a1r(b:aI)(t:Bytes)(ht:t.length<=1048576):mq b t=some (ou b t):=by
 unfold mq ou;have key:∀(l:aI) (i:Nat),kN b t (some ([],false)) l i=some (match cw t l with|some v=>(v,true)|none=>([],false)):=by
  intro l
  induction l with
  |nil=>intro i;rfl
  |cons x xs ih=>
   intro i;rw[kN,ih];simp only[cw];cases x.var==t<;>rfl
 rw[Me t ht,aA,Wq t ht,aA,key];cases fZ t<;>cases ez t<;>rfl
theorem Uk(b:aI)(h:b.length<=1099511627776):qY b=some b:=by
 unfold qY;rw[T5 h (by decide)];simp
theorem ZA(b:aI)(h:b.length<=1099511627776):oU b=some b:=by
 unfold oU;rw[T5 h (by decide)];simp
def wP(v val:Bytes):aI->aI
 | []=>[⟨v,val⟩]
 |x::xs=>bif !(Op.bytesLess x.var v||x.var==v)then⟨v,val⟩::x::xs else x::wP v val xs
theorem CR(v val:Bytes)(b:aI):(wP v val b).length=b.length+1:=by
 induction b with
 |nil=>rfl
 |cons x xs ih=>simp only[wP];cases !(Op.bytesLess x.var v||x.var==v)<;>simp[ih]
theorem T8(v val:Bytes)(b:aI){x:aK}(h:x∈wP v val b):x=⟨v,val⟩\/x∈b:=by
 induction b with
 |nil=>simp[wP]at h;exact .inl h
 |cons y ys ih=>
  simp only[wP]at h;cases hc: !(Op.bytesLess y.var v||y.var==v)with
  |true=>
   rw[hc,aU]at h;rcases bI.1 h with h|h
   ·exact .inl h
   ·exact .inr h
  |false=>
   rw[hc,af]at h;rcases bI.1 h with h|h
   ·exact .inr (by simp[h])
   ·rcases ih h with h|h
    ·exact .inl h
    ·exact .inr (by simp[h])
theorem Vo{γ:Type}{v val:Bytes}{L:aI->Nat->Bool->aI->Option γ}{k:Bool->aI->Option γ}{K:aI->Option γ}(hk1:∀w,k true w=K w)(hk2:∀w:aI,w.length<1099511627770->k false w=K (w++[⟨v,val⟩]))(tC:∀i d w,L [] i d w=k d w)
 (ru:∀x xs i d w,L (x::xs) i d w=(bif !(d)then(bif !(Op.bytesLess x.var v||(x.var:Bytes)==v)then(bif room ((w.map aK.c).length+([[D.str v,D.str val]]).length) 32 then(bif room (((w.map aK.c)++([[D.str v,D.str val]])).length+([[D.str x.var,D.str x.value]]).length) 32 then(L xs (i+1) true ((w++([(⟨v,val⟩:aK)]))++([x])))else none)else none)else(bif room ((w.map aK.c).length+([[D.str x.var,D.str x.value]]).length) 32 then(L xs (i+1) d (w++([x])))else none))else(bif room ((w.map aK.c).length+([[D.str x.var,D.str x.value]]).length) 32 then(L xs (i+1) d (w++([x])))else none))):
 ∀(l:aI) (i:Nat) (w:aI),w.length+l.length<1099511627760->L l i false w=K (w++wP v val l):=by
 have c1:∀(l:aI) (i:Nat) (w:aI),w.length+l.length<1099511627765->L l i true w=K (w++l):=by
  intro l
  induction l with
  |nil=>intro i w _;rw[tC,hk1,cO]
  |cons x xs ih=>
   intro i w hw;simp only[aL]at hw;rw[ru,bW,af,ni (by omega) (by decide),aU,ih (i+1) (w++[x]) (by simp;omega)];simp
 intro l
 induction l with
 |nil=>intro i w hw;simp only[bG]at hw;rw[tC,hk2 _ (by omega)];rfl
 |cons x xs ih=>
  intro i w hw;simp only[aL]at hw;have r1:∀y:aQ,room ((w.map aK.c).length+([y]).length) 32=true:=fun y=>ni (by omega) (by decide)
  have r2:room (((w.map aK.c)++([[D.str v,D.str val]])).length+([[D.str x.var,D.str x.value]]).length) 32=true:=Oh (by simp;omega) (by decide);have t1:=ih (i+1) (w++[x]) (by simp;omega);have t2:=c1 xs (i+1) ((w++[⟨v,val⟩])++[x]) (by simp;omega);rw[ru,eY,aU,r1,r1,r2];simp only[aU,wP];cases !(Op.bytesLess x.var v||x.var==v)with
  |true=>rw[aU,aU,t2];simp
  |false=>rw[af,af,t1];simp
theorem a3l(b:aI)(v val:Bytes)(h:b.length<1099511627700):ug b v val=some (wP v val b):=by
 unfold ug;exact Vo (v:=v) (val:=val) (K:=fun w=>some w) (L:=lI b v val (fun(z:Bool) (q:aI)=>(bif !(z)then(bif room ((q.map aK.c).length+([[D.str v,D.str val]]).length) 32 then(some (q++([(⟨v,val⟩:aK)])))else none)else(some q)))) (fun w=>rfl) (fun w hw=>by show(bif !false then _ else _)=_;rw[ni (by omega) (by decide)];rfl) (fun _ _ _=>rfl) (fun _ _ _ _ _=>rfl) b 0 [] (by simp;omega)
def xm(b:aI)(v val:Bytes):aI×Bool:=bif gw b&&(ez v&&fZ val)then(match cw v b with|some o=>bif o==val then(b,true)else([],false)|none=>bif decide (b.length=6)then([],false)else(wP v val b,true))else([],false)
theorem VN{b:aI}{v val:Bytes}(h:PB b)(hv:v.length<=1048576)(hl:val.length<=1048576):PB (xm b v val).1:=by
 unfold xm;cases hb:gw b&&(ez v&&fZ val)with
 |false=>exact PB.nil
 |true=>
  rw[aU];have h6:b.length<=6:=GP (by simp only[aZ]at hb;exact hb.1);cases cw v b with
  |some o=>simp only;cases o==val<;>first|exact h|exact PB.nil
  |none=>
   simp only;cases decide (b.length=6)with
   |true=>exact PB.nil
   |false=>
    refine⟨by simp only[af,CR];omega,fun x hx=>?_⟩;rcases T8 _ _ _ hx with rfl|hx
    ·exact⟨hv,hl⟩
    ·exact h.2 x hx
theorem aAT(b:aI)(v val:Bytes)(h:PB b)(hv:v.length<=1048576)(hl:val.length<=1048576):tS b v val=some (xm b v val):=by
 unfold tS xm;have hlen:=h.1;rw[Vn b h,aA,T6 v hv,aA,Mn val hl,aA,a2Q b v hv,aA,Uk b (by omega),aA,a3l b v val (by omega),aA];have e6:((((b.map aK.c).length:Int):Int)==6)=decide (b.length=6):=by
  rw[aa,bf];simp;omega
 rw[e6];cases hb:gw b with
 |false=>rfl
 |true=>
  cases hvv:ez v with
  |false=>rfl
  |true=>
   cases fZ val with
   |false=>rfl
   |true=>
    have MF:ou b v=(match cw v b with|some o=>(o,true)|none=>([],false)):=by unfold ou;rw[oM hvv,hvv];rfl
    rw[MF];simp only[bW,af,eP,vI,aU];cases cw v b with
    |some o=>simp only[aU];cases o==val<;>rfl
    |none=>simp only[af];cases decide (b.length=6)<;>rfl
theorem a7A(b:aI)(v val:Bytes)(h:PB b)(hv:v.length<=1048576)(hl:val.length<=1048576):qN b v val=some (xm b v val):=by
 unfold qN xm;have hlen:=h.1;have t:=(Vo (v:=v) (val:=val) (K:=fun w=>some ((w,true):aI×Bool)) (L:=ji b v val (fun(z:Bool) (q:aI)=>(bif !(z)then(bif room ((q.map aK.c).length+([[D.str v,D.str val]]).length) 32 then(some (q++([(⟨v,val⟩:aK)]),true))else none)else(some (q,true))))) (fun w=>rfl) (fun w hw=>by show(bif !false then _ else _)=_;rw[ni (by omega) (by decide)];rfl) (fun _ _ _=>rfl) (fun _ _ _ _ _=>rfl) b 0 [] (by simp;omega))
 rw[Vb b h,aA,Wq v hv,aA,Me val hl,aA,a1r b v hv,aA,ZA b (by omega),aA,t];cases hb:gw b with
 |false=>rfl
 |true=>
  have h6:=GP hb;have e6:decide ((((b.map aK.c).length:Int):Int)>=6)=decide (b.length=6):=by
   rw[aa];congr 1;rw[Cd];omega
  rw[e6];cases hvv:ez v with
  |false=>rfl
  |true=>
   cases fZ val with
   |false=>rfl
   |true=>
    have MF:ou b v=(match cw v b with|some o=>(o,true)|none=>([],false)):=by unfold ou;rw[oM hvv,hvv];rfl
    rw[MF];simp only[bW,af,eP,vI,aU];cases cw v b with
    |some o=>simp only[aU];cases o==val<;>rfl
    |none=>simp only[af];cases decide (b.length=6)<;>rfl
def tE:aH->aH->aI->aI×Bool
 | [],_,w=>(w,true)
 |_::_,[],_=>([],false)
 |x::xs,y::ys,w=>bif fZ x then(bif x==y then tE xs ys w else([],false))else(bif (xm w x y).2 then tE xs ys (xm w x y).1 else([],false))
def qJ(p f:aG)(b:aI):aI×Bool:=bif yT p&&(zO f&&(gw b&&(p.rel==f.rel&&decide (p.args.length=f.args.length))))then tE p.args f.args b else([],false)
theorem Qk:∀(l r:aH) (w:aI),PB w->(∀x∈l,x.length<=1048576)->(∀x∈r,x.length<=1048576)->PB (tE l r w).1
 | [],_,w,h,_,_=>h
 |_::_,[],_,_,_,_=>PB.nil
 |x::xs,y::ys,w,h,hl,hr=>by
  simp only[tE];have i1:=Qk xs ys w h (fun z hz=>hl z (by simp[hz])) (fun z hz=>hr z (by simp[hz]));have i2:=Qk xs ys (xm w x y).1 (VN h (hl x (by simp)) (hr y (by simp))) (fun z hz=>hl z (by simp[hz])) (fun z hz=>hr z (by simp[hz]));cases fZ x with
  |true=>cases x==y<;>first|exact i1|exact PB.nil
  |false=>cases(xm w x y).2<;>first|exact i2|exact PB.nil
theorem a25{p f:aG}{b:aI}(hb:PB b)(hp:p.wt<=1048576)(hf:f.wt<=1048576):PB (qJ p f b).1:=by
 unfold qJ;cases yT p&&(zO f&&(gw b&&(p.rel==f.rel&&decide (p.args.length=f.args.length))))with
 |false=>exact PB.nil
 |true=>exact Qk _ _ _ hb (fun x hx=>aG.tZ hp hx) (fun x hx=>aG.tZ hf hx)
theorem Vf{isA:Bytes->Option Bool}{ext:aI->Bytes->Bytes->Option (aI×Bool)}{fa:aH}{L:aH->Nat->aI->Option (aI×Bool)}(hA:∀x:Bytes,x.length<=1048576->isA x=some (fZ x))(hE:∀w x y,PB w->x.length<=1048576->y.length<=1048576->ext w x y=some (xm w x y))(tC:∀i w,L [] i w=some (w,true))
 (ru:∀x xs i w,L (x::xs) i w=((isA x).bind fun y=>(bif y then((nF fa (i:Int)).bind fun z=>(bif !((x:Bytes)==z)then(some ([],false))else(L xs (i+1) w)))else((nF fa (i:Int)).bind fun z=>((ext w x z).bind fun q=>(bif !(q.2)then(some ([],false))else(L xs (i+1) q.1))))))):
 ∀(l pre rest:aH) (w:aI),fa=pre++rest->l.length=rest.length->(∀x∈l,x.length<=1048576)->(∀x∈rest,x.length<=1048576)->PB w->L l pre.length w=some (tE l rest w):=by
 intro l
 induction l with
 |nil=>intro pre rest w _ _ _ _ _;rw[tC];simp[tE]
 |cons x xs ih=>
  intro pre rest w h hl hx hr hw;cases rest with
  |nil=>simp at hl
  |cons y ys=>
   have t:=fun w' hw'=>ih (pre++[y]) ys w' (by simp[h]) (by simpa using hl) (fun z hz=>hx z (by simp[hz])) (fun z hz=>hr z (by simp[hz])) hw'
   simp only[aS,gh]at t;rw[ru,hA x (hx x (by simp)),aA,zY h,aA,aA,hE w x y hw (hx x (by simp)) (hr y (by simp)),aA];simp only[tE];cases fZ x with
   |true=>
    simp only[aU];cases x==y with
    |true=>simp only[bW,af,aU];exact t w hw
    |false=>rfl
   |false=>
    simp only[af];cases hq:(xm w x y).2 with
    |true=>simp only[bW,af,aU];exact t _ (VN hw (hx x (by simp)) (hr y (by simp)))
    |false=>rfl
theorem ZS(a b:aH):((((a.map tx).length:Int):Int) != ((b.map tx).length:Int))= !decide (a.length=b.length):=by
 rw[aa,aa];by_cases h:a.length=b.length
 ·simp[h]
 ·rw[bB h];simp;omega
theorem a7y(p f:aG)(b:aI)(hp:p.wt<=1048576)(hf:f.wt<=1048576)(hb:PB b):jy p f b=some (qJ p f b):=by
 unfold jy qJ;have hlen:=hb.1;rw[a5V p hp,aA,a3g f hf,aA,Vn b hb,aA,Uk b (by omega),aA,ZS];cases yT p with
 |false=>rfl
 |true=>
  cases zO f with
  |false=>rfl
  |true=>
   cases gw b with
   |false=>rfl
   |true=>
    cases p.rel==f.rel with
    |false=>rfl
    |true=>
     by_cases h:p.args.length=f.args.length
     ·rw[bn h];have t:=Vf (isA:=ey) (ext:=tS) (fa:=f.args) (L:=j9 p f (fun(q:aI)=>(some (q,true)))) Mn (fun w x y hw hx hy=>aAT w x y hw hx hy) (fun _ _=>rfl) (fun _ _ _ _=>rfl) p.args [] f.args b rfl h (fun x hx=>aG.tZ hp hx) (fun x hx=>aG.tZ hf hx) hb;exact t
     ·rw[bB h];rfl
theorem a7H(p f:aG)(b:aI)(hp:p.wt<=1048576)(hf:f.wt<=1048576)(hb:PB b):jl p f b=some (qJ p f b):=by
 unfold jl qJ;have hlen:=hb.1;rw[a4q p hp,aA,a36 f hf,aA,Vb b hb,aA,ZA b (by omega),aA,ZS];cases yT p with
 |false=>rfl
 |true=>
  cases zO f with
  |false=>rfl
  |true=>
   cases gw b with
   |false=>rfl
   |true=>
    cases p.rel==f.rel with
    |false=>rfl
    |true=>
     by_cases h:p.args.length=f.args.length
     ·rw[bn h];have t:=Vf (isA:=ed) (ext:=qN) (fa:=f.args) (L:=ir p f (fun(q:aI)=>(some (q,true)))) Me (fun w x y hw hx hy=>a7A w x y hw hx hy) (fun _ _=>rfl) (fun _ _ _ _=>rfl) p.args [] f.args b rfl h (fun x hx=>aG.tZ hp hx) (fun x hx=>aG.tZ hf hx) hb;exact t
     ·rw[bB h];rfl
def ltB(l r:Bytes):Bool:=match EQ l,EQ r with|some x,some y=>decide (x<y)|_,_=>false
def UA(c:aM)(b:aI):Bool:=IM c&&(gw b&&((ou b c.left).2&&((ou b c.right).2&&(bif decide (c.kind=3)then(ou b c.left).1==(ou b c.right).1 else bif decide (c.kind=4)then !((ou b c.left).1==(ou b c.right).1)else ltB (ou b c.left).1 (ou b c.right).1))))
theorem xz(a b:Int):(a==b)=decide (a=b):=by rw[bf];simp
theorem a7x(c:aM)(b:aI)(hc:c.wt<=1048576)(hb:PB b):rU c b=some (UA c b):=by
 unfold rU UA;rw[a0E c hc,aA,Vn b hb,aA,a2Q b c.left (aM.BD hc),aA,a2Q b c.right (aM.yV hc),aA,xz,xz];cases IM c with
 |false=>rfl
 |true=>
  cases gw b with
  |false=>rfl
  |true=>
   cases(ou b c.left).2 with
   |false=>rfl
   |true=>
    cases(ou b c.right).2 with
    |false=>rfl
    |true=>
     cases decide (c.kind=3)with
     |true=>rfl
     |false=>
      cases decide (c.kind=4)with
      |true=>rfl
      |false=>
       simp only[bW,af,eP];unfold sw ltB;rw[R5,aA,aA,R5,aA,aA,a3e,aA];unfold pI PE;cases EQ (ou b c.left).1 with
       |none=>rfl
       |some x=>
        cases EQ (ou b c.right).1 with
        |none=>rfl
        |some y=>
         simp only[aU]
         congr 1
         unfold WT;by_cases h:x<y
         ·have h1:(x:Int)<y:=by omega
          simp[h1,h]
         ·have h1:¬(x:Int)<y:=by omega
          by_cases h2:(x:Int)>y
          ·simp[h1,h,h2]
          ·simp[h1,h,h2]
theorem a7G(c:aM)(b:aI)(hc:c.wt<=1048576)(hb:PB b):qu c b=some (UA c b):=by
 unfold qu UA;rw[a7M c hc,aA,Vb b hb,aA,a1r b c.left (aM.BD hc),aA,a1r b c.right (aM.yV hc),aA,xz,xz];cases IM c with
 |false=>rfl
 |true=>
  cases gw b with
  |false=>rfl
  |true=>
   cases(ou b c.left).2 with
   |false=>rfl
   |true=>
    cases(ou b c.right).2 with
    |false=>rfl
    |true=>
     cases decide (c.kind=3)with
     |true=>rfl
     |false=>
      cases decide (c.kind=4)with
      |true=>rfl
      |false=>
       simp only[bW,af,eP];unfold ltB;rw[Qc,aA,Qc,aA];unfold pI;cases EQ (ou b c.left).1 with
       |none=>rfl
       |some x=>
        cases EQ (ou b c.right).1 with
        |none=>rfl
        |some y=>
         simp only[aU]
         congr 1
         by_cases h:x<y
         ·simp[h]
         ·simp[h]
def ze(p:aG)(b:aI)(fs:aX):aX:=fs.filter fun f=>(qJ p f b).2
def FS(fs:aX):Prop:=fs.length<=1048576/\∀f∈fs,f.wt<=1048576
theorem FS.of{fs:aX}(h:kD aG.wt fs<=1048576):FS fs:=⟨by have:=gN aG.wt fs;omega,fun f hf=>by have:=gu (w:=aG.wt) hf;omega⟩
theorem VR{γ:Type}{mf:aG->Option (aI×Bool)}{cp:aG->Option aG}{p:aG}{b:aI}{L:aX->Nat->aX->Option γ}{k:aX->Option γ}(hm:∀f:aG,f.wt<=1048576->mf f=some (qJ p f b))(hc:∀f:aG,f.wt<=1048576->cp f=some f)(tC:∀i w,L [] i w=k w)
 (ru:∀x xs i w,L (x::xs) i w=((mf x).bind fun y=>(bif y.2 then((cp x).bind fun z=>(bif room ((w.map aG.c).length+([[D.str z.rel,D.sl (z.args.map tx)]]).length) 40 then(L xs (i+1) (w++([z])))else none))else(L xs (i+1) w)))):
 ∀(l:aX) (i:Nat) (w:aX),(∀f∈l,f.wt<=1048576)->w.length+l.length<1099511627700->L l i w=k (w++ze p b l):=by
 intro l
 induction l with
 |nil=>intro i w _ _;rw[tC];simp[ze]
 |cons x xs ih=>
  intro i w hl hw;simp only[aL]at hw;have hx:=hl x (by simp);rw[ru,hm x hx,aA,hc x hx,aA,ni (by omega) (by decide),aU];have e:ze p b (x::xs)=bif (qJ p x b).2 then x::ze p b xs else ze p b xs:=by
   unfold ze;rw[List.filter_cons];cases(qJ p x b).2<;>rfl
  rw[e];cases(qJ p x b).2 with
  |true=>rw[aU,aU,ih _ _ (fun f hf=>hl f (by simp[hf])) (by simp;omega)];simp
  |false=>rw[af,af,ih _ _ (fun f hf=>hl f (by simp[hf])) (by omega)]
theorem a7s(p:aG)(b:aI)(fs:aX)(hp:p.wt<=1048576)(hb:PB b)(hf:FS fs):iC p b fs=some (ze p b fs):=by
 unfold iC;have h1:=hf.1;refine(VR (mf:=fun f=>jy p f b) (cp:=kG) (p:=p) (b:=b) (L:=fT p b fs _) (k:=fun q=>some q) (fun f h=>a7y p f b hp h hb) (fun f h=>Uj f (by have:=aG.fJ h;omega)) (fun _ _=>rfl) (fun _ _ _ _=>rfl) fs 0 [] hf.2 (by simp;omega)).trans ?_;simp
theorem a7D(p:aG)(b:aI)(fs:aX)(hp:p.wt<=1048576)(hb:PB b)(hf:FS fs):gz p b fs=some (ze p b fs):=by
 unfold gz;have h1:=hf.1;refine(VR (mf:=fun f=>jl p f b) (cp:=iP) (p:=p) (b:=b) (L:=fQ p b fs _) (k:=fun q=>some q) (fun f h=>a7H p f b hp h hb) (fun f h=>UK f (by have:=aG.fJ h;omega)) (fun _ _=>rfl) (fun _ _ _ _=>rfl) fs 0 [] hf.2 (by simp;omega)).trans ?_;simp
def EP(c:aM)(b:aI)(fs:aX):Bool:=mm c&&(gw b&&(bif decide (c.kind=1)then decide (0<(ze c.pat b fs).length)else bif decide (c.kind=2)then decide ((ze c.pat b fs).length=0)else UA c b))
theorem ZR(l:aX):decide ((((l.map aG.c).length:Int):Int)>0)=decide (0<l.length):=by rw[aa];congr 1;rw[Cd];omega
theorem len_eq(l:aX):((((l.map aG.c).length:Int):Int)==0)=decide (l.length=0):=by rw[aa,xz];congr 1;rw[Cd];omega
theorem a7w(c:aM)(b:aI)(fs:aX)(hc:c.wt<=1048576)(hb:PB b)(hf:FS fs):rT c b fs=some (EP c b fs):=by
 unfold rT EP;rw[a01 c hc,aA,Vn b hb,aA,a7s c.pat b fs (aM.fX hc) hb hf,aA,aA,a7x c b hc hb,aA,xz,xz,ZR,len_eq];cases mm c with
 |false=>rfl
 |true=>
  cases gw b with
  |false=>rfl
  |true=>cases decide (c.kind=1)<;>cases decide (c.kind=2)<;>rfl
theorem a7F(c:aM)(b:aI)(fs:aX)(hc:c.wt<=1048576)(hb:PB b)(hf:FS fs):qt c b fs=some (EP c b fs):=by
 unfold qt EP;rw[Z7 c hc,aA,Vb b hb,aA,a7D c.pat b fs (aM.fX hc) hb hf,aA,aA,a7G c b hc hb,aA,xz,xz,ZR,len_eq];cases mm c with
 |false=>rfl
 |true=>
  cases gw b with
  |false=>rfl
  |true=>cases decide (c.kind=1)<;>cases decide (c.kind=2)<;>rfl
end Go.Cx
namespace Go.Cx
open Go.RowKit Go.Proofs Tryz
def Fix(h:Bytes->Bytes):Prop:=∀y,fZ y=true->h y=y
theorem uj{t v val:Bytes}(h:v≠t):∀(w:aI),cw t (wP v val w)=cw t w
 | []=>by
  have:(v==t)=false:=by simpa using h
  simp only[wP,cw,this,af]
 |x::xs=>by
  have hv:(v==t)=false:=by simpa using h
  rw[wP];cases !(Op.bytesLess x.var v||x.var==v)with
  |true=>rw[aU,cw];simp only[hv,af]
  |false=>rw[af,cw,cw,uj h xs]
theorem CH{v val:Bytes}:∀(w:aI),cw v w=none->cw v (wP v val w)=some val
 | [],_=>by simp[wP,cw]
 |x::xs,h=>by
  rw[cw]at h;rw[wP];cases hx:x.var==v with
  |true=>rw[hx]at h;cases h
  |false=>
   rw[hx,af]at h;cases !(Op.bytesLess x.var v||false)with
   |true=>rw[aU,cw];simp
   |false=>rw[af,cw,hx,af];exact CH xs h
theorem xo{t o:Bytes}:∀ {w:aI},cw t w=some o->∃p∈w,p.var=t/\p.value=o
 |x::xs,h=>by
  rw[cw]at h;cases hx:x.var==t with
  |true=>rw[hx,aU]at h;cases h;exact⟨x,by simp,by simpa using hx,rfl⟩
  |false=>
   rw[hx,af]at h;obtain⟨p,hp,h1⟩:=xo h;exact⟨p,by simp[hp],h1⟩
theorem Nu{t:Bytes}:∀ {w:aI},cw t w=none->∀p∈w,p.var≠t
 |x::xs,h,p,hp=>by
  rw[cw]at h;cases hx:x.var==t with
  |true=>rw[hx]at h;cases h
  |false=>
   rw[hx,af]at h;rcases bI.1 hp with rfl|hp
   ·simpa using hx
   ·exact Nu h p hp
theorem pq(p:Option aK)(x:aK)(xs:aI):nr p (x::xs)=(ez x.var&&(fZ x.value&&((match p with|some q=>Op.bytesLess q.var x.var|none=>true)&&nr (some x) xs))):=by
 cases p<;>rfl
theorem Pc{v val:Bytes}(hv:ez v=true)(ha:fZ val=true):∀(w:aI) (p:Option aK),nr p w=true->cw v w=none->(∀q,p=some q->Op.bytesLess q.var v=true)->nr p (wP v val w)=true
 | [],p,_,_,hp=>by
  simp only[wP,nr,hv,ha,eP,vI];cases p with
  |none=>rfl
  |some q=>exact hp q rfl
 |x::xs,p,hc,hf,hp=>by
  rw[pq]at hc;simp only[aZ]at hc;obtain⟨c1,c2,c3,c4⟩:=hc;rw[cw]at hf;cases hx:x.var==v with
  |true=>rw[hx]at hf;cases hf
  |false=>
   rw[hx,af]at hf;rw[wP,hx,tF];cases hl:Op.bytesLess x.var v with
   |true=>
    rw[bW,af,pq];simp only[aZ];exact⟨c1,c2,c3,Pc hv ha xs (some x) c4 hf (fun q hq=>by cases hq;exact hl)⟩
   |false=>
    have h2:Op.bytesLess v x.var=true:=by
     cases h3:Op.bytesLess v x.var with
     |true=>rfl
     |false=>
      have:=IW hl h3;rw[this]at hx;simp at hx
    rw[eY,aU,pq];simp only[aZ];refine⟨hv,ha,?_,?_⟩
    ·cases p with
     |none=>rfl
     |some q=>exact hp q rfl
    ·rw[pq];simp only[aZ];exact⟨c1,c2,h2,c4⟩
theorem Ed{v val:Bytes}{w:aI}(hv:ez v=true)(ha:fZ val=true)(hb:gw w=true)(hf:cw v w=none)(hl:w.length≠6):gw (wP v val w)=true:=by
 have h6:=GP hb;unfold gw at hb⊢;rw[aZ]at hb⊢;exact⟨Pc hv ha w none hb.1 hf (fun q h=>by cases h),by rw[CR];simp;omega⟩
theorem RF{p:aG}(h:yT p=true):∀t∈p.args,nk t=true:=by
 unfold yT at h;rw[aZ]at h;exact fun t ht=>b8.1 h.1 t ht
end Go.Cx
namespace Go.Cx
open Go.RowKit Go.Proofs Tryz
theorem Oi(l:aX)(h:l.length<=1048576)(hf:∀f∈l,f.args.length<=1048576):lH l=some l:=by
 unfold lH;refine(NE (c:=aG.c) (b:=40) (f:=kG) (g:=fun x=>x) (L:=mT l _) (k:=fun q=>some q) (by decide) (fun _ _=>rfl) (fun _ _ _ _=>rfl) l 0 [] (fun f h=>Uj f (by have:=hf f h;omega)) (by simp;omega)).trans ?_;simp
theorem O9(l:aX)(h:l.length<=1048576)(hf:∀f∈l,f.args.length<=1048576):jr l=some l:=by
 unfold jr;refine(NE (c:=aG.c) (b:=40) (f:=iP) (g:=fun x=>x) (L:=kr l _) (k:=fun q=>some q) (by decide) (fun _ _=>rfl) (fun _ _ _ _=>rfl) l 0 [] (fun f h=>UK f (by have:=hf f h;omega)) (by simp;omega)).trans ?_;simp
def TK(n:Nat)(t:aR):Prop:=t.facts.length<=n/\(∀f∈t.facts,f.wt<=1048576)/\PB t.bind
theorem TK.le{n m:Nat}{t:aR}(h:TK n t)(hm:n<=m):TK m t:=⟨by have:=h.1;omega,h.2⟩
theorem a5P(t:aR)(h:TK 1048576 t):vV t=some t:=by
 unfold vV;rw[Oi t.facts h.1 (fun f hf=>by have:=aG.fJ (h.2.1 f hf);omega),aA,Uk t.bind (by have:=h.2.2.1;omega),aA]
def ext1(c:aM)(t:aR)(f:aG):av:=bif (qJ c.pat f t.bind).2 then [⟨t.facts++[f],(qJ c.pat f t.bind).1⟩]else []
def Jk(c:aM)(fs:aX)(t:aR):av:=bif decide (c.kind=1)then fs.flatMap (ext1 c t)else bif EP c t.bind fs then [t]else []
def x8(fs:aX)(l:av)(c:aM):av:=l.flatMap (Jk c fs)
def B4(cs:ai)(fs:aX):av:=cs.foldl (x8 fs) [⟨[],[]⟩]
theorem YZ(c:aM)(t:aR)(f:aG):(ext1 c t f).length<=1:=by unfold ext1;cases(qJ c.pat f t.bind).2<;>simp
theorem Nt(c:aM)(t:aR)(fs:aX):(fs.flatMap (ext1 c t)).length<=fs.length:=by
 induction fs with
 |nil=>simp
 |cons f fs ih=>rw[cT,aS];have:=YZ c t f;simp only[aL];omega
theorem OS(c:aM)(fs:aX)(t:aR):(Jk c fs t).length<=fs.length+1:=by
 unfold Jk;cases decide (c.kind=1)with
 |true=>have:=Nt c t fs;rw[aU];omega
 |false=>cases EP c t.bind fs<;>simp
theorem OT(fs:aX)(l:av)(c:aM):(x8 fs l c).length<=l.length*(fs.length+1):=by
 unfold x8
 induction l with
 |nil=>simp
 |cons t l ih=>rw[cT,aS,aL,Cc];have:=OS c fs t;omega
theorem a2D{c:aM}{fs:aX}{t:aR}{n:Nat}(h:TK n t)(hc:c.wt<=1048576)(hf:FS fs):∀u∈Jk c fs t,TK (n+1) u:=by
 intro u hu;unfold Jk at hu;cases hk:decide (c.kind=1)with
 |false=>
  rw[hk,af]at hu;cases hh:EP c t.bind fs with
  |false=>rw[hh]at hu;cases hu
  |true=>
   rw[hh,aU,cx]at hu;subst hu;exact h.le (by omega)
 |true=>
  rw[hk,aU]at hu;obtain⟨f,hf1,hu⟩:=br.1 hu;unfold ext1 at hu;cases hm:(qJ c.pat f t.bind).2 with
  |false=>rw[hm]at hu;cases hu
  |true=>
   rw[hm,aU,cx]at hu;subst hu;refine⟨by have:=h.1;simp;omega,?_,a25 h.2.2 (aM.fX hc) (hf.2 f hf1)⟩;intro g hg;rcases aj.1 hg with hg|hg
   ·exact h.2.1 g hg
   ·rw[cx]at hg;rw[hg];exact hf.2 f hf1
theorem Qq{c:aM}{fs:aX}{l:av}{n:Nat}(h:∀t∈l,TK n t)(hc:c.wt<=1048576)(hf:FS fs):∀u∈x8 fs l c,TK (n+1) u:=by
 intro u hu;obtain⟨t,ht,hu⟩:=br.1 hu;exact a2D (h t ht) hc hf u hu
theorem VO{γ:Type}{mf:aG->Option (aI×Bool)}{cps:Option aX}{cp:aG->Option aG}{c:aM}{t:aR}{L:aX->Nat->av->Option γ}{k:av->Option γ}(hm:∀f:aG,f.wt<=1048576->mf f=some (qJ c.pat f t.bind))(hcs:cps=some t.facts)(hc:∀f:aG,f.wt<=1048576->cp f=some f)(ht:t.facts.length<=1048576)(tC:∀i w,L [] i w=k w)
 (ru:∀x xs i w,L (x::xs) i w=((mf x).bind fun y=>(bif y.2 then(cps.bind fun q=>((cp x).bind fun z=>(bif room ((q.map aG.c).length+([[D.str z.rel,D.sl (z.args.map tx)]]).length) 40 then(bif room ((w.map aR.c).length+([[D.sl ((q.map aG.c)++([[D.str z.rel,D.sl (z.args.map tx)]])),D.sl (y.1.map aK.c)]]).length) 48 then(L xs (i+1) (w++([(⟨q++([z]),y.1⟩:aR)])))else none)else none)))else(L xs (i+1) w)))):
 ∀(l:aX) (i:Nat) (w:av),(∀f∈l,f.wt<=1048576)->w.length+l.length<1099511627770->L l i w=k (w++l.flatMap (ext1 c t)):=by
 intro l
 induction l with
 |nil=>intro i w _ _;rw[tC];simp
 |cons x xs ih=>
  intro i w hl hw;simp only[aL]at hw;have hx:=hl x (by simp);rw[ru,hm x hx,aA,hcs,aA,hc x hx,aA,ni (by omega) (by decide),aU,ni (by omega) (by decide),aU,cT];rw[show ext1 c t x=bif (qJ c.pat x t.bind).2 then [⟨t.facts++[x],(qJ c.pat x t.bind).1⟩]else []from rfl];cases(qJ c.pat x t.bind).2 with
  |true=>rw[aU,aU,ih _ _ (fun f hf=>hl f (by simp[hf])) (by simp;omega)];simp
  |false=>rw[af,af,ih _ _ (fun f hf=>hl f (by simp[hf])) (by omega)];simp
theorem Ve(c:aM):((c.kind:Int) != 1)= !decide (c.kind=1):=by
 show(!((c.kind:Int)==1))=_;rw[xz]
theorem a5U(l0:av)(c:aM)(fs:aX)(k:av->Option av)(hc:c.wt<=1048576)(hf:FS fs):∀(l:av) (i:Nat) (w:av),(∀t∈l,TK 1048576 t)->w.length+l.length*(fs.length+1)<1099511627700->gP l0 c fs k l i w=k (w++x8 fs l c):=by
 intro l;have h1:=hf.1
 induction l with
 |nil=>intro i w _ _;rw[gP];simp[x8]
 |cons t l ih=>
  intro i w hl hw;rw[aL,Cc]at hw;have ht:=hl t (by simp);have e:x8 fs (t::l) c=Jk c fs t++x8 fs l c:=by simp[x8]
  have hn:=OS c fs t;have he:=Nt c t fs;rw[gP,Ve,a7w c t.bind fs hc ht.2.2 hf,aA,a5P t ht,aA,ni (by omega) (by decide),aU,uz (by omega),aU,e];rw[VO (mf:=fun f=>jy c.pat f t.bind) (cps:=lH t.facts) (cp:=kG) (c:=c) (t:=t) (L:=mX l0 c fs i t _) (k:=_) (fun f h=>a7y c.pat f t.bind (aM.fX hc) h ht.2.2) (Oi t.facts ht.1 (fun f hf=>by have:=aG.fJ (ht.2.1 f hf);omega)) (fun f h=>Uj f (by have:=aG.fJ h;omega)) ht.1 (fun _ _=>rfl) (fun _ _ _ _=>rfl) fs 0 w hf.2 (by omega)];unfold Jk;cases decide (c.kind=1)with
  |true=>simp only[bW,af,aU];rw[ih _ _ (fun u hu=>hl u (by simp[hu])) (by rw[aS];omega)];simp
  |false=>
   simp only[eY,aU,af];cases EP c t.bind fs with
   |true=>simp only[aU];rw[ih _ _ (fun u hu=>hl u (by simp[hu])) (by rw[aS];simp;omega)];simp
   |false=>simp only[af];rw[ih _ _ (fun u hu=>hl u (by simp[hu])) (by omega)];simp
theorem a7z(l:av)(c:aM)(fs:aX)(hc:c.wt<=1048576)(hf:FS fs)(hl:∀t∈l,TK 1048576 t)(hn:l.length*(fs.length+1)<1099511627700):vW l c fs=some (x8 fs l c):=by
 unfold vW;rw[a5U l c fs _ hc hf l 0 [] hl (by simpa using hn)];simp
theorem Qs:∀t∈[(⟨[],[]⟩:aR)],TK 0 t:=by
 intro t ht;rw[cx]at ht;subst ht;exact⟨by simp,by simp,PB.nil⟩
theorem Zm{n:Nat}(h:n<=4):[(⟨[],[]⟩:aR)].length*25^n<=390625:=by
 have:=uD (n:=25) (by decide) h;simp only[gh,mj];exact this
theorem a5d(c0:ai)(fs:aX)(k:av->Option av)(hf:FS fs)(h24:fs.length<=24):∀(cs:ai) (i:Nat) (w:av) (n:Nat),(∀c∈cs,c.wt<=1048576)->(∀t∈w,TK n t)->n+cs.length<=1048576->w.length*25^cs.length<=390625->jd c0 fs k cs i w=k (cs.foldl (x8 fs) w):=by
 intro cs
 induction cs with
 |nil=>intro i w n _ _ _ _;rfl
 |cons c cs ih=>
  intro i w n hc hw hn hl;simp only[aL]at hn;rw[aL,wU,Cb (25^cs.length) 25,<-I6]at hl;have hp:1<=25^cs.length:=Nat.one_le_pow _ _ (by decide);have DG:w.length*25<=390625:=cU (Bm _ hp) hl;have h25:w.length*(fs.length+1)<=w.length*25:=gS _ (by omega);rw[jd,a7z w c fs (hc c (by simp)) hf (fun t ht=>(hw t ht).le (by omega)) (by omega),aA];refine ih _ _ (n+1) (fun x hx=>hc x (by simp[hx])) (Qq hw (hc c (by simp)) hf) (by omega) ?_;exact cU (dN _ (cU (OT fs w c) h25)) hl
theorem a86(cs:ai)(fs:aX)(hc:∀c∈cs,c.wt<=1048576)(h4:cs.length<=4)(hf:FS fs)(h24:fs.length<=24):tB cs fs=some (B4 cs fs):=by
 unfold tB;exact a5d cs fs _ hf h24 cs 0 _ 0 hc Qs (by omega) (Zm h4)
theorem a1q(c0:ai)(fs:aX)(w0:av)(i1:Nat)(c:aM)(k:av->Option av)(hc:c.wt<=1048576)(hf:FS fs):∀(l:av) (i:Nat) (w:av),(∀t∈l,TK 1048576 t)->w.length+l.length*(fs.length+1)<1099511627700->er c0 fs w0 i1 c k l i w=k (w++x8 fs l c):=by
 intro l;have h1:=hf.1
 induction l with
 |nil=>intro i w _ _;rw[er];simp[x8]
 |cons t l ih=>
  intro i w hl hw;rw[aL,Cc]at hw;have ht:=hl t (by simp);have e:x8 fs (t::l) c=Jk c fs t++x8 fs l c:=by simp[x8]
  have hn:=OS c fs t;have he:=Nt c t fs;rw[er,Ve,a7F c t.bind fs hc ht.2.2 hf,aA,ni (by omega) (by decide),aU,uz (by omega),aU,e];rw[VO (mf:=fun f=>jl c.pat f t.bind) (cps:=jr t.facts) (cp:=iP) (c:=c) (t:=t) (L:=jW c0 fs i w0 t i1 c _) (k:=_) (fun f h=>a7H c.pat f t.bind (aM.fX hc) h ht.2.2) (O9 t.facts ht.1 (fun f hf=>by have:=aG.fJ (ht.2.1 f hf);omega)) (fun f h=>UK f (by have:=aG.fJ h;omega)) ht.1 (fun _ _=>rfl) (fun _ _ _ _=>rfl) fs 0 w hf.2 (by omega)];unfold Jk;cases decide (c.kind=1)with
  |true=>simp only[bW,af,aU];rw[ih _ _ (fun u hu=>hl u (by simp[hu])) (by rw[aS];omega)];simp
  |false=>
   simp only[eY,aU,af];cases EP c t.bind fs with
   |true=>simp only[aU];rw[ih _ _ (fun u hu=>hl u (by simp[hu])) (by rw[aS];simp;omega)];simp
   |false=>simp only[af];rw[ih _ _ (fun u hu=>hl u (by simp[hu])) (by omega)];simp
theorem a4x(c0:ai)(fs:aX)(k:av->Option av)(hf:FS fs)(h24:fs.length<=24):∀(cs:ai) (i:Nat) (w:av) (n:Nat),(∀c∈cs,c.wt<=1048576)->(∀t∈w,TK n t)->n+cs.length<=1048576->w.length*25^cs.length<=390625->jV c0 fs k cs i w=k (cs.foldl (x8 fs) w):=by
 intro cs
 induction cs with
 |nil=>intro i w n _ _ _ _;rfl
 |cons c cs ih=>
  intro i w n hc hw hn hl;simp only[aL]at hn;rw[aL,wU,Cb (25^cs.length) 25,<-I6]at hl;have hp:1<=25^cs.length:=Nat.one_le_pow _ _ (by decide);have DG:w.length*25<=390625:=cU (Bm _ hp) hl;have h25:w.length*(fs.length+1)<=w.length*25:=gS _ (by omega);rw[jV,uz (by omega),aU,a1q c0 fs w i c _ (hc c (by simp)) hf w 0 [] (fun t ht=>(hw t ht).le (by omega)) (by simp only[bG];omega),cL];refine ih _ _ (n+1) (fun x hx=>hc x (by simp[hx])) (Qq hw (hc c (by simp)) hf) (by omega) ?_;exact cU (dN _ (cU (OT fs w c) h25)) hl
theorem a7N(cs:ai)(fs:aX)(hc:∀c∈cs,c.wt<=1048576)(h4:cs.length<=4)(hf:FS fs)(h24:fs.length<=24):sU cs fs=some (B4 cs fs):=by
 unfold sU;exact a4x cs fs _ hf h24 cs 0 _ 0 hc Qs (by omega) (Zm h4)
theorem MP{r:aN}(h:gr r=true):r.conds.length<=4:=by
 unfold gr at h;simp only[aZ,bM]at h;omega
theorem No{r:aN}:∀ {l:ai} {i:Nat},vo r l i=true->∀c∈l,mm c=true
 | [],_,_,c,hc=>by cases hc
 |x::xs,i,h,c,hc=>by
  simp only[vo,aZ]at h;rcases bI.1 hc with rfl|hc
  ·exact h.1.1.1
  ·exact No h.2 c hc
theorem BH{r:aN}(h:gr r=true):∀c∈r.conds,mm c=true:=by
 unfold gr at h;simp only[aZ]at h;exact No h.2.1
theorem GO{l:aX}(h:zA l=true):l.length<=24:=by
 unfold zA at h;simp only[aZ,bM]at h;exact h.2
def tkO(r:aN)(n:Int)(fs:aX):av:=bif gr r&&(zA fs&&(decide (n>=0)&&decide (n<=(r.conds.length:Int))))then B4 (r.conds.take n.toNat) fs else []
theorem a2X{r:aN}(h:r.wt<=1048576)(n:Nat):∀c∈r.conds.take n,c.wt<=1048576:=fun c hc=>aN.py h (cK hc)
theorem a5k{r:aN}{fs:aX}(h1:gr r=true)(h2:zA fs=true){j:Nat}(hj:j<=r.conds.length):tkO r (j:Int) fs=B4 (r.conds.take j) fs:=by
 unfold tkO;rw[h1,h2];have e1:decide ((j:Int)>=0)=true:=by simp
 have e2:decide ((j:Int)<=(r.conds.length:Int))=true:=by simp;omega
 rw[e1,e2];simp
def Za(r:aN)(fs:aX):bq:=(tkO r (r.conds.length:Int) fs).map fun t=>⟨r.name,t.facts,t.bind⟩
theorem TM{cs:ai}{fs:aX}(h4:cs.length<=4)(h24:fs.length<=24):(B4 cs fs).length<=390625:=by
 have key:∀(cs:ai) (w:av),w.length*25^cs.length<=390625->(cs.foldl (x8 fs) w).length<=390625:=by
  intro cs
  induction cs with
  |nil=>intro w h;simpa using h
  |cons c cs ih=>
   intro w h;rw[aL,wU,Cb (25^cs.length) 25,<-I6]at h;refine ih _ ?_;have h25:w.length*(fs.length+1)<=w.length*25:=gS _ (by omega);exact cU (dN _ (cU (OT fs w c) h25)) h
 exact key cs _ (Zm h4)
theorem a2Y(r:aN)(n:Int)(fs:aX):(tkO r n fs).length<=390625:=by
 unfold tkO;cases h1:gr r with
 |false=>simp
 |true=>
  cases h2:zA fs with
  |false=>simp
  |true=>
   have h4:=MP h1;cases(decide (n>=0)&&decide (n<=(r.conds.length:Int)))with
   |false=>simp
   |true=>exact TM (by rw[cJ];omega) (GO h2)
theorem Rr{all:aq}:∀ {l:aq} {i:Nat},PD all l i=true->∀r∈l,gr r=true
 | [],_,_,r,hr=>by cases hr
 |x::xs,i,h,r,hr=>by
  simp only[PD,aZ]at h;rcases bI.1 hr with rfl|hr
  ·exact h.1.1
  ·exact Rr h.2 r hr
theorem Bo{l:aq}(h:zX l=true):∀r∈l,gr r=true:=by
 unfold zX at h;simp only[aZ]at h;exact Rr h.1
end Go.Cx
namespace Go.Cx
open Go.RowKit Go.Proofs Tryz
theorem ML:∀(a b:aH),a.Nodup->(∀x∈a,x∈b)->a.length<=b.length
 | [],b,_,_=>EY _
 |x::xs,b,hn,hs=>by
  rw[dU]at hn;have h1:=ML xs (b.erase x) hn.2 fun y hy=>(List.mem_erase_of_ne (fun e=>hn.1 (by rw[<-e];exact hy))).2 (hs y (by simp[hy]))
  have h2:=qL (hs x (by simp));have h3:0<b.length:=CZ (hs x (by simp));simp only[aL];omega
theorem KE{x:Bytes}(h:fZ x=true):ez x=false:=by
 cases hv:ez x with
 |false=>rfl
 |true=>rw[oM hv]at h;cases h
theorem MQ{r:aN}(h:gr r=true):(eH (yl r.conds)).length<=6:=by
 unfold gr at h;simp only[aZ,bM]at h;omega
theorem Bu{c:aM}(hc:mm c=true)(hk:c.kind=1\/c.kind=2):yT c.pat=true/\c.left=[]/\c.right=[]:=by
 unfold mm at hc;have:(decide (c.kind=1)||decide (c.kind=2))=true:=by simpa using hk
 rw[this,aU]at hc;simp only[aZ,cj]at hc;exact⟨hc.1,hc.2.1,hc.2.2⟩
theorem Nk{c:aM}(hc:mm c=true)(h1:c.kind≠1)(h2:c.kind≠2):(decide (c.kind=3)||decide (c.kind=4)||decide (c.kind=5))=true/\CS c.pat=true/\nk c.left=true/\nk c.right=true:=by
 unfold mm at hc;rw[bB h1,bB h2,tF,af]at hc;cases h:(decide (c.kind=3)||decide (c.kind=4)||decide (c.kind=5))with
 |false=>rw[h]at hc;cases hc
 |true=>
  rw[h,aU]at hc;simp only[aZ]at hc;exact⟨rfl,hc.1,hc.2.1,hc.2.2⟩
theorem MX{p:Option aK}{b:aI}(h:nr p b=true):nr none b=true:=by
 cases b with
 |nil=>rfl
 |cons x xs=>
  rw[pq]at h⊢;simp only[aZ]at h⊢
  first|exact⟨h.1,h.2.1,rfl,h.2.2.2⟩|exact⟨h.1,h.2.1,h.2.2.2⟩|exact⟨h.1,h.2.1,trivial,h.2.2.2⟩
theorem KF:∀ {b:aI} {p:aK},nr (some p) b=true->∀x∈b,Op.bytesLess p.var x.var=true
 |y::ys,p,h,x,hx=>by
  rw[pq]at h;simp only[aZ]at h;rcases bI.1 hx with rfl|hx
  ·exact h.2.2.1
  ·exact A7 h.2.2.1 (KF h.2.2.2 x hx)
theorem MY:∀ {b:aI} {p:Option aK},nr p b=true->(b.map aK.var).Nodup
 | [],_,_=>by simp
 |x::xs,p,h=>by
  rw[pq]at h;simp only[aZ]at h;rw[bD,dU];refine⟨fun hm=>?_,MY h.2.2.2⟩;obtain⟨q,hq,e⟩:=cC.1 hm;have:=KF h.2.2.2 q hq;rw[e,qm]at this;cases this
theorem uI{b:aI}(h:gw b=true):nr none b=true:=by
 unfold gw at h;rw[aZ]at h;exact h.1
theorem Bt:∀ {b:aI} {p:Option aK},nr p b=true->∀x∈b,ez x.var=true/\fZ x.value=true
 |y::ys,p,h,x,hx=>by
  rw[pq]at h;simp only[aZ]at h;rcases bI.1 hx with rfl|hx
  ·exact⟨h.1,h.2.1⟩
  ·exact Bt h.2.2.2 x hx
theorem Pb:∀ {a b:aI},nr none a=true->nr none b=true->(∀v,cw v a=cw v b)->a=b
 | [],[],_,_,_=>rfl
 | [],y::ys,_,_,h=>by have:=h y.var;simp[cw]at this
 |x::xs,[],_,_,h=>by have:=h x.var;simp[cw]at this
 |x::xs,y::ys,ha,hb,h=>by
  have ha0:=ha;have hb0:=hb;rw[pq]at ha hb;simp only[aZ]at ha hb;have key:∀ {u v:aK} {us vs:aI},nr (some u) us=true->nr (some v) vs=true->(∀t,cw t (u::us)=cw t (v::vs))->Op.bytesLess u.var v.var=false:=by
   intro u v us vs hu hv ht;cases hl:Op.bytesLess u.var v.var with
   |false=>rfl
   |true=>
    have h1:=ht u.var;rw[show cw u.var (u::us)=some u.value by simp[cw]]at h1;obtain⟨q,hq,e,_⟩:=xo h1.symm;rcases bI.1 hq with rfl|hq
    ·rw[e,qm]at hl;cases hl
    ·have:=A7 hl (KF hv q hq);rw[e,qm]at this;cases this
  have e1:=key ha.2.2.2 hb.2.2.2 h;have e2:=key hb.2.2.2 ha.2.2.2 (fun t=>(h t).symm);have ev:x.var=y.var:=IW e1 e2;have e3:x.value=y.value:=by
   have:=h x.var;rw[show cw x.var (x::xs)=some x.value by simp[cw],show cw x.var (y::ys)=some y.value by simp[cw,ev]]at this;exact pP this
  have e4:x=y:=by cases x;cases y;cases ev;cases e3;rfl
  subst e4
  congr 1
  refine Pb (MX ha.2.2.2) (MX hb.2.2.2) fun v=>?_
  by_cases hv:x.var=v
  ·have n1:∀ {l:aI},nr (some x) l=true->cw v l=none:=by
    intro l hl;cases hf:cw v l with
    |none=>rfl
    |some o=>
     obtain⟨q,hq,e,_⟩:=xo hf;have:=KF hl q hq;rw[hv,e,qm]at this;cases this
   rw[n1 ha.2.2.2,n1 hb.2.2.2]
  ·have:=h v;have hne:(x.var==v)=false:=by rw[dJ];exact hv
   rw[cw,cw,hne,af,af]at this;exact this
structure WB(U:List Bytes)(b:List aK):Prop where
 ok:gw b=true
 sub:∀p∈b,p.var∈U
theorem WB.nil(U:aH):WB U []:=⟨rfl,fun p h=>by cases h⟩
theorem WB.room{U:aH}(hU:U.length<=6){b:aI}(h:WB U b){x:Bytes}(hx:x∈U)(hf:cw x b=none):b.length≠6:=by
 have h1:(x::b.map aK.var).length<=U.length:=ML _ _ (by
  rw[dU];refine⟨fun hm=>?_,MY (uI h.ok)⟩;obtain⟨p,hp,e⟩:=cC.1 hm;exact Nu hf p hp e) (fun y hy=>by
  rcases bI.1 hy with rfl|hy
  ·exact hx
  ·obtain⟨p,hp,rfl⟩:=cC.1 hy;exact h.sub p hp)
 simp only[aL,aa]at h1;omega
theorem WB.set{U:aH}(hU:U.length<=6){b:aI}(h:WB U b){x y:Bytes}(hx:x∈U)(hv:ez x=true)(ha:fZ y=true)(hf:cw x b=none):WB U (wP x y b):=
 ⟨Ed hv ha h.ok hf (h.room hU hx hf),fun p hp=>by
  rcases T8 x y b hp with e|e
  ·rw[e];exact hx
  ·exact h.sub p e⟩
theorem WB.ext{U:aH}{a b:aI}(ha:WB U a)(hb:WB U b)(h:∀v,cw v a=cw v b):a=b:=Pb (uI ha.ok) (uI hb.ok) h
theorem a1V{U:aH}(hU:U.length<=6){b:aI}(h:WB U b){x y:Bytes}(hx:x∈U)(hv:ez x=true):xm b x y=if fZ y=true then(match cw x b with|some o=>bif o==y then(b,true)else([],false)|none=>(wP x y b,true))else([],false):=by
 unfold xm;rw[h.ok,hv];simp only[eP];cases ha:fZ y with
 |false=>rfl
 |true=>
  rw[aU,bX rfl];cases hf:cw x b with
  |some o=>rfl
  |none=>dsimp only;rw[bB (h.room hU hx hf),af]
def Says(h:Bytes->Bytes)(b:aI):Prop:=∀v o,cw v b=some o->h v=o
theorem uh{x y v:Bytes}{b:aI}(hf:cw x b=none):cw v (wP x y b)=if v=x then some y else cw v b:=by
 by_cases e:v=x
 ·subst e;rw[bX rfl,CH _ hf]
 ·rw[bL e,uj (fun e2=>e e2.symm)]
theorem ZX{U:aH}(hU:U.length<=6):∀(l r:aH) (b:aI),WB U b->(∀x∈l,nk x=true)->(∀x∈l,ez x=true->x∈U)->(∀y∈r,fZ y=true)->l.length=r.length->
 ((tE l r b).2=true↔∃h,Says h b/\Fix h/\r=l.map h)/\((tE l r b).2=true->WB U (tE l r b).1/\∀v o,(cw v (tE l r b).1=some o↔cw v b=some o\/(v∈l/\ez v=true/\∀h,Says h b->Fix h->r=l.map h->h v=o))):=by
 intro l
 induction l with
 |nil=>
  intro r b hb _ _ _ hl;have hr:r=[]:=by cases r with|nil=>rfl|cons _ _=>simp at hl
  subst hr;refine⟨⟨fun _=>?_,fun _=>rfl⟩,fun _=>⟨hb,fun v o=>⟨fun h=>.inl h,fun h=>?_⟩⟩⟩
  ·refine⟨fun y=>(cw y b).getD y,fun v o ho=>by simp[ho],fun y hy=>?_,rfl⟩;cases hf:cw y b with
   |none=>simp[hf]
   |some o=>
    obtain⟨p,hp,h1,_⟩:=xo hf;have:=(Bt (uI hb.ok) p hp).1;rw[h1]at this;rw[oM this]at hy;cases hy
  ·rcases h with h|⟨h,_⟩
   ·exact h
   ·cases h
 |cons x xs ih=>
  intro r b hb ht hv TZ hl;cases r with
  |nil=>simp at hl
  |cons y ys=>
   have ht':∀z∈xs,nk z=true:=fun z hz=>ht z (by simp[hz])
   have hv':∀z∈xs,ez z=true->z∈U:=fun z hz=>hv z (by simp[hz])
   have ha':∀z∈ys,fZ z=true:=fun z hz=>TZ z (by simp[hz])
   have hl':xs.length=ys.length:=by simpa using hl
   have hay:=TZ y (by simp);cases hx:fZ x with
   |true=>
    have Va:=KE hx;cases hxy:x==y with
    |false=>
     have e:tE (x::xs) (y::ys) b=([],false):=by simp only[tE,hx,hxy,aU,af]
     rw[e];refine⟨⟨fun h=>(by cases h),?_⟩,fun h=>(by cases h)⟩;rintro⟨h,_,h2,h3⟩;rw[bD,h2 x hx]at h3;have:x=y:=(mc h3).1.symm;rw[this]at hxy;simp at hxy
    |true=>
     have exy:x=y:=by simpa using hxy
     have e:tE (x::xs) (y::ys) b=tE xs ys b:=by simp only[tE,hx,hxy,aU]
     rw[e];obtain⟨i1,i2⟩:=ih ys b hb ht' hv' ha' hl';have hh:∀h:Bytes->Bytes,Fix h->(y::ys=(x::xs).map h↔ys=xs.map h):=by
      intro h hf;rw[bD,hf x hx,exy];exact⟨fun q=>(mc q).2,fun q=>by rw[<-q]⟩
     refine⟨⟨fun h=>?_,?_⟩,fun h=>?_⟩
     ·obtain⟨g,g1,g2,g3⟩:=i1.1 h;exact⟨g,g1,g2,(hh g g2).2 g3⟩
     ·rintro⟨g,g1,g2,g3⟩;exact i1.2 ⟨g,g1,g2,(hh g g2).1 g3⟩
     ·obtain⟨k1,k2⟩:=i2 h;refine⟨k1,fun v o=>(k2 v o).trans ⟨?_,?_⟩⟩
      ·rintro(q|⟨q1,q2,q3⟩)
       ·exact .inl q
       ·exact .inr ⟨by simp[q1],q2,fun g g1 g2 g3=>q3 g g1 g2 ((hh g g2).1 g3)⟩
      ·rintro(q|⟨q1,q2,q3⟩)
       ·exact .inl q
       ·rcases bI.1 q1 with rfl|q1
        ·rw[Va]at q2;cases q2
        ·exact .inr ⟨q1,q2,fun g g1 g2 g3=>q3 g g1 g2 ((hh g g2).2 g3)⟩
   |false=>
    have Va:ez x=true:=by have:=ht x (by simp);unfold nk at this;rw[hx]at this;simpa using this
    have hxU:=hv x (by simp) Va;have ee:=a1V hU hb (y:=y) hxU Va;rw[bX hay]at ee;cases hf:cw x b with
    |some o=>
     rw[hf]at ee;dsimp only at ee;cases ho:o==y with
     |false=>
      rw[ho,af]at ee;have e:tE (x::xs) (y::ys) b=([],false):=by simp only[tE,hx,af,ee]
      rw[e];refine⟨⟨fun h=>(by cases h),?_⟩,fun h=>(by cases h)⟩;rintro⟨h,h1,h2,h3⟩;rw[bD,h1 x o hf]at h3;have:o=y:=(mc h3).1.symm;rw[this]at ho;simp at ho
     |true=>
      have eo:o=y:=by simpa using ho
      rw[ho,aU]at ee;have e:tE (x::xs) (y::ys) b=tE xs ys b:=by simp only[tE,hx,af,ee,aU]
      rw[e];obtain⟨i1,i2⟩:=ih ys b hb ht' hv' ha' hl';have hh:∀h:Bytes->Bytes,Says h b->(y::ys=(x::xs).map h↔ys=xs.map h):=by
       intro h h1;rw[bD,h1 x o hf,eo];exact⟨fun q=>(mc q).2,fun q=>by rw[<-q]⟩
      refine⟨⟨fun h=>?_,?_⟩,fun h=>?_⟩
      ·obtain⟨g,g1,g2,g3⟩:=i1.1 h;exact⟨g,g1,g2,(hh g g1).2 g3⟩
      ·rintro⟨g,g1,g2,g3⟩;exact i1.2 ⟨g,g1,g2,(hh g g1).1 g3⟩
      ·obtain⟨k1,k2⟩:=i2 h;refine⟨k1,fun v q=>(k2 v q).trans ⟨?_,?_⟩⟩
       ·rintro(q1|⟨q1,q2,q3⟩)
        ·exact .inl q1
        ·exact .inr ⟨by simp[q1],q2,fun g g1 g2 g3=>q3 g g1 g2 ((hh g g1).1 g3)⟩
       ·rintro(q1|⟨q1,q2,q3⟩)
        ·exact .inl q1
        ·rcases bI.1 q1 with rfl|q1
         ·obtain⟨g,g1,g2,g3⟩:=i1.1 h;have:=q3 g g1 g2 ((hh g g1).2 g3);rw[g1 v o hf]at this;subst this;exact .inl hf
         ·exact .inr ⟨q1,q2,fun g g1 g2 g3=>q3 g g1 g2 ((hh g g1).2 g3)⟩
    |none=>
     rw[hf]at ee;dsimp only at ee;have e:tE (x::xs) (y::ys) b=tE xs ys (wP x y b):=by simp only[tE,hx,af,ee,aU]
     rw[e];obtain⟨i1,i2⟩:=ih ys (wP x y b) (hb.set hU hxU Va hay hf) ht' hv' ha' hl';have hs:∀h:Bytes->Bytes,Says h (wP x y b)↔Says h b/\h x=y:=by
      intro h;constructor
      ·intro q;refine⟨fun v o ho=>q v o ?_,q x y (CH _ hf)⟩;rw[uh hf,bL (fun e=>by rw[e,hf]at ho;cases ho)];exact ho
      ·rintro⟨q1,q2⟩ v o ho;rw[uh hf]at ho;by_cases e:v=x
       ·rw[bX e]at ho;cases ho;rw[e];exact q2
       ·rw[bL e]at ho;exact q1 v o ho
     have hh:∀h:Bytes->Bytes,(y::ys=(x::xs).map h↔h x=y/\ys=xs.map h):=by
      intro h;rw[bD];exact⟨fun q=>⟨(mc q).1.symm,(mc q).2⟩,fun q=>by rw[q.1,<-q.2]⟩
     refine⟨⟨fun h=>?_,?_⟩,fun h=>?_⟩
     ·obtain⟨g,g1,g2,g3⟩:=i1.1 h;obtain⟨g1,g4⟩:=(hs g).1 g1;exact⟨g,g1,g2,(hh g).2 ⟨g4,g3⟩⟩
     ·rintro⟨g,g1,g2,g3⟩;obtain⟨g4,g3⟩:=(hh g).1 g3;exact i1.2 ⟨g,(hs g).2 ⟨g1,g4⟩,g2,g3⟩
     ·obtain⟨k1,k2⟩:=i2 h;refine⟨k1,fun v q=>(k2 v q).trans ⟨?_,?_⟩⟩
      ·rintro(q1|⟨q1,q2,q3⟩)
       ·rw[uh hf]at q1;by_cases ev:v=x
        ·rw[bX ev]at q1;cases q1;refine .inr ⟨by simp[ev],by rw[ev];exact Va,fun g g1 g2 g3=>by rw[ev];exact((hh g).1 g3).1⟩
        ·rw[bL ev]at q1;exact .inl q1
       ·refine .inr ⟨by simp[q1],q2,fun g g1 g2 g3=>?_⟩;obtain⟨g4,g3⟩:=(hh g).1 g3;exact q3 g ((hs g).2 ⟨g1,g4⟩) g2 g3
      ·rintro(q1|⟨q1,q2,q3⟩)
       ·left
        rw[uh hf,bL (fun e=>by rw[e,hf]at q1;cases q1)];exact q1
       ·by_cases ev:v=x
        ·left
         obtain⟨g,g1,g2,g3⟩:=i1.1 h;obtain⟨g1,g4⟩:=(hs g).1 g1;have:=q3 g g1 g2 ((hh g).2 ⟨g4,g3⟩);rw[ev,g4]at this;rw[uh hf,bX ev,this]
        ·rcases bI.1 q1 with q1|q1
         ·exact absurd q1 ev
         ·refine .inr ⟨q1,q2,fun g g1 g2 g3=>?_⟩;obtain⟨g1,g4⟩:=(hs g).1 g1;exact q3 g g1 g2 ((hh g).2 ⟨g4,g3⟩)
def Fits(p f:aG)(h:Bytes->Bytes):Prop:=zO f=true/\p.rel=f.rel/\f.args=p.args.map h
theorem ZY{U:aH}(hU:U.length<=6){p f:aG}{b:aI}(hb:WB U b)(hp:yT p=true)(hv:∀x∈p.args,ez x=true->x∈U):
 ((qJ p f b).2=true↔∃h,Says h b/\Fix h/\Fits p f h)/\((qJ p f b).2=true->WB U (qJ p f b).1/\∀v o,(cw v (qJ p f b).1=some o↔cw v b=some o\/(v∈p.args/\ez v=true/\∀h,Says h b->Fix h->Fits p f h->h v=o))):=by
 cases hc:yT p&&(zO f&&(gw b&&(p.rel==f.rel&&decide (p.args.length=f.args.length))))with
 |false=>
  have e:qJ p f b=([],false):=by unfold qJ;rw[hc];rfl
  rw[e];refine⟨⟨fun h=>(by cases h),?_⟩,fun h=>(by cases h)⟩;rintro⟨h,_,_,h1,h2,h3⟩;rw[hp,h1,hb.ok,h2,cu,bn (by rw[h3];simp)]at hc;cases hc
 |true=>
  have e:qJ p f b=tE p.args f.args b:=by unfold qJ;rw[hc];rfl
  simp only[aZ,cj,bM]at hc;obtain⟨_,c2,_,c4,c5⟩:=hc;have TZ:∀y∈f.args,fZ y=true:=by
   unfold zO at c2;rw[aZ]at c2;exact b8.1 c2.1
  obtain⟨i1,i2⟩:=ZX hU p.args f.args b hb (RF hp) hv TZ c5;rw[e];have hf:∀h,Fits p f h↔f.args=p.args.map h:=fun h=>⟨fun q=>q.2.2,fun q=>⟨c2,c4,q⟩⟩
  refine⟨⟨fun h=>?_,?_⟩,fun h=>?_⟩
  ·obtain⟨g,g1,g2,g3⟩:=i1.1 h;exact⟨g,g1,g2,(hf g).2 g3⟩
  ·rintro⟨g,g1,g2,g3⟩;exact i1.2 ⟨g,g1,g2,(hf g).1 g3⟩
  ·obtain⟨k1,k2⟩:=i2 h;refine⟨k1,fun v o=>(k2 v o).trans ⟨?_,?_⟩⟩
   ·rintro(q|⟨q1,q2,q3⟩)
    ·exact .inl q
    ·exact .inr ⟨q1,q2,fun g g1 g2 g3=>q3 g g1 g2 ((hf g).1 g3)⟩
   ·rintro(q|⟨q1,q2,q3⟩)
    ·exact .inl q
    ·exact .inr ⟨q1,q2,fun g g1 g2 g3=>q3 g g1 g2 ((hf g).2 g3)⟩
theorem Nn{r:aN}:∀ {pre rest:ai} {c:aM} {i:Nat},vo r (pre++c::rest) i=true->mm c=true/\(i+pre.length=0->c.kind=1)/\∀v∈pu c,NA r (i+pre.length) c v=true
 | [],rest,c,i,h=>by
  rw[cL]at h;unfold vo at h;rw[PZ]at h;simp only[aZ,nq,pZ,nE,bM]at h;refine⟨h.1.1.1,fun e=>?_,fun v hv=>b8.1 h.1.2 v hv⟩;rcases h.1.1.2 with q|q
  ·exact absurd (by simpa using e) q
  ·exact q
 |x::pre,rest,c,i,h=>by
  rw[dA]at h;unfold vo at h;rw[aZ]at h;have:=Nn h.2;rw[aL,show i+(pre.length+1)=i+1+pre.length by omega];exact this
theorem R2{r:aN}(h:gr r=true):vo r r.conds 0=true:=by
 unfold gr at h;simp only[aZ]at h;exact h.2.1
end Go.Cx
namespace Go.Cx
open Go.RowKit Go.Proofs Tryz
def alI(sh:aG):bK->Nat->Option Nat
 | [],_=>none
 |x::xs,i=>if x.shape=sh then some i else alI sh xs (i+1)
def alB(al:bK)(sh:aG):bK×Int:=match alI sh al 0 with
 |some i=>(al,di i)
 |none=>(al++[⟨sh,[]⟩],di al.length)
theorem Mq{n:Nat}(h:n<=1099511627776):IntKind.i64.wrap (((n+1:Nat):Int)-1)=di n:=by
 unfold di;rw[gM (sC.i64.2 (by omega))];omega
theorem aAQ(n:aJ)(sh:aG)(k:Option (aJ×Int)):∀(l:bK) (i:Nat),kV n sh k l i=match alI sh l i with|some j=>some (n,di j)|none=>k:=by
 intro l
 induction l with
 |nil=>intro i;rfl
 |cons x l ih=>
  intro i;rw[kV,Um,aA,ih,alI];by_cases h:x.shape=sh
  ·rw[bn h,aU,bX h];rfl
  ·rw[bB h,af,bL h]
theorem sAl(n:aJ)(sh:aG)(h:n.bJ.length<=1048576):rY n sh=some (⟨n.rules,n.ends,(alB n.bJ sh).1,n.nodes,n.facts,n.dB⟩,(alB n.bJ sh).2):=by
 unfold rY;rw[uz (by omega),aU,aAQ,ni (by omega) (by decide),aU];unfold alB;cases alI sh n.bJ 0 with
 |some j=>rfl
 |none=>
  dsimp only;rw[show((n.bJ.map aW.c)++[[D.str sh.rel,D.sl (sh.args.map tx),D.sl []]]).length=n.bJ.length+1 by simp,Mq (by omega)]
theorem aA6(n:aJ)(sh:aG)(k:Option (aJ×Int)):∀(l:bK) (i:Nat),eE n sh k l i=match alI sh l i with|some j=>some (n,di j)|none=>k:=by
 intro l
 induction l with
 |nil=>intro i;rfl
 |cons x l ih=>
  intro i;rw[eE,OA,aA,ih,alI];by_cases h:x.shape=sh
  ·rw[bn h,aU,bX h];rfl
  ·rw[bB h,af,bL h]
theorem iAl(n:aJ)(sh:aG)(h:n.bJ.length<=1048576):gx n sh=some (⟨n.rules,n.ends,(alB n.bJ sh).1,n.nodes,n.facts,n.dB⟩,(alB n.bJ sh).2):=by
 unfold gx;rw[uz (by omega),aU,aA6,ni (by omega) (by decide),aU];unfold alB;cases alI sh n.bJ 0 with
 |some j=>rfl
 |none=>
  dsimp only;rw[show((n.bJ.map aW.c)++[[D.str sh.rel,D.sl (sh.args.map tx),D.sl []]]).length=n.bJ.length+1 by simp,Mq (by omega)]
def QK(p:Int)(c:aM):bE->Nat->Option Nat
 | [],_=>none
 |x::xs,i=>if 0<i/\x.parent=p/\x.cond=c then some i else QK p c xs (i+1)
def Tp(al:bK)(c:aM):bK×Int:=if c.kind=1\/c.kind=2 then alB al (Jq c.pat)else(al, -1)
def N7(al:bK)(ns:bE)(p:Int)(c:aM):(bK×bE)×Int:=match QK p c ns 0 with
 |some i=>((al,ns),di i)
 |none=>(((Tp al c).1,ns++[⟨p,c,(Tp al c).2,[]⟩]),di ns.length)
theorem S2(p:Int)(c:aM)(ns:bE):QK p c ns 0=QK p c (ns.drop 1) 1:=by
 cases ns with
 |nil=>rfl
 |cons x ns=>rw[QK,bL (fun h=>by omega)];rfl
def XC(n:aJ)(z:(bK×bE)×Int):aJ×Int:=(⟨n.rules,n.ends,z.1.1,z.1.2,n.facts,n.dB⟩,z.2)
theorem aAS(n:aJ)(p:Int)(c:aM)(k:Option (aJ×Int))(hn:n.nodes.length<=1048576):∀(d v fu:Nat),v+d=n.nodes.length+1->1<=v->d<fu->fe n p c k fu (v:Int)=match QK p c (n.nodes.drop v) v with|some j=>some (n,di j)|none=>k:=by
 intro d
 induction d with
 |zero=>
  intro v fu hv h1 hf;obtain⟨fu,rfl⟩:∃m,fu=m+1:=⟨fu-1,by omega⟩
  rw[fe,aa,bB (by omega),af,wS (by omega)];rfl
 |succ d ih=>
  intro v fu hv h1 hf;obtain⟨fu,rfl⟩:∃m,fu=m+1:=⟨fu-1,by omega⟩
  by_cases hl:v<n.nodes.length
  ·have hx:n.nodes[v]?=some n.nodes[v]:=ah hl;have e3:nF n.nodes (v:Int)=some n.nodes[v]:=by unfold nF;rw[bn (by omega),aU];exact hx
   rw[uo hl,QK,fe,aa,bn (by omega),aU,e3,aA,WA (by omega),ih (v+1) fu (by omega) (by omega) (by omega),a0B,aA];generalize n.nodes[v]=x;by_cases hp:x.parent=p
   ·rw[show((x.parent:Int)==p)=true by simp[hp],aU];by_cases hc:x.cond=c
    ·rw[bn hc,aU,bX ⟨by omega,hp,hc⟩];rfl
    ·rw[bB hc,af,bL (fun h=>hc h.2.2)]
   ·rw[show((x.parent:Int)==p)=false by simp[hp],af,bL (fun h=>hp h.2.1)]
  ·rw[fe,aa,bB (by omega),af,wS (by omega)];rfl
theorem sCh(n:aJ)(p:Int)(c:aM)(hn:n.nodes.length<=1048576)(ha:n.bJ.length<=1048576)(hc:c.wt<=1048576):ua n p c=some (XC n (N7 n.bJ n.nodes p c)):=by
 have hp:=aM.fX hc;have hargs:=aG.fJ hp;unfold ua;have e:=aAS n p c;rw[show(1:Int)=((1:Nat):Int)from rfl,e _ hn n.nodes.length 1 fuel (by omega) (bR _) (by unfold fuel;omega),<-S2,Ui c (by omega),aA,a5c c.pat hp,aA,sAl n _ ha,aA];unfold N7 Tp XC;cases QK p c n.nodes 0 with
 |some j=>rfl
 |none=>
  dsimp only;rw[ni (by omega) (by decide),aU];by_cases h1:c.kind=1
  ·rw[show((c.kind:Int)==((1:Nat):Int))=true by simp[h1],aU,bX (.inl h1)];simp[Mq,hn,show n.nodes.length<=1099511627776 by omega]
   first|done| (unfold di;rw[gM (sC.i64.2 (by omega))])
  ·rw[show((c.kind:Int)==((1:Nat):Int))=false by simp[h1],af];by_cases h2:c.kind=2
   ·rw[show((c.kind:Int)==(2:Int))=true by simp[h2],aU,bX (.inr h2)];simp[Mq,hn,show n.nodes.length<=1099511627776 by omega]
    first|done| (unfold di;rw[gM (sC.i64.2 (by omega))])
   ·rw[show((c.kind:Int)==(2:Int))=false by simp[h2],af,bL (by omega)]
    first|rw[ni (by omega) (by decide),aU]|rw[aA,ni (by omega) (by decide),aU]|skip
    simp[Mq,hn,show n.nodes.length<=1099511627776 by omega]
    first|done| (unfold di;rw[gM (sC.i64.2 (by omega))])
theorem aA8(n:aJ)(p:Int)(c:aM)(k:Option (aJ×Int)):∀(l:bE) (i:Nat),cy n p c k l i=match QK p c l i with|some j=>some (n,di j)|none=>k:=by
 intro l
 induction l with
 |nil=>intro i;rfl
 |cons x l ih=>
  intro i;rw[cy,QK,ih,Qd,aA];by_cases hi:0<i
  ·rw[bn (by omega),aU];by_cases hp:x.parent=p
   ·rw[show((x.parent:Int)==p)=true by simp[hp],aU];by_cases hc:x.cond=c
    ·rw[bn hc,aU,bX ⟨hi,hp,hc⟩];rfl
    ·rw[bB hc,af,bL (fun h=>hc h.2.2)]
   ·rw[show((x.parent:Int)==p)=false by simp[hp],af,bL (fun h=>hp h.2.1)]
  ·rw[bB (by omega),af,bL (fun h=>hi h.1)]
theorem iCh(n:aJ)(p:Int)(c:aM)(hn:n.nodes.length<=1048576)(ha:n.bJ.length<=1048576)(hc:c.wt<=1048576):jh n p c=some (XC n (N7 n.bJ n.nodes p c)):=by
 have hp:=aM.fX hc;have hargs:=aG.fJ hp;unfold jh;rw[uz (by omega),aU,aA8,UJ c (by omega),a4w c.pat hp,aA,iAl n _ ha,aA,aA];unfold N7 Tp XC;cases QK p c n.nodes 0 with
 |some j=>rfl
 |none=>
  dsimp only;rw[ni (by omega) (by decide),aU];by_cases h1:c.kind=1
  ·rw[show((c.kind:Int)==(1:Int))=true by simp[h1],aU,bX (.inl h1)];simp[Mq,hn,show n.nodes.length<=1099511627776 by omega]
   first|done| (unfold di;rw[gM (sC.i64.2 (by omega))])
  ·rw[show((c.kind:Int)==(1:Int))=false by simp[h1],af];by_cases h2:c.kind=2
   ·rw[show((c.kind:Int)==(2:Int))=true by simp[h2],aU,bX (.inr h2)];simp[Mq,hn,show n.nodes.length<=1099511627776 by omega]
    first|done| (unfold di;rw[gM (sC.i64.2 (by omega))])
   ·rw[show((c.kind:Int)==(2:Int))=false by simp[h2],af,bL (by omega)]
    first|rw[ni (by omega) (by decide),aU]|rw[aA,ni (by omega) (by decide),aU]|skip
    simp[Mq,hn,show n.nodes.length<=1099511627776 by omega]
    first|done| (unfold di;rw[gM (sC.i64.2 (by omega))])
def Jy(s:(bK×bE)×Int)(c:aM):(bK×bE)×Int:=N7 s.1.1 s.1.2 s.2 c
def Mo(z:(bK×bE)×bP)(r:aN):(bK×bE)×bP:=(((gJ r).foldl Jy (z.1,0)).1,z.2++[((gJ r).foldl Jy (z.1,0)).2])
def root(tk:av):Node:=⟨-1,⟨0,⟨[],[]⟩,[],[]⟩, -1,tk⟩
def jN(tk:av)(rs:aq):(bK×bE)×bP:=rs.foldl Mo (([],[root tk]),[])
theorem a1H(al:bK)(sh:aG):(alB al sh).1.length<=al.length+1:=by
 unfold alB;cases alI sh al 0<;>simp
theorem a1P(al:bK)(c:aM):(Tp al c).1.length<=al.length+1:=by
 unfold Tp;by_cases h:c.kind=1\/c.kind=2
 ·rw[bX h];exact a1H _ _
 ·rw[bL h];exact Nat.le_succ _
theorem QJ(al:bK)(ns:bE)(p:Int)(c:aM):(N7 al ns p c).1.1.length<=al.length+1/\(N7 al ns p c).1.2.length<=ns.length+1:=by
 unfold N7;cases QK p c ns 0 with
 |some i=>exact⟨Nat.le_succ _,Nat.le_succ _⟩
 |none=>exact⟨a1P _ _,by simp⟩
theorem LS:∀(cs:ai) (s:(bK×bE)×Int),(cs.foldl Jy s).1.1.length<=s.1.1.length+cs.length/\(cs.foldl Jy s).1.2.length<=s.1.2.length+cs.length
 | [],s=>⟨bR _,bR _⟩
 |c::cs,s=>by
  have h1:=QJ s.1.1 s.1.2 s.2 c;have h2:=LS cs (Jy s c);have h3:(Jy s c).1.1.length<=s.1.1.length+1/\(Jy s c).1.2.length<=s.1.2.length+1:=h1;rw[cm,aL];omega
theorem a84(a:aq)(i:Nat)(y:ai)(k:Int->Int->aq->bP->bK->bE->aX->Option (aJ×Bool)):∀(cs:ai) (j:Nat) (v u:Int) (w3:aq) (w4:bP) (al:bK) (ns:bE) (w7:aX),(∀c∈cs,c.wt<=1048576)->al.length+cs.length<=1048576->ns.length+cs.length<=1048576->
 gF a i y k cs j v u w3 w4 al ns w7=k (cs.foldl Jy ((al,ns),v)).2 u w3 w4 (cs.foldl Jy ((al,ns),v)).1.1 (cs.foldl Jy ((al,ns),v)).1.2 w7:=by
 intro cs
 induction cs with
 |nil=>intros;rfl
 |cons c cs ih=>
  intro j v u w3 w4 al ns w7 hc ha hn;simp only[aL]at ha hn;have h1:=QJ al ns v c;rw[gF,sCh _ v c (show ns.length<=1048576 by omega) (show al.length<=1048576 by omega) (hc c (by simp)),aA];unfold XC;dsimp only;rw[ih _ _ _ _ _ _ _ _ (fun x hx=>hc x (by simp[hx])) (by omega) (by omega)];rfl
theorem a7L(a:aq)(i:Nat)(y:ai)(k:Int->Int->aq->bP->bK->bE->aX->Option aJ):∀(cs:ai) (j:Nat) (v u:Int) (w3:aq) (w4:bP) (al:bK) (ns:bE) (w7:aX),(∀c∈cs,c.wt<=1048576)->al.length+cs.length<=1048576->ns.length+cs.length<=1048576->
 iy a i y k cs j v u w3 w4 al ns w7=k (cs.foldl Jy ((al,ns),v)).2 u w3 w4 (cs.foldl Jy ((al,ns),v)).1.1 (cs.foldl Jy ((al,ns),v)).1.2 w7:=by
 intro cs
 induction cs with
 |nil=>intros;rfl
 |cons c cs ih=>
  intro j v u w3 w4 al ns w7 hc ha hn;simp only[aL]at ha hn;have h1:=QJ al ns v c;rw[iy,iCh _ v c (show ns.length<=1048576 by omega) (show al.length<=1048576 by omega) (hc c (by simp)),aA];unfold XC;dsimp only;rw[ih _ _ _ _ _ _ _ _ (fun x hx=>hc x (by simp[hx])) (by omega) (by omega)];rfl
theorem MB:∀(ts:aH) (N:aI) {p:aK},p∈ts.foldl kW N->p∈N\/(p.var∈ts/\ez p.var=true)
 | [],_,_,h=>.inl h
 |t::ts,N,p,h=>by
  rcases MB ts (kW N t) h with h1|h1
  ·unfold kW at h1;cases hv:ez t&& !G1 N t with
   |false=>rw[hv]at h1;exact .inl h1
   |true=>
    rw[hv,aU]at h1;simp only[aZ]at hv;rcases aj.1 h1 with h2|h2
    ·exact .inl h2
    ·rw[cx.1 h2];exact .inr ⟨by simp,hv.1⟩
  ·exact .inr ⟨by simp[h1.1],h1.2⟩
theorem Ab{l:ai}{v:Bytes}:v∈yl l↔v∈wC l/\ez v=true:=by
 unfold yl wC pu iq;simp only[br,iL];constructor
 ·rintro⟨c,hc,hm,hv⟩;exact⟨⟨c,hc,hm⟩,hv⟩
 ·rintro⟨⟨c,hc,hm⟩,hv⟩;exact⟨c,hc,hm,hv⟩
theorem MJ{r:aN}(h:gr r=true):(fW r).length<=6:=by
 have h1:((fW r).map aK.var).length<=(eH (yl r.conds)).length:=by
  refine ML _ _ (CL _ TW.nil) fun x hx=>?_
  obtain⟨p,hp,rfl⟩:=cC.1 hx;rcases MB _ _ hp with h1|h1
  ·cases h1
  ·exact oq.2 (Ab.2 h1)
 rw[aa]at h1;exact cU h1 (MQ h)
theorem GA{r:aN}(h:gr r=true){v:Bytes}(hv:v∈yl r.conds):∃i p,i<6/\(fW r)[i]?=some p/\p.var=v/\DZ (fW r) v=nmB i:=by
 obtain⟨ht,MF⟩:=Ab.1 hv;obtain⟨p,hp,he⟩:=SG _ [] ht MF;have hp':p∈fW r:=hp;obtain⟨i,hi,O2,hval,_⟩:=RR (LX _ YF.nil) hp';refine⟨i,p,by have:=MJ h;unfold fW at this;omega,O2,he,?_⟩;rw[<-he];exact(NT (N:=fW r) (CL (wC r.conds) TW.nil) hp').trans hval
theorem LO{r:aN}(h:gr r=true){x:Bytes}(hx:x.length<=16)(hV:ez x=true->x∈yl r.conds):(DZ (fW r) x).length<=16:=by
 cases hv:ez x with
 |false=>rw[show DZ (fW r) x=x from Sp hv];exact hx
 |true=>
  obtain⟨i,p,hi,_,_,e⟩:=GA h (hV hv);rw[e];exact Vh i hi
theorem RS:∀(l:aH),(∀x∈l,x.length<=16)->kD tw l<=17*l.length
 | [],_=>by simp[kD]
 |x::l,h=>by
  have h1:=RS l fun y hy=>h y (by simp[hy])
  have h2:=h x (by simp);rw[qK,aL];unfold tw at*;omega
theorem On{t:Bytes}(h:nk t=true):t.length<=16:=by have:=XU h;omega
theorem Nl{c:aM}(h:mm c=true):c.pat.rel.length<=8/\c.pat.args.length<=3/\(∀x∈c.pat.args,x.length<=16)/\c.left.length<=16/\c.right.length<=16:=by
 by_cases hk:c.kind=1\/c.kind=2
 ·obtain⟨hp,hl,hr⟩:=Bu h hk;have ht:=RF hp;unfold yT at hp;simp only[aZ,bM]at hp;have:=X8 hp.2.1;rw[hl,hr];exact⟨by omega,by omega,fun x hx=>On (ht x hx),by simp,by simp⟩
 ·obtain⟨_,hz,hl,hr⟩:=Nk h (fun e=>hk (.inl e)) (fun e=>hk (.inr e));unfold CS at hz;simp only[aZ,cj,bM]at hz;have h0:c.pat.args=[]:=cW (by omega);rw[hz.1,h0];exact⟨by simp,by simp,fun x hx=>(by cases hx),On hl,On hr⟩
theorem LM{r:aN}(h:gr r=true):∀c∈gJ r,c.wt<=1048576:=by
 intro c' hc';obtain⟨c,hc,rfl⟩:=cC.1 hc';obtain⟨h1,h2,h3,h4,h5⟩:=Nl (BH h c hc);have hV:∀x∈c.pat.args++[c.left,c.right],ez x=true->x∈yl r.conds:=fun x hx hv=>Ab.2 ⟨br.2 ⟨c,hc,hx⟩,hv⟩
 have a1:(DZ (fW r) c.left).length<=16:=LO h h4 (hV _ (by simp));have a2:(DZ (fW r) c.right).length<=16:=LO h h5 (hV _ (by simp));have a3:=RS (c.pat.args.map (DZ (fW r))) (fun x hx=>by
  obtain⟨y,hy,rfl⟩:=cC.1 hx;exact LO h (h3 y hy) (hV y (by simp[hy])))
 rw[aa]at a3;unfold Oe aM.wt;dsimp only;unfold tw at*;omega
theorem zl{r:aN}(h:gr r=true):(gJ r).length<=4:=by unfold gJ;rw[aa];exact MP h
theorem VE{r:aN}{n:Nat}(h:r.wt<=n){a:Action}(ha:a∈r.ck):a.pat.args.length<=n:=by
 have h1:=aN.KC h;have h2:=gu (w:=Action.wt) ha;have h3:=gN tw a.pat.args;simp only[Action.wt]at h2;omega
theorem a5Q(p:aG)(h:p.args.length<=1099511627770):iI p=some p:=by
 unfold iI;rw[a0F p.args (by omega)];rfl
theorem a4l(p:aG)(h:p.args.length<=1099511627770):gB p=some p:=by
 unfold gB;rw[Qf p.args (by omega)];rfl
theorem a5R(r:aN)(h:r.wt<=1048576):tU r=some r:=by
 have h1:=aN.sM h;have h2:=aN.KC h;have h3:=gN aM.wt r.conds;have h4:=gN Action.wt r.ck;unfold tU;rw[NE (c:=aM.c) (b:=80) (f:=oN) (g:=fun x=>x) (L:=oo r _) (k:=_) (by decide) (fun _ _=>rfl) (fun _ _ _ _=>rfl) _ _ _ (fun c hc=>Ui c (by have:=aG.fJ (aM.fX (aN.py h hc));omega)) (by simp;omega)];rw[NE (c:=Action.c) (b:=48) (f:=fun a:Action=>(iI a.pat).bind fun y=>some (⟨a.kind,y⟩:Action)) (g:=fun x=>x) (L:=mV r _ _) (k:=_) (by decide) (fun _ _=>rfl) (fun x xs i w=>by rw[mV];cases iI x.pat<;>rfl) _ _ _ (fun a ha=>by rw[a5Q a.pat (by have:=VE h ha;omega)];rfl) (by simp;omega)];simp
theorem a02(l:aq)(h:kD aN.wt l<=1048576):tA l=some l:=by
 have h3:=gN aN.wt l;unfold tA;rw[NE (c:=aN.c) (b:=72) (f:=tU) (g:=fun x=>x) (L:=mU l _) (k:=_) (by decide) (fun _ _=>rfl) (fun _ _ _ _=>rfl) _ _ _ (fun r hr=>a5R r (by have:=gu (w:=aN.wt) hr;omega)) (by simp;omega)];simp
theorem Z8(l:ai)(h:l.length<=1048576)(hw:∀c∈l,c.wt<=1048576):qy l=some l:=by
 unfold qy;rw[NE (c:=aM.c) (b:=80) (f:=iO) (g:=fun x=>x) (L:=kq l _) (k:=_) (by decide) (fun _ _=>rfl) (fun _ _ _ _=>rfl) _ _ _ (fun c hc=>UJ c (by have:=aG.fJ (aM.fX (hw c hc));omega)) (by simp;omega)];simp
theorem a4m(r:aN)(h:r.wt<=1048576):pS r=some r:=by
 have h1:=aN.sM h;have h2:=aN.KC h;have h3:=gN aM.wt r.conds;have h4:=gN Action.wt r.ck;unfold pS;rw[Z8 r.conds (by omega) (fun c hc=>aN.py h hc),aA];rw[NE (c:=Action.c) (b:=48) (f:=fun a:Action=>(gB a.pat).bind fun y=>some (⟨a.kind,y⟩:Action)) (g:=fun x=>x) (L:=jU r _ _) (k:=_) (by decide) (fun _ _=>rfl) (fun x xs i w=>by rw[jU];cases gB x.pat<;>rfl) _ _ _ (fun a ha=>by rw[a4l a.pat (by have:=VE h ha;omega)];rfl) (by simp;omega)];simp
theorem Z9(l:aq)(h:kD aN.wt l<=1048576):qz l=some l:=by
 have h3:=gN aN.wt l;unfold qz;rw[NE (c:=aN.c) (b:=72) (f:=pS) (g:=fun x=>x) (L:=kw l _) (k:=_) (by decide) (fun _ _=>rfl) (fun _ _ _ _=>rfl) _ _ _ (fun r hr=>a4m r (by have:=gu (w:=aN.wt) hr;omega)) (by simp;omega)];simp
theorem a83(a:aq)(k:Int->aq->bP->bK->bE->aX->Option (aJ×Bool)):∀(l:aq) (i:Nat) (u:Int) (w2:aq) (es:bP) (al:bK) (ns:bE) (w6:aX),(∀r∈l,r.wt<=1048576/\gr r=true)->es.length+l.length<=1000->al.length+4*l.length<=1000->ns.length+4*l.length<=1000->
 gE a k l i u w2 es al ns w6=k u w2 (l.foldl Mo ((al,ns),es)).2 (l.foldl Mo ((al,ns),es)).1.1 (l.foldl Mo ((al,ns),es)).1.2 w6:=by
 intro l
 induction l with
 |nil=>intros;rfl
 |cons r l ih=>
  intro i u w2 es al ns w6 hr he ha hn;simp only[aL]at he ha hn;obtain⟨hw,hb⟩:=hr r (by simp);have h4:=zl hb;have hl:=LS (gJ r) ((al,ns),0);dsimp only at hl;rw[gE,a5O r hw,aA,uz (by omega),aU,a84 _ _ _ _ _ _ _ _ _ _ _ _ _ (LM hb) (by omega) (by omega),ni (by omega) (by decide),aU,ih _ _ _ _ _ _ _ (fun x hx=>hr x (by simp[hx])) (by simp;omega) (by omega) (by omega)];rfl
theorem a5S(rs:aq)(h:kD aN.wt rs<=1048576):oD rs=some (bif zX rs then(⟨rs,(jN [⟨[],[]⟩] rs).2,(jN [⟨[],[]⟩] rs).1.1,(jN [⟨[],[]⟩] rs).1.2,[],0⟩,true)else(⟨[],[],[],[],[],0⟩,false)):=by
 unfold oD;rw[aAR rs h,aA];cases hb:zX rs with
 |false=>rfl
 |true=>
  have h6:rs.length<=6:=by unfold zX at hb;simp only[aZ,bM]at hb;omega
  rw[bW,af,aU,a02 rs h,aA,a83 _ _ _ _ _ _ _ _ _ _ (fun r hr=>⟨by have:=gu (w:=aN.wt) hr;omega,Bo hb r hr⟩) (by simp;omega) (by simp;omega) (by simp;omega)];rfl
theorem a7K(a:aq)(k:Int->aq->bP->bK->bE->aX->Option aJ):∀(l:aq) (i:Nat) (u:Int) (w2:aq) (es:bP) (al:bK) (ns:bE) (w6:aX),(∀r∈l,r.wt<=1048576/\gr r=true)->es.length+l.length<=1000->al.length+4*l.length<=1000->ns.length+4*l.length<=1000->
 iw a k l i u w2 es al ns w6=k u w2 (l.foldl Mo ((al,ns),es)).2 (l.foldl Mo ((al,ns),es)).1.1 (l.foldl Mo ((al,ns),es)).1.2 w6:=by
 intro l
 induction l with
 |nil=>intros;rfl
 |cons r l ih=>
  intro i u w2 es al ns w6 hr he ha hn;simp only[aL]at he ha hn;obtain⟨hw,hb⟩:=hr r (by simp);have h4:=zl hb;have hl:=LS (gJ r) ((al,ns),0);dsimp only at hl;rw[iw,a4k r hw,aA,uz (by omega),aU,a7L _ _ _ _ _ _ _ _ _ _ _ _ _ (LM hb) (by omega) (by omega),ni (by omega) (by decide),aU,ih _ _ _ _ _ _ _ (fun x hx=>hr x (by simp[hx])) (by simp;omega) (by omega) (by omega)];rfl
theorem aAC(rs:aq)(h:kD aN.wt rs<=1048576)(hb:zX rs=true):rB rs=some ⟨rs,(jN [] rs).2,(jN [] rs).1.1,(jN [] rs).1.2,[],0⟩:=by
 unfold rB;have h6:rs.length<=6:=by unfold zX at hb;simp only[aZ,bM]at hb;omega
 rw[Z9 rs h,aA,a7K _ _ _ _ _ _ _ _ _ _ (fun r hr=>⟨by have:=gu (w:=aN.wt) hr;omega,Bo hb r hr⟩) (by simp;omega) (by simp;omega) (by simp;omega)];rfl
def chR(al:bK)(ns:bE)(p:Int)(c:aM):(bK×bE)×Int:=match QK p c ns 1 with
 |some i=>((al,ns),di i)
 |none=>(((Tp al c).1,ns++[⟨p,c,(Tp al c).2,[]⟩]),di (ns.length+1))
theorem YQ(tk:av)(al:bK)(ns:bE)(p:Int)(c:aM):N7 al (root tk::ns) p c=(((chR al ns p c).1.1,root tk::(chR al ns p c).1.2),(chR al ns p c).2):=by
 unfold N7 chR;rw[S2,List.drop_succ_cons,EW];cases QK p c ns 1<;>rfl
def rtC(s:(bK×bE)×Int)(c:aM):(bK×bE)×Int:=chR s.1.1 s.1.2 s.2 c
def rtR(z:(bK×bE)×bP)(r:aN):(bK×bE)×bP:=(((gJ r).foldl rtC (z.1,0)).1,z.2++[((gJ r).foldl rtC (z.1,0)).2])
def rtB(rs:aq):(bK×bE)×bP:=rs.foldl rtR (([],[]),[])
theorem TB(tk:av):∀(cs:ai) (al:bK) (ns:bE) (v:Int),cs.foldl Jy ((al,root tk::ns),v)=(((cs.foldl rtC ((al,ns),v)).1.1,root tk::(cs.foldl rtC ((al,ns),v)).1.2),(cs.foldl rtC ((al,ns),v)).2)
 | [],_,_,_=>rfl
 |c::cs,al,ns,v=>by
  rw[cm,cm];show cs.foldl Jy (N7 al (root tk::ns) v c)=_;rw[YQ,TB tk cs];rfl
theorem TD(tk:av):∀(rs:aq) (al:bK) (ns:bE) (es:bP),rs.foldl Mo ((al,root tk::ns),es)=(((rs.foldl rtR ((al,ns),es)).1.1,root tk::(rs.foldl rtR ((al,ns),es)).1.2),(rs.foldl rtR ((al,ns),es)).2)
 | [],_,_,_=>rfl
 |r::rs,al,ns,es=>by
  rw[cm,cm];have e:Mo ((al,root tk::ns),es) r=(((rtR ((al,ns),es) r).1.1,root tk::(rtR ((al,ns),es) r).1.2),(rtR ((al,ns),es) r).2):=by
   unfold Mo rtR;dsimp only;rw[TB]
  rw[e,TD tk rs]
theorem xq(tk:av)(rs:aq):jN tk rs=(((rtB rs).1.1,root tk::(rtB rs).1.2),(rtB rs).2):=TD tk rs [] [] []
theorem a0R(tk:av){rs:aq}(h:∀r∈rs,gr r=true)(h6:rs.length<=6):(jN tk rs).1.2.length<=25:=by
 have main:∀(l:aq) (z:(bK×bE)×bP),(∀r∈l,gr r=true)->(l.foldl Mo z).1.2.length<=z.1.2.length+4*l.length:=by
  intro l
  induction l with
  |nil=>intro z _;exact bR _
  |cons r l ih=>
   intro z hl;have h1:=ih (Mo z r) (fun x hx=>hl x (by simp[hx]));have h2:=(LS (gJ r) (z.1,0)).2;have h3:=zl (hl r (by simp));have h4:(Mo z r).1.2.length=((gJ r).foldl Jy (z.1,0)).1.2.length:=rfl;rw[cm,aL];dsimp only at h2;omega
 have:=main rs (([],[root tk]),[]) h;unfold jN;simp only[aL,bG]at this;omega
end Go.Cx
namespace Go.Cx
open Go.RowKit Go.Proofs Tryz
def x7(x:Node):Int×aM:=(x.parent,x.cond)
theorem Pz{a b:bE}(h:a.map x7=b.map x7):∀(k v:Nat),PS a k v=PS b k v
 |0,_=>rfl
 |k+1,v=>by
  have e:(a[v]?).map x7=(b[v]?).map x7:=by rw[<-cF,<-cF,h]
  unfold PS;cases ha:a[v]? with
  |none=>
   cases hb:b[v]? with
   |none=>rfl
   |some y=>rw[ha,hb]at e;cases e
  |some x=>
   cases hb:b[v]? with
   |none=>rw[ha,hb]at e;cases e
   |some y=>
    rw[ha,hb]at e;have e1:x.parent=y.parent:=(rq (pP e)).1;dsimp only;rw[e1,Pz h k]
theorem QM{a b:bE}(h:a.map x7=b.map x7):BM a=BM b:=by
 funext i
 have e:(a[i]?).map x7=(b[i]?).map x7:=by rw[<-cF,<-cF,h]
 unfold BM;cases ha:a[i]? with
 |none=>
  cases hb:b[i]? with
  |none=>rfl
  |some y=>rw[ha,hb]at e;cases e
 |some x=>
  cases hb:b[i]? with
  |none=>rw[ha,hb]at e;cases e
  |some y=>
   rw[ha,hb]at e;have e2:x.cond=y.cond:=(rq (pP e)).2;show some x.cond=some y.cond;rw[e2]
theorem GC{a b:bE}(h:a.map x7=b.map x7)(v:Int):jF a v=jF b v:=by
 have hl:a.length=b.length:=by have:=congrArg List.length h;simpa using this
 unfold jF IF;rw[hl,Pz h,QM h]
def Fu(al:bK)(fs:aX):bK:=al.map fun a=>⟨a.shape,ze a.shape [] fs⟩
def xX(ns:bE)(fs:aX):bE->Nat->bE
 | [],_=>[]
 |x::xs,i=>⟨x.parent,x.cond,x.gK,B4 (jF ns (di i)) fs⟩::xX ns fs xs (i+1)
def Fv(ns:bE)(fs:aX):bE:=xX ns fs ns 0
theorem setAt{α:Type}(pre l:List α)(x y:α):(pre++x::l).set pre.length y=pre++y::l:=by
 rw[lQ _ _ (bR _),oH];rfl
structure K4(ns:List Node):Prop where
 len:ns.length<=1048576
 wt:∀x∈ns,x.cond.wt<=1048576
 path:∀i:Nat,(jF ns (di i)).length<=4
theorem Sv{ns:bE}{v:Int}{c:aM}(h:c∈jF ns v):∃x∈ns,x.cond=c:=by
 unfold jF at h;split at h
 ·unfold IF at h;obtain⟨i,_,hc⟩:=cD.1 h;unfold BM at hc;cases hx:ns[i]? with
  |none=>rw[hx]at hc;cases hc
  |some x=>rw[hx]at hc;exact⟨x,aC hx,pP hc⟩
 ·cases h
theorem Ya(n:aJ)(fs y:aX)(k:bK->Option (aJ×Unit))(hf:FS fs):∀(l pre:bK),(∀x∈l,x.shape.wt<=1048576)->eV n fs y k l pre.length (pre++l)=k (pre++Fu l fs):=by
 intro l
 induction l with
 |nil=>intro pre _;rfl
 |cons x l ih=>
  intro pre hw;have hx:(pre++x::l)[pre.length]?=some x:=by simp
  have hlt:decide (pre.length<((pre++x::l).map aW.c).length)=true:=by simp
  rw[eV,hlt,aU,hx,aA,a7D x.shape [] fs (hw x (by simp)) PB.nil hf,aA,aU,setAt];have:=ih (pre++[⟨x.shape,ze x.shape [] fs⟩]) (fun z hz=>hw z (by simp[hz]));rw[aS,gh,bQ]at this;rw[show pre++(⟨x.shape,ze x.shape [] fs⟩:aW)::l=pre++([⟨x.shape,ze x.shape [] fs⟩]++l)from rfl,this];simp[Fu]
theorem a4D(n:aJ)(fs y:aX)(q:bK)(k:Option (aJ×Unit))(hf:FS fs)(h24:fs.length<=24)(ns:bE)(hp:K4 ns):∀(l pre:bE),(pre++l).map x7=ns.map x7->
 dW n fs y q k l pre.length (pre++l)=some (⟨n.rules,n.ends,q,pre++xX ns fs l pre.length,y,n.dB⟩,()):=by
 intro l
 induction l with
 |nil=>intro pre _;rfl
 |cons x l ih=>
  intro pre he;have hx:(pre++x::l)[pre.length]?=some x:=by simp
  have hlt:decide (pre.length<((pre++x::l).map Node.c).length)=true:=by simp
  have hlen:(pre++x::l).length=ns.length:=by have:=congrArg List.length he;simpa using this
  have hok:NOk ⟨n.rules,n.ends,q,pre++x::l,y,n.dB⟩:=by
   refine⟨by show(pre++x::l).length<=1048576;rw[hlen];exact hp.len,fun z hz=>?_⟩;have hm:x7 z∈ns.map x7:=by rw[<-he];exact cC.2 ⟨z,hz,rfl⟩
   obtain⟨w,hw,e⟩:=cC.1 hm;have:w.cond=z.cond:=(rq e).2;rw[<-this];exact hp.wt w hw
  have a6k:jF (pre++x::l) ((pre.length:Nat):Int)=jF ns (di pre.length):=GC he _;have Wm:∀c∈jF ns (di pre.length),c.wt<=1048576:=by
   intro c hc;obtain⟨z,hz,e⟩:=Sv hc;rw[<-e];exact hp.wt z hz
  rw[dW,a4r _ _ hok,aA,a6k,a7N _ fs Wm (hp.path _) hf h24,aA,hlt,aU,hx,aA,setAt];have:=ih (pre++[⟨x.parent,x.cond,x.gK,B4 (jF ns (di pre.length)) fs⟩]) (by
   rw[<-he];simp[x7])
  rw[aS,gh,bQ]at this;rw[show pre++(⟨x.parent,x.cond,x.gK,B4 (jF ns (di pre.length)) fs⟩:Node)::l=pre++([⟨x.parent,x.cond,x.gK,B4 (jF ns (di pre.length)) fs⟩]++l)from rfl,this,xX];simp
theorem a7B(n:aJ)(fs:aX)(hf:FS fs)(h24:fs.length<=24)(ha:n.bJ.length<=1048576)(hs:∀x∈n.bJ,x.shape.wt<=1048576)(hp:K4 n.nodes):kK n fs=some (⟨n.rules,n.ends,Fu n.bJ fs,Fv n.nodes fs,fs,n.dB⟩,()):=by
 unfold kK;have h1:=Ya n fs fs;have hl:=hp.len;rw[O9 fs hf.1 (fun f hf2=>by have:=aG.fJ (hf.2 f hf2);omega),aA,uz (by omega),aU];have e1:=Ya n fs fs (fun(nB:bK)=>(bif decide (n.nodes.length<=maxLen)then(dW n fs fs nB none n.nodes 0 n.nodes)else none)) hf n.bJ [] hs;refine e1.trans ?_;rw[cL,uz (by omega),aU];exact a4D n fs fs _ none hf h24 n.nodes hp n.nodes [] rfl
end Go.Cx
namespace Go.Cx
open Go.RowKit Go.Proofs Tryz
theorem TP(ns:bE):∀(k k' v:Nat),1<=v->v<=k->v<=k'->PS ns k v=PS ns k' v
 |0,_,v,h1,h2,_=>by omega
 |k+1,0,v,h1,_,h3=>by omega
 |k+1,k'+1,v,h1,h2,h3=>by
  unfold PS;cases hx:ns[v]? with
  |none=>rfl
  |some x=>
   dsimp only;by_cases hp:1<=x.parent/\x.parent<(v:Int)
   ·rw[bX hp,bX hp,TP ns k k' x.parent.toNat (by omega) (by omega) (by omega)]
   ·rw[bL hp,bL hp]
theorem wA(ns:bE):jF ns (di 0)=[]:=by unfold jF di;rw[bL (by omega)]
theorem Ae{ns:bE}{i:Nat}{x:Node}(hx:ns[i]?=some x)(h1:1<=i){p:Nat}(hp:x.parent=di p)(hpi:p<i):jF ns (di i)=jF ns (di p)++[x.cond]:=by
 have hl:=(aF.1 hx).1;unfold di at hp;have e1:jF ns (di i)=IF ns i i:=by unfold jF di;rw[bX (by omega)];rfl
 obtain⟨k,rfl⟩:∃k,i=k+1:=⟨i-1,by omega⟩
 rw[e1,OY hx];by_cases h0:1<=p
 ·rw[bX (by omega)];have e2:jF ns (di p)=IF ns p p:=by unfold jF di;rw[bX (by omega)];rfl
  rw[e2,hp,wR];unfold IF;rw[TP ns k p p h0 (by omega) (bR _)]
 ·rw[bL (by omega),show p=0 by omega,wA]
def Tf(ns:bE):Prop:=∀(i:Nat) x,1<=i->ns[i]?=some x->∃p:Nat,x.parent=di p/\p<i
theorem MM{ns:bE}(hb:Tf ns)(m:bE):∀(n i:Nat),i<=n->i<ns.length->jF (ns++m) (di i)=jF ns (di i):=by
 intro n
 induction n with
 |zero=>
  intro i h1 _;rw[show i=0 by omega,wA,wA]
 |succ n ih=>
  intro i h1 h2;by_cases h0:i=0
  ·rw[h0,wA,wA]
  ·have hx:ns[i]?=some ns[i]:=ah h2;have hx':(ns++m)[i]?=some ns[i]:=by rw[ax h2];exact hx
   obtain⟨p,hp,hpi⟩:=hb i _ (by omega) hx;rw[Ae hx (by omega) hp hpi,Ae hx' (by omega) hp hpi,ih p (by omega) (by omega)]
structure DT(R:List aM->Prop)(ns:List Node):Prop where
 pos:1<=ns.length
 below:Tf ns
 path:∀i:Nat,1<=i->i<ns.length->R (jF ns (di i))
theorem S3{p:Int}{c:aM}:∀ {l:bE} {i j:Nat},QK p c l i=some j->∃x,l[j-i]?=some x/\i<=j/\0<j/\x.parent=p/\x.cond=c
 |x::l,i,j,h=>by
  unfold QK at h;split at h
  ·rename_i hc;cases h;exact⟨x,by simp,bR _,hc.1,hc.2.1,hc.2.2⟩
  ·obtain⟨y,h1,h2,h3,h4,h5⟩:=S3 h;refine⟨y,?_,by omega,h3,h4,h5⟩;rw[show j-i=(j-(i+1))+1 by omega];exact h1
theorem DT.step{R:ai->Prop}{al:bK}{ns:bE}(h:DT R ns){a:Nat}(ha:a<ns.length){c:aM}(hR:R (jF ns (di a)++[c])):
 DT R (N7 al ns (di a) c).1.2/\∃b:Nat,(N7 al ns (di a) c).2=di b/\b<(N7 al ns (di a) c).1.2.length/\jF (N7 al ns (di a) c).1.2 (di b)=jF ns (di a)++[c]:=by
 unfold N7;cases hc:QK (di a) c ns 0 with
 |some j=>
  obtain⟨x,h1,h2,h3,h4,h5⟩:=S3 hc;rw[zS]at h1;have hj:=(aF.1 h1).1;obtain⟨p,hp,hpj⟩:=h.below j x (by omega) h1;have:p=a:=by rw[hp]at h4;unfold di at h4;omega
  subst this;exact⟨h,j,rfl,hj,by rw[Ae h1 (by omega) hp hpj,h5]⟩
 |none=>
  dsimp only;have hbel:Tf (ns++[⟨di a,c,(Tp al c).2,[]⟩]):=by
   intro i x h1 hx;by_cases hi:i<ns.length
   ·rw[ax hi]at hx;exact h.below i x h1 hx
   ·rw[bC (by omega)]at hx;have hi2:i=ns.length:=by
     have:=(aF.1 hx).1;simp at this;omega
    rw[hi2,oH]at hx;cases hx;exact⟨a,rfl,by omega⟩
  have hnew:jF (ns++[⟨di a,c,(Tp al c).2,[]⟩]) (di ns.length)=jF ns (di a)++[c]:=by
   have hx:(ns++[(⟨di a,c,(Tp al c).2,[]⟩:Node)])[ns.length]?=some ⟨di a,c,(Tp al c).2,[]⟩:=by simp
   have h1:=h.pos;rw[Ae hx (by omega) (p:=a) rfl ha,MM h.below _ a a (bR _) ha]
  refine⟨⟨by simp,hbel,fun i h1 h2=>?_⟩,ns.length,rfl,by simp,hnew⟩;by_cases hi:i<ns.length
  ·rw[MM h.below _ i i (bR _) hi];exact h.path i h1 hi
  ·have:i=ns.length:=by simp at h2;omega
   rw[this,hnew];exact hR
theorem DT.rule{R:ai->Prop}:∀(cs:ai) {al:bK} {ns:bE} {a:Nat},DT R ns->a<ns.length->(∀j:Nat,1<=j->j<=cs.length->R (jF ns (di a)++cs.take j))->
 DT R (cs.foldl Jy ((al,ns),di a)).1.2/\∃b:Nat,(cs.foldl Jy ((al,ns),di a)).2=di b/\b<(cs.foldl Jy ((al,ns),di a)).1.2.length/\jF (cs.foldl Jy ((al,ns),di a)).1.2 (di b)=jF ns (di a)++cs
 | [],al,ns,a,h,ha,_=>⟨h,a,rfl,ha,by simp⟩
 |c::cs,al,ns,a,h,ha,hR=>by
  obtain⟨h1,b,h2,h3,h4⟩:=h.step (al:=al) ha (c:=c) (by have:=hR 1 (bR _) (by simp);simpa using this);have e:Jy ((al,ns),di a) c=(((N7 al ns (di a) c).1.1,(N7 al ns (di a) c).1.2),di b):=by
   show N7 al ns (di a) c=_;rw[<-h2]
  rw[cm,e];obtain⟨k1,d,k2,k3,k4⟩:=DT.rule cs (al:=(N7 al ns (di a) c).1.1) h1 h3 (fun j IC hj2=>by
   rw[h4,bQ];have:=hR (j+1) (by omega) (by simp;omega);simpa using this)
  exact⟨k1,d,k2,k3,by rw[k4,h4];simp⟩
theorem a1Q(al:bK)(ns:bE)(p:Int)(c:aM):∃m,(N7 al ns p c).1.2=ns++m:=by
 unfold N7;cases QK p c ns 0 with
 |some i=>exact⟨[],by simp⟩
 |none=>exact⟨[⟨p,c,(Tp al c).2,[]⟩],rfl⟩
theorem Vs:∀(cs:ai) (s:(bK×bE)×Int),∃m,(cs.foldl Jy s).1.2=s.1.2++m
 | [],s=>⟨[],by simp⟩
 |c::cs,s=>by
  obtain⟨m,h⟩:=a1Q s.1.1 s.1.2 s.2 c;obtain⟨m2,h2⟩:=Vs cs (Jy s c);refine⟨m++m2,?_⟩;rw[cm,h2];show(N7 s.1.1 s.1.2 s.2 c).1.2++m2=_;rw[h,bQ]
def VC(rs:aq)(p:ai):Prop:=∃r∈rs,∃j:Nat,1<=j/\j<=(gJ r).length/\p=(gJ r).take j
theorem TC(all:aq):∀(l:aq) (al:bK) (ns:bE) (es:bP),(∀r∈l,r∈all)->DT (VC all) ns->
 DT (VC all) (l.foldl Mo ((al,ns),es)).1.2/\(∃m,(l.foldl Mo ((al,ns),es)).1.2=ns++m)/\∃fs,(l.foldl Mo ((al,ns),es)).2=es++fs/\fs.length=l.length/\
  ∀(i:Nat) r,l[i]?=some r->∃b:Nat,fs[i]?=some (di b)/\b<(l.foldl Mo ((al,ns),es)).1.2.length/\jF (l.foldl Mo ((al,ns),es)).1.2 (di b)=gJ r
 | [],al,ns,es,_,h=>⟨h,⟨[],by simp⟩,[],by simp,rfl,fun i r hr=>by simp at hr⟩
 |r::l,al,ns,es,hm,h=>by
  obtain⟨h1,b,h2,h3,h4⟩:=DT.rule (gJ r) (al:=al) h (a:=0) (by have:=h.pos;omega) (fun j IC hj2=>by
   rw[wA,cL];exact⟨r,hm r (by simp),j,IC,hj2,rfl⟩)
  obtain⟨m1,hm1⟩:=Vs (gJ r) ((al,ns),di 0);obtain⟨k1,⟨m2,hm2⟩,fs,k2,k3,k4⟩:=TC all l ((gJ r).foldl Jy ((al,ns),di 0)).1.1 ((gJ r).foldl Jy ((al,ns),di 0)).1.2 (es++[di b]) (fun x hx=>hm x (by simp[hx])) h1;have e:Mo ((al,ns),es) r=((((gJ r).foldl Jy ((al,ns),di 0)).1.1,((gJ r).foldl Jy ((al,ns),di 0)).1.2),es++[di b]):=by
   rw[<-h2];rfl
  rw[cm,e];refine⟨k1,⟨m1++m2,by rw[hm2,hm1,bQ]⟩,di b::fs,by rw[k2];simp,by simp[k3],?_⟩;intro i x hx;cases i with
  |zero=>
   have:r=x:=by simpa using hx
   subst this;refine⟨b,rfl,by rw[hm2];simp;omega,?_⟩;rw[hm2,MM h1.below _ b b (bR _) h3,h4,wA];rfl
  |succ i=>exact k4 i x (by simpa using hx)
theorem XL(R:ai->Prop)(tk:av):DT R [root tk]:=
 ⟨bR _,fun i x h1 hx=>by
  have:=(aF.1 hx).1;simp at this;omega,fun i h1 h2=>by simp at h2;omega⟩
theorem MT(tk:av)(rs:aq):DT (VC rs) (jN tk rs).1.2/\(jN tk rs).2.length=rs.length/\∀(i:Nat) r,rs[i]?=some r->∃b:Nat,(jN tk rs).2[i]?=some (di b)/\b<(jN tk rs).1.2.length/\jF (jN tk rs).1.2 (di b)=gJ r:=by
 obtain⟨h1,_,fs,h2,h3,h4⟩:=TC rs rs [] [root tk] [] (fun r hr=>hr) (XL _ tk);rw[cL]at h2;refine⟨h1,?_,?_⟩
 ·show(rs.foldl Mo (([],[root tk]),[])).2.length=_;rw[h2,h3]
 ·intro i r hr;obtain⟨b,k1,k2,k3⟩:=h4 i r hr;refine⟨b,?_,k2,k3⟩;show(rs.foldl Mo (([],[root tk]),[])).2[i]?=_;rw[h2];exact k1
theorem Sx{r:aN}(h:gr r=true):∃c cs,gJ r=c::cs/\c.kind=1:=by
 have hb:=R2 h;cases hc:r.conds with
 |nil=>
  unfold gr at h;rw[hc]at h;simp at h
 |cons c cs=>
  refine⟨Oe (fW r) c,cs.map (Oe (fW r)),by unfold gJ;rw[hc];rfl,?_⟩;exact(Nn (pre:=[]) (i:=0) (c:=c) (rest:=cs) (by rw[cL,<-hc];exact hb)).2.1 rfl
theorem XM{rs:aq}(h:∀r∈rs,gr r=true){p:ai}(hp:VC rs p):p.length<=4/\∃c cs,p=c::cs/\c.kind=1:=by
 obtain⟨r,hr,j,h1,h2,rfl⟩:=hp;have:=zl (h r hr);refine⟨by rw[cJ];omega,?_⟩;obtain⟨c,cs,e,hk⟩:=Sx (h r hr);obtain⟨j,rfl⟩:∃k,j=k+1:=⟨j-1,by omega⟩
 exact⟨c,cs.take j,by rw[e];rfl,hk⟩
theorem Sy{r:aN}(h:gr r=true):∀c∈gJ r,c.pat.rel.length<=8/\c.pat.args.length<=3/\∀x∈c.pat.args,x.length<=16:=by
 intro c' hc';obtain⟨c,hc,rfl⟩:=cC.1 hc';obtain⟨h1,h2,h3,h4,h5⟩:=Nl (BH h c hc);have hV:∀x∈c.pat.args++[c.left,c.right],ez x=true->x∈yl r.conds:=fun x hx hv=>Ab.2 ⟨br.2 ⟨c,hc,hx⟩,hv⟩
 refine⟨h1,by show(c.pat.args.map _).length<=3;rw[aa];exact h2,fun x hx=>?_⟩;obtain⟨y,hy,rfl⟩:=cC.1 hx;exact LO h (h3 y hy) (hV y (by simp[hy]))
theorem a0K{p:aG}(h1:p.rel.length<=8)(h2:p.args.length<=3)(h3:∀x∈p.args,x.length<=16):(Jq p).wt<=1048576:=by
 have a3:=RS (p.args.map (DZ (p.args.foldl kW []))) (fun x hx=>by
  obtain⟨y,hy,rfl⟩:=cC.1 hx;exact a5L (by omega) (h3 y hy))
 rw[aa]at a3;show aG.wt ⟨p.rel,p.args.map (DZ (p.args.foldl kW []))⟩<=1048576;unfold aG.wt;dsimp only;unfold tw at*;omega
def yD(al:bK):Prop:=∀x∈al,x.shape.wt<=1048576/\x.facts=[]
theorem Tq{al:bK}{ns:bE}{p:Int}{c:aM}(h:yD al)(hc:(Jq c.pat).wt<=1048576):yD (N7 al ns p c).1.1:=by
 unfold N7;cases QK p c ns 0 with
 |some i=>exact h
 |none=>
  show yD (Tp al c).1;unfold Tp;by_cases hk:c.kind=1\/c.kind=2
  ·rw[bX hk];unfold alB;cases alI (Jq c.pat) al 0 with
   |some i=>exact h
   |none=>
    intro x hx;rcases aj.1 hx with hx|hx
    ·exact h x hx
    ·rw[cx.1 hx];exact⟨hc,rfl⟩
  ·rw[bL hk];exact h
theorem Om:∀(cs:ai) (s:(bK×bE)×Int),yD s.1.1->(∀c∈cs,(Jq c.pat).wt<=1048576)->yD (cs.foldl Jy s).1.1
 | [],_,h,_=>h
 |c::cs,s,h,hc=>Om cs (Jy s c) (Tq h (hc c (by simp))) (fun x hx=>hc x (by simp[hx]))
theorem Mp(tk:av){rs:aq}(h:∀r∈rs,gr r=true):yD (jN tk rs).1.1:=by
 have main:∀(l:aq) (z:(bK×bE)×bP),(∀r∈l,gr r=true)->yD z.1.1->yD (l.foldl Mo z).1.1:=by
  intro l
  induction l with
  |nil=>intro z _ hz;exact hz
  |cons r l ih=>
   intro z hl hz;refine ih (Mo z r) (fun x hx=>hl x (by simp[hx])) ?_;exact Om (gJ r) (z.1,0) hz (fun c hc=>by
    obtain⟨p1,p2,p3⟩:=Sy (hl r (by simp)) c hc;exact a0K p1 p2 p3)
 exact main rs _ h (fun x hx=>by cases hx)
theorem Vt(tk:av){rs:aq}(h:∀r∈rs,gr r=true)(h6:rs.length<=6):K4 (jN tk rs).1.2:=by
 have hp:=(MT tk rs).1;have hl:=a0R tk h h6;refine⟨by omega,?_,?_⟩
 ·intro x hx;obtain⟨i,hi⟩:=dM hx;have U9:=(aF.1 hi).1;by_cases h0:i=0
  ·subst h0;rw[xq]at hi;cases hi;unfold root aM.wt;simp[kD,tw]
  ·obtain⟨p,hpp,hpi⟩:=hp.below i x (by omega) hi;obtain⟨r,hr,j,j1,j2,e⟩:=hp.path i (by omega) U9;rw[Ae hi (by omega) hpp hpi]at e;have hm:x.cond∈gJ r:=cK (by rw[<-e];simp:x.cond∈(gJ r).take j);exact LM (h r hr) _ hm
 ·intro i;by_cases hi:1<=i/\i<(jN tk rs).1.2.length
  ·exact(XM h (hp.path i hi.1 hi.2)).1
  ·unfold jF di;rw[bL (by omega)];simp
theorem a4j(rs:aq)(fs:aX)(t:Int)(hr:kD aN.wt rs<=1048576)(hb:zX rs=true)(hf:FS fs)(h24:fs.length<=24):wY rs fs t=some ⟨rs,(jN [] rs).2,Fu (jN [] rs).1.1 fs,Fv (jN [] rs).1.2 fs,fs,t⟩:=by
 have h6:rs.length<=6:=by unfold zX at hb;simp only[aZ,bM]at hb;omega
 have hv:=Bo hb;have hsh:=Mp [] hv;have hal:(jN [] rs).1.1.length<=1048576:=by
  have main:∀(l:aq) (z:(bK×bE)×bP),(∀r∈l,gr r=true)->(l.foldl Mo z).1.1.length<=z.1.1.length+4*l.length:=by
   intro l
   induction l with
   |nil=>intro z _;exact bR _
   |cons r l ih=>
    intro z hl;have h1:=ih (Mo z r) (fun x hx=>hl x (by simp[hx]));have h2:=(LS (gJ r) (z.1,0)).1;have h3:=zl (hl r (by simp));have h4:(Mo z r).1.1.length=((gJ r).foldl Jy (z.1,0)).1.1.length:=rfl;rw[cm,aL];dsimp only at h2;omega
  have:=main rs (([],[root []]),[]) hv;unfold jN;simp only[bG]at this;omega
 unfold wY;rw[aAC rs hr hb,aA,a7B _ fs hf h24 hal (fun x hx=>(hsh x hx).1) (Vt [] hv h6)];rfl
end Go.Cx
namespace Go.Cx
open Go.RowKit Go.Proofs Tryz
def MK(rs:aq)(fs:aX)(t:Int):aJ:=⟨rs,(jN [] rs).2,Fu (jN [] rs).1.1 fs,Fv (jN [] rs).1.2 fs,fs,t⟩
def Tc(n:aJ):Bool:=zX n.rules&&(zA n.facts&&(decide (0<=n.dB)&&OM n (MK n.rules n.facts 0)))
theorem FS.OV{fs:aX}(h:kD aG.wt fs<=1048576):FS fs:=⟨by have:=gN aG.wt fs;omega,fun f hf=>by have:=gu (w:=aG.wt) hf;omega⟩
theorem a4p(n:aJ)(hr:kD aN.wt n.rules<=1048576)(hf:kD aG.wt n.facts<=1048576):qv n=some (Tc n):=by
 unfold qv Tc;rw[aA7 _ hr,a73 _ hf,aA,aA];cases h1:zX n.rules with
 |false=>rfl
 |true=>
  cases h2:zA n.facts with
  |false=>rfl
  |true=>
   rw[a4j _ _ _ hr h1 (FS.OV hf) (GO h2),aA,aAA,aA];simp only[aU,eP];by_cases h3:0<=n.dB
   ·rw[bn h3];rfl
   ·rw[bB h3];rfl
def yt(x:Node):Int×Int×aM:=(x.parent,x.gK,x.cond)
theorem Zf{a b:bE}(h:a.map yt=b.map yt):a.map x7=b.map x7:=by
 have:=congrArg (List.map fun t:Int×Int×aM=>(t.1,t.2.2)) h;rw[Ca,Ca]at this;exact this
def Xc(ns:bE)(fs:aX):bE->Nat->Bool
 | [],_=>true
 |x::xs,i=>decide (x.tokens=B4 (jF ns (di i)) fs)&&Xc ns fs xs (i+1)
theorem Pf(fs:aX):∀(a b:bK),a.map aW.shape=b.map aW.shape->((a.all fun x=>decide (x.facts=ze x.shape [] fs))=true↔a=Fu b fs)
 | [],[],_=>⟨fun _=>rfl,fun _=>rfl⟩
 | [],_::_,h=>by simp at h
 |_::_,[],h=>by simp at h
 |x::a,y::b,h=>by
  rw[bD,bD]at h;obtain⟨h1,h2⟩:=mc h;have ih:=Pf fs a b h2;rw[dD,aZ,bM,ih];show _↔x::a=⟨y.shape,ze y.shape [] fs⟩::Fu b fs;constructor
  ·rintro⟨q1,q2⟩;rw[<-h1,<-q1,<-q2]
  ·intro q;obtain⟨q1,q2⟩:=mc q;exact⟨by rw[q1],q2⟩
theorem Pg(ns:bE)(fs:aX):∀(a b:bE) (i:Nat),a.map yt=b.map yt->(Xc ns fs a i=true↔a=xX ns fs b i)
 | [],[],_,_=>⟨fun _=>rfl,fun _=>rfl⟩
 | [],_::_,_,h=>by simp at h
 |_::_,[],_,h=>by simp at h
 |x::a,y::b,i,h=>by
  rw[bD,bD]at h;obtain⟨h1,h2⟩:=mc h;have ih:=Pg ns fs a b (i+1) h2;have e1:x.parent=y.parent:=(rq h1).1;have e2:x.gK=y.gK:=(rq (rq h1).2).1;have e3:x.cond=y.cond:=(rq (rq h1).2).2;unfold Xc xX;rw[aZ,bM,ih];constructor
  ·rintro⟨q1,q2⟩;rw[<-e1,<-e2,<-e3,<-q1,<-q2]
  ·intro q;obtain⟨q1,q2⟩:=mc q;exact⟨by rw[q1],q2⟩
theorem a3i(n:aJ)(k:Option Bool)(hf:FS n.facts):∀(l:bK) (i:Nat),(∀x∈l,x.shape.wt<=1048576)->j7 n k l i=bif l.all (fun x=>decide (x.facts=ze x.shape [] n.facts))then k else some false
 | [],_,_=>rfl
 |x::l,i,h=>by
  rw[j7,a7s x.shape [] n.facts (h x (by simp)) PB.nil hf,aA,R6,aA,a3i n k hf l _ (fun y hy=>h y (by simp[hy])),dD];cases decide (x.facts=ze x.shape [] n.facts)<;>rfl
theorem a3j(n:aJ)(k:Option Bool)(hf:FS n.facts)(h24:n.facts.length<=24)(hp:K4 n.nodes):∀(l:bE) (i:Nat),j8 n k l i=bif Xc n.nodes n.facts l i then k else some false
 | [],_=>rfl
 |x::l,i=>by
  have Wm:∀c∈jF n.nodes ((i:Nat):Int),c.wt<=1048576:=by
   intro c hc;obtain⟨z,hz,e⟩:=Sv hc;rw[<-e];exact hp.wt z hz
  rw[j8,a5X n _ ⟨hp.len,hp.wt⟩,aA,a86 _ n.facts Wm (hp.path i) hf h24,aA,a2P,aA,a3j n k hf h24 hp l,Xc];show(bif !decide (x.tokens=B4 (jF n.nodes (di i)) n.facts)then some false else _)=_;cases decide (x.tokens=B4 (jF n.nodes (di i)) n.facts)<;>rfl
theorem a5T(n:aJ)(hr:kD aN.wt n.rules<=1048576)(hf:kD aG.wt n.facts<=1048576):om n=some (Tc n):=by
 unfold om Tc;rw[a5S _ hr,a7m _ hf,aA,aA];cases h1:zX n.rules with
 |false=>rfl
 |true=>
  cases h2:zA n.facts with
  |false=>rfl
  |true=>
   have h6:n.rules.length<=6:=by unfold zX at h1;simp only[aZ,bM]at h1;omega
   have hv:=Bo h1;simp only[aU,bW,af,eP];rw[a7v,aA];have hroot:(jN [⟨[],[]⟩] n.rules).1.2.map yt=(jN [] n.rules).1.2.map yt:=by rw[xq,xq];rfl
   have hA:(jN [⟨[],[]⟩] n.rules).1.1=(jN [] n.rules).1.1:=by rw[xq,xq]
   have hE:(jN [⟨[],[]⟩] n.rules).2=(jN [] n.rules).2:=by rw[xq,xq]
   have hmem:OM n (MK n.rules n.facts 0)=(decide (n.ends=(jN [] n.rules).2)&&(decide (n.bJ=Fu (jN [] n.rules).1.1 n.facts)&&decide (n.nodes=Fv (jN [] n.rules).1.2 n.facts))):=by
    unfold OM MK;simp
   by_cases hform:Nx n ⟨n.rules,(jN [⟨[],[]⟩] n.rules).2,(jN [⟨[],[]⟩] n.rules).1.1,(jN [⟨[],[]⟩] n.rules).1.2,[],0⟩=true
   ·rw[hform];unfold Nx at hform;simp only[aZ,bM]at hform;obtain⟨f1,f2,f3⟩:=hform;have f2':n.nodes.map yt=(jN [] n.rules).1.2.map yt:=by rw[<-hroot];exact f2
    have f1':n.bJ.map aW.shape=(jN [] n.rules).1.1.map aW.shape:=by rw[<-hA];exact f1
    have f3':n.ends=(jN [] n.rules).2:=by rw[<-hE];exact f3
    have a4T:=Vt [] hv h6;have hfn:=Zf f2';have hok:K4 n.nodes:=by
     refine⟨by have:=congrArg List.length f2';rw[aa,aa]at this;rw[this];exact a4T.len,fun x hx=>?_,fun i=>by rw[GC hfn];exact a4T.path i⟩;have hm:x7 x∈(jN [] n.rules).1.2.map x7:=by rw[<-hfn];exact cC.2 ⟨x,hx,rfl⟩
     obtain⟨w,hw,e⟩:=cC.1 hm;have:w.cond=x.cond:=(rq e).2;rw[<-this];exact a4T.wt w hw
    have hsh:∀x∈n.bJ,x.shape.wt<=1048576:=by
     intro x hx;have hm:x.shape∈(jN [] n.rules).1.1.map aW.shape:=by rw[<-f1'];exact cC.2 ⟨x,hx,rfl⟩
     obtain⟨w,hw,e⟩:=cC.1 hm;rw[<-e];exact(Mp [] hv w hw).1
    have g1:=Pf n.facts n.bJ _ f1';have g2:=Pg n.nodes n.facts n.nodes _ 0 f2';have g3:xX n.nodes n.facts (jN [] n.rules).1.2 0=Fv (jN [] n.rules).1.2 n.facts:=by
     unfold Fv;have:∀(l:bE) (i:Nat),xX n.nodes n.facts l i=xX (jN [] n.rules).1.2 n.facts l i:=by
      intro l
      induction l with
      |nil=>intro i;rfl
      |cons x l ih=>intro i;rw[xX,xX,ih,GC hfn]
     exact this _ _
    rw[g3]at g2;rw[hmem,bn f3',eP,a3i n _ (FS.OV hf) _ _ hsh,a3j n _ (FS.OV hf) (GO h2) hok];have k1:(n.bJ.all fun x=>decide (x.facts=ze x.shape [] n.facts))=decide (n.bJ=Fu (jN [] n.rules).1.1 n.facts):=by rw[bf,g1,bM]
    have k2:Xc n.nodes n.facts n.nodes 0=decide (n.nodes=Fv (jN [] n.rules).1.2 n.facts):=by rw[bf,g2,bM]
    rw[k1,k2];by_cases h3:0<=n.dB
    ·rw[bn h3,bB (by omega)];cases decide (n.bJ=Fu (jN [] n.rules).1.1 n.facts)<;>cases decide (n.nodes=Fv (jN [] n.rules).1.2 n.facts)<;>rfl
    ·rw[bB h3,bn (by omega)];rfl
   ·have hfalse:Nx n ⟨n.rules,(jN [⟨[],[]⟩] n.rules).2,(jN [⟨[],[]⟩] n.rules).1.1,(jN [⟨[],[]⟩] n.rules).1.2,[],0⟩=false:=by
     cases hq:Nx n ⟨n.rules,(jN [⟨[],[]⟩] n.rules).2,(jN [⟨[],[]⟩] n.rules).1.1,(jN [⟨[],[]⟩] n.rules).1.2,[],0⟩with
     |true=>exact absurd hq hform
     |false=>rfl
    rw[hfalse];have hm:OM n (MK n.rules n.facts 0)=false:=by
     cases hq:OM n (MK n.rules n.facts 0)with
     |false=>rfl
     |true=>
      exfalso;rw[hmem]at hq;simp only[aZ,bM]at hq;obtain⟨q1,q2,q3⟩:=hq;apply hform;unfold Nx;simp only[aZ,bM];have r1:n.bJ.map aW.shape=(jN [⟨[],[]⟩] n.rules).1.1.map aW.shape:=by rw[hA,q2];unfold Fu;rw[Ca];rfl
      have r2:n.nodes.map yt=(jN [⟨[],[]⟩] n.rules).1.2.map yt:=by
       rw[hroot,q3];have:∀(ns l:bE) (i:Nat),(xX ns n.facts l i).map yt=l.map yt:=by
        intro ns l
        induction l with
        |nil=>intro i;rfl
        |cons x l ih=>intro i;rw[xX,bD,ih];rfl
       exact this _ _ _
      exact⟨r1,r2,by rw[hE];exact q1⟩
    rw[hm,wQ];rfl
end Go.Cx
namespace Go.Cx
open Go.RowKit Go.Proofs Tryz
theorem RM{fs:aX}(hf:FS fs):∀(cs:ai) (l:av) (n:Nat),(∀c∈cs,c.wt<=1048576)->(∀t∈l,TK n t)->∀t∈cs.foldl (x8 fs) l,TK (n+cs.length) t
 | [],l,n,_,hl=>hl
 |c::cs,l,n,hc,hl=>by
  have:=RM hf cs (x8 fs l c) (n+1) (fun x hx=>hc x (by simp[hx])) (Qq hl (hc c (by simp)) hf);rw[aL,show n+(cs.length+1)=n+1+cs.length from by omega];exact this
theorem a5j{r:aN}{fs:aX}(n:Int)(hr:r.wt<=1048576)(hf:kD aG.wt fs<=1048576):∀t∈tkO r n fs,TK 4 t:=by
 intro t ht;unfold tkO at ht;cases h1:gr r with
 |false=>rw[h1]at ht;cases ht
 |true=>
  cases hb:(zA fs&&(decide (n>=0)&&decide (n<=(r.conds.length:Int))))with
  |false=>rw[h1,hb]at ht;cases ht
  |true=>
   rw[h1,hb]at ht;have h4:=MP h1;exact(RM (FS.of hf) _ _ 0 (a2X hr _) Qs t ht).le (by rw[cJ];omega)
theorem GR{α:Type}{m:α->Nat}{B:Nat}:∀(l:List α),(∀x∈l,m x<=B)->fN m l<=B*l.length
 | [],_=>by simp[fN]
 |x::l,h=>by
  have h1:=GR l fun y hy=>h y (by simp[hy])
  have h2:=h x (by simp);rw[rj,aL,Nat.mul_add];omega
theorem X4{n:Nat}(l:aX)(hl:l.length<=n)(hf:∀f∈l,f.wt<=1048576):fN aG.gf l<=6291462*n:=by
 have:=GR (m:=aG.gf) (B:=6291462) l fun f hf'=>by have:=aG.pF f;have:=hf f hf';omega
 exact cU this (gS _ hl)
theorem X7(l:aI)(h:PB l):fN aK.gf l<=2*1048576:=by
 have:=GR (m:=aK.gf) (B:=2) l fun f _=>by simp[aK.gf]
 exact cU this (gS _ h.1)
theorem X6(r:aN)(fs:aX)(hr:r.wt<=1048576)(hf:kD aG.wt fs<=1048576):∀m∈Za r fs,m.gf<=100000000:=by
 intro m hm;unfold Za at hm;obtain⟨t,ht,rfl⟩:=cC.1 hm;have h:=a5j _ hr hf t ht;have h1:=X4 (n:=4) t.facts h.1 h.2.1;have h2:=X7 t.bind h.2.2;simp only[az.gf];omega
def a1I(rs:aq)(fs:aX):bq:=bif zX rs then rs.flatMap fun r=>Za r fs else []
theorem YJ{l:aq}(h:zX l=true):l.length<=6:=by
 unfold zX at h;simp only[aZ,bM]at h;omega
theorem SE(fs:aX):∀(l:aq),(l.flatMap fun r=>Za r fs).length<=l.length*390625
 | []=>by simp
 |r::l=>by
  have h1:=SE fs l;have h2:(Za r fs).length<=390625:=by unfold Za;rw[aa];exact a2Y _ _ _
  rw[cT,aS,aL,Cc];omega
end Go.Cx
namespace Go.Cx
open Go.RowKit Go.Proofs Tryz
theorem Wi{b:aI}{x y:Bytes}(h:(xm b x y).2=true):gw (xm b x y).1=true:=by
 unfold xm at h⊢;cases hc:gw b&&(ez x&&fZ y)with
 |false=>rw[hc]at h;cases h
 |true=>
  rw[hc,aU]at h;rw[aU];simp only[aZ]at hc;cases hf:cw x b with
  |some o=>
   rw[hf]at h;dsimp only at h⊢;cases ho:o==y with
   |false=>rw[ho]at h;cases h
   |true=>exact hc.1
  |none=>
   rw[hf]at h;dsimp only at h⊢;cases hd:decide (b.length=6)with
   |true=>rw[hd]at h;cases h
   |false=>exact Ed hc.2.1 hc.2.2 hc.1 hf (of_decide_eq_false hd)
theorem MI:∀(l r:aH) (b:aI),gw b=true->(tE l r b).2=true->gw (tE l r b).1=true
 | [],_,b,hb,_=>hb
 |_::_,[],_,_,h=>by cases h
 |x::xs,y::ys,b,hb,h=>by
  simp only[tE]at h⊢;cases hx:fZ x with
  |true=>
   rw[hx,aU]at h;rw[aU];cases hxy:x==y with
   |false=>rw[hxy]at h;cases h
   |true=>rw[hxy,aU]at h;rw[aU];exact MI xs ys b hb h
  |false=>
   rw[hx,af]at h;rw[af];cases he:(xm b x y).2 with
   |false=>rw[he]at h;cases h
   |true=>rw[he,aU]at h;rw[aU];exact MI xs ys _ (Wi he) h
theorem X1{p f:aG}{b:aI}(hb:gw b=true)(h:(qJ p f b).2=true):gw (qJ p f b).1=true:=by
 unfold qJ at h⊢;cases hc:yT p&&(zO f&&(gw b&&(p.rel==f.rel&&decide (p.args.length=f.args.length))))with
 |false=>rw[hc]at h;cases h
 |true=>rw[hc,aU]at h;rw[aU];exact MI _ _ _ hb h
theorem XD{c:aM}{fs:aX}{t u:aR}(hb:gw t.bind=true)(hu:u∈Jk c fs t):gw u.bind=true:=by
 unfold Jk at hu;cases hk:decide (c.kind=1)with
 |true=>
  rw[hk,aU]at hu;obtain⟨f,hf,hu⟩:=br.1 hu;unfold ext1 at hu;cases hm:(qJ c.pat f t.bind).2 with
  |false=>rw[hm]at hu;cases hu
  |true=>
   rw[hm,aU]at hu;rw[cx.1 hu];exact X1 hb hm
 |false=>
  rw[hk,af]at hu;cases hh:EP c t.bind fs with
  |false=>rw[hh]at hu;cases hu
  |true=>rw[hh,aU]at hu;rw[cx.1 hu];exact hb
theorem TN(fs:aX):∀(cs:ai) (A:av),(∀t∈A,gw t.bind=true)->∀u∈cs.foldl (x8 fs) A,gw u.bind=true
 | [],_,h=>h
 |c::cs,A,h=>TN fs cs (x8 fs A c) (fun u hu=>by
  obtain⟨t,ht,hu⟩:=br.1 hu;exact XD (h t ht) hu)
theorem Xb{cs:ai}{fs:aX}:∀u∈B4 cs fs,gw u.bind=true:=TN fs cs [⟨[],[]⟩] (fun t ht=>by rw[cx.1 ht];rfl)
def YN(b:aI)(w:aI)(x:aK):aI:=bif (ou b x.value).2 then wP x.var (ou b x.value).1 w else w
def bkB(b to:aI):aI:=to.foldl (YN b) []
theorem YM{b:aI}(h:gw b=true):PB b:=by
 have h6:=GP h;refine⟨by omega,fun p hp=>?_⟩;obtain⟨h1,h2⟩:=Bt (uI h) p hp;have:=GK h1;have:=Bp h2;omega
theorem Zy(b to:aI)(k:aI->Option aI):∀(l:aI) (i:Nat) (w:aI),(∀x∈l,x.value.length<=1048576)->w.length+l.length<=1000000->kB b to k l i w=k (l.foldl (YN b) w)
 | [],_,_,_,_=>rfl
 |x::l,i,w,h,hl=>by
  simp only[aL]at hl;have ih:=Zy b to k l (i+1);rw[kB,a2Q b x.value (h x (by simp)),aA,cm,a3l w x.var _ (by omega),aA];unfold YN;cases(ou b x.value).2 with
  |true=>rw[aU,aU];exact ih _ (fun y hy=>h y (by simp[hy])) (by rw[CR];omega)
  |false=>rw[af,af];exact ih _ (fun y hy=>h y (by simp[hy])) (by omega)
theorem a7n(b to:aI)(h:∀x∈to,x.value.length<=1048576)(hl:to.length<=1000):vX b to=some (bkB b to):=by
 unfold vX;rw[Zy b to _ to 0 [] h (by simp;omega)];rfl
theorem Z5(a:aJ)(w2:bq)(i2:Nat)(t:aR)(i1:Nat)(r:aN)(y:aI)(nd:Node)(fs:aX)(k:aI->Option bq)(hb:gw t.bind=true):∀(l:aI) (i:Nat) (w:aI),(∀x∈l,ez x.var=true/\ez x.value=true/\cw x.var w=none)->(l.map aK.var).Nodup->gw w=true->w.length+l.length<=6->fC a w2 i2 t i1 r y nd fs k l i w=k (l.foldl (YN t.bind) w)
 | [],_,_,_,_,_,_=>rfl
 |x::l,i,w,h,hn,hw,hl=>by
  simp only[aL]at hl;rw[bD,dU]at hn;obtain⟨h1,h2,h3⟩:=h x (by simp);have ih:=Z5 a w2 i2 t i1 r y nd fs k hb l (i+1);have hx:=GK h1;have hv:=GK h2;rw[fC,a1r t.bind x.value (by omega),aA,cm];unfold YN;cases hval:(ou t.bind x.value).2 with
  |false=>rw[af,af];exact ih w (fun z hz=>h z (by simp[hz])) hn.2 hw (by omega)
  |true=>
   have TZ:fZ (ou t.bind x.value).1=true:=by
    unfold ou at hval⊢;rw[oM h2,h2,af,aU]at hval⊢;cases hf:cw x.value t.bind with
    |none=>rw[hf]at hval;cases hval
    |some o=>
     obtain⟨p,hp,_,e⟩:=xo hf;dsimp only;rw[<-e];exact(Bt (uI hb) p hp).2
   have hal:=Bp TZ;have hne:w.length≠6:=by omega
   have he:xm w x.var (ou t.bind x.value).1=(wP x.var (ou t.bind x.value).1 w,true):=by
    unfold xm;rw[hw,h1,TZ,h3,bB hne];rfl
   rw[aU,aU,a7A w x.var _ (YM hw) (by omega) (by omega),aA,he];refine ih _ (fun z hz=>?_) hn.2 (Ed h1 TZ hw h3 hne) (by rw[CR];omega);obtain⟨z1,z2,z3⟩:=h z (by simp[hz]);refine⟨z1,z2,?_⟩;rw[uj (fun e=>hn.1 (by rw[e];exact cC.2 ⟨z,hz,rfl⟩))];exact z3
def cfT(r:aN)(t:aR):az:=⟨r.name,t.facts,bkB t.bind (fW r)⟩
def TF(t:aR):Prop:=t.facts.length<=1048576/\∀f∈t.facts,f.args.length<=1048576
theorem OQ{r:aN}(h:gr r=true):(∀x∈fW r,ez x.var=true/\ez x.value=true)/\((fW r).map aK.var).Nodup/\(fW r).length<=6:=by
 refine⟨fun x hx=>?_,CL (wC r.conds) TW.nil,MJ h⟩;obtain⟨i,hi,_,hval,hv⟩:=RR (LX (wC r.conds) YF.nil) hx;have:=MJ h;unfold fW at this;exact⟨hv,by rw[hval];exact Vi i (by omega)⟩
theorem a3d(a:aJ)(i1:Nat)(r:aN)(nd:Node)(k:bq->Option bq)(hr:gr r=true):∀(l:av) (i:Nat) (w:bq),(∀t∈l,TF t)->w.length+l.length<=1099511627000->fG a i1 r (fW r) nd k l i w=k (w++l.map (cfT r))
 | [],_,_,_,_=>by rw[fG];simp
 |t::l,i,w,h,hl=>by
  simp only[aL]at hl;obtain⟨n1,n2,n3⟩:=OQ hr;obtain⟨h1,h2⟩:=h t (by simp);rw[fG,Oi t.facts h1 h2,aA,a7n t.bind (fW r) (fun x hx=>by have:=GK (n1 x hx).2;omega) (by omega),aA,ni (by omega) (by decide),aU,a3d a i1 r nd k hr l _ _ (fun u hu=>h u (by simp[hu])) (by simp;omega)];simp[cfT]
theorem a33(a:aJ)(i1:Nat)(r:aN)(nd:Node)(k:bq->Option bq)(hr:gr r=true):∀(l:av) (i:Nat) (w:bq),(∀t∈l,TF t/\gw t.bind=true)->w.length+l.length<=1099511627000->fB a i1 r (fW r) nd k l i w=k (w++l.map (cfT r))
 | [],_,_,_,_=>by rw[fB];simp
 |t::l,i,w,h,hl=>by
  simp only[aL]at hl;obtain⟨n1,n2,n3⟩:=OQ hr;obtain⟨⟨h1,h2⟩,h3⟩:=h t (by simp);rw[fB,O9 t.facts h1 h2,aA,uz (by omega),aU,Z5 _ _ _ _ _ _ _ _ _ _ h3 (fW r) 0 [] (fun x hx=>⟨(n1 x hx).1,(n1 x hx).2,rfl⟩) n2 rfl (by simp;omega),ni (by omega) (by decide),aU,a33 a i1 r nd k hr l _ _ (fun u hu=>h u (by simp[hu])) (by simp;omega)];simp[cfT,bkB]
theorem MA(ns:bE)(fs:aX):∀(l:bE) (i j:Nat),(xX ns fs l i)[j]?=(l[j]?).map fun x=>⟨x.parent,x.cond,x.gK,B4 (jF ns (di (i+j))) fs⟩
 | [],_,_=>by simp[xX]
 |x::l,i,0=>by simp[xX]
 |x::l,i,j+1=>by
  rw[xX,eO,eO,MA ns fs l (i+1) j,show i+1+j=i+(j+1)by omega]
def Rf(n:aJ)(i:Nat)(r:aN):Prop:=gr r=true/\r.wt<=1048576/\∃(b:Nat) (nd:Node),n.ends[i]?=some (di b)/\n.nodes[b]?=some nd/\nd.tokens.length<=390625/\∀t∈nd.tokens,TF t/\gw t.bind=true
def YY(n:aJ)(i:Nat):av:=match n.ends[i]? with
 |some e=>(match nF n.nodes e with|some nd=>nd.tokens|none=>[])
 |none=>[]
def WS(n:aJ):aq->Nat->bq
 | [],_=>[]
 |r::rs,i=>(YY n i).map (cfT r)++WS n rs (i+1)
theorem Rf.get{n:aJ}{i:Nat}{r:aN}(h:Rf n i r):∃e nd,nF n.ends (i:Int)=some e/\nF n.nodes e=some nd/\YY n i=nd.tokens/\nd.tokens.length<=390625/\∀t∈nd.tokens,TF t/\gw t.bind=true:=by
 obtain⟨_,_,b,nd,h1,h2,h3,h4⟩:=h;have e1:nF n.ends (i:Int)=some (di b):=by unfold nF;rw[bn (by omega),aU];exact h1
 have e2:nF n.nodes (di b)=some nd:=by unfold nF di;rw[bn (by omega),aU];exact h2
 exact⟨di b,nd,e1,e2,by unfold YY;rw[h1];dsimp only;rw[e2],h3,h4⟩
theorem a3c(n:aJ)(k:bq->Option bq)(hn:om n=some true):∀(l:aq) (i:Nat) (w:bq),(∀(j:Nat) r,l[j]?=some r->Rf n (i+j) r)->w.length+390625*l.length<=100000000->eN n k l i w=k (w++WS n l i)
 | [],_,_,_,_=>by rw[eN];simp[WS]
 |r::l,i,w,h,hl=>by
  simp only[aL]at hl;have h0:=h 0 r rfl;rw[s9]at h0;obtain⟨e,nd,g1,g2,g3,g4,g5⟩:=h0.get;rw[eN,hn,aA,aU,a05 r h0.2.1,aA,g1,aA,g2,aA,uz (by omega),aU,a3d n i r nd _ h0.1 nd.tokens 0 w (fun t ht=>(g5 t ht).1) (by omega),a3c n k hn l (i+1) _ (fun j x hx=>by rw[show i+1+j=i+(j+1)by omega];exact h (j+1) x (by simpa using hx)) (by simp;omega),WS,g3,bQ]
theorem a32(n:aJ)(k:bq->Option bq):∀(l:aq) (i:Nat) (w:bq),(∀(j:Nat) r,l[j]?=some r->Rf n (i+j) r)->w.length+390625*l.length<=100000000->fA n k l i w=k (w++WS n l i)
 | [],_,_,_,_=>by rw[fA];simp[WS]
 |r::l,i,w,h,hl=>by
  simp only[aL]at hl;have h0:=h 0 r rfl;rw[s9]at h0;obtain⟨e,nd,g1,g2,g3,g4,g5⟩:=h0.get;rw[fA,ZC r h0.2.1,aA,g1,aA,g2,aA,uz (by omega),aU,a33 n i r nd _ h0.1 nd.tokens 0 w g5 (by omega),a32 n k l (i+1) _ (fun j x hx=>by rw[show i+1+j=i+(j+1)by omega];exact h (j+1) x (by simpa using hx)) (by simp;omega),WS,g3,bQ]
theorem S7{n:aJ}(hb:Tc n=true)(hr:kD aN.wt n.rules<=1048576)(hf:kD aG.wt n.facts<=1048576):∀(i:Nat) r,n.rules[i]?=some r->Rf n i r:=by
 intro i r hri;unfold Tc OM MK at hb;simp only[aZ,bM]at hb;obtain⟨b1,b2,_,_,b3,_,_,b4⟩:=hb;have hm:=aC hri;have hv:=Bo b1 r hm;have hrw:r.wt<=1048576:=by have:=gu (w:=aN.wt) hm;omega
 obtain⟨b,e1,e2,e3⟩:=(MT [] n.rules).2.2 i r hri;have hx:=ah e2;have h4:=zl hv;have h24:=GO b2;have hFS:=FS.OV hf;refine⟨hv,hrw,b,⟨((jN [] n.rules).1.2[b]).parent,((jN [] n.rules).1.2[b]).cond,((jN [] n.rules).1.2[b]).gK,B4 (gJ r) n.facts⟩,by rw[b3];exact e1,?_,TM h4 h24,?_⟩
 ·rw[b4];unfold Fv;rw[MA,hx,cg,e3];rfl
 ·intro t ht;have ht':t∈(gJ r).foldl (x8 n.facts) [⟨[],[]⟩]:=ht;have hk:=RM hFS (gJ r) [⟨[],[]⟩] 0 (LM hv) Qs t ht';exact⟨⟨by have:=hk.1;omega,fun f hff=>aG.fJ (hk.2.1 f hff)⟩,Xb t ht⟩
theorem a7p(n:aJ)(hr:kD aN.wt n.rules<=1048576)(hf:kD aG.wt n.facts<=1048576):mN n=some (bif Tc n then WS n n.rules 0 else []):=by
 unfold mN;have hi:=a5T n hr hf;cases hb:Tc n with
 |true=>
  rw[hb]at hi;have h6:n.rules.length<=6:=by
   have Ph:=hb;unfold Tc zX at Ph;simp only[aZ,bM]at Ph;omega
  rw[a3c n _ hi n.rules 0 [] (fun j r hj=>by rw[cg];exact S7 hb hr hf j r hj) (by simp;omega)];rfl
 |false=>
  rw[hb]at hi;cases tV:n.rules with
  |nil=>rfl
  |cons r rs=>rw[eN,hi];rfl
theorem a79(n:aJ)(hr:kD aN.wt n.rules<=1048576)(hf:kD aG.wt n.facts<=1048576):jP n=some (bif Tc n then WS n n.rules 0 else []):=by
 unfold jP sF;rw[a4p n hr hf,aA];cases hb:Tc n with
 |true=>
  have h6:n.rules.length<=6:=by
   have Ph:=hb;unfold Tc zX at Ph;simp only[aZ,bM]at Ph;omega
  rw[a32 n _ n.rules 0 [] (fun j r hj=>by rw[cg];exact S7 hb hr hf j r hj) (by simp;omega)];rfl
 |false=>rfl
end Go.Cx
namespace Go.Cx
open Go.RowKit Go.Proofs Tryz
end Go.Cx
namespace Go.Cx
open Go.RowKit Go.Proofs Tryz
end Go.Cx
namespace Go.Cx
open Go.RowKit Go.Proofs Tryz
end Go.Cx
namespace Go.Cx
open Go.RowKit Go.Proofs Tryz
structure YC(n:aJ):Prop where
 rules:kD aN.wt n.rules<=1048576
 facts:kD aG.wt n.facts<=1048576
 ends:n.ends.length<=1048576
 bJ:n.bJ.length<=1048576
 gK:∀a∈n.bJ,a.shape.wt<=1048576/\FS a.facts
 nodes:n.nodes.length<=1048576
 node:∀x∈n.nodes,x.cond.wt<=1048576/\x.tokens.length<=1048576/\∀t∈x.tokens,TK 1048576 t
theorem YC.OV{n:aJ}(h:n.wt<=1048576):YC n:=by
 have h0:=h;unfold aJ.wt at h0;have a1:=gN zw n.ends;have a2:=gN aW.wt n.bJ;have a3:=gN Node.wt n.nodes;refine⟨by omega,by omega,by omega,by omega,fun a ha=>?_,by omega,fun x hx=>?_⟩
 ·have h1:a.wt<=1048576:=by have:=gu (w:=aW.wt) ha;omega
  unfold aW.wt at h1;exact⟨by unfold aG.wt;omega,FS.OV (by omega)⟩
 ·have h1:x.wt<=1048576:=by have:=gu (w:=Node.wt) hx;omega
  unfold Node.wt at h1;have h2:=gN aR.wt x.tokens;refine⟨by unfold aM.wt;omega,by omega,fun t ht=>?_⟩;have h3:t.wt<=1048576:=by have:=gu (w:=aR.wt) ht;omega
  unfold aR.wt at h3;have h4:=gN aG.wt t.facts;have h5:=gN aK.wt t.bind;refine⟨by omega,fun f hf=>by have:=gu (w:=aG.wt) hf;omega,by omega,fun p hp=>?_⟩;have h6:p.wt<=1048576:=by have:=gu (w:=aK.wt) hp;omega
  unfold aK.wt tw at h6;omega
theorem ZI{n:aJ}(h:Tc n=true):zX n.rules=true/\zA n.facts=true/\0<=n.dB/\n=MK n.rules n.facts n.dB:=by
 unfold Tc OM MK at h;simp only[aZ,bM]at h;obtain⟨b1,b2,b0,_,b3,_,b5,b4⟩:=h;refine⟨b1,b2,b0,?_⟩;unfold MK;cases n;simp only at b3 b4 b5⊢;rw[<-b3,<-b4,<-b5]
end Go.Cx
namespace Go.Cx
open Go.RowKit Go.Proofs Tryz
structure Ren(h:Bytes->Bytes)(V:Bytes->Prop):Prop where
 var:∀v,V v->ez v=true
 Sq:∀t,ez t=false->h t=t
 V6:∀v,V v->ez (h v)=true
 inj:∀u v,V u->V v->h u=h v->u=v
structure RB(h:Bytes->Bytes)(V:Bytes->Prop)(b b':List aK):Prop where
 len:b'.length=b.length
 get:∀v,V v->cw (h v) b'=cw v b
 ok:gw b=true
 ok':gw b'=true
def MO(h:Bytes->Bytes)(c:aM):aM:=⟨c.kind,⟨c.pat.rel,c.pat.args.map h⟩,h c.left,h c.right⟩
theorem RB.ext{h:Bytes->Bytes}{V:Bytes->Prop}(hr:Ren h V){b b':aI}(H:RB h V b b'){x y:Bytes}(hx:V x):(xm b' (h x) y).2=(xm b x y).2/\((xm b x y).2=true->RB h V (xm b x y).1 (xm b' (h x) y).1):=by
 unfold xm;rw[H.ok,H.ok',hr.var x hx,hr.V6 x hx,H.get x hx,H.len];simp only[eP];cases ha:fZ y with
 |false=>exact⟨rfl,fun h=>by cases h⟩
 |true=>
  rw[aU,aU];cases hf:cw x b with
  |some o=>
   dsimp only;cases o==y with
   |true=>exact⟨rfl,fun _=>H⟩
   |false=>exact⟨rfl,fun h=>by cases h⟩
  |none=>
   dsimp only;cases hl:decide (b.length=6)with
   |true=>exact⟨rfl,fun h=>by cases h⟩
   |false=>
    have hl':b.length≠6:=of_decide_eq_false hl;refine⟨rfl,fun _=>⟨?_,?_,?_,?_⟩⟩
    ·rw[af,af,CR,CR,H.len]
    ·intro v hv;rw[af,af];by_cases e:v=x
     ·subst e;rw[CH _ hf,CH _ (by rw[H.get v hx,hf])]
     ·rw[uj (fun e2=>e e2.symm),uj (fun e2=>e (hr.inj _ _ hx hv e2).symm),H.get v hv]
    ·exact Ed (hr.var x hx) ha H.ok hf hl'
    ·exact Ed (hr.V6 x hx) ha H.ok' (by rw[H.get x hx,hf]) (by rw[H.len];exact hl')
theorem RB.tE{h:Bytes->Bytes}{V:Bytes->Prop}(hr:Ren h V):∀(l r:aH) (b b':aI),(∀x∈l,nk x=true)->(∀x∈l,ez x=true->V x)->RB h V b b'->(tE (l.map h) r b').2=(tE l r b).2/\((tE l r b).2=true->RB h V (tE l r b).1 (tE (l.map h) r b').1)
 | [],r,b,b',_,_,H=>⟨rfl,fun _=>H⟩
 |x::xs,[],b,b',_,_,H=>⟨rfl,fun h=>by cases h⟩
 |x::xs,y::ys,b,b',ht,hV,H=>by
  have ih:=fun c c'=>RB.tE hr xs ys c c' (fun z hz=>ht z (by simp[hz])) (fun z hz=>hV z (by simp[hz]))
  rw[bD];simp only[Cx.tE];cases hx:fZ x with
  |true=>
   have hxx:h x=x:=hr.Sq x (KE hx);rw[hxx,hx];simp only[aU];cases x==y with
   |true=>exact ih b b' H
   |false=>exact⟨rfl,fun h=>by cases h⟩
  |false=>
   have hv:ez x=true:=by have:=ht x (by simp);unfold nk at this;rw[hx]at this;simpa using this
   have ha':fZ (h x)=false:=oM (hr.V6 x (hV x (by simp) hv));rw[ha'];simp only[af];obtain⟨e1,e2⟩:=H.ext hr (y:=y) (hV x (by simp) hv);rw[e1];cases he:(xm b x y).2 with
   |false=>exact⟨rfl,fun h=>by cases h⟩
   |true=>simp only[aU];exact ih _ _ (e2 he)
theorem Of{h:Bytes->Bytes}{V:Bytes->Prop}(hr:Ren h V){t:Bytes}(hV:ez t=true->V t):nk (h t)=nk t:=by
 cases hv:ez t with
 |false=>rw[hr.Sq t hv]
 |true=>unfold nk;rw[hr.V6 t (hV hv),hv];simp
theorem Vl{h:Bytes->Bytes}{V:Bytes->Prop}(hr:Ren h V){p:aG}(hV:∀x∈p.args,ez x=true->V x)(hp:yT p=true):yT ⟨p.rel,p.args.map h⟩=true:=by
 unfold yT at hp⊢;simp only[aZ,b8]at hp⊢;refine⟨?_,hp.2.1,by rw[aa];exact hp.2.2⟩;intro x hx;obtain⟨y,hy,rfl⟩:=cC.1 hx;rw[Of hr (hV y hy)];exact hp.1 y hy
def CV(V:Bytes->Prop)(c:aM):Prop:=∀x∈c.pat.args++[c.left,c.right],ez x=true->V x
theorem CV.args{V:Bytes->Prop}{c:aM}(h:CV V c):∀x∈c.pat.args,ez x=true->V x:=fun x hx=>h x (by simp[hx])
theorem CV.left{V:Bytes->Prop}{c:aM}(h:CV V c):ez c.left=true->V c.left:=h _ (by simp)
theorem CV.right{V:Bytes->Prop}{c:aM}(h:CV V c):ez c.right=true->V c.right:=h _ (by simp)
theorem T0{h:Bytes->Bytes}{V:Bytes->Prop}(hr:Ren h V){c:aM}(hV:CV V c)(hc:mm c=true):mm (MO h c)=true:=by
 by_cases hk:c.kind=1\/c.kind=2
 ·obtain⟨hp,hl,hrr⟩:=Bu hc hk;have e:h []=[]:=hr.Sq [] rfl;unfold mm;have h0:(decide ((MO h c).kind=1)||decide ((MO h c).kind=2))=true:=by show(decide (c.kind=1)||decide (c.kind=2))=true;simpa using hk
  rw[h0,aU];show(yT ⟨c.pat.rel,c.pat.args.map h⟩&&(h c.left==[]&&h c.right==[]))=true;rw[hl,hrr,e,Vl hr hV.args hp];rfl
 ·have h1:c.kind≠1:=fun e=>hk (.inl e)
  have h2:c.kind≠2:=fun e=>hk (.inr e)
  obtain⟨h3,hz,hl,hrr⟩:=Nk hc h1 h2;unfold mm;have h0:(decide ((MO h c).kind=1)||decide ((MO h c).kind=2))=false:=by simp[MO,h1,h2]
  rw[h0,af];show(bif (decide (c.kind=3)||decide (c.kind=4)||decide (c.kind=5))then(CS ⟨c.pat.rel,c.pat.args.map h⟩&&(nk (h c.left)&&nk (h c.right)))else false)=true;rw[h3,aU,Of hr hV.left,Of hr hV.right,hl,hrr];unfold CS at hz⊢;rw[aa];simpa using hz
theorem RB.qJ{h:Bytes->Bytes}{V:Bytes->Prop}(hr:Ren h V){p f:aG}{b b':aI}(hV:∀x∈p.args,ez x=true->V x)(hp:yT p=true)(H:RB h V b b'):(qJ ⟨p.rel,p.args.map h⟩ f b').2=(qJ p f b).2/\((qJ p f b).2=true->RB h V (qJ p f b).1 (qJ ⟨p.rel,p.args.map h⟩ f b').1):=by
 unfold Cx.qJ;rw[hp,Vl hr hV hp,H.ok,H.ok',aa];dsimp only;cases(true&&(zO f&&(true&&(p.rel==f.rel&&decide (p.args.length=f.args.length)))))with
 |false=>exact⟨rfl,fun h=>by cases h⟩
 |true=>exact RB.tE hr _ _ _ _ (RF hp) hV H
theorem RB.ou{h:Bytes->Bytes}{V:Bytes->Prop}(hr:Ren h V){b b':aI}(H:RB h V b b'){t:Bytes}(hV:ez t=true->V t):ou b' (h t)=ou b t:=by
 unfold Cx.ou;cases hv:ez t with
 |false=>rw[hr.Sq t hv,hv];rfl
 |true=>rw[oM hv,hr.V6 t (hV hv),oM (hr.V6 t (hV hv)),H.get t (hV hv)];rfl
theorem RB.EP{h:Bytes->Bytes}{V:Bytes->Prop}(hr:Ren h V){c:aM}{b b':aI}{fs:aX}(hV:CV V c)(hc:mm c=true)(H:RB h V b b'):EP (MO h c) b' fs=EP c b fs:=by
 unfold Cx.EP;rw[hc,T0 hr hV hc,H.ok,H.ok'];show(true&&(true&&(bif decide (c.kind=1)then decide (0<(ze ⟨c.pat.rel,c.pat.args.map h⟩ b' fs).length)else bif decide (c.kind=2)then decide ((ze ⟨c.pat.rel,c.pat.args.map h⟩ b' fs).length=0)else UA (MO h c) b')))=_;by_cases hk:c.kind=1\/c.kind=2
 ·have hp:=(Bu hc hk).1;have e:ze ⟨c.pat.rel,c.pat.args.map h⟩ b' fs=ze c.pat b fs:=by
   unfold ze
   congr 1;funext f
   exact(RB.qJ hr hV.args hp H).1
  rw[e];rcases hk with hk|hk
  ·rw[bn hk];rfl
  ·rw[bn hk];cases decide (c.kind=1)<;>rfl
 ·have h1:c.kind≠1:=fun e=>hk (.inl e)
  have h2:c.kind≠2:=fun e=>hk (.inr e)
  rw[bB h1,bB h2];simp only[af];unfold UA IM;rw[hc,T0 hr hV hc,H.ok,H.ok'];show(true&&(true&&(true&&decide (c.kind>=3)&&(true&&((Cx.ou b' (h c.left)).2&&((Cx.ou b' (h c.right)).2&&(bif decide (c.kind=3)then(Cx.ou b' (h c.left)).1==(Cx.ou b' (h c.right)).1 else bif decide (c.kind=4)then !((Cx.ou b' (h c.left)).1==(Cx.ou b' (h c.right)).1)else ltB (Cx.ou b' (h c.left)).1 (Cx.ou b' (h c.right)).1)))))))=_;rw[RB.ou hr H hV.left,RB.ou hr H hV.right]
structure RT(h:Bytes->Bytes)(V:Bytes->Prop)(t t':aR):Prop where
 facts:t'.facts=t.facts
 bind:RB h V t.bind t'.bind
inductive RL(R:aR->aR->Prop):List aR->List aR->Prop
 |nil:RL R [] []
 |cons {a b:aR} {l m:av}:R a b->RL R l m->RL R (a::l) (b::m)
theorem RL.app{R:aR->aR->Prop}{a b c d:av}(h:RL R a b)(k:RL R c d):RL R (a++c) (b++d):=by
 induction h with
 |nil=>exact k
 |cons x _ ih=>exact .cons x ih
theorem RL.one{R:aR->aR->Prop}{a b:aR}(h:R a b):RL R [a] [b]:=.cons h .nil
theorem RL.flat{α:Type}{R:aR->aR->Prop}(f g:α->av):∀(l:List α),(∀x∈l,RL R (f x) (g x))->RL R (l.flatMap f) (l.flatMap g)
 | [],_=>.nil
 |x::xs,h=>by rw[cT,cT];exact(h x (by simp)).app (RL.flat f g xs fun y hy=>h y (by simp[hy]))
theorem a2C{h:Bytes->Bytes}{V:Bytes->Prop}(hr:Ren h V){c:aM}{fs:aX}{t t':aR}(hV:CV V c)(hc:mm c=true)(H:RT h V t t'):RL (RT h V) (Jk c fs t) (Jk (MO h c) fs t'):=by
 unfold Jk;rw[RB.EP hr hV hc H.bind];show RL _ _ (bif decide (c.kind=1)then fs.flatMap (ext1 (MO h c) t')else bif Cx.EP c t.bind fs then [t']else []);by_cases h1:c.kind=1
 ·rw[bn h1,aU,aU];refine RL.flat _ _ fs fun f _=>?_
  unfold ext1;have hp:=(Bu hc (.inl h1)).1;obtain⟨e1,e2⟩:=RB.qJ hr (f:=f) hV.args hp H.bind;show RL _ _ (bif (Cx.qJ ⟨c.pat.rel,c.pat.args.map h⟩ f t'.bind).2 then [⟨t'.facts++[f],(Cx.qJ ⟨c.pat.rel,c.pat.args.map h⟩ f t'.bind).1⟩]else []);rw[e1];cases hm:(Cx.qJ c.pat f t.bind).2 with
  |false=>exact .nil
  |true=>exact .one ⟨by rw[H.facts],e2 hm⟩
 ·rw[bB h1,af,af];cases Cx.EP c t.bind fs with
  |false=>exact .nil
  |true=>exact .one H
theorem Vj{h:Bytes->Bytes}{V:Bytes->Prop}(hr:Ren h V){c:aM}{fs:aX}(hV:CV V c)(hc:mm c=true):∀ {l m:av},RL (RT h V) l m->RL (RT h V) (x8 fs l c) (x8 fs m (MO h c))
 |_,_,.nil=>.nil
 |_,_,.cons hx hl=>by unfold x8;rw[cT,cT];exact(a2C hr hV hc hx).app (Vj hr hV hc hl)
theorem a0W{h:Bytes->Bytes}{V:Bytes->Prop}(hr:Ren h V){fs:aX}:∀(cs:ai) {l m:av},(∀c∈cs,CV V c/\mm c=true)->RL (RT h V) l m->RL (RT h V) (cs.foldl (x8 fs) l) ((cs.map (MO h)).foldl (x8 fs) m)
 | [],_,_,_,H=>H
 |c::cs,_,_,hc,H=>by
  rw[bD,cm,cm];exact a0W hr cs (fun x hx=>hc x (by simp[hx])) (Vj hr (hc c (by simp)).1 (hc c (by simp)).2 H)
theorem RB.nil(h:Bytes->Bytes)(V:Bytes->Prop):RB h V [] []:=⟨rfl,fun _ _=>rfl,rfl,rfl⟩
theorem XA{r:aN}(h:gr r=true):Ren (DZ (fW r)) (fun v=>v∈yl r.conds) where
 var:=fun v hv=>(Ab.1 hv).2
 Sq:=fun t ht=>Sp ht
 V6:=fun v hv=>by
  obtain⟨i,p,hi,_,_,e⟩:=GA h hv;rw[e];exact Vi i hi
 inj:=fun u v hu hv e=>by
  obtain⟨i,p,hi,g1,e1,e2⟩:=GA h hu;obtain⟨j,q,hj,g2,e3,e4⟩:=GA h hv;rw[e2,e4]at e;have:=a2B i hi j hj e;subst this;rw[g1]at g2;cases g2;rw[<-e1,<-e3]
theorem a2n{r:aN}{c:aM}(hc:c∈r.conds):CV (fun v=>v∈yl r.conds) c:=fun x hx hv=>Ab.2 ⟨br.2 ⟨c,hc,hx⟩,hv⟩
theorem wbU{r:aN}(h:gr r=true){fs:aX}:∀(cs:ai) (A:av),(∀c∈cs,c∈r.conds)->(∀t∈A,WB (eH (yl r.conds)) t.bind)->∀u∈cs.foldl (x8 fs) A,WB (eH (yl r.conds)) u.bind
 | [],_,_,hA=>hA
 |c::cs,A,hc,hA=>by
  rw[cm];refine wbU h cs _ (fun x hx=>hc x (by simp[hx])) (fun u hu=>?_);obtain⟨t,ht,hu⟩:=br.1 hu;have hcm:=hc c (by simp);have hcb:=BH h c hcm;unfold Jk at hu;by_cases hk:c.kind=1
  ·rw[bn hk,aU]at hu;obtain⟨f,_,hu⟩:=br.1 hu;unfold ext1 at hu;cases hm:(qJ c.pat f t.bind).2 with
   |false=>rw[hm]at hu;cases hu
   |true=>
    rw[hm,aU]at hu;rw[cx.1 hu];exact((ZY (MQ h) (hA t ht) (Bu hcb (.inl hk)).1 (fun x hx hv=>oq.2 ((a2n hcm).args x hx hv))).2 hm).1
  ·rw[bB hk,af]at hu;cases hh:EP c t.bind fs with
   |false=>rw[hh]at hu;cases hu
   |true=>rw[hh,aU]at hu;rw[cx.1 hu];exact hA t ht
theorem QG{U:aH}(hU:U.length<=6){b b':aI}(hb:WB U b)(hb':gw b'=true){h:Bytes->Bytes}(hg:∀v∈U,cw (h v) b'=cw v b):∀(N:aI) (w:aI),(N.map aK.var).Nodup->(∀p∈N,p.var∈U/\p.value=h p.var/\ez p.var=true/\ez p.value=true)->WB U w->(∀p∈N,cw p.var w=none)->
 WB U (N.foldl (YN b') w)/\∀v,cw v (N.foldl (YN b') w)=if v∈N.map aK.var then cw v b else cw v w
 | [],w,_,_,hw,_=>⟨hw,fun v=>by simp⟩
 |p::N,w,hn,hp,hw,hf=>by
  rw[bD,dU]at hn;obtain⟨p1,p2,p3,p4⟩:=hp p (by simp);have hpw:=hf p (by simp);have hval:ou b' p.value=match cw p.var b with|some v=>(v,true)|none=>([],false):=by
   unfold ou;rw[oM p4,p4,af,aU,p2,hg _ p1]
   all_goals(cases cw p.var b<;>rfl)
  have hnot:∀q∈N,q.var≠p.var:=fun q hq e=>hn.1 (by rw[<-e];exact cC.2 ⟨q,hq,rfl⟩)
  rw[cm];cases hfb:cw p.var b with
  |none=>
   rw[hfb]at hval;have e:YN b' w p=w:=by unfold YN;rw[hval];rfl
   rw[e];obtain⟨g1,g2⟩:=QG hU hb hb' hg N w hn.2 (fun q hq=>hp q (by simp[hq])) hw (fun q hq=>hf q (by simp[hq]));refine⟨g1,fun v=>?_⟩;rw[g2 v,bD];by_cases hv:v=p.var
   ·subst hv;rw[bL hn.1,bX (by simp),hfb,hpw]
   ·by_cases MF:v∈N.map aK.var
    ·rw[bX MF,bX (by simp[MF])]
    ·rw[bL MF,bL (by simp only[bI,IQ];exact⟨hv,MF⟩)]
  |some o=>
   rw[hfb]at hval;have e:YN b' w p=wP p.var o w:=by unfold YN;rw[hval];rfl
   rw[e];have ho:fZ o=true:=by
    obtain⟨q,hq,_,e2⟩:=xo hfb;rw[<-e2];exact(Bt (uI hb.ok) q hq).2
   obtain⟨g1,g2⟩:=QG hU hb hb' hg N (wP p.var o w) hn.2 (fun q hq=>hp q (by simp[hq])) (hw.set hU p1 p3 ho hpw) (fun q hq=>by
    rw[uj (fun e=>hnot q hq e.symm)];exact hf q (by simp[hq]))
   refine⟨g1,fun v=>?_⟩;rw[g2 v,bD,uh hpw];by_cases hv:v=p.var
   ·subst hv;rw[bL hn.1,bX rfl,bX (by simp),hfb]
   ·rw[bL hv];by_cases MF:v∈N.map aK.var
    ·rw[bX MF,bX (by simp[MF])]
    ·rw[bL MF,bL (by simp only[bI,IQ];exact⟨hv,MF⟩)]
theorem a1K{r:aN}(h:gr r=true){t t':aR}(ht:WB (eH (yl r.conds)) t.bind)(H:RT (DZ (fW r)) (fun v=>v∈yl r.conds) t t'):cfT r t'=⟨r.name,t.facts,t.bind⟩:=by
 have hN:=CL (wC r.conds) TW.nil;have hmem:∀p∈fW r,p.var∈eH (yl r.conds)/\p.value=DZ (fW r) p.var/\ez p.var=true/\ez p.value=true:=fun p hp=>by
  obtain⟨n1,n2⟩:=(OQ h).1 p hp;refine⟨?_,(NT (N:=fW r) hN hp).symm,n1,n2⟩;rcases MB _ _ hp with h1|h1
  ·cases h1
  ·exact oq.2 (Ab.2 h1)
 obtain⟨g1,g2⟩:=QG (MQ h) ht H.bind.ok' (h:=DZ (fW r)) (fun v hv=>H.bind.get v (oq.1 hv)) (fW r) [] hN hmem (WB.nil _) (fun p _=>rfl);have e:bkB t'.bind (fW r)=t.bind:=by
  refine g1.ext ht fun v=>?_
  unfold bkB at*;rw[g2 v];by_cases hv:v∈(fW r).map aK.var
  ·rw[bX hv]
  ·rw[bL hv];cases hf:cw v t.bind with
   |none=>rfl
   |some o=>
    exfalso;obtain⟨q,hq,e1,_⟩:=xo hf;have hU:=oq.1 (ht.sub q hq);rw[e1]at hU;obtain⟨i,p,_,O2,he,_⟩:=GA h hU;exact hv (cC.2 ⟨p,aC O2,he⟩)
 unfold cfT;rw[e,H.facts]
theorem RL.map_eq{α:Type}{R:aR->aR->Prop}{f g:aR->α}:∀ {l m:av},RL R l m->(∀a∈l,∀b,R a b->g b=f a)->m.map g=l.map f
 |_,_,.nil,_=>rfl
 |_,_,.cons hx hl,h=>by
  rw[bD,bD,h _ (by simp) _ hx,RL.map_eq hl (fun a ha b hb=>h a (by simp[ha]) b hb)]
theorem a1O{r:aN}(h:gr r=true)(fs:aX):(B4 (gJ r) fs).map (cfT r)=(B4 r.conds fs).map fun t=>(⟨r.name,t.facts,t.bind⟩:az):=by
 have H:=a0W (XA h) (fs:=fs) r.conds (fun c hc=>⟨a2n hc,BH h c hc⟩) (RL.one (a:=⟨[],[]⟩) (b:=⟨[],[]⟩) ⟨rfl,RB.nil _ _⟩);refine RL.map_eq H fun t ht t' hR=>?_
 exact a1K h (wbU h r.conds [⟨[],[]⟩] (fun _ hc=>hc) (fun t ht=>by rw[cx.1 ht];exact WB.nil _) t ht) hR
theorem a29{rs:aq}(fs:aX)(t:Int){i:Nat}{r:aN}(hr:rs[i]?=some r):YY (MK rs fs t) i=B4 (gJ r) fs:=by
 obtain⟨b,e1,e2,e3⟩:=(MT [] rs).2.2 i r hr;have hx:=ah e2;have e4:nF (Fv (jN [] rs).1.2 fs) (di b)=some ⟨((jN [] rs).1.2[b]).parent,((jN [] rs).1.2[b]).cond,((jN [] rs).1.2[b]).gK,B4 (gJ r) fs⟩:=by
  unfold nF di Fv;rw[bn (by omega),aU];show(xX _ fs _ 0)[b]?=_;rw[MA,hx,cg,e3];rfl
 unfold YY MK;dsimp only;rw[e1];dsimp only;rw[e4]
theorem Zb{rs:aq}(hv:∀r∈rs,gr r=true)(fs:aX)(t:Int):∀(l:aq) (i:Nat),(∀(j:Nat) r,l[j]?=some r->rs[i+j]?=some r)->WS (MK rs fs t) l i=l.flatMap fun r=>(B4 r.conds fs).map fun u=>(⟨r.name,u.facts,u.bind⟩:az)
 | [],_,_=>rfl
 |r::l,i,h=>by
  have h0:=h 0 r rfl;rw[s9]at h0;rw[WS,a29 fs t h0,a1O (hv r (aC h0)),cT,Zb hv fs t l (i+1) (fun j x hx=>by
   rw[show i+1+j=i+(j+1)by omega];exact h (j+1) x (by simpa using hx))]
theorem a5B{r:aN}{fs:aX}(h1:gr r=true)(h2:zA fs=true):Za r fs=(B4 r.conds fs).map fun t=>⟨r.name,t.facts,t.bind⟩:=by
 unfold Za;rw[a5k h1 h2 (bR _),Bl]
theorem a4A{rs:aq}{fs:aX}(t:Int)(h1:zX rs=true)(h2:zA fs=true):WS (MK rs fs t) rs 0=a1I rs fs:=by
 have hv:=Bo h1;rw[Zb hv fs t rs 0 (fun j r hj=>by rw[cg];exact hj)];unfold a1I;rw[h1,aU];have:∀l:aq,(∀r∈l,gr r=true)->(l.flatMap fun r=>(B4 r.conds fs).map fun u=>(⟨r.name,u.facts,u.bind⟩:az))=l.flatMap fun r=>Za r fs:=by
  intro l
  induction l with
  |nil=>intro _;rfl
  |cons r l ih=>intro hl;rw[cT,cT,ih (fun x hx=>hl x (by simp[hx])),a5B (hl r (by simp)) h2]
 exact this rs hv
theorem a48{n:aJ}(h:Tc n=true):WS n n.rules 0=a1I n.rules n.facts:=by
 obtain⟨h1,h2,_,e⟩:=ZI h;have:=a4A n.dB h1 h2;rw[<-e]at this;exact this
end Go.Cx
namespace Go.Cx
open Go.RowKit Go.Proofs Tryz
end Go.Cx
namespace Go.Cx
open Go.RowKit Go.Proofs Tryz
set_option maxRecDepth 100000
variable{Γ:tY}{N:Nat->St->Prop}
def lM(aB:aJ):Option Bool:=((rO aB 1048576).bind fun y1=>(bif decide ((y1:Int)<0)then(some true)else((jv aB).bind fun y4=>((mN y4).bind fun y6=>((jv aB).bind fun y8=>((jP y8).bind fun IN=>((nv IN y6).bind fun WC=>(bif !(WC)then(some false)else((jv aB).bind fun Xt=>((rG y8 Xt).bind fun Xh=>(bif !(Xh)then(some false)else((mE y8 1).bind fun y20=>(bif decide ((y20.2:Int)<0)then(some false)else((nv IN y6).bind fun y23=>(bif !(y23)then(some false)else((qB IN 1).bind fun y26=>((nR y26.1 1).bind fun y28=>(bif decide ((y28:Int)<0)then(some false)else(bif (y28:Int) != y26.2 then(some false)else((jv aB).bind fun ya=>((jP ya).bind fun CT=>((nv CT y6).bind fun IP=>(bif !(IP)then(some false)else((nR y26.1 1).bind fun Oy=>(bif decide ((Oy:Int)<0)then(some false)else(bif (Oy:Int) != y26.2 then(some false)else(some true)))))))))))))))))))))))))))
theorem xf{aB:aJ}{r:Bool}(h:lM aB=some r):Good prog 8 [D.agg (aJ.c aB)] (D.bool r):=by
 refine gd func8 [[none]] 69 fun hr Γ hΓ=>?_
 rw[lM]at h;obtain⟨y1,h2,h⟩:=aD h;obtain⟨h3,h⟩|⟨h3,h⟩:=aO h
 ·have h:=aE h;subst h;exact(((aT.a [.dc (D.int .i64 y1)]).w (xR h2)).b h3).ret hΓ
 ·obtain⟨y4,h5,h⟩:=aD h;obtain⟨y6,h7,h⟩:=aD h;obtain⟨y8,h9,h⟩:=aD h;obtain⟨IN,h11,h⟩:=aD h;obtain⟨WC,h13,h⟩:=aD h;have kX:=(((((((((((((aT.a [.dc (D.int .i64 y1)]).w (xR h2)).b h3).a [.dc (D.agg [D.fr 105 4 (y4.rules.map aN.c),D.fr 3 1 (y4.ends.map gQ),D.fr 111 3 (y4.bJ.map aW.c),D.fr 118 8 (y4.nodes.map Node.c),D.fr 53 2 (y4.facts.map aG.c),D.int .i64 y4.dB])]).w (pL h5)).a [.dc (D.fr 91 3 (y6.map az.c))]).w (C6 h7)).a [.dc (D.agg [D.fr 105 4 (y8.rules.map aN.c),D.fr 3 1 (y8.ends.map gQ),D.fr 111 3 (y8.bJ.map aW.c),D.fr 118 8 (y8.nodes.map Node.c),D.fr 53 2 (y8.facts.map aG.c),D.int .i64 y8.dB])]).w (pL h9)).a [.dc (D.fr 91 3 (IN.map az.c))]).w (wE h11)).a [.dc (D.bool WC)]).w (uN h13))
  obtain⟨h14,h⟩|⟨h14,h⟩:=aO h
  ·have h:=aE h;subst h;exact(kX.b h14).ret hΓ
  ·obtain⟨Xt,h16,h⟩:=aD h;obtain⟨Xh,h18,h⟩:=aD h;have dL:=(((((kX.b h14).a [.n 3]).g (pL h16)).a [.dc (D.bool Xh)]).w (Dx h18))
   obtain⟨h19,h⟩|⟨h19,h⟩:=aO h
   ·have h:=aE h;subst h;exact(dL.b h19).ret hΓ
   ·obtain⟨y20,h21,h⟩:=aD h;have lV:=(((dL.b h19).w (C3 h21)).a [.gv [7,8,9,10,11] [(4,y20.1.rules.map aN.c),(1,y20.1.ends.map gQ),(3,y20.1.bJ.map aW.c),(8,y20.1.nodes.map Node.c),(2,y20.1.facts.map aG.c)] (D.int .i64 y20.2)])
    obtain⟨h22,h⟩|⟨h22,h⟩:=aO h
    ·have h:=aE h;subst h;exact((lV.r 5 h22).T 1).ret hΓ
    ·obtain⟨y23,h24,h⟩:=aD h;have kH:=((((lV.r 3 h22).a [.dc (D.bool y23)]).w (uN h24)).r 2 h22)
     obtain⟨h25,h⟩|⟨h25,h⟩:=aO h
     ·have h:=aE h;subst h;exact(kH.b h25).ret hΓ
     ·obtain⟨y26,h27,h⟩:=aD h;obtain⟨y28,h29,h⟩:=aD h;have uB:=((((kH.b h25).w (Cz h27)).a [.gv [13] [(3,y26.1.map az.c)] (D.int .i64 y26.2),.dc (D.int .i64 y28)]).w (wg h29))
      obtain⟨h30,h⟩|⟨h30,h⟩:=aO h
      ·have h:=aE h;subst h;exact(uB.b h30).ret hΓ
      ·obtain⟨h31,h⟩|⟨h31,h⟩:=aO h
       ·have h:=aE h;subst h;exact((uB.b h30).b h31).ret hΓ
       ·obtain⟨ya,h33,h⟩:=aD h;obtain⟨CT,h35,h⟩:=aD h;obtain⟨IP,h37,h⟩:=aD h;have x9:=((((((((uB.b h30).b h31).a [.dc (D.agg [D.fr 105 4 (ya.rules.map aN.c),D.fr 3 1 (ya.ends.map gQ),D.fr 111 3 (ya.bJ.map aW.c),D.fr 118 8 (ya.nodes.map Node.c),D.fr 53 2 (ya.facts.map aG.c),D.int .i64 ya.dB])]).w (pL h33)).a [.dc (D.fr 91 3 (CT.map az.c))]).w (wE h35)).a [.dc (D.bool IP)]).w (uN h37))
        obtain⟨h38,h⟩|⟨h38,h⟩:=aO h
        ·have h:=aE h;subst h;exact(x9.b h38).ret hΓ
        ·obtain⟨Oy,h40,h⟩:=aD h;have Ac:=(((x9.b h38).a [.dc (D.int .i64 Oy)]).w (wg h40))
         obtain⟨h41,h⟩|⟨h41,h⟩:=aO h
         ·have h:=aE h;subst h;exact(Ac.b h41).ret hΓ
         ·obtain⟨h42,h⟩|⟨h42,h⟩:=aO h
          ·have h:=aE h;subst h;exact((Ac.b h41).b h42).ret hΓ
          ·have h:=aE h;subst h;exact((Ac.b h41).b h42).ret hΓ
end Go.Cx
namespace Go.Cx
open Go.RowKit Go.Proofs Tryz
namespace LawConflictSet
theorem both(n:aJ)(h:n.wt<=1048576):∃s,mN n=some s/\jP n=some s/\(fN az.gf s:Int)<=4611686018427387000:=by
 have hok:=YC.OV h;refine⟨_,a7p n hok.rules hok.facts,a79 n hok.rules hok.facts,?_⟩;cases hb:Tc n with
 |false=>simp[fN]
 |true=>
  rw[aU,a48 hb];have h1:=(ZI hb).1;have h6:=YJ h1;unfold a1I;rw[h1,aU];have h1:=GR (m:=az.gf) (B:=100000000) (n.rules.flatMap fun r=>Za r n.facts) (fun m hm=>by
   obtain⟨r,hr,hm⟩:=br.1 hm;exact X6 r n.facts (by have:=gu (w:=aN.wt) hr;have:=hok.rules;omega) hok.facts m hm)
  have h2:=SE n.facts n.rules;have h3:100000000*(n.rules.flatMap fun r=>Za r n.facts).length<=100000000*2343750:=gS _ (by omega);omega
theorem a56(n:aJ)(hn:vn (aJ.c n)):lM n=some true:=by
 unfold lM;obtain⟨r0,e0,l0,w0⟩:=RD n hn 1048576 (by omega) (by omega);rw[e0,aA];by_cases c0:r0<0
 ·simp[c0]
 have n0:decide ((r0:Int)<0)=false:=bB c0;rw[n0,af];have w0:=w0 (by omega);have hw:aJ.wt n<=1048576:=by omega
 obtain⟨s,es,ei,hm⟩:=both n (by omega);have b0:=aJ.a26 n;obtain⟨x0,m0,_⟩:=Qo n 1 (by omega) (by omega);obtain⟨g0,p0,q0⟩:=Si s 1 (by omega) (by omega);have aAJ:decide (((1+((aJ.Sk n:Nat):Int)):Int)<0)=false:=bB (by omega);have aAK:decide (((1+((fN az.gf s:Nat):Int)):Int)<0)=false:=bB (by omega);simp only[es,ei,RI n (by omega),QR,m0,p0,q0,SA,aAJ,aAK,aA,B7,bW,eY,af,aU,eZ,cu]
theorem ZN(n:aJ):Good prog 8 [.agg (aJ.c n)] (.bool true):=
 Good.a5D ⟨_,func8,rfl,by decide⟩ fun h=>xf (a56 n (e7.agg (h _ (by simp))))
end LawConflictSet
end Go.Cx
namespace Go.Cx
open Go.RowKit
inductive Sh where
 |int (k:IntKind)
 |str
 |bool
 |sl (row:List Sh)
mutual
inductive P8:Sh->D->Prop
 |int (k:IntKind) (n:Int):P8 (.int k) (.int k n)
 |str (s:Bytes):P8 .str (.str s)
 |bool (b:Bool):P8 .bool (.bool b)
 |sl (row:List Sh) (rows:List aQ):(∀r∈rows,o7 row r)->P8 (.sl row) (.sl rows)
inductive o7:List Sh->List D->Prop
 |nil:o7 [] []
 |cons (s:Sh) (ss:List Sh) (d:D) (ds:aQ):P8 s d->o7 ss ds->o7 (s::ss) (d::ds)
end
theorem o7.app{s1 s2:List Sh}{d1 d2:aQ}(h1:o7 s1 d1)(h2:o7 s2 d2):o7 (s1++s2) (d1++d2):=by
 induction s1 generalizing d1 with
 |nil=>cases h1;exact h2
 |cons s s1 ih=>cases h1 with|cons _ _ d ds h h'=>exact .cons _ _ _ _ h (ih h')
theorem o7.length{s:List Sh}{d:aQ}(h:o7 s d):d.length=s.length:=by
 induction s generalizing d with
 |nil=>cases h;rfl
 |cons s ss ih=>cases h with|cons _ _ d ds h h'=>simp[ih h']
def Qr(P:Program):Nat->List Field->List (List Sh)->Bool
 |_,[],[]=>true
 |off,f::fs,r::rs=>(f.offset==off)&&(r.length==P.cellsOf f.type)&&Qr P (off+r.length) fs rs
 |_,_,_=>false
def BC(P:Program):Nat->TypeId->Option (List Sh)
 |0,_=>none
 |n+1,t=>match P.underlying t with
  |some .bool=>some [.bool]
  |some (.int k)=>some [.int k]
  |some .string=>some [.str]
  |some (.slice e)=>(BC P n e).bind fun r=>if r.length=P.cellsOf e/\0<r.length then some [.sl r]else none
  |some (.struct fs)=>(fs.toList.mapM fun f=>BC P n f.type).bind fun rs=>if Qr P 0 fs.toList rs=true/\rs.flatten.length=P.cellsOf t then some rs.flatten else none
  |_=>none
theorem Se{α β:Type}{f:α->Option β}:∀ {l:List α} {ys:List β},l.mapM f=some ys->ys.length=l.length/\∀(i:Nat) x,l[i]?=some x->∃y,ys[i]?=some y/\f x=some y:=by
 intro l
 induction l with
 |nil=>intro ys h;simp at h;subst h;simp
 |cons a l ih=>
  intro ys h;simp only[EX,Option.bind_eq_bind,Option.pure_def]at h;cases ha:f a with
  |none=>simp[ha]at h
  |some b=>
   cases hl:l.mapM f with
   |none=>simp[ha,hl]at h
   |some bs=>
    simp[ha,hl]at h;subst h;obtain⟨h1,h2⟩:=ih hl;refine⟨by simp[h1],fun i x hx=>?_⟩;cases i with
    |zero=>simp at hx;subst hx;exact⟨b,by simp,ha⟩
    |succ i=>simp at hx;obtain⟨y,k1,k2⟩:=h2 i x hx;exact⟨y,by simpa using k1,k2⟩
section
variable{P:Program}{w:World}{H:Type}{enc:TypeId×Value->H}{base:Nat}{sp:Nat->Bool}{held:Bool}
theorem Ni{a:Addr}{n:Nat}{cs:bh}(h:w.cells? base a n=some cs):cs.length=n/\∀(j:Nat) c,cs[j]?=some c->w.cell? (a.add j)=some c:=by
 unfold World.cells? at h;split at h
 ·obtain⟨h1,h2⟩:=Se h;refine⟨by simpa using h1,fun j c hj=>?_⟩;have hlt:j<n:=by have:=(aF.1 hj).1;rw[h1]at this;simpa using this
  obtain⟨y,k1,k2⟩:=h2 j j (by simp[hlt]);rw[hj]at k1;cases k1;exact k2
 ·cases h
theorem a57{k:IntKind}{n:Int}(h:(Lit.int k n).wf=true):sC k n:=by
 simpa[Lit.wf,sC]using h
theorem Vw:∀(fuel:Nat) {t:TypeId} {cs:bh} {d:DataW H} {ps:List MemPlace} {n:Nat} {Xr:List Sh},
 DataW.trod enc P w base sp held fuel t cs=some (d,ps)->BC P n t=some Xr->∃ds bs,lE w cs ds bs/\o7 Xr ds:=by
 intro fuel
 induction fuel with
 |zero=>intro t cs d ps n Xr h;simp[DataW.trod]at h
 |succ fuel ih=>
  intro t cs d ps n Xr h hf;cases n with
  |zero=>simp[BC]at hf
  |succ n=>
   simp only[BC]at hf;simp only[DataW.trod]at h;split at hf
   ·rename_i hu;cases hf;simp only[hu]at h;split at h<;>rename_i h1<;>try(simp at h1;done)
    all_goals try(cases h;done)
    all_goals simp at h1
    exact⟨[.bool _],[],.cons _ _ _ _ [] [] rfl (.bool _) .nil,.cons _ _ _ _ (.bool _) .nil⟩
   ·rename_i k hu;cases hf;simp only[hu]at h;split at h<;>rename_i h1<;>try(simp at h1;done)
    all_goals try(cases h;done)
    all_goals simp at h1
    rename_i k1 k2 m _;subst h1;split at h
    ·rename_i hc;obtain⟨rfl,hwf⟩:=hc;exact⟨[.int _ _],[],.cons _ _ _ _ [] [] rfl (.int _ _ (a57 hwf)) .nil,.cons _ _ _ _ (.int _ _) .nil⟩
    ·cases h
   ·rename_i hu;cases hf;simp only[hu]at h;split at h<;>rename_i h1<;>try(simp at h1;done)
    all_goals try(cases h;done)
    all_goals simp at h1
    split at h
    ·rename_i hc;exact⟨[.str _],[],.cons _ _ _ _ [] [] rfl (.str _ hc) .nil,.cons _ _ _ _ (.str _) .nil⟩
    ·cases h
   ·rename_i e hu;cases hr:BC P n e with
    |none=>simp[hr]at hf
    |some r=>
     simp only[hr,aA]at hf;split at hf
     ·rename_i hsz;cases hf;simp only[hu]at h;split at h<;>rename_i h1<;>try(simp at h1;done)
      all_goals try(cases h;done)
      all_goals simp at h1
      ·exact⟨[.sl []],[],.cons _ _ _ _ [] [] rfl .zR .nil,.cons _ _ _ _ (.sl _ _ (by simp)) .nil⟩
      ·rename_i a len cap
       try subst h1
       split at h
       ·rename_i hc;cases hm:(List.range len).mapM (fun i=>(w.cells? base (a.add (i*P.cellsOf e)) (P.cellsOf e)).bind (DataW.trod enc P w base sp held fuel e))with
        |none=>simp[hm]at h
        |some elems=>
         obtain⟨_,hall⟩:=Se hm;have hel:∀i,i<len->∃cs ds bs,w.cells? base (a.add (i*P.cellsOf e)) (P.cellsOf e)=some cs/\lE w cs ds bs/\o7 r ds:=by
          intro i hi;obtain⟨y,_,hy⟩:=hall i i (by simp[hi]);obtain⟨cs,hcs,hy⟩:=nD.1 hy;obtain⟨ds,bs,k1,k2⟩:=ih (d:=y.1) (ps:=y.2) hy hr;exact⟨cs,ds,bs,hcs,k1,k2⟩
         by_cases hl0:len=0
         ·subst hl0;exact⟨[.sl []],[],.cons _ _ _ _ [] [] rfl (.oL a cap hc.2.2) .nil,.cons _ _ _ _ (.sl _ _ (by simp)) .nil⟩
         ·
          obtain⟨cs0,Xm,bs0,Yg,hr0,aBj⟩:=hel 0 (by omega);obtain⟨hl1,TZ⟩:=Ni Yg;have hpos:0<cs0.length:=by rw[hl1];omega
          have hc0:=TZ 0 cs0[0] (ah hpos);have ha0:(a.add (0*P.cellsOf e)).add 0=a:=by simp[Addr.add]
          rw[ha0]at hc0;obtain⟨b,off,spot⟩:=a;have a6t:spot=none:=by
           cases spot with
           |none=>rfl
           |some x=>
            unfold World.cell? at hc0;split at hc0
            ·simp at hc0
            ·cases hc0
          subst a6t;have hb:b<w.heap.size:=World.block_lt_of_cell? w _ hc0;have build:∀m,m<=len->∃(rows:List aQ) (cs:bh) (bs:aY),rows.length=m/\cs.length=m*P.cellsOf e/\(∀(j:Nat) c,cs[j]?=some c->w.cell? ⟨b,off+j,none⟩=some c)/\
           lE w cs rows.flatten bs/\∀x∈rows,o7 r x:=by
           intro m
           induction m with
           |zero=>intro _;exact⟨[],[],[],rfl,by simp,by simp,.nil,by simp⟩
           |succ m ihm=>
            intro hm1;obtain⟨rows,cs,bs,q1,q2,q3,q4,q5⟩:=ihm (by omega);obtain⟨cs',ds',bs',g1,g2,g3⟩:=hel m (by omega);obtain⟨g4,g5⟩:=Ni g1;refine⟨rows++[ds'],cs++cs',bs++bs',by simp[q1],by simp[q2,g4,jg],?_,?_,?_⟩
            ·intro j c hj;by_cases hlt:j<cs.length
             ·rw[ax hlt]at hj;exact q3 j c hj
             ·rw[bC (by omega)]at hj;have:=g5 _ c hj;rw[Addr.add_lit,Addr.add_lit,q2]at this;have e1:off+m*P.cellsOf e+(j-m*P.cellsOf e)=off+j:=by omega
              rw[e1]at this;exact this
            ·rw[kf];have:=q4.app g2;simpa using this
            ·intro x hx;rcases aj.1 hx with hx|hx
             ·exact q5 x hx
             ·simp at hx;subst hx;exact g3
          obtain⟨rows,cs,bs,q1,q2,q3,q4,q5⟩:=build len (bR _);subst q1;refine⟨[.sl rows],b::bs,?_,.cons _ _ _ _ (.sl _ _ q5) .nil⟩;have:=lE.cons (w:=w) _ [] _ [] _ [] rfl (Rd.sl b off cap r.length rows cs bs hb hc.2.1 hc.2.2 (fun x hx=>(q5 x hx).length) q3 q4) .nil;simpa using this
       ·cases h
     ·cases hf
   ·rename_i fs hu;cases hr:fs.toList.mapM (fun f=>BC P n f.type)with
    |none=>simp[hr]at hf
    |some rs=>
     simp only[hr,aA]at hf;split at hf
     ·rename_i hok;cases hf;simp only[hu]at h;split at h
      ·rename_i hlen;cases hm:fs.toList.mapM (fun f=>DataW.trod enc P w base sp held fuel f.type ((cs.drop f.offset).take (P.cellsOf f.type)))with
       |none=>simp[hm]at h
       |some xs=>
        have go:∀(fl:List Field) (rl:List (List Sh)) (xl:List (DataW H×List MemPlace)) (off:Nat),fl.mapM (fun f=>BC P n f.type)=some rl->
         fl.mapM (fun f=>DataW.trod enc P w base sp held fuel f.type ((cs.drop f.offset).take (P.cellsOf f.type)))=some xl->Qr P off fl rl=true->
         ∃ds bs,lE w ((cs.drop off).take rl.flatten.length) ds bs/\o7 rl.flatten ds:=by
         intro fl
         induction fl with
         |nil=>
          intro rl xl off h1 _ _;simp at h1;subst h1;exact⟨[],[],by simpa using lE.nil,.nil⟩
         |cons f fl ihf=>
          intro rl xl off h1 h2 h3;simp only[EX,Option.bind_eq_bind,Option.pure_def]at h1 h2;cases a1:BC P n f.type with
          |none=>simp[a1]at h1
          |some r1=>
           cases a2:fl.mapM (fun f=>BC P n f.type)with
           |none=>simp[a1,a2]at h1
           |some rl'=>
            simp[a1,a2]at h1;subst h1;cases b1:DataW.trod enc P w base sp held fuel f.type ((cs.drop f.offset).take (P.cellsOf f.type))with
            |none=>simp[b1]at h2
            |some x1=>
             cases b2:fl.mapM (fun f=>DataW.trod enc P w base sp held fuel f.type ((cs.drop f.offset).take (P.cellsOf f.type)))with
             |none=>simp[b1,b2]at h2
             |some xl'=>
              simp only[Qr,aZ,cj]at h3;obtain⟨⟨o1,o2⟩,o3⟩:=h3;obtain⟨YX,bs1,k1,k2⟩:=ih (d:=x1.1) (ps:=x1.2) b1 a1;obtain⟨ds2,bs2,k3,k4⟩:=ihf rl' xl' (off+r1.length) a2 b2 o3;refine⟨YX++ds2,bs1++bs2,?_,by simpa using k2.app k4⟩;have e1:(cs.drop off).take (r1::rl').flatten.length=(cs.drop f.offset).take (P.cellsOf f.type)++(cs.drop (off+r1.length)).take rl'.flatten.length:=by
               rw[o1,<-o2,e9,aS,<-gL,List.take_add]
              rw[e1];exact k1.app k3
        obtain⟨ds,bs,k1,k2⟩:=go fs.toList rs xs 0 hr hm hok.1;rw[EW,hok.2,<-hlen,Bl]at k1;exact⟨ds,bs,k1,k2⟩
      ·cases h
     ·cases hf
   ·cases hf
def Y9(P:Program)(n:Nat)(t:TypeId)(d:D):Prop:=
 (Aj P t=some true/\∃Xr cells,BC P n t=some Xr/\d=.agg cells/\o7 Xr cells)\/(Aj P t=some false/\∃sh,BC P n t=some [sh]/\P8 sh d)
inductive PX(P:Program)(n:Nat):List TypeId->List D->Prop
 |nil:PX P n [] []
 |cons (t:TypeId) (ts:List TypeId) (d:D) (ds:aQ):Y9 P n t d->PX P n ts ds->PX P n (t::ts) (d::ds)
def Rs(P:Program)(n:Nat)(t:TypeId):Bool:=
 match Aj P t,BC P n t with
 |some true,some _=>(match P.underlying t with|some (.struct _)=>true|_=>false)
 |some false,some [_]=>true
 |_,_=>false
theorem Zk{n:Nat}{t:TypeId}{v:Value}{d:DataW H}{ps:List MemPlace}(hok:Rs P n t=true)(hval:Value.okWide P w .any base t v)(h:DataW.Trod enc P w 0 sp held t v d ps):
 ∃x bs,Rd w v x bs/\Y9 P n t x:=by
 obtain⟨fuel,h⟩:=h;unfold Rs at hok;split at hok
 ·rename_i Xr ht hf;split at hok
  ·rename_i fs hu;unfold Value.okWide at hval;simp only[hu]at hval;obtain⟨cs,rfl,_⟩:=hval;obtain⟨ds,bs,k1,k2⟩:=Vw fuel h hf;refine⟨.agg ds,bs,?_,.inl ⟨ht,Xr,ds,hf,rfl,k2⟩⟩;have:=Rd.agg (w:=w) cs.toList ds bs k1;simpa using this
  ·cases hok
 ·rename_i sh ht hf;have hone:v.oneCell'=true:=by
   unfold Aj at ht;split at ht<;>first
    | (cases ht;done)
    |skip
   rename_i dsc h1 h2 hu;unfold Value.okWide at hval;rw[hu]at hval;cases v with
   |agg cs=>
    cases dsc<;>first
     | (exfalso;exact h1 _ rfl)
     | (exfalso;exact h2 _ _ rfl)
     | (simp[Cell.okWide,Cell.ok,hu]at hval)
   |tuple vs=>
    cases dsc<;>first
     | (exfalso;exact h1 _ rfl)
     | (exfalso;exact h2 _ _ rfl)
     | (simp[Cell.okWide,Cell.ok,hu]at hval)
   |_=>rfl
  rw[Pr hone]at h;obtain⟨ds,bs,k1,k2⟩:=Vw fuel h hf;cases k2 with
  |cons _ _ x ds' hx hn=>
   cases hn;cases k1 with
   |cons _ _ _ _ b1 b2 _ hrd hn=>exact⟨x,b1,hrd,.inr ⟨ht,sh,hf,hx⟩⟩
 ·cases hok
theorem XE{n:Nat}:∀ {ts:List TypeId} {vs:bh} {ds:List (DataW H)} {ps:List MemPlace},(∀t∈ts,Rs P n t=true)->
 (∀(j:Nat) t v,ts[j]?=some t->vs[j]?=some v->Value.okWide P w .any base t v)->DataW.TrodAll enc P w 0 sp held ts vs ds ps->
 ∃xs bs,VB w vs xs bs/\PX P n ts xs/\ds.length=ts.length:=by
 intro ts
 induction ts with
 |nil=>
  intro vs ds ps _ _ h;cases vs with
  |nil=>cases ds with
   |nil=>exact⟨[],[],.nil,.nil,rfl⟩
   |cons=>cases h
  |cons=>cases ds<;>cases h
 |cons t ts ih=>
  intro vs ds ps hok hval h;cases vs with
  |nil=>cases h
  |cons v vs=>
   cases ds with
   |nil=>cases h
   |cons d ds=>
    obtain⟨p,q,h1,h2,rfl⟩:=h;obtain⟨x,b1,k1,k2⟩:=Zk (hok t (by simp)) (hval 0 t v rfl rfl) h1;obtain⟨xs,b2,k3,k4,k5⟩:=ih (fun u hu=>hok u (by simp[hu])) (fun j u y hj hv=>hval (j+1) u y (by simpa using hj) (by simpa using hv)) h2;exact⟨x::xs,b1++b2,.cons _ _ _ _ _ _ k1 k3,.cons _ _ _ _ k2 k4,by simp[k5]⟩
theorem PR{W W':World}(hl:laidOutB P=true)(hb:Below W.heap.size W W')(spn:Nat->Bool):∀ {ts:List TypeId} {vs:bh} {ds:List (DataW H)} {ps:List MemPlace},
 (∀t∈ts,P.readableRec t=true/\t<P.types.size)->DataW.TrodAll enc P W 0 (fun _=>true) true ts vs ds ps->(∀x∈ps,x.block<W.heap.size)->(∀x∈ps,spn x.block=true)->
 DataW.TrodAll enc P W' 0 spn true ts vs ds ps:=by
 intro ts
 induction ts with
 |nil=>intro vs ds ps _ h _ _;cases vs<;>cases ds<;>first|exact h|cases h
 |cons t ts ih=>
  intro vs ds ps ht h hlt hsp;cases vs with
  |nil=>cases h
  |cons v vs=>
   cases ds with
   |nil=>cases h
   |cons d ds=>
    obtain⟨p,q,h1,h2,rfl⟩:=h;refine⟨p,q,?_,ih (fun u hu=>ht u (by simp[hu])) h2 (fun x hx=>hlt x (by simp[hx])) (fun x hx=>hsp x (by simp[hx])),rfl⟩;exact WideElems.Trod_stays hl (ht t (by simp)).1 (ht t (by simp)).2 h1 (fun x hx=>hb.same (hlt x (by simp[hx]))) (fun x hx=>hsp x (by simp[hx]))
theorem Ch.wW{w:World}{v:Value}{b:Bool}{bs ts us:aY}(h:Ch w v (.bool b) bs ts us):v=.bool b:=by
 cases h with|v h=>cases h with|cell h=>cases h with|pure h=>cases h;rfl
theorem Qh{f:FuncId}{fn:Func}{s:ChangeSpec}{n rt:Nat}{W:World}{args:Array Value}{ds gs:List (DataW H)}{before:List MemPlace}
 (hl:laidOutB P=true) (VV:∀t∈fn.params.toList,Rs P n t=true/\P.readableRec t=true/\t<P.types.size) (hres:fn.resultTypes= #[rt]) (hrt:P.underlying rt=some .bool)
 (hv:s.vars=[]) (hfn:∀ds:List (DataW H),ds.length=fn.params.toList.length->s.fn H ds= {results:=[.lit (.bool true)],args:=ds})
 (hvs:QD W fun _=>False) (oQ:∀xs,PX P n fn.params.toList xs->Good P f xs (.bool true))
 (hval:∀(j:Nat) t v,fn.params[j]?=some t->args[j]?=some v->Value.okWide P W .any base t v)
 (hW:DataW.Whole enc P fn.params.toList s.vars false W args.toList ds gs before):
 Calls P f args W fun e W'=>∃v,e=.returned v/\s.post enc P fn false true false false W args v W':=by
 have hW':=hW;obtain⟨p,q,hA,hV,hpq,hz,_⟩:=hW;have hgs:gs=[]/\q=[]:=by
  rw[hv]at hV;cases gs with
  |nil=>exact⟨rfl,hV⟩
  |cons=>cases hV
 obtain⟨rfl,rfl⟩:=hgs;rw[cO]at hpq;subst hpq;obtain⟨xs,bs,k1,k2,k3⟩:=XE (fun t ht=>(VV t ht).1) (fun j t v hj hv=>hval j t v (by simpa using hj) (by simpa using hv)) hA;have hc:=(oQ xs k2).2 W (fun _=>0) args.toList bs hvs k1 (fun _ _=>rfl) (fun b hb=>absurd rfl hb) (fun _=>EY _);rw[je]at hc;refine hc.mono ?_;rintro e W' ⟨v,bs',ts,us,rfl,hb,hr,_⟩;refine⟨v,rfl,?_⟩;obtain rfl:=hr.wW;have hlt:=hW'.lt;have hfd:=hfn ds k3;have Yu:∀(b:Nat) (sp:Nat->Bool) (hd:Bool),DataW.TrodAll enc P W' b sp hd fn.resultTypes.toList ((Value.bool true).resultList fn.resultTypes.size) [.lit (.bool true)] []:=by
  intro b sp hd;rw[hres];exact⟨[],[],⟨1,by simp[DataW.trod,hrt,Value.cells]⟩,rfl,rfl⟩
 have hargs:∀spn:Nat->Bool,(∀x∈before,spn x.block=true)->DataW.TrodAll enc P W' 0 spn true fn.params.toList args.toList ds before:=
  fun spn hsp=>PR hl hb spn (fun t ht=>(VV t ht).2) hA hlt hsp
 have hvars:∀spn:Nat->Bool,DataW.TrodVars enc P W' spn s.vars [] []:=fun spn=>by rw[hv];rfl
 unfold ChangeSpec.post;refine⟨ds,[],before,[],before,[],hW',?_,?_,?_,hb.frame _,fun h=>by cases h⟩
 ·rw[cO,hfd];exact Yu _ _ _
 ·rw[cO,hfd];exact hargs _ (fun x hx=>by simpa using hlt x hx)
 ·rw[cO,hfd];exact hvars _
end
end Go.Cx
namespace Go.Cx
open Go.RowKit
abbrev pO:=List Sh
theorem WZ{α:Type}{c:α->aQ}{row:pO}(hc:∀r,o7 row r->∃x,r=c x):∀ {rows:List aQ},(∀r∈rows,o7 row r)->∃l:List α,rows=l.map c:=by
 intro rows
 induction rows with
 |nil=>intro _;exact⟨[],rfl⟩
 |cons r rows ih=>
  intro h;obtain⟨x,rfl⟩:=hc r (h r (by simp));obtain⟨l,rfl⟩:=ih (fun s hs=>h s (by simp[hs]));exact⟨x::l,rfl⟩
theorem qf{α:Type}{c:α->aQ}{row:pO}(hc:∀r,o7 row r->∃x,r=c x){d:D}(h:P8 (.sl row) d):∃l:List α,d=.sl (l.map c):=by
 cases h with
 |sl _ rows hr=>
  obtain⟨l,rfl⟩:=WZ hc hr;exact⟨l,rfl⟩
theorem qo{d:D}(h:P8 .str d):∃s,d=.str s:=by cases h;exact⟨_,rfl⟩
theorem yE{k:IntKind}{d:D}(h:P8 (.int k) d):∃n,d=.int k n:=by cases h;exact⟨_,rfl⟩
theorem cS{s:Sh}{ss:pO}{ds:aQ}(h:o7 (s::ss) ds):∃d r,ds=d::r/\P8 s d/\o7 ss r:=by
 cases h with|cons _ _ d r h1 h2=>exact⟨d,r,rfl,h1,h2⟩
theorem qp{ds:aQ}(h:o7 [] ds):ds=[]:=by cases h;rfl
theorem KG(r:aQ)(h:o7 [.str] r):∃s,r=tx s:=by
 obtain⟨_,_,rfl,h1,h⟩:=cS h;cases qp h;obtain⟨s,rfl⟩:=qo h1;exact⟨s,rfl⟩
theorem a1S(r:aQ)(h:o7 [.int .i64] r):∃s,r=gQ s:=by
 obtain⟨_,_,rfl,h1,h⟩:=cS h;cases qp h;obtain⟨s,rfl⟩:=yE h1;exact⟨s,rfl⟩
abbrev R8:List Sh:=[.str,.sl [.str]]
theorem Lp(r:aQ)(h:o7 R8 r):∃x:aG,r=x.c:=by
 obtain⟨_,_,rfl,h1,h⟩:=cS h;obtain⟨_,_,rfl,h2,h⟩:=cS h;cases qp h;obtain⟨a,rfl⟩:=qo h1;obtain⟨b,rfl⟩:=qf KG h2;exact⟨⟨a,b⟩,rfl⟩
abbrev a0I:List Sh:=[.str,.str]
theorem WX(r:aQ)(h:o7 a0I r):∃x:aK,r=x.c:=by
 obtain⟨_,_,rfl,h1,h⟩:=cS h;obtain⟨_,_,rfl,h2,h⟩:=cS h;cases qp h;obtain⟨a,rfl⟩:=qo h1;obtain⟨b,rfl⟩:=qo h2;exact⟨⟨a,b⟩,rfl⟩
abbrev a0G:List Sh:=[.int .i64,.str,.sl [.str],.str,.str]
theorem WV(r:aQ)(h:o7 a0G r):∃x:aM,r=x.c:=by
 obtain⟨_,_,rfl,h1,h⟩:=cS h;obtain⟨_,_,rfl,h2,h⟩:=cS h;obtain⟨_,_,rfl,h3,h⟩:=cS h;obtain⟨_,_,rfl,h4,h⟩:=cS h;obtain⟨_,_,rfl,h5,h⟩:=cS h;cases qp h;obtain⟨a,rfl⟩:=yE h1;obtain⟨b,rfl⟩:=qo h2;obtain⟨c,rfl⟩:=qf KG h3;obtain⟨d,rfl⟩:=qo h4;obtain⟨e,rfl⟩:=qo h5;exact⟨⟨a,⟨b,c⟩,d,e⟩,rfl⟩
abbrev T9:List Sh:=[.int .i64,.str,.sl [.str]]
theorem S4(r:aQ)(h:o7 T9 r):∃x:Action,r=x.c:=by
 obtain⟨_,_,rfl,h1,h⟩:=cS h;obtain⟨_,_,rfl,h2,h⟩:=cS h;obtain⟨_,_,rfl,h3,h⟩:=cS h;cases qp h;obtain⟨a,rfl⟩:=yE h1;obtain⟨b,rfl⟩:=qo h2;obtain⟨c,rfl⟩:=qf KG h3;exact⟨⟨a,⟨b,c⟩⟩,rfl⟩
abbrev a0J:List Sh:=[.str,.int .i64,.sl a0G,.sl T9]
theorem WY(r:aQ)(h:o7 a0J r):∃x:aN,r=x.c:=by
 obtain⟨_,_,rfl,h1,h⟩:=cS h;obtain⟨_,_,rfl,h2,h⟩:=cS h;obtain⟨_,_,rfl,h3,h⟩:=cS h;obtain⟨_,_,rfl,h4,h⟩:=cS h;cases qp h;obtain⟨a,rfl⟩:=qo h1;obtain⟨b,rfl⟩:=yE h2;obtain⟨c,rfl⟩:=qf WV h3;obtain⟨d,rfl⟩:=qf S4 h4;exact⟨⟨a,b,c,d⟩,rfl⟩
abbrev Vq:List Sh:=[.sl R8,.sl a0I]
theorem Ts(r:aQ)(h:o7 Vq r):∃x:aR,r=x.c:=by
 obtain⟨_,_,rfl,h2,h⟩:=cS h;obtain⟨_,_,rfl,h3,h⟩:=cS h;cases qp h;obtain⟨b,rfl⟩:=qf Lp h2;obtain⟨c,rfl⟩:=qf WX h3;exact⟨⟨b,c⟩,rfl⟩
abbrev Vp:List Sh:=[.str,.sl [.str],.sl R8]
theorem Tr(r:aQ)(h:o7 Vp r):∃x:aW,r=x.c:=by
 obtain⟨_,_,rfl,h1,h⟩:=cS h;obtain⟨_,_,rfl,h2,h⟩:=cS h;obtain⟨_,_,rfl,h3,h⟩:=cS h;cases qp h;obtain⟨v0,rfl⟩:=qo h1;obtain⟨v1,rfl⟩:=qf KG h2;obtain⟨v2,rfl⟩:=qf Lp h3;exact⟨⟨⟨v0,v1⟩,v2⟩,rfl⟩
abbrev a0H:List Sh:=[.int .i64,.int .i64,.str,.sl [.str],.str,.str,.int .i64,.sl Vq]
theorem WW(r:aQ)(h:o7 a0H r):∃x:Node,r=x.c:=by
 obtain⟨_,_,rfl,h1,h⟩:=cS h;obtain⟨_,_,rfl,h2,h⟩:=cS h;obtain⟨_,_,rfl,h3,h⟩:=cS h;obtain⟨_,_,rfl,h4,h⟩:=cS h;obtain⟨_,_,rfl,h5,h⟩:=cS h;obtain⟨_,_,rfl,h6,h⟩:=cS h;obtain⟨_,_,rfl,h7,h⟩:=cS h;obtain⟨_,_,rfl,h8,h⟩:=cS h;cases qp h;obtain⟨v0,rfl⟩:=yE h1;obtain⟨v1,rfl⟩:=yE h2;obtain⟨v2,rfl⟩:=qo h3;obtain⟨v3,rfl⟩:=qf KG h4;obtain⟨v4,rfl⟩:=qo h5;obtain⟨v5,rfl⟩:=qo h6;obtain⟨v6,rfl⟩:=yE h7;obtain⟨v7,rfl⟩:=qf Ts h8;exact⟨⟨v0,⟨v1,⟨v2,v3⟩,v4,v5⟩,v6,v7⟩,rfl⟩
abbrev XN:List Sh:=[.sl a0J,.sl [.int .i64],.sl Vp,.sl a0H,.sl R8,.int .i64]
theorem QN(r:aQ)(h:o7 XN r):∃x:aJ,r=x.c:=by
 obtain⟨_,_,rfl,h1,h⟩:=cS h;obtain⟨_,_,rfl,h2,h⟩:=cS h;obtain⟨_,_,rfl,h3,h⟩:=cS h;obtain⟨_,_,rfl,h4,h⟩:=cS h;obtain⟨_,_,rfl,h5,h⟩:=cS h;obtain⟨_,_,rfl,h6,h⟩:=cS h;cases qp h;obtain⟨v0,rfl⟩:=qf WY h1;obtain⟨v1,rfl⟩:=qf a1S h2;obtain⟨v2,rfl⟩:=qf Tr h3;obtain⟨v3,rfl⟩:=qf WW h4;obtain⟨v4,rfl⟩:=qf Lp h5;obtain⟨v5,rfl⟩:=yE h6;exact⟨⟨v0,v1,v2,v3,v4,v5⟩,rfl⟩
section
variable{P:Program}{n:Nat}{t:TypeId}{d:D}
theorem Y9.struct{α:Type}{c:α->aQ}{Xr:pO}(hc:∀r,o7 Xr r->∃x,r=c x)(ha:Aj P t=some true)(hf:BC P n t=some Xr)(h:Y9 P n t d):∃x,d=.agg (c x):=by
 rcases h with⟨_,aCR,cells,h1,rfl,h2⟩|⟨h1,_⟩
 ·rw[hf]at h1;cases h1;obtain⟨x,rfl⟩:=hc _ h2;exact⟨x,rfl⟩
 ·rw[ha]at h1;cases h1
end
end Go.Cx
namespace Go.Cx
open Go.ChangeShapes Go.WideShapes Go.ChangeAt Go.RowKit
def jp0(P:Program)(f:FuncId)(fn:Func)(s:ChangeSpec)(c:OpenClaim):Bool:=(c.wf (OpenSpec.ofChange s)&&laidOutB P&&mapsRowed P)
def jp1(P:Program)(f:FuncId)(fn:Func)(s:ChangeSpec)(c:OpenClaim):Bool:=(fn.params.all (P.readableRec ·)&&namedTie P c.named s.vars)&&((c.stops==[])&&(P.stops==[])&&(c.knobs==[])&&(P.stopKnobs==[]))&&((c.maps==(fn.params.toList++s.plain.varTypes P).any (P.mapsRec ·))&&(c.ifaces==(fn.params.toList++s.plain.varTypes P).any (P.ifacesRec ·))&&(c.mapsOut==P.mapsAmong fn.resultTypes.toList))&&((c.loops==(fn.params.toList++s.plain.varTypes P).any (P.loopsFrom ·))&&(c.wideKeys==(fn.params.toList++s.plain.varTypes P++fn.resultTypes.toList).any (P.wideKeysFrom ·)))&&(s.vars.all (P.varReadable ·)&&fn.resultTypes.all (fun t=>P.readableRec t&&decide (t<P.types.size))&&(c.ifacesOut==fn.resultTypes.toList.any (P.ifacesRec ·))&&(c.loopsOut==fn.resultTypes.toList.any (P.loopsFrom ·)))&&((c.kinds==(if c.domain.isEmpty then []else fn.params.toList.map fun t=>match P.underlying t with|some (.int k)=>some k|_=>none))&&(c.pinned==c.pinnedBy))&&((c.veiled==(fn.params.toList++s.plain.varTypes P++fn.resultTypes.toList).any (P.veiledRec ·))&&c.veiledFits P fn.params.toList (fn.params.toList++s.plain.varTypes P++fn.resultTypes.toList))
def jp2(P:Program)(f:FuncId)(fn:Func)(s:ChangeSpec)(c:OpenClaim):Bool:=(c.inPlace==P.inPlace f)&&(c.unfollowed==P.unfollowed f)&&(c.recurses==P.recurses f)&&(c.named==P.varsNamed f)
def jp3(P:Program)(f:FuncId)(fn:Func)(s:ChangeSpec)(c:OpenClaim):Bool:=(c.plainKeys==P.plainKeys)&&(c.shortTexts.isNone&&P.stopsHeard)&&P.mayEnter&&(c.lifted==P.liftsFinal)&&(P.make==some c.make)
theorem Wv{P:Program}{f:FuncId}{fn:Func}{s:ChangeSpec}{c:OpenClaim}(h0:jp0 P f fn s c=true)(h1:jp1 P f fn s c=true)(h2:jp2 P f fn s c=true)(h3:jp3 P f fn s c=true):joinedFacts P f fn s c=true:=by
 unfold jp0 at h0;unfold jp1 at h1;unfold jp2 at h2;unfold jp3 at h3;unfold joinedFacts;simp only[aZ]at h0 h1 h2 h3⊢;obtain⟨⟨aCS,aCT⟩,aCU⟩:=h0;obtain⟨⟨⟨⟨⟨⟨⟨aCV,aCW⟩,⟨⟨⟨aCX,aCY⟩,aCZ⟩,aCa⟩⟩,⟨⟨aCf,aCg⟩,aCh⟩⟩,⟨aCi,aCj⟩⟩,⟨⟨⟨aCk,aCl⟩,aCm⟩,aCn⟩⟩,⟨aBC,aBD⟩⟩,⟨aBE,aBF⟩⟩:=h1;obtain⟨⟨⟨aCb,aCc⟩,aCd⟩,aCe⟩:=h2;obtain⟨⟨⟨⟨aB6,⟨aB7,aB8⟩⟩,aB9⟩,aBA⟩,aBB⟩:=h3
 and_intros<;>assumption
end Go.Cx

/- Reading numbers, and the orders of atoms, facts and tokens, in plain words: of the program and of the reference. No condition but bounds on sizes. -/
import Derived.Test.YtfankinmlfnncaaGreatDoorPFnChangesG5
import Derived.Lib.Atoi
set_option linter.unusedVariables false
set_option linter.unusedSimpArgs false
namespace Go.Cx
open Go.RowKit Go.Proofs Tryz
def zL(s:Bytes):Option Nat:=if 1<=s.length/\s.length<=4 then(match Lib.decFrom 0 s with|some n=>if Lib.decDigits n=s then some n else none|none=>none)else none
def pI(s:Bytes):Int×Bool:=match zL s with|some n=>((n:Int),true)|none=>(0,false)
theorem a0s:∀(u:Nat),∀b∈Lib.decDigits u,48<=b.toNat/\b.toNat<=57:=by
 intro u
 induction u using Nat.strongRecOn with
 |_ u ih=>
  have hb:∀v:Nat,v<10->48<=(UInt8.ofNat (48+v)).toNat/\(UInt8.ofNat (48+v)).toNat<=57:=by
   intro v hv;have:(UInt8.ofNat (48+v)).toNat=48+v:=by simp;omega
   omega
  intro b hm;rw[Lib.decDigits]at hm;split at hm
  ·rename_i h10;simp only[cH]at hm;subst hm;exact hb u h10
  ·rename_i h10;rcases aX.1 hm with hm|hm
   ·exact ih (u/10) (by omega) b hm
   ·simp only[cH]at hm;subst hm;exact hb (u%10) (by omega)
theorem a5l(a:Bytes)(k:Int->Option (Int×Bool))(ha:a.length<=4):∀(rest pre:Bytes) (acc:Nat),a=pre++rest->acc<10^pre.length->∀n,rest.length<n->
 jf a k n (acc:Int) (pre.length:Int)=(match Lib.decFrom acc rest with|some m=>k (m:Int)|none=>some (0,false)):=by
 intro rest
 induction rest with
 |nil=>
  intro pre acc h _ n hn;obtain⟨m,rfl⟩:∃m,n=m+1:=⟨n-1,by simp at hn;omega⟩
  have e1:decide ((pre.length:Int)<(a.length:Int))=false:=by simp[h]
  rw[jf,e1];rfl
 |cons x xs ih=>
  intro pre acc h hacc n hn;obtain⟨m,rfl⟩:∃m,n=m+1:=⟨n-1,by simp at hn;omega⟩
  have hl:a.length=pre.length+(xs.length+1):=by rw[h];simp
  have e1:decide ((pre.length:Int)<(a.length:Int))=true:=by rw[hl];simp;omega
  have e4:IntKind.i64.wrap ((pre.length:Int)+1)=((pre++[x]).length:Int):=by rw[Fj (by omega)];simp
  have h10:acc<10000:=eS hacc (wB (by omega) (show pre.length<=4 by omega));have hx:=x.toNat_lt;rw[jf,e1,aG,xk h,aA,e4];by_cases c1:(x.toNat:Int)<48
  ·have:Lib.digitVal x=none:=by unfold Lib.digitVal;rw[bE (by omega)]
   simp only[Lib.decFrom,this];rw[au c1,aG]
  ·by_cases c2:(x.toNat:Int)>57
   ·have:Lib.digitVal x=none:=by unfold Lib.digitVal;rw[bE (by omega)]
    simp only[Lib.decFrom,this];rw[ax c1,aL,au c2,aG]
   ·have hd:Lib.digitVal x=some (x.toNat-48):=by unfold Lib.digitVal;rw[bO (by omega)]
    have e5:IntKind.i64.wrap ((IntKind.i64.wrap (10*(acc:Int)))+(IntKind.i64.wrap (IntKind.u8.wrap ((x.toNat:Int)-48))))=((acc*10+(x.toNat-48):Nat):Int):=by
     rw[eD (k:=.u8) (qv.u8.2 (by omega)),eD (n:=(10:Int)*(acc:Int)) (qv.i64.2 (by omega)),eD (n:=(x.toNat:Int)-48) (qv.i64.2 (by omega)),eD (qv.i64.2 (by omega))];omega
    simp only[Lib.decFrom,hd];rw[ax c1,aL,ax c2,aL,e5];refine ih (pre++[x]) _ (by simp[h]) ?_ m (by simp at hn;omega);rw[bC,eA,yg];omega
theorem Tg(s:Bytes):oF s=some (pI s):=by
 unfold oF;rw[MM,aA];by_cases hl:1<=s.length/\s.length<=4
 ·have e1:(decide ((s.length:Int)>=1)&&decide ((s.length:Int)<=4))=true:=by simp;omega
  have t:=a5l s (fun z=>((kG z).bind fun Dm=>(bif !((Dm:Bytes)==s)then(some (0,false))else(some (z,true))))) hl.2 s [] 0 rfl (by simp) fuel (by unfold fuel;omega);rw[e1,bU,aL];refine t.trans ?_;unfold pI zL;rw[bO hl];cases hd:Lib.decFrom 0 s with
  |none=>rfl
  |some m=>
   have hm:=Lib.decFrom_lt s 0 m hd;have h10:m<10000:=by
    have:=wB (n:=10) (by omega) hl.2;omega
   simp only;rw[a5j _ (qv.i64.2 (by omega)),aA];have e2:Lib.itoa (m:Int)=Lib.decDigits m:=by unfold Lib.itoa;rw[bE (by omega)];simp
   rw[e2];by_cases he:Lib.decDigits m=s
   ·rw[bO he,he];simp
   ·rw[bE he];have:(Lib.decDigits m==s)=false:=by simpa using he
    rw[this];rfl
 ·have e1:(decide ((s.length:Int)>=1)&&decide ((s.length:Int)<=4))=false:=by
   rw[Fl,qF,qF];omega
  rw[e1];unfold pI zL;rw[bE hl];rfl
theorem TC(s:Bytes):oC s=some (pI s):=by
 unfold oC pI zL;by_cases hl:1<=s.length/\s.length<=4
 ·have e1:decide ((s.length:Int)<1)=false:=by simp;omega
  have e2:decide ((s.length:Int)>4)=false:=by simp;omega
  rw[bO hl,e1,aL,e2,aL];unfold CM TH;rw[bO (by omega)];cases s with
  |nil=>simp at hl
  |cons b t=>
   have fin:∀(m:Nat),Lib.decFrom 0 (b::t)=some m->(bif decide ((m:Int)<0)then some ((0:Int),false)else bif decide ((m:Int)>9999)then some (0,false)else(mQ (m:Int)).bind fun y8=>bif !((y8:Bytes)==(b::t))then some (0,false)else some ((m:Int),true))=
    some (match(if Lib.decDigits m=b::t then some m else none)with|some n=>((n:Int),true)|none=>(0,false)):=by
    intro m hd;have hm:=Lib.decFrom_lt (b::t) 0 m hd;have h10:m<10000:=by
     have:=wB (n:=10) (by omega) hl.2;omega
    have e3:decide ((m:Int)<0)=false:=by simp
    have e4:decide ((m:Int)>9999)=false:=by simp;omega
    have e5:Lib.itoa (m:Int)=Lib.decDigits m:=by unfold Lib.itoa;rw[bE (by omega)];simp
    rw[e3,aL,e4,aL,a8l,aA,e5];by_cases he:Lib.decDigits m=b::t
    ·rw[bO he,he];simp
    ·rw[bE he];have:(Lib.decDigits m==(b::t))=false:=by simpa using he
     rw[this];rfl
   have sign:∀(n:Int),b.toNat<48->(bif decide (n<0)then some ((0:Int),false)else bif decide (n>9999)then some (0,false)else(mQ n).bind fun y8=>bif !((y8:Bytes)==(b::t))then some (0,false)else some (n,true))=some (0,false):=by
    intro n hb;by_cases hn:n<0
    ·rw[au hn];rfl
    rw[ax hn,aL,a8l,aA];cases decide (n>9999)with
    |true=>rfl
    |false=>
     have e5:Lib.itoa n=Lib.decDigits n.toNat:=by unfold Lib.itoa;rw[bE hn]
     have:(Lib.itoa n==(b::t))=false:=by
      rw[e5,dA];intro h;have:=a0s n.toNat b (by rw[h];simp);omega
     rw[this];rfl
   simp only[Lib.atoi];by_cases hb:b=45
   ·subst hb;have hd:Lib.decFrom 0 ((45:UInt8)::t)=none:=by simp[Lib.decFrom,Lib.digitVal]
    rw[bO (by decide),hd];cases Lib.decNat t with
    |none=>rfl
    |some m=>exact sign _ (by decide)
   ·rw[bE (by simpa using hb)];by_cases On:b=43
    ·subst On;have hd:Lib.decFrom 0 ((43:UInt8)::t)=none:=by simp[Lib.decFrom,Lib.digitVal]
     rw[bO (by decide),hd];cases Lib.decNat t with
     |none=>rfl
     |some m=>exact sign (m:Int) (by decide)
    ·rw[bE (by simpa using On)];have hdn:Lib.decNat (b::t)=Lib.decFrom 0 (b::t):=by simp[Lib.decNat]
     rw[hdn];cases hd:Lib.decFrom 0 (b::t)with
     |none=>rfl
     |some m=>exact fin m hd
 ·rw[bE hl];by_cases h1:(s.length:Int)<1
  ·rw[au h1];rfl
  ·have h2:(s.length:Int)>4:=by omega
   rw[ax h1,aL,au h2];rfl
def ya(a b:Bytes):Int:=if Op.bytesLess a b=true then-1 else if a=b then 0 else 1
def Ia(x y:Int):Int:=if x<y then-1 else if x>y then 1 else 0
def Cn(a b:Bytes):Int:=match zL a,zL b with
 |some x,some y=>Ia x y
 |some _,none=> -1
 |none,some _=>1
 |none,none=>ya a b
def vR{G:Type}(g:G->G->Int):List G->List G->Option Int
 |x::xs,y::ys=>if g x y≠0 then some (g x y)else vR g xs ys
 |_,_=>none
def cmpL{G:Type}(g:G->G->Int)(a b:List G):Int:=match vR g a b with|some z=>z|none=>Ia a.length b.length
def oJ(a b:aC):Int:=if a.rel≠b.rel then ya a.rel b.rel else cmpL Cn a.args b.args
theorem Sl{a b:Bytes}(h:a≠b):ya a b≠0:=by
 unfold ya;split
 ·omega
 ·first|omega| (rw[bE h];omega)
theorem Rn(a:Bytes):ya a a=0:=by
 unfold ya;rw[sK];simp
theorem Xa:∀(a b:Bytes),Lib.compareBytes a b=ya a b
 | [],[]=>by simp[Lib.compareBytes,ya,Op.bytesLess]
 | [],_::_=>by simp[Lib.compareBytes,ya,Op.bytesLess]
 |_::_,[]=>by simp[Lib.compareBytes,ya,Op.bytesLess]
 |a::xs,b::ys=>by
  have ih:=Xa xs ys;simp only[Lib.compareBytes,ya,Op.bytesLess];by_cases h1:a<b
  ·simp[h1]
  ·by_cases h2:b<a
   ·have hne:a≠b:=fun e=>by subst e;exact h1 h2
    simp[h1,h2,hne]
   ·have e:a=b:=by
     rw[Fp]at h1 h2;exact UInt8.toNat_inj.1 (by omega)
    subst e;rw[bE h1,bE h1,ih];simp[ya,h1]
theorem P6{G:Type}{f:G->G->Option Int}{g:G->G->Int}{c:G->aT}{L:List G->Nat->Option Int}{k:Option Int}{b:List G}(wo:∀i,L [] i=k)
 (wO:∀x xs i,L (x::xs) i=bif decide (((i:Int):Int)<((b.map c).length:Int))then((gA b (i:Int)).bind fun y=>((f x y).bind fun z=>(bif (z:Int) != 0 then(some z)else(L xs (i+1)))))else k):
 ∀(l pre rest:List G),b=pre++rest->(∀x∈l,∀y∈rest,f x y=some (g x y))->L l pre.length=(match vR g l rest with|some z=>some z|none=>k):=by
 intro l
 induction l with
 |nil=>intro pre rest h _;rw[wo];cases rest<;>rfl
 |cons x xs ih=>
  intro pre rest h hf;rw[wO];cases rest with
  |nil=>
   have e1:decide ((pre.length:Int)<((b.map c).length:Int))=false:=by simp[h]
   rw[e1];rfl
  |cons y ys=>
   have e1:decide ((pre.length:Int)<((b.map c).length:Int))=true:=by simp[h];omega
   rw[e1,aG,xk h,aA,hf x (by simp) y (by simp),aA];simp only[vR];have t:=ih (pre++[y]) ys (by simp[h]) (fun x' hx y' hy=>hf x' (by simp[hx]) y' (by simp[hy]));rw[bC,eA]at t;by_cases hz:g x y=0
   ·have e2:(g x y != 0)=false:=by simp[hz]
    rw[e2,aL,t,bE (by simp[hz])]
   ·have e2:(g x y != 0)=true:=by simp[hz]
    rw[e2,aG,bO hz]
theorem P7(x y:Int):(bif decide (x<y)then some (-1:Int)else bif decide (x>y)then some 1 else some 0)=some (Ia x y):=by
 unfold Ia;by_cases h1:x<y
 ·simp[h1]
 ·by_cases h2:x>y
  ·simp[h1,h2]
  ·simp[h1,h2]
theorem a7T(a b:Bytes):uo a b=some (ya a b):=by
 unfold uo ya;cases h:Op.bytesLess a b with
 |true=>rfl
 |false=>
  by_cases e:a=b
  ·simp[e]
  ·have e':(a==b)=false:=by simpa using e
   simp[e,e']
theorem a7S(a b:Bytes):kZ a b=some (Cn a b):=by
 unfold kZ Cn;rw[Tg,Tg,aA,aA,a7T];unfold pI;cases zL a with
 |none=>cases zL b<;>rfl
 |some x=>
  cases zL b with
  |none=>rfl
  |some y=>
   simp only[aG,bU,aL];exact P7 _ _
theorem a1W(x y:Int):jX x y=some (Ia x y):=by
 unfold jX;exact P7 x y
theorem a6g(a b:Bytes):tD a b=some (ya a b):=by
 unfold tD;show some (Lib.compareBytes a b)=_;rw[Xa]
theorem aB6(a b:Bytes):nu a b=some (Cn a b):=by
 unfold nu Cn;rw[TC,TC,aA,aA,a6g];unfold pI;cases zL a with
 |none=>cases zL b<;>rfl
 |some x=>
  cases zL b with
  |none=>rfl
  |some y=>
   simp only[aG,a1W,aA]
theorem VJ(a b:aC):fy a b=some (oJ a b):=by
 unfold fy oJ;by_cases h:a.rel=b.rel
 ·have e:(a.rel==b.rel)=true:=by simpa using h
  rw[e,bU,aL,bE (by simpa using h)];have t:=fun k=>P6 (f:=kZ) (g:=Cn) (c:=tx) (L:=kF a b k) (b:=b.args) (k:=k) (fun _=>rfl) (fun _ _ _=>rfl) a.args [] b.args rfl (fun x _ y _=>a7S x y)
  refine(t _).trans ?_;unfold cmpL;cases vR Cn a.args b.args with
  |some z=>rfl
  |none=>simp only[aq];exact P7 _ _
 ·have e:(a.rel==b.rel)=false:=by simpa using h
  rw[e,bt,aG,bO h,a7T];rfl
theorem a1V(a b:aC):gm a b=some (oJ a b):=by
 unfold gm oJ;rw[a6g,aA];by_cases h:a.rel=b.rel
 ·have e:(ya a.rel b.rel != 0)=false:=by rw[h,Rn];rfl
  rw[e,aL,bE (by simpa using h)];have t:=fun k=>P6 (f:=nu) (g:=Cn) (c:=tx) (L:=kB a b k) (b:=b.args) (k:=k) (fun _=>rfl) (fun _ _ _=>rfl) a.args [] b.args rfl (fun x _ y _=>aB6 x y)
  refine(t _).trans ?_;unfold cmpL;cases vR Cn a.args b.args with
  |some z=>rfl
  |none=>simp only[aq,a1W,aA]
 ·have e:(ya a.rel b.rel != 0)=true:=by simpa using Sl h
  rw[e,aG,bO h]
theorem aCj(a b:aQ):pX a b=some (cmpL oJ a.facts b.facts):=by
 unfold pX;have t:=fun k=>P6 (f:=fy) (g:=oJ) (c:=aC.c) (L:=jQ a b k) (b:=b.facts) (k:=k) (fun _=>rfl) (fun _ _ _=>rfl) a.facts [] b.facts rfl (fun x _ y _=>VJ x y)
 refine(t _).trans ?_;unfold cmpL;cases vR oJ a.facts b.facts with
 |some z=>rfl
 |none=>simp only[aq];exact P7 _ _
theorem aB7(a b:aQ):pU a b=some (cmpL oJ a.facts b.facts):=by
 unfold pU qK;have t:=P6 (f:=gm) (g:=oJ) (c:=aC.c) (L:=fZ a.facts b.facts ((jX ((a.facts.map aC.c).length:Int) ((b.facts.map aC.c).length:Int)).bind fun FQ=>(some FQ))) (b:=b.facts) (k:=_) (fun _=>rfl) (fun _ _ _=>rfl) a.facts [] b.facts rfl (fun x _ y _=>a1V x y);rw[show fZ a.facts b.facts _ a.facts 0=_ from t];unfold cmpL;cases vR oJ a.facts b.facts with
 |some z=>rfl
 |none=>simp only[aq,a1W,aA]
def chainB:Option aC->aJ->Bool
 |_,[]=>true
 |p,x::xs=>pL x&&(match p with|some q=>decide (oJ q x<0)|none=>true)&&chainB (some x) xs
def fK(l:aJ):Bool:=chainB none l&&decide (l.length<=24)
theorem Re{isF:aC->Option Bool}{cmp:aC->aC->Option Int}{a:aJ}{L:aJ->Nat->Option Bool}{k:Option Bool}(ha:a.length<=1099511627770)(hc:∀x y,cmp x y=some (oJ x y))(wo:∀i,L [] i=k)
 (wO:∀x xs i,L (x::xs) i=((isF x).bind fun y=>(bif !(y)then(some false)else(bif decide (((i:Int):Int)>0)then((gA a (IntKind.i64.wrap ((i:Int)-1))).bind fun q=>((cmp q x).bind fun z=>(bif decide ((z:Int)>=0)then(some false)else(L xs (i+1)))))else(L xs (i+1)))))):
 ∀(l pre:aJ),a=pre++l->(∀x∈l,isF x=some (pL x))->L l pre.length=bif chainB pre.getLast? l then k else some false:=by
 intro l
 induction l with
 |nil=>intro pre _ _;rw[wo];rfl
 |cons x xs ih=>
  intro pre h hf;have hl:a.length=pre.length+(xs.length+1):=by rw[h];simp
  have t:=ih (pre++[x]) (by simp[h]) (fun y hy=>hf y (by simp[hy]));rw[bC,eA,pR]at t;rw[wO,hf x (by simp),aA,t];simp only[chainB];cases pL x with
  |false=>rfl
  |true=>
   rw[bU,aL,fM];rcases zP pre with rfl|⟨p,z,hpz⟩
   ·simp
   ·rw[zO]at hpz;subst hpz;have e0:decide (((p++[z]).length:Int)>0)=true:=by simp<;>omega
    have e1:IntKind.i64.wrap (((p++[z]).length:Int)-1)=(p.length:Int):=by
     rw[eD (qv.i64.2 (by simp at hl⊢;omega))];simp
    have e2:gA a (p.length:Int)=some z:=xk (xs:=x::xs) (by rw[h];simp);rw[e0,aG,e1,e2,aA,hc,aA,pR];by_cases hz:oJ z x<0
    ·have e3:decide (oJ z x>=0)=false:=by simp;omega
     rw[e3,aL];show _=bif (decide (oJ z x<0)&&chainB (some x) xs)then k else some false
     rw[au hz,fM]
    ·have e3:decide (oJ z x>=0)=true:=by simp;omega
     rw[e3,aG];show _=bif (decide (oJ z x<0)&&chainB (some x) xs)then k else some false
     rw[ax hz];rfl
theorem a2g(l:aJ)(h:sD aC.wt l<=1048576):qc l=some (fK l):=by
 unfold qc fK;have hl:=tK aC.wt l;have t:=Re (isF:=rE) (cmp:=fy) (a:=l) (L:=mE l (some (decide ((((l.map aC.c).length:Int):Int)<=24)))) (k:=_) (by omega) VJ (fun _=>rfl) (fun _ _ _=>rfl) l [] rfl (fun x hx=>a2s x (by have:=qS (w:=aC.wt) hx;omega));refine t.trans ?_;have e:decide (((l.map aC.c).length:Int)<=24)=decide (l.length<=24):=by rw[aq];congr 1;rw[wC];omega
 rw[e];show(bif chainB none l then _ else _)=_;cases chainB none l<;>rfl
theorem a1Q(l:aJ)(h:sD aC.wt l<=1048576):qW l=some (fK l):=by
 unfold qW fK;have hl:=tK aC.wt l;have t:=Re (isF:=rC) (cmp:=gm) (a:=l) (L:=jU l (some true)) (k:=_) (by omega) a1V (fun _=>rfl) (fun _ _ _=>rfl) l [] rfl (fun x hx=>a1a x (by have:=qS (w:=aC.wt) hx;omega));rw[show jU l (some true) l 0=_ from t];by_cases h24:l.length<=24
 ·have e:decide (((l.map aC.c).length:Int)>24)=false:=by rw[aq];simp;omega
  rw[e,aL,au h24,xQ];show(bif chainB none l then _ else _)=_;cases chainB none l<;>rfl
 ·have e:decide (((l.map aC.c).length:Int)>24)=true:=by rw[aq];simp;omega
  rw[e,aG,ax h24,wA]
def PB(b:aP):Prop:=b.length<=1048576/\∀x∈b,x.var.length<=1048576/\x.value.length<=1048576
theorem PB.nil:PB []:=⟨by simp,by simp⟩
def qV:Option aW->aP->Bool
 |_,[]=>true
 |p,x::xs=>fp x.var&&(fW x.value&&((match p with|some q=>Op.bytesLess q.var x.var|none=>true)&&qV (some x) xs))
def iP(b:aP):Bool:=qV none b&&decide (b.length<=6)
theorem Dr{b:aP}(h:iP b=true):b.length<=6:=by
 unfold iP at h;simp only[aU,bH]at h;exact h.2
theorem UI{isV isA:Bytes->Option Bool}{a:aP}{L:aP->Nat->Option Bool}{k:Option Bool}(ha:a.length<=1099511627770)(hV:∀x:Bytes,x.length<=1048576->isV x=some (fp x))(hA:∀x:Bytes,x.length<=1048576->isA x=some (fW x))(wo:∀i,L [] i=k)
 (wO:∀x xs i,L (x::xs) i=((isV x.var).bind fun y=>(bif !(y)then(some false)else((isA x.value).bind fun z=>(bif !(z)then(some false)else(bif decide (((i:Int):Int)>0)then((gA a (IntKind.i64.wrap ((i:Int)-1))).bind fun q=>(bif !(Op.bytesLess q.var x.var)then(some false)else(L xs (i+1))))else(L xs (i+1)))))))):
 ∀(l pre:aP),a=pre++l->(∀x∈l,x.var.length<=1048576/\x.value.length<=1048576)->L l pre.length=bif qV pre.getLast? l then k else some false:=by
 intro l
 induction l with
 |nil=>intro pre _ _;rw[wo];rfl
 |cons x xs ih=>
  intro pre h hf;have hl:a.length=pre.length+(xs.length+1):=by rw[h];simp
  have t:=ih (pre++[x]) (by simp[h]) (fun y hy=>hf y (by simp[hy]));rw[bC,eA,pR]at t;rw[wO,hV _ (hf x (by simp)).1,aA,hA _ (hf x (by simp)).2,aA,t];simp only[qV];cases fp x.var with
  |false=>rfl
  |true=>
   cases fW x.value with
   |false=>rfl
   |true=>
    simp only[bU,aL,fM];rcases zP pre with rfl|⟨p,z,hpz⟩
    ·simp
    ·rw[zO]at hpz;subst hpz;have e0:decide (((p++[z]).length:Int)>0)=true:=by simp<;>omega
     have e1:IntKind.i64.wrap (((p++[z]).length:Int)-1)=(p.length:Int):=by
      rw[eD (qv.i64.2 (by simp at hl⊢;omega))];simp
     have e2:gA a (p.length:Int)=some z:=xk (xs:=x::xs) (by rw[h];simp);rw[e0,aG,e1,e2,aA,pR];show _=bif (Op.bytesLess z.var x.var&&qV (some x) xs)then k else some false
     cases Op.bytesLess z.var x.var<;>rfl
theorem YJ(b:aP)(h:PB b):mZ b=some (iP b):=by
 unfold mZ iP;have t:=fun k=>UI (isV:=iq) (isA:=gU) (a:=b) (L:=kf b k) (k:=k) (by have:=h.1;omega) Th OW (fun _=>rfl) (fun _ _ _=>rfl) b [] rfl h.2
 refine(t _).trans ?_;have e:decide (((b.map aW.c).length:Int)<=6)=decide (b.length<=6):=by rw[aq];congr 1;rw[wC];omega
 rw[e];show(bif qV none b then _ else _)=_;cases qV none b<;>rfl
theorem Xx(b:aP)(h:PB b):mR b=some (iP b):=by
 unfold mR iP;have t:=fun k=>UI (isV:=nO) (isA:=gR) (a:=b) (L:=jD b k) (k:=k) (by have:=h.1;omega) ZF OH (fun _=>rfl) (fun _ _ _=>rfl) b [] rfl h.2
 rw[show jD b (some true) b 0=_ from t _];by_cases h6:b.length<=6
 ·have e:decide (((b.map aW.c).length:Int)>6)=false:=by rw[aq];simp;omega
  rw[e,aL,au h6,xQ];show(bif qV none b then _ else _)=_;cases qV none b<;>rfl
 ·have e:decide (((b.map aW.c).length:Int)>6)=true:=by rw[aq];simp;omega
  rw[e,aG,ax h6,wA]
def dR(t:Bytes):aP->Option Bytes
 | []=>none
 |x::xs=>bif x.var==t then some x.value else dR t xs
def rU(b:aP)(t:Bytes):Bytes×Bool:=bif fW t then(t,true)else bif fp t then(match dR t b with|some v=>(v,true)|none=>([],false))else([],false)
theorem a5u(b:aP)(t:Bytes)(ht:t.length<=1048576):pg b t=some (rU b t):=by
 unfold pg rU;have key:∀(l:aP) (i:Nat),jK b t (some ([],false)) l i=some (bif fp t then(match dR t l with|some v=>(v,true)|none=>([],false))else([],false)):=by
  intro l
  induction l with
  |nil=>intro i;rw[jK];cases fp t<;>rfl
  |cons x xs ih=>
   intro i;rw[jK,Th t ht,aA,ih];simp only[dR];cases x.var==t<;>cases fp t<;>rfl
 rw[OW t ht,aA,key];cases fW t<;>rfl
theorem a5D(b:aP)(t:Bytes)(ht:t.length<=1048576):pV b t=some (rU b t):=by
 unfold pV rU;have key:∀(l:aP) (i:Nat),nR b t (some ([],false)) l i=some (match dR t l with|some v=>(v,true)|none=>([],false)):=by
  intro l
  induction l with
  |nil=>intro i;rfl
  |cons x xs ih=>
   intro i;rw[nR,ih];simp only[dR];cases x.var==t<;>rfl
 rw[OH t ht,aA,ZF t ht,aA,key];cases fW t<;>cases fp t<;>rfl
theorem Wq(b:aP)(h:b.length<=1099511627776):tU b=some b:=by
 unfold tU;rw[VI h (by decide)];simp
theorem T9(b:aP)(h:b.length<=1099511627776):j8 b=some b:=by
 unfold j8;rw[VI h (by decide)];simp
def xM(v val:Bytes):aP->aP
 | []=>[⟨v,val⟩]
 |x::xs=>bif !(Op.bytesLess x.var v||x.var==v)then⟨v,val⟩::x::xs else x::xM v val xs
theorem CZ(v val:Bytes)(b:aP):(xM v val b).length=b.length+1:=by
 induction b with
 |nil=>rfl
 |cons x xs ih=>simp only[xM];cases !(Op.bytesLess x.var v||x.var==v)<;>simp[ih]
theorem Qp(v val:Bytes)(b:aP){x:aW}(h:x∈xM v val b):x=⟨v,val⟩\/x∈b:=by
 induction b with
 |nil=>simp[xM]at h;exact .inl h
 |cons y ys ih=>
  simp only[xM]at h;cases hc: !(Op.bytesLess y.var v||y.var==v)with
  |true=>
   rw[hc,aG]at h;rcases bV.1 h with h|h
   ·exact .inl h
   ·exact .inr h
  |false=>
   rw[hc,aL]at h;rcases bV.1 h with h|h
   ·exact .inr (by simp[h])
   ·rcases ih h with h|h
    ·exact .inl h
    ·exact .inr (by simp[h])
theorem YN{I:Type}{v val:Bytes}{L:aP->Nat->Bool->aP->Option I}{k:Bool->aP->Option I}{K:aP->Option I}(hk1:∀w,k true w=K w)(hk2:∀w:aP,w.length<1099511627770->k false w=K (w++[⟨v,val⟩]))(wo:∀i d w,L [] i d w=k d w)
 (wO:∀x xs i d w,L (x::xs) i d w=(bif !(d)then(bif !(Op.bytesLess x.var v||(x.var:Bytes)==v)then(bif room ((w.map aW.c).length+([[D.str v,D.str val]]).length) 32 then(bif room (((w.map aW.c)++([[D.str v,D.str val]])).length+([[D.str x.var,D.str x.value]]).length) 32 then(L xs (i+1) true ((w++([(⟨v,val⟩:aW)]))++([x])))else none)else none)else(bif room ((w.map aW.c).length+([[D.str x.var,D.str x.value]]).length) 32 then(L xs (i+1) d (w++([x])))else none))else(bif room ((w.map aW.c).length+([[D.str x.var,D.str x.value]]).length) 32 then(L xs (i+1) d (w++([x])))else none))):
 ∀(l:aP) (i:Nat) (w:aP),w.length+l.length<1099511627760->L l i false w=K (w++xM v val l):=by
 have c1:∀(l:aP) (i:Nat) (w:aP),w.length+l.length<1099511627765->L l i true w=K (w++l):=by
  intro l
  induction l with
  |nil=>intro i w _;rw[wo,hk1,dV]
  |cons x xs ih=>
   intro i w hw;simp only[aR]at hw;rw[wO,bU,aL,gG (by omega) (by decide),aG,ih (i+1) (w++[x]) (by simp;omega)];simp
 intro l
 induction l with
 |nil=>intro i w hw;simp only[cE]at hw;rw[wo,hk2 _ (by omega)];rfl
 |cons x xs ih=>
  intro i w hw;simp only[aR]at hw;have r1:∀y:aT,room ((w.map aW.c).length+([y]).length) 32=true:=fun y=>gG (by omega) (by decide)
  have r2:room (((w.map aW.c)++([[D.str v,D.str val]])).length+([[D.str x.var,D.str x.value]]).length) 32=true:=Fg (by simp;omega) (by decide);have t1:=ih (i+1) (w++[x]) (by simp;omega);have t2:=c1 xs (i+1) ((w++[⟨v,val⟩])++[x]) (by simp;omega);rw[wO,bt,aG,r1,r1,r2];simp only[aG,xM];cases !(Op.bytesLess x.var v||x.var==v)with
  |true=>rw[aG,aG,t2];simp
  |false=>rw[aL,aL,t1];simp
theorem a7g(b:aP)(v val:Bytes)(h:b.length<1099511627700):wk b v val=some (xM v val b):=by
 unfold wk;exact YN (v:=v) (val:=val) (K:=fun w=>some w) (L:=oG b v val (fun(z:Bool) (q:aP)=>(bif !(z)then(bif room ((q.map aW.c).length+([[D.str v,D.str val]]).length) 32 then(some (q++([(⟨v,val⟩:aW)])))else none)else(some q)))) (fun w=>rfl) (fun w hw=>by show(bif !false then _ else _)=_;rw[gG (by omega) (by decide)];rfl) (fun _ _ _=>rfl) (fun _ _ _ _ _=>rfl) b 0 [] (by simp;omega)
def xf(b:aP)(v val:Bytes):aP×Bool:=bif iP b&&(fp v&&fW val)then(match dR v b with|some o=>bif o==val then(b,true)else([],false)|none=>bif decide (b.length=6)then([],false)else(xM v val b,true))else([],false)
theorem Xg{b:aP}{v val:Bytes}(h:PB b)(hv:v.length<=1048576)(hl:val.length<=1048576):PB (xf b v val).1:=by
 unfold xf;cases hb:iP b&&(fp v&&fW val)with
 |false=>exact PB.nil
 |true=>
  rw[aG];have h6:b.length<=6:=Dr (by simp only[aU]at hb;exact hb.1);cases dR v b with
  |some o=>simp only;cases o==val<;>first|exact h|exact PB.nil
  |none=>
   simp only;cases decide (b.length=6)with
   |true=>exact PB.nil
   |false=>
    refine⟨by simp only[aL,CZ];omega,fun x hx=>?_⟩;rcases Qp _ _ _ hx with rfl|hx
    ·exact⟨hv,hl⟩
    ·exact h.2 x hx
theorem aGA(b:aP)(v val:Bytes)(h:PB b)(hv:v.length<=1048576)(hl:val.length<=1048576):vT b v val=some (xf b v val):=by
 unfold vT xf;have hlen:=h.1;rw[YJ b h,aA,Th v hv,aA,OW val hl,aA,a5u b v hv,aA,Wq b (by omega),aA,a7g b v val (by omega),aA];have e6:((((b.map aW.c).length:Int):Int)==6)=decide (b.length=6):=by
  rw[aq,cK];simp;omega
 rw[e6];cases hb:iP b with
 |false=>rfl
 |true=>
  cases hvv:fp v with
  |false=>rfl
  |true=>
   cases fW val with
   |false=>rfl
   |true=>
    have Gd:rU b v=(match dR v b with|some o=>(o,true)|none=>([],false)):=by unfold rU;rw[nj hvv,hvv];rfl
    rw[Gd];simp only[bU,aL,fM,xQ,aG];cases dR v b with
    |some o=>simp only[aG];cases o==val<;>rfl
    |none=>simp only[aL];cases decide (b.length=6)<;>rfl
theorem aBA(b:aP)(v val:Bytes)(h:PB b)(hv:v.length<=1048576)(hl:val.length<=1048576):tO b v val=some (xf b v val):=by
 unfold tO xf;have hlen:=h.1;have t:=(YN (v:=v) (val:=val) (K:=fun w=>some ((w,true):aP×Bool)) (L:=mP b v val (fun(z:Bool) (q:aP)=>(bif !(z)then(bif room ((q.map aW.c).length+([[D.str v,D.str val]]).length) 32 then(some (q++([(⟨v,val⟩:aW)]),true))else none)else(some (q,true))))) (fun w=>rfl) (fun w hw=>by show(bif !false then _ else _)=_;rw[gG (by omega) (by decide)];rfl) (fun _ _ _=>rfl) (fun _ _ _ _ _=>rfl) b 0 [] (by simp;omega))
 rw[Xx b h,aA,ZF v hv,aA,OH val hl,aA,a5D b v hv,aA,T9 b (by omega),aA,t];cases hb:iP b with
 |false=>rfl
 |true=>
  have h6:=Dr hb;have e6:decide ((((b.map aW.c).length:Int):Int)>=6)=decide (b.length=6):=by
   rw[aq];congr 1;rw[wC];omega
  rw[e6];cases hvv:fp v with
  |false=>rfl
  |true=>
   cases fW val with
   |false=>rfl
   |true=>
    have Gd:rU b v=(match dR v b with|some o=>(o,true)|none=>([],false)):=by unfold rU;rw[nj hvv,hvv];rfl
    rw[Gd];simp only[bU,aL,fM,xQ,aG];cases dR v b with
    |some o=>simp only[aG];cases o==val<;>rfl
    |none=>simp only[aL];cases decide (b.length=6)<;>rfl
def td:aI->aI->aP->aP×Bool
 | [],_,w=>(w,true)
 |_::_,[],_=>([],false)
 |x::xs,y::ys,w=>bif fW x then(bif x==y then td xs ys w else([],false))else(bif (xf w x y).2 then td xs ys (xf w x y).1 else([],false))
def kN(p f:aC)(b:aP):aP×Bool:=bif w9 p&&(pL f&&(iP b&&(p.rel==f.rel&&decide (p.args.length=f.args.length))))then td p.args f.args b else([],false)
theorem TL:∀(l r:aI) (w:aP),PB w->(∀x∈l,x.length<=1048576)->(∀x∈r,x.length<=1048576)->PB (td l r w).1
 | [],_,w,h,_,_=>h
 |_::_,[],_,_,_,_=>PB.nil
 |x::xs,y::ys,w,h,hl,hr=>by
  simp only[td];have i1:=TL xs ys w h (fun z hz=>hl z (by simp[hz])) (fun z hz=>hr z (by simp[hz]));have i2:=TL xs ys (xf w x y).1 (Xg h (hl x (by simp)) (hr y (by simp))) (fun z hz=>hl z (by simp[hz])) (fun z hz=>hr z (by simp[hz]));cases fW x with
  |true=>cases x==y<;>first|exact i1|exact PB.nil
  |false=>cases(xf w x y).2<;>first|exact i2|exact PB.nil
theorem a5P{p f:aC}{b:aP}(hb:PB b)(hp:p.wt<=1048576)(hf:f.wt<=1048576):PB (kN p f b).1:=by
 unfold kN;cases w9 p&&(pL f&&(iP b&&(p.rel==f.rel&&decide (p.args.length=f.args.length))))with
 |false=>exact PB.nil
 |true=>exact TL _ _ _ hb (fun x hx=>aC.ve hp hx) (fun x hx=>aC.ve hf hx)
theorem Y6{isA:Bytes->Option Bool}{ext:aP->Bytes->Bytes->Option (aP×Bool)}{fa:aI}{L:aI->Nat->aP->Option (aP×Bool)}(hA:∀x:Bytes,x.length<=1048576->isA x=some (fW x))(hE:∀w x y,PB w->x.length<=1048576->y.length<=1048576->ext w x y=some (xf w x y))(wo:∀i w,L [] i w=some (w,true))
 (wO:∀x xs i w,L (x::xs) i w=((isA x).bind fun y=>(bif y then((gA fa (i:Int)).bind fun z=>(bif !((x:Bytes)==z)then(some ([],false))else(L xs (i+1) w)))else((gA fa (i:Int)).bind fun z=>((ext w x z).bind fun q=>(bif !(q.2)then(some ([],false))else(L xs (i+1) q.1))))))):
 ∀(l pre rest:aI) (w:aP),fa=pre++rest->l.length=rest.length->(∀x∈l,x.length<=1048576)->(∀x∈rest,x.length<=1048576)->PB w->L l pre.length w=some (td l rest w):=by
 intro l
 induction l with
 |nil=>intro pre rest w _ _ _ _ _;rw[wo];simp[td]
 |cons x xs ih=>
  intro pre rest w h hl hx hr hw;cases rest with
  |nil=>simp at hl
  |cons y ys=>
   have t:=fun w' hw'=>ih (pre++[y]) ys w' (by simp[h]) (by simpa using hl) (fun z hz=>hx z (by simp[hz])) (fun z hz=>hr z (by simp[hz])) hw'
   simp only[bC,eA]at t;rw[wO,hA x (hx x (by simp)),aA,xk h,aA,aA,hE w x y hw (hx x (by simp)) (hr y (by simp)),aA];simp only[td];cases fW x with
   |true=>
    simp only[aG];cases x==y with
    |true=>simp only[bU,aL,aG];exact t w hw
    |false=>rfl
   |false=>
    simp only[aL];cases hq:(xf w x y).2 with
    |true=>simp only[bU,aL,aG];exact t _ (Xg hw (hx x (by simp)) (hr y (by simp)))
    |false=>rfl
theorem a1u(a b:aI):((((a.map tx).length:Int):Int) != ((b.map tx).length:Int))= !decide (a.length=b.length):=by
 rw[aq,aq];by_cases h:a.length=b.length
 ·simp[h]
 ·rw[ax h];simp;omega
theorem a9S(p f:aC)(b:aP)(hp:p.wt<=1048576)(hf:f.wt<=1048576)(hb:PB b):kI p f b=some (kN p f b):=by
 unfold kI kN;have hlen:=hb.1;rw[a9U p hp,aA,a2s f hf,aA,YJ b hb,aA,Wq b (by omega),aA,a1u];cases w9 p with
 |false=>rfl
 |true=>
  cases pL f with
  |false=>rfl
  |true=>
   cases iP b with
   |false=>rfl
   |true=>
    cases p.rel==f.rel with
    |false=>rfl
    |true=>
     by_cases h:p.args.length=f.args.length
     ·rw[au h];have t:=Y6 (isA:=gU) (ext:=vT) (fa:=f.args) (L:=ko p f (fun(q:aP)=>(some (q,true)))) OW (fun w x y hw hx hy=>aGA w x y hw hx hy) (fun _ _=>rfl) (fun _ _ _ _=>rfl) p.args [] f.args b rfl h (fun x hx=>aC.ve hp hx) (fun x hx=>aC.ve hf hx) hb;exact t
     ·rw[ax h];rfl
theorem a8m(p f:aC)(b:aP)(hp:p.wt<=1048576)(hf:f.wt<=1048576)(hb:PB b):kE p f b=some (kN p f b):=by
 unfold kE kN;have hlen:=hb.1;rw[a8n p hp,aA,a1a f hf,aA,Xx b hb,aA,T9 b (by omega),aA,a1u];cases w9 p with
 |false=>rfl
 |true=>
  cases pL f with
  |false=>rfl
  |true=>
   cases iP b with
   |false=>rfl
   |true=>
    cases p.rel==f.rel with
    |false=>rfl
    |true=>
     by_cases h:p.args.length=f.args.length
     ·rw[au h];have t:=Y6 (isA:=gR) (ext:=tO) (fa:=f.args) (L:=kU p f (fun(q:aP)=>(some (q,true)))) OH (fun w x y hw hx hy=>aBA w x y hw hx hy) (fun _ _=>rfl) (fun _ _ _ _=>rfl) p.args [] f.args b rfl h (fun x hx=>aC.ve hp hx) (fun x hx=>aC.ve hf hx) hb;exact t
     ·rw[ax h];rfl
def ltB(l r:Bytes):Bool:=match zL l,zL r with|some x,some y=>decide (x<y)|_,_=>false
def WE(c:aS)(b:aP):Bool:=Js c&&(iP b&&((rU b c.left).2&&((rU b c.right).2&&(bif decide (c.kind=3)then(rU b c.left).1==(rU b c.right).1 else bif decide (c.kind=4)then !((rU b c.left).1==(rU b c.right).1)else ltB (rU b c.left).1 (rU b c.right).1))))
theorem A9(a b:Int):(a==b)=decide (a=b):=by rw[cK];simp
theorem aCp(c:aS)(b:aP)(hc:c.wt<=1048576)(hb:PB b):uP c b=some (WE c b):=by
 unfold uP WE;rw[a3B c hc,aA,YJ b hb,aA,a5u b c.left (aS.DC hc),aA,a5u b c.right (aS.Ae hc),aA,A9,A9];cases Js c with
 |false=>rfl
 |true=>
  cases iP b with
  |false=>rfl
  |true=>
   cases(rU b c.left).2 with
   |false=>rfl
   |true=>
    cases(rU b c.right).2 with
    |false=>rfl
    |true=>
     cases decide (c.kind=3)with
     |true=>rfl
     |false=>
      cases decide (c.kind=4)with
      |true=>rfl
      |false=>
       simp only[bU,aL,fM];unfold vM ltB;rw[Tg,aA,aA,Tg,aA,aA,a7S,aA];unfold pI Cn;cases zL (rU b c.left).1 with
       |none=>rfl
       |some x=>
        cases zL (rU b c.right).1 with
        |none=>rfl
        |some y=>
         simp only[aG]
         congr 1
         unfold Ia;by_cases h:x<y
         ·have h1:(x:Int)<y:=by omega
          simp[h1,h]
         ·have h1:¬(x:Int)<y:=by omega
          by_cases h2:(x:Int)>y
          ·simp[h1,h,h2]
          ·simp[h1,h,h2]
theorem aBH(c:aS)(b:aP)(hc:c.wt<=1048576)(hb:PB b):uB c b=some (WE c b):=by
 unfold uB WE;rw[aBS c hc,aA,Xx b hb,aA,a5D b c.left (aS.DC hc),aA,a5D b c.right (aS.Ae hc),aA,A9,A9];cases Js c with
 |false=>rfl
 |true=>
  cases iP b with
  |false=>rfl
  |true=>
   cases(rU b c.left).2 with
   |false=>rfl
   |true=>
    cases(rU b c.right).2 with
    |false=>rfl
    |true=>
     cases decide (c.kind=3)with
     |true=>rfl
     |false=>
      cases decide (c.kind=4)with
      |true=>rfl
      |false=>
       simp only[bU,aL,fM];unfold ltB;rw[TC,aA,TC,aA];unfold pI;cases zL (rU b c.left).1 with
       |none=>rfl
       |some x=>
        cases zL (rU b c.right).1 with
        |none=>rfl
        |some y=>
         simp only[aG]
         congr 1
         by_cases h:x<y
         ·simp[h]
         ·simp[h]
def sC(p:aC)(b:aP)(fs:aJ):aJ:=fs.filter fun f=>(kN p f b).2
def FS(fs:aJ):Prop:=fs.length<=1048576/\∀f∈fs,f.wt<=1048576
theorem Xk{I:Type}{mf:aC->Option (aP×Bool)}{cp:aC->Option aC}{p:aC}{b:aP}{L:aJ->Nat->aJ->Option I}{k:aJ->Option I}(hm:∀f:aC,f.wt<=1048576->mf f=some (kN p f b))(hc:∀f:aC,f.wt<=1048576->cp f=some f)(wo:∀i w,L [] i w=k w)
 (wO:∀x xs i w,L (x::xs) i w=((mf x).bind fun y=>(bif y.2 then((cp x).bind fun z=>(bif room ((w.map aC.c).length+([[D.str z.rel,D.sl (z.args.map tx)]]).length) 40 then(L xs (i+1) (w++([z])))else none))else(L xs (i+1) w)))):
 ∀(l:aJ) (i:Nat) (w:aJ),(∀f∈l,f.wt<=1048576)->w.length+l.length<1099511627700->L l i w=k (w++sC p b l):=by
 intro l
 induction l with
 |nil=>intro i w _ _;rw[wo];simp[sC]
 |cons x xs ih=>
  intro i w hl hw;simp only[aR]at hw;have hx:=hl x (by simp);rw[wO,hm x hx,aA,hc x hx,aA,gG (by omega) (by decide),aG];have e:sC p b (x::xs)=bif (kN p x b).2 then x::sC p b xs else sC p b xs:=by
   unfold sC;rw[Dn];cases(kN p x b).2<;>rfl
  rw[e];cases(kN p x b).2 with
  |true=>rw[aG,aG,ih _ _ (fun f hf=>hl f (by simp[hf])) (by simp;omega)];simp
  |false=>rw[aL,aL,ih _ _ (fun f hf=>hl f (by simp[hf])) (by omega)]
theorem a5i(p:aC)(b:aP)(fs:aJ)(hp:p.wt<=1048576)(hb:PB b)(hf:FS fs):gN p b fs=some (sC p b fs):=by
 unfold gN;have h1:=hf.1;refine(Xk (mf:=fun f=>kI p f b) (cp:=eF) (p:=p) (b:=b) (L:=iE p b fs _) (k:=fun q=>some q) (fun f h=>a9S p f b hp h hb) (fun f h=>zu f (by have:=aC.dZ h;omega)) (fun _ _=>rfl) (fun _ _ _ _=>rfl) fs 0 [] hf.2 (by simp;omega)).trans ?_;simp
theorem aBC(p:aC)(b:aP)(fs:aJ)(hp:p.wt<=1048576)(hb:PB b)(hf:FS fs):jV p b fs=some (sC p b fs):=by
 unfold jV;have h1:=hf.1;refine(Xk (mf:=fun f=>kE p f b) (cp:=ew) (p:=p) (b:=b) (L:=iB p b fs _) (k:=fun q=>some q) (fun f h=>a8m p f b hp h hb) (fun f h=>Nf f (by have:=aC.dZ h;omega)) (fun _ _=>rfl) (fun _ _ _ _=>rfl) fs 0 [] hf.2 (by simp;omega)).trans ?_;simp
def zm(c:aS)(b:aP)(fs:aJ):Bool:=pS c&&(iP b&&(bif decide (c.kind=1)then decide (0<(sC c.pat b fs).length)else bif decide (c.kind=2)then decide ((sC c.pat b fs).length=0)else WE c b))
theorem a1t(l:aJ):decide ((((l.map aC.c).length:Int):Int)>0)=decide (0<l.length):=by rw[aq];congr 1;rw[wC];omega
theorem len_eq(l:aJ):((((l.map aC.c).length:Int):Int)==0)=decide (l.length=0):=by rw[aq,A9];congr 1;rw[wC];omega
theorem aCo(c:aS)(b:aP)(fs:aJ)(hc:c.wt<=1048576)(hb:PB b)(hf:FS fs):uO c b fs=some (zm c b fs):=by
 unfold uO zm;rw[a2j c hc,aA,YJ b hb,aA,a5i c.pat b fs (aS.gW hc) hb hf,aA,aA,aCp c b hc hb,aA,A9,A9,a1t,len_eq];cases pS c with
 |false=>rfl
 |true=>
  cases iP b with
  |false=>rfl
  |true=>cases decide (c.kind=1)<;>cases decide (c.kind=2)<;>rfl
theorem aBG(c:aS)(b:aP)(fs:aJ)(hc:c.wt<=1048576)(hb:PB b)(hf:FS fs):uA c b fs=some (zm c b fs):=by
 unfold uA zm;rw[a1X c hc,aA,Xx b hb,aA,aBC c.pat b fs (aS.gW hc) hb hf,aA,aA,aBH c b hc hb,aA,A9,A9,a1t,len_eq];cases pS c with
 |false=>rfl
 |true=>
  cases iP b with
  |false=>rfl
  |true=>cases decide (c.kind=1)<;>cases decide (c.kind=2)<;>rfl
def Fix(h:Bytes->Bytes):Prop:=∀y,fW y=true->h y=y
def Cov(a b:aC):Prop:=w9 a=true/\w9 b=true/\a.rel=b.rel/\∃h,b.args=a.args.map h/\Fix h
theorem tE{t v val:Bytes}(h:v≠t):∀(w:aP),dR t (xM v val w)=dR t w
 | []=>by
  have:(v==t)=false:=by simpa using h
  simp only[xM,dR,this,aL]
 |x::xs=>by
  have hv:(v==t)=false:=by simpa using h
  rw[xM];cases !(Op.bytesLess x.var v||x.var==v)with
  |true=>rw[aG,dR];simp only[hv,aL]
  |false=>rw[aL,dR,dR,tE h xs]
theorem zl{v val:Bytes}:∀(w:aP),dR v w=none->dR v (xM v val w)=some val
 | [],_=>by simp[xM,dR]
 |x::xs,h=>by
  rw[dR]at h;rw[xM];cases hx:x.var==v with
  |true=>rw[hx]at h;cases h
  |false=>
   rw[hx,aL]at h;cases !(Op.bytesLess x.var v||false)with
   |true=>rw[aG,dR];simp
   |false=>rw[aL,dR,hx,aL];exact zl xs h
theorem yW{t o:Bytes}:∀ {w:aP},dR t w=some o->∃p∈w,p.var=t/\p.value=o
 |x::xs,h=>by
  rw[dR]at h;cases hx:x.var==t with
  |true=>rw[hx,aG]at h;cases h;exact⟨x,by simp,by simpa using hx,rfl⟩
  |false=>
   rw[hx,aL]at h;obtain⟨p,hp,h1⟩:=yW h;exact⟨p,by simp[hp],h1⟩
theorem Pw{t:Bytes}:∀ {w:aP},dR t w=none->∀p∈w,p.var≠t
 |x::xs,h,p,hp=>by
  rw[dR]at h;cases hx:x.var==t with
  |true=>rw[hx]at h;cases h
  |false=>
   rw[hx,aL]at h;rcases bV.1 hp with rfl|hp
   ·simpa using hx
   ·exact Pw h p hp
theorem sV(p:Option aW)(x:aW)(xs:aP):qV p (x::xs)=(fp x.var&&(fW x.value&&((match p with|some q=>Op.bytesLess q.var x.var|none=>true)&&qV (some x) xs))):=by
 cases p<;>rfl
theorem Rh{v val:Bytes}(hv:fp v=true)(ha:fW val=true):∀(w:aP) (p:Option aW),qV p w=true->dR v w=none->(∀q,p=some q->Op.bytesLess q.var v=true)->qV p (xM v val w)=true
 | [],p,_,_,hp=>by
  simp only[xM,qV,hv,ha,fM,xQ];cases p with
  |none=>rfl
  |some q=>exact hp q rfl
 |x::xs,p,hc,hf,hp=>by
  rw[sV]at hc;simp only[aU]at hc;obtain⟨c1,c2,c3,c4⟩:=hc;rw[dR]at hf;cases hx:x.var==v with
  |true=>rw[hx]at hf;cases hf
  |false=>
   rw[hx,aL]at hf;rw[xM,hx,A5];cases hl:Op.bytesLess x.var v with
   |true=>
    rw[bU,aL,sV];simp only[aU];exact⟨c1,c2,c3,Rh hv ha xs (some x) c4 hf (fun q hq=>by cases hq;exact hl)⟩
   |false=>
    have h2:Op.bytesLess v x.var=true:=by
     cases h3:Op.bytesLess v x.var with
     |true=>rfl
     |false=>
      have:=Gp hl h3;rw[this]at hx;simp at hx
    rw[bt,aG,sV];simp only[aU];refine⟨hv,ha,?_,?_⟩
    ·cases p with
     |none=>rfl
     |some q=>exact hp q rfl
    ·rw[sV];simp only[aU];exact⟨c1,c2,h2,c4⟩
theorem Ds{v val:Bytes}{w:aP}(hv:fp v=true)(ha:fW val=true)(hb:iP w=true)(hf:dR v w=none)(hl:w.length≠6):iP (xM v val w)=true:=by
 have h6:=Dr hb;unfold iP at hb⊢;rw[aU]at hb⊢;exact⟨Rh hv ha w none hb.1 hf (fun q h=>by cases h),by rw[CZ];simp;omega⟩
theorem CS:∀(l r:aI) (w:aP),l.length=r.length->(∀p∈w,fp p.var=true)->(td l r w).2=true->∃h,(∀v o,dR v w=some o->h v=o)/\r=l.map h/\Fix h
 | [],[],w,_,hk,_=>by
  refine⟨fun y=>match dR y w with|some o=>o|none=>y,fun v o ho=>by simp only[ho],rfl,fun y hy=>?_⟩;cases hf:dR y w with
  |none=>simp only[hf]
  |some o=>
   obtain⟨p,hp,h1,_⟩:=yW hf;have:=hk p hp;rw[h1]at this;rw[nj this]at hy;cases hy
 |x::xs,y::ys,w,hl,hk,hm=>by
  simp only[td]at hm;cases hx:fW x with
  |true=>
   rw[hx,aG]at hm;cases hxy:x==y with
   |false=>rw[hxy]at hm;cases hm
   |true=>
    rw[hxy,aG]at hm;obtain⟨h,h1,h2,h3⟩:=CS xs ys w (by simpa using hl) hk hm;have:x=y:=by simpa using hxy
    exact⟨h,h1,by rw[bA,h3 x hx,<-this,<-h2],h3⟩
  |false=>
   rw[hx,aL]at hm;cases he:(xf w x y).2 with
   |false=>rw[he]at hm;cases hm
   |true=>
    rw[he,aG]at hm;have key:fp x=true/\((dR x w=some y/\(xf w x y).1=w)\/(dR x w=none/\(xf w x y).1=xM x y w)):=by
     unfold xf at he⊢;cases hc:iP w&&(fp x&&fW y)with
     |false=>rw[hc]at he;cases he
     |true=>
      rw[hc,aG]at he;simp only[aU]at hc;refine⟨hc.2.1,?_⟩;rw[aG];cases hf:dR x w with
      |some o=>
       rw[hf]at he;simp only at he⊢;cases ho:o==y with
       |false=>rw[ho]at he;cases he
       |true=>exact .inl ⟨by rw[show o=y from by simpa using ho],rfl⟩
      |none=>
       rw[hf]at he;simp only at he⊢;cases hd:decide (w.length=6)with
       |true=>rw[hd]at he;cases he
       |false=>exact .inr ⟨by first|trivial|rfl,by first|rfl|trivial⟩
    obtain⟨hv,aAX⟩:=key;rcases aAX with⟨hf,h1⟩|⟨hf,h1⟩
    ·rw[h1]at hm;obtain⟨h,k1,k2,k3⟩:=CS xs ys w (by simpa using hl) hk hm;exact⟨h,k1,by rw[bA,k1 x y hf,<-k2],k3⟩
    ·rw[h1]at hm;obtain⟨h,k1,k2,k3⟩:=CS xs ys (xM x y w) (by simpa using hl) (fun p hp=>by
      rcases Qp x y w hp with h|h
      ·rw[h];exact hv
      ·exact hk p h) hm
     refine⟨h,fun v o ho=>?_,by rw[bA,k1 x y (zl w hf),<-k2],k3⟩;refine k1 v o ?_;rw[tE (fun e=>?_),ho];rw[e,ho]at hf;cases hf
 | [],_::_,_,hl,_,_=>by simp at hl
 |_::_,[],_,hl,_,_=>by simp at hl
theorem MS(h:Bytes->Bytes)(a4s:Fix h):∀(l:aI) (w:aP),(∀x∈l,nC x=true)->(∀x∈l,fW (h x)=true)->iP w=true->w.length+l.length<=6->(∀v o,dR v w=some o->h v=o)->(td l (l.map h) w).2=true
 | [],_,_,_,_,_,_=>rfl
 |x::xs,w,ht,ha,hb,hl,hw=>by
  simp only[aR]at hl;rw[bA];simp only[td];have ht':∀y∈xs,nC y=true:=fun y hy=>ht y (by simp[hy])
  have ha':∀y∈xs,fW (h y)=true:=fun y hy=>ha y (by simp[hy])
  cases hx:fW x with
  |true=>
   rw[aG,a4s x hx,oU,aG];exact MS h a4s xs w ht' ha' hb (by omega) hw
  |false=>
   have hv:fp x=true:=by
    have:=ht x (by simp);unfold nC at this;rw[hx,rA]at this;exact this
   have hax:=ha x (by simp);rw[aL];unfold xf;rw[hb,hv,hax];simp only[fM,aG];cases hf:dR x w with
   |some o=>
    have:=hw x o hf;simp only[this,oU,aG];exact MS h a4s xs w ht' ha' hb (by omega) hw
   |none=>
    have h6:w.length≠6:=by omega
    simp only[ax h6,aL,aG];refine MS h a4s xs (xM x (h x) w) ht' ha' (Ds hv hax hb hf h6) (by rw[CZ];omega) (fun v o ho=>?_);by_cases e:x=v
    ·subst e;rw[zl w hf]at ho;cases ho;rfl
    ·rw[tE e]at ho;exact hw v o ho
theorem QT{p f:aC}:(kN p f []).2=true↔w9 p=true/\pL f=true/\p.rel=f.rel/\∃h,f.args=p.args.map h/\Fix h:=by
 unfold kN;constructor
 ·intro hm;cases hc:w9 p&&(pL f&&(iP []&&(p.rel==f.rel&&decide (p.args.length=f.args.length))))with
  |false=>rw[hc]at hm;cases hm
  |true=>
   rw[hc,aG]at hm;simp only[aU,cr,bH]at hc;obtain⟨c1,c2,_,c4,c5⟩:=hc;obtain⟨h,_,h2,h3⟩:=CS p.args f.args [] c5 (by simp) hm;exact⟨c1,c2,c4,h,h2,h3⟩
 ·rintro⟨c1,c2,c4,h,h2,h3⟩;have c5:p.args.length=f.args.length:=by rw[h2];simp
  rw[c1,c2,show iP []=true from rfl,c4,oU,au c5];simp only[xQ,aG];have c1':=c1;unfold w9 at c1';simp only[aU,bH]at c1';unfold pL at c2;simp only[aU]at c2;rw[h2];refine MS h h3 p.args [] (fun x hx=>b8.1 c1'.1 x hx) (fun x hx=>?_) rfl (by simp;omega) (fun v o ho=>by simp[dR]at ho);exact b8.1 c2.1 _ (by rw[h2];exact cJ.2 ⟨x,hx,rfl⟩)
theorem a4f{p q f:aC}(hc:Cov p q)(hm:(kN q f []).2=true):(kN p f []).2=true:=by
 obtain⟨c1,c2,c3,h,h2,h3⟩:=hc;obtain⟨m1,m2,m3,k,k2,k3⟩:=QT.1 hm;refine QT.2 ⟨c1,m2,c3.trans m3,fun x=>k (h x),?_,fun y hy=>by show k (h y)=y;rw[h3 y hy,k3 y hy]⟩;rw[k2,h2,sU];rfl
theorem PM{p:aC}(h:w9 p=true):∀t∈p.args,nC t=true:=by
 unfold w9 at h;rw[aU]at h;exact fun t ht=>b8.1 h.1 t ht
theorem zJ(l:aJ)(h:l.length<=1048576)(hf:∀f∈l,f.args.length<=1048576):dO l=some l:=by
 unfold dO;refine(GX (c:=aC.c) (b:=40) (f:=eF) (g:=fun x=>x) (L:=ou l _) (k:=fun q=>some q) (by decide) (fun _ _=>rfl) (fun _ _ _ _=>rfl) l 0 [] (fun f h=>zu f (by have:=hf f h;omega)) (by simp;omega)).trans ?_;simp
theorem wP(l:aJ)(h:l.length<=1048576)(hf:∀f∈l,f.args.length<=1048576):cm l=some l:=by
 unfold cm;refine(GX (c:=aC.c) (b:=40) (f:=ew) (g:=fun x=>x) (L:=o4 l _) (k:=fun q=>some q) (by decide) (fun _ _=>rfl) (fun _ _ _ _=>rfl) l 0 [] (fun f h=>Nf f (by have:=hf f h;omega)) (by simp;omega)).trans ?_;simp
def TK(n:Nat)(t:aQ):Prop:=t.facts.length<=n/\(∀f∈t.facts,f.wt<=1048576)/\PB t.bind
theorem TK.le{n m:Nat}{t:aQ}(h:TK n t)(hm:n<=m):TK m t:=⟨by have:=h.1;omega,h.2⟩
theorem a2k(t:aQ)(h:TK 1048576 t):tW t=some t:=by
 unfold tW;rw[zJ t.facts h.1 (fun f hf=>by have:=aC.dZ (h.2.1 f hf);omega),aA,Wq t.bind (by have:=h.2.2.1;omega),aA]
def ext1(c:aS)(t:aQ)(f:aC):ar:=bif (kN c.pat f t.bind).2 then [⟨t.facts++[f],(kN c.pat f t.bind).1⟩]else []
def BY(c:aS)(fs:aJ)(t:aQ):ar:=bif decide (c.kind=1)then fs.flatMap (ext1 c t)else bif zm c t.bind fs then [t]else []
def sI(fs:aJ)(l:ar)(c:aS):ar:=l.flatMap (BY c fs)
def rT(cs:ay)(fs:aJ):ar:=cs.foldl (sI fs) [⟨[],[]⟩]
theorem a0x(c:aS)(t:aQ)(f:aC):(ext1 c t f).length<=1:=by unfold ext1;cases(kN c.pat f t.bind).2<;>simp
theorem Pr(c:aS)(t:aQ)(fs:aJ):(fs.flatMap (ext1 c t)).length<=fs.length:=by
 induction fs with
 |nil=>simp
 |cons f fs ih=>rw[cw,bC];have:=a0x c t f;simp only[aR];omega
theorem QZ(c:aS)(fs:aJ)(t:aQ):(BY c fs t).length<=fs.length+1:=by
 unfold BY;cases decide (c.kind=1)with
 |true=>have:=Pr c t fs;rw[aG];omega
 |false=>cases zm c t.bind fs<;>simp
theorem Qa(fs:aJ)(l:ar)(c:aS):(sI fs l c).length<=l.length*(fs.length+1):=by
 unfold sI
 induction l with
 |nil=>simp
 |cons t l ih=>rw[cw,bC,aR,L9];have:=QZ c fs t;omega
theorem a5V{c:aS}{fs:aJ}{t:aQ}{n:Nat}(h:TK n t)(hc:c.wt<=1048576)(hf:FS fs):∀u∈BY c fs t,TK (n+1) u:=by
 intro u hu;unfold BY at hu;cases hk:decide (c.kind=1)with
 |false=>
  rw[hk,aL]at hu;cases hh:zm c t.bind fs with
  |false=>rw[hh]at hu;cases hu
  |true=>
   rw[hh,aG,cH]at hu;subst hu;exact h.le (by omega)
 |true=>
  rw[hk,aG]at hu;obtain⟨f,hf1,hu⟩:=cB.1 hu;unfold ext1 at hu;cases hm:(kN c.pat f t.bind).2 with
  |false=>rw[hm]at hu;cases hu
  |true=>
   rw[hm,aG,cH]at hu;subst hu;refine⟨by have:=h.1;simp;omega,?_,a5P h.2.2 (aS.gW hc) (hf.2 f hf1)⟩;intro g hg;rcases aX.1 hg with hg|hg
   ·exact h.2.1 g hg
   ·rw[cH]at hg;rw[hg];exact hf.2 f hf1
theorem TO{c:aS}{fs:aJ}{l:ar}{n:Nat}(h:∀t∈l,TK n t)(hc:c.wt<=1048576)(hf:FS fs):∀u∈sI fs l c,TK (n+1) u:=by
 intro u hu;obtain⟨t,ht,hu⟩:=cB.1 hu;exact a5V (h t ht) hc hf u hu
theorem Xh{I:Type}{mf:aC->Option (aP×Bool)}{cps:Option aJ}{cp:aC->Option aC}{c:aS}{t:aQ}{L:aJ->Nat->ar->Option I}{k:ar->Option I}(hm:∀f:aC,f.wt<=1048576->mf f=some (kN c.pat f t.bind))(hcs:cps=some t.facts)(hc:∀f:aC,f.wt<=1048576->cp f=some f)(ht:t.facts.length<=1048576)(wo:∀i w,L [] i w=k w)
 (wO:∀x xs i w,L (x::xs) i w=((mf x).bind fun y=>(bif y.2 then(cps.bind fun q=>((cp x).bind fun z=>(bif room ((q.map aC.c).length+([[D.str z.rel,D.sl (z.args.map tx)]]).length) 40 then(bif room ((w.map aQ.c).length+([[D.sl ((q.map aC.c)++([[D.str z.rel,D.sl (z.args.map tx)]])),D.sl (y.1.map aW.c)]]).length) 48 then(L xs (i+1) (w++([(⟨q++([z]),y.1⟩:aQ)])))else none)else none)))else(L xs (i+1) w)))):
 ∀(l:aJ) (i:Nat) (w:ar),(∀f∈l,f.wt<=1048576)->w.length+l.length<1099511627770->L l i w=k (w++l.flatMap (ext1 c t)):=by
 intro l
 induction l with
 |nil=>intro i w _ _;rw[wo];simp
 |cons x xs ih=>
  intro i w hl hw;simp only[aR]at hw;have hx:=hl x (by simp);rw[wO,hm x hx,aA,hcs,aA,hc x hx,aA,gG (by omega) (by decide),aG,gG (by omega) (by decide),aG,cw];rw[show ext1 c t x=bif (kN c.pat x t.bind).2 then [⟨t.facts++[x],(kN c.pat x t.bind).1⟩]else []from rfl];cases(kN c.pat x t.bind).2 with
  |true=>rw[aG,aG,ih _ _ (fun f hf=>hl f (by simp[hf])) (by simp;omega)];simp
  |false=>rw[aL,aL,ih _ _ (fun f hf=>hl f (by simp[hf])) (by omega)];simp
theorem Y3(c:aS):((c.kind:Int) != 1)= !decide (c.kind=1):=by
 show(!((c.kind:Int)==1))=_;rw[A9]
theorem a9T(l0:ar)(c:aS)(fs:aJ)(k:ar->Option ar)(hc:c.wt<=1048576)(hf:FS fs):∀(l:ar) (i:Nat) (w:ar),(∀t∈l,TK 1048576 t)->w.length+l.length*(fs.length+1)<1099511627700->jB l0 c fs k l i w=k (w++sI fs l c):=by
 intro l;have h1:=hf.1
 induction l with
 |nil=>intro i w _ _;rw[jB];simp[sI]
 |cons t l ih=>
  intro i w hl hw;rw[aR,L9]at hw;have ht:=hl t (by simp);have e:sI fs (t::l) c=BY c fs t++sI fs l c:=by simp[sI]
  have hn:=QZ c fs t;have he:=Pr c t fs;rw[jB,Y3,aCo c t.bind fs hc ht.2.2 hf,aA,a2k t ht,aA,gG (by omega) (by decide),aG,sF (by omega),aG,e];rw[Xh (mf:=fun f=>kI c.pat f t.bind) (cps:=dO t.facts) (cp:=eF) (c:=c) (t:=t) (L:=pF l0 c fs i t _) (k:=_) (fun f h=>a9S c.pat f t.bind (aS.gW hc) h ht.2.2) (zJ t.facts ht.1 (fun f hf=>by have:=aC.dZ (ht.2.1 f hf);omega)) (fun f h=>zu f (by have:=aC.dZ h;omega)) ht.1 (fun _ _=>rfl) (fun _ _ _ _=>rfl) fs 0 w hf.2 (by omega)];unfold BY;cases decide (c.kind=1)with
  |true=>simp only[bU,aL,aG];rw[ih _ _ (fun u hu=>hl u (by simp[hu])) (by rw[bC];omega)];simp
  |false=>
   simp only[bt,aG,aL];cases zm c t.bind fs with
   |true=>simp only[aG];rw[ih _ _ (fun u hu=>hl u (by simp[hu])) (by rw[bC];simp;omega)];simp
   |false=>simp only[aL];rw[ih _ _ (fun u hu=>hl u (by simp[hu])) (by omega)];simp
theorem a2z(l:ar)(c:aS)(fs:aJ)(hc:c.wt<=1048576)(hf:FS fs)(hl:∀t∈l,TK 1048576 t)(hn:l.length*(fs.length+1)<1099511627700):tX l c fs=some (sI fs l c):=by
 unfold tX;rw[a9T l c fs _ hc hf l 0 [] hl (by simpa using hn)];simp
theorem TR:∀t∈[(⟨[],[]⟩:aQ)],TK 0 t:=by
 intro t ht;rw[cH]at ht;subst ht;exact⟨by simp,by simp,PB.nil⟩
theorem a2R{n:Nat}(h:n<=4):[(⟨[],[]⟩:aQ)].length*25^n<=390625:=by
 have:=wB (n:=25) (by decide) h;simp only[eA,rB];exact this
theorem a9e(c0:ay)(fs:aJ)(k:ar->Option ar)(hf:FS fs)(h24:fs.length<=24):∀(cs:ay) (i:Nat) (w:ar) (n:Nat),(∀c∈cs,c.wt<=1048576)->(∀t∈w,TK n t)->n+cs.length<=1048576->w.length*25^cs.length<=390625->mL c0 fs k cs i w=k (cs.foldl (sI fs) w):=by
 intro cs
 induction cs with
 |nil=>intro i w n _ _ _ _;rfl
 |cons c cs ih=>
  intro i w n hc hw hn hl;simp only[aR]at hn;rw[aR,yg,Eg (25^cs.length) 25,<-Jf]at hl;have hp:1<=25^cs.length:=Nat.one_le_pow _ _ (by decide);have PF:w.length*25<=390625:=eZ (Dq _ hp) hl;have h25:w.length*(fs.length+1)<=w.length*25:=dY _ (by omega);rw[mL,a2z w c fs (hc c (by simp)) hf (fun t ht=>(hw t ht).le (by omega)) (by omega),aA];refine ih _ _ (n+1) (fun x hx=>hc x (by simp[hx])) (TO hw (hc c (by simp)) hf) (by omega) ?_;exact eZ (fO _ (eZ (Qa fs w c) h25)) hl
theorem a7h(cs:ay)(fs:aJ)(hc:∀c∈cs,c.wt<=1048576)(h4:cs.length<=4)(hf:FS fs)(h24:fs.length<=24):qg cs fs=some (rT cs fs):=by
 unfold qg;exact a9e cs fs _ hf h24 cs 0 _ 0 hc TR (by omega) (a2R h4)
theorem a5C(c0:ay)(fs:aJ)(w0:ar)(i1:Nat)(c:aS)(k:ar->Option ar)(hc:c.wt<=1048576)(hf:FS fs):∀(l:ar) (i:Nat) (w:ar),(∀t∈l,TK 1048576 t)->w.length+l.length*(fs.length+1)<1099511627700->gT c0 fs w0 i1 c k l i w=k (w++sI fs l c):=by
 intro l;have h1:=hf.1
 induction l with
 |nil=>intro i w _ _;rw[gT];simp[sI]
 |cons t l ih=>
  intro i w hl hw;rw[aR,L9]at hw;have ht:=hl t (by simp);have e:sI fs (t::l) c=BY c fs t++sI fs l c:=by simp[sI]
  have hn:=QZ c fs t;have he:=Pr c t fs;rw[gT,Y3,aBG c t.bind fs hc ht.2.2 hf,aA,gG (by omega) (by decide),aG,sF (by omega),aG,e];rw[Xh (mf:=fun f=>kE c.pat f t.bind) (cps:=cm t.facts) (cp:=ew) (c:=c) (t:=t) (L:=mD c0 fs i w0 t i1 c _) (k:=_) (fun f h=>a8m c.pat f t.bind (aS.gW hc) h ht.2.2) (wP t.facts ht.1 (fun f hf=>by have:=aC.dZ (ht.2.1 f hf);omega)) (fun f h=>Nf f (by have:=aC.dZ h;omega)) ht.1 (fun _ _=>rfl) (fun _ _ _ _=>rfl) fs 0 w hf.2 (by omega)];unfold BY;cases decide (c.kind=1)with
  |true=>simp only[bU,aL,aG];rw[ih _ _ (fun u hu=>hl u (by simp[hu])) (by rw[bC];omega)];simp
  |false=>
   simp only[bt,aG,aL];cases zm c t.bind fs with
   |true=>simp only[aG];rw[ih _ _ (fun u hu=>hl u (by simp[hu])) (by rw[bC];simp;omega)];simp
   |false=>simp only[aL];rw[ih _ _ (fun u hu=>hl u (by simp[hu])) (by omega)];simp
theorem a8t(c0:ay)(fs:aJ)(k:ar->Option ar)(hf:FS fs)(h24:fs.length<=24):∀(cs:ay) (i:Nat) (w:ar) (n:Nat),(∀c∈cs,c.wt<=1048576)->(∀t∈w,TK n t)->n+cs.length<=1048576->w.length*25^cs.length<=390625->mC c0 fs k cs i w=k (cs.foldl (sI fs) w):=by
 intro cs
 induction cs with
 |nil=>intro i w n _ _ _ _;rfl
 |cons c cs ih=>
  intro i w n hc hw hn hl;simp only[aR]at hn;rw[aR,yg,Eg (25^cs.length) 25,<-Jf]at hl;have hp:1<=25^cs.length:=Nat.one_le_pow _ _ (by decide);have PF:w.length*25<=390625:=eZ (Dq _ hp) hl;have h25:w.length*(fs.length+1)<=w.length*25:=dY _ (by omega);rw[mC,sF (by omega),aG,a5C c0 fs w i c _ (hc c (by simp)) hf w 0 [] (fun t ht=>(hw t ht).le (by omega)) (by simp only[cE];omega),eN];refine ih _ _ (n+1) (fun x hx=>hc x (by simp[hx])) (TO hw (hc c (by simp)) hf) (by omega) ?_;exact eZ (fO _ (eZ (Qa fs w c) h25)) hl
theorem aBT(cs:ay)(fs:aJ)(hc:∀c∈cs,c.wt<=1048576)(h4:cs.length<=4)(hf:FS fs)(h24:fs.length<=24):vJ cs fs=some (rT cs fs):=by
 unfold vJ;exact a8t cs fs _ hf h24 cs 0 _ 0 hc TR (by omega) (a2R h4)
theorem Nw{r:aN}(h:fS r=true):r.conds.length<=4:=by
 unfold fS at h;simp only[aU,bH]at h;omega
theorem Pm{r:aN}:∀ {l:ay} {i:Nat},uh r l i=true->∀c∈l,pS c=true
 | [],_,_,c,hc=>by cases hc
 |x::xs,i,h,c,hc=>by
  simp only[uh,aU]at h;rcases bV.1 hc with rfl|hc
  ·exact h.1.1.1
  ·exact Pm h.2 c hc
theorem DE{r:aN}(h:fS r=true):∀c∈r.conds,pS c=true:=by
 unfold fS at h;simp only[aU]at h;exact Pm h.2.1
theorem qG{l:aJ}(h:fK l=true):l.length<=24:=by
 unfold fK at h;simp only[aU,bH]at h;exact h.2
theorem aCX{n:Nat}{a:Int}(h0:0<=a)(h1:a.toNat<=n):yG n none (some (D.int .i64 a))=some (0,a.toNat):=by
 unfold yG;simp only[bO (show 0<=a/\a.toNat<=n from⟨h0,h1⟩)]
def tkO(r:aN)(n:Int)(fs:aJ):ar:=bif fS r&&(fK fs&&(decide (n>=0)&&decide (n<=(r.conds.length:Int))))then rT (r.conds.take n.toNat) fs else []
def cnt(r:aN)(fs:aJ)(n:Nat):Int:=((rT (r.conds.take n) fs).length:Int)
theorem a9j{r:aN}{fs:aJ}(h1:fS r=true)(h2:fK fs=true){j:Nat}(hj:j<=r.conds.length):tkO r (j:Int) fs=rT (r.conds.take j) fs:=by
 unfold tkO;rw[h1,h2];have e1:decide ((j:Int)>=0)=true:=by simp
 have e2:decide ((j:Int)<=(r.conds.length:Int))=true:=by simp;omega
 rw[e1,e2];simp
def mtB(r:aN)(fs:aJ):bL:=(tkO r (r.conds.length:Int) fs).map fun t=>⟨r.name,t.facts,t.bind⟩
theorem Qx{cs:ay}{fs:aJ}(h4:cs.length<=4)(h24:fs.length<=24):(rT cs fs).length<=390625:=by
 have key:∀(cs:ay) (w:ar),w.length*25^cs.length<=390625->(cs.foldl (sI fs) w).length<=390625:=by
  intro cs
  induction cs with
  |nil=>intro w h;simpa using h
  |cons c cs ih=>
   intro w h;rw[aR,yg,Eg (25^cs.length) 25,<-Jf]at h;refine ih _ ?_;have h25:w.length*(fs.length+1)<=w.length*25:=dY _ (by omega);exact eZ (fO _ (eZ (Qa fs w c) h25)) h
 exact key cs _ (a2R h4)
theorem a63(r:aN)(n:Int)(fs:aJ):(tkO r n fs).length<=390625:=by
 unfold tkO;cases h1:fS r with
 |false=>simp
 |true=>
  cases h2:fK fs with
  |false=>simp
  |true=>
   have h4:=Nw h1;cases(decide (n>=0)&&decide (n<=(r.conds.length:Int)))with
   |false=>simp
   |true=>exact Qx (by rw[cU];omega) (qG h2)
theorem S5(a b:ai):((a.rule==b.rule)&&(decide (a.facts=b.facts)&&decide (a.bind=b.bind)))=decide (a=b):=by
 cases a;cases b;rw[cK];simp
theorem a9Z(a b:ai):uQ a b=some (decide (a=b)):=by
 unfold uQ;rw[PJ,aA,a36,aA,<-S5];cases a.rule==b.rule<;>cases decide (a.facts=b.facts)<;>rfl
theorem a8q(a b:ai):uC a b=some (decide (a=b)):=by
 unfold uC;rw[ML,aA,a1d,aA,<-S5];cases a.rule==b.rule<;>cases decide (a.facts=b.facts)<;>rfl
theorem UE{all:az}:∀ {l:az} {i:Nat},LL all l i=true->∀r∈l,fS r=true
 | [],_,_,r,hr=>by cases hr
 |x::xs,i,h,r,hr=>by
  simp only[LL,aU]at h;rcases bV.1 hr with rfl|hr
  ·exact h.1.1
  ·exact UE h.2 r hr
theorem oQ{l:az}(h:qU l=true):∀r∈l,fS r=true:=by
 unfold qU at h;simp only[aU]at h;exact UE h.1
theorem Nl:∀(a b:aI),a.Nodup->(∀x∈a,x∈b)->a.length<=b.length
 | [],b,_,_=>Gi _
 |x::xs,b,hn,hs=>by
  rw[gx]at hn;have h1:=Nl xs (b.erase x) hn.2 fun y hy=>(List.mem_erase_of_ne (fun e=>hn.1 (by rw[<-e];exact hy))).2 (hs y (by simp[hy]))
  have h2:=xS (hs x (by simp));have h3:0<b.length:=Ef (hs x (by simp));simp only[aR];omega
theorem LM{x:Bytes}(h:fW x=true):fp x=false:=by
 cases hv:fp x with
 |false=>rfl
 |true=>rw[nj hv]at h;cases h
theorem Nx{r:aN}(h:fS r=true):(fU (Au r.conds)).length<=6:=by
 unfold fS at h;simp only[aU,bH]at h;omega
theorem Du{c:aS}(hc:pS c=true)(hk:c.kind=1\/c.kind=2):w9 c.pat=true/\c.left=[]/\c.right=[]:=by
 unfold pS at hc;have:(decide (c.kind=1)||decide (c.kind=2))=true:=by simpa using hk
 rw[this,aG]at hc;simp only[aU,cr]at hc;exact⟨hc.1,hc.2.1,hc.2.2⟩
theorem Ph{c:aS}(hc:pS c=true)(h1:c.kind≠1)(h2:c.kind≠2):(decide (c.kind=3)||decide (c.kind=4)||decide (c.kind=5))=true/\EZ c.pat=true/\nC c.left=true/\nC c.right=true:=by
 unfold pS at hc;rw[ax h1,ax h2,A5,aL]at hc;cases h:(decide (c.kind=3)||decide (c.kind=4)||decide (c.kind=5))with
 |false=>rw[h]at hc;cases hc
 |true=>
  rw[h,aG]at hc;simp only[aU]at hc;exact⟨rfl,hc.1,hc.2.1,hc.2.2⟩
theorem O9{p:Option aW}{b:aP}(h:qV p b=true):qV none b=true:=by
 cases b with
 |nil=>rfl
 |cons x xs=>
  rw[sV]at h⊢;simp only[aU]at h⊢
  first|exact⟨h.1,h.2.1,rfl,h.2.2.2⟩|exact⟨h.1,h.2.1,h.2.2.2⟩|exact⟨h.1,h.2.1,trivial,h.2.2.2⟩
theorem LP:∀ {b:aP} {p:aW},qV (some p) b=true->∀x∈b,Op.bytesLess p.var x.var=true
 |y::ys,p,h,x,hx=>by
  rw[sV]at h;simp only[aU]at h;rcases bV.1 hx with rfl|hx
  ·exact h.2.2.1
  ·exact AH h.2.2.1 (LP h.2.2.2 x hx)
theorem OA:∀ {b:aP} {p:Option aW},qV p b=true->(b.map aW.var).Nodup
 | [],_,_=>by simp
 |x::xs,p,h=>by
  rw[sV]at h;simp only[aU]at h;rw[bA,gx];refine⟨fun hm=>?_,OA h.2.2.2⟩;obtain⟨q,hq,e⟩:=cJ.1 hm;have:=LP h.2.2.2 q hq;rw[e,sK]at this;cases this
theorem ua{b:aP}(h:iP b=true):qV none b=true:=by
 unfold iP at h;rw[aU]at h;exact h.1
theorem Bg:∀ {b:aP} {p:Option aW},qV p b=true->∀x∈b,fp x.var=true/\fW x.value=true
 |y::ys,p,h,x,hx=>by
  rw[sV]at h;simp only[aU]at h;rcases bV.1 hx with rfl|hx
  ·exact⟨h.1,h.2.1⟩
  ·exact Bg h.2.2.2 x hx
theorem Rf:∀ {a b:aP},qV none a=true->qV none b=true->(∀v,dR v a=dR v b)->a=b
 | [],[],_,_,_=>rfl
 | [],y::ys,_,_,h=>by have:=h y.var;simp[dR]at this
 |x::xs,[],_,_,h=>by have:=h x.var;simp[dR]at this
 |x::xs,y::ys,ha,hb,h=>by
  have ha0:=ha;have hb0:=hb;rw[sV]at ha hb;simp only[aU]at ha hb;have key:∀ {u v:aW} {us vs:aP},qV (some u) us=true->qV (some v) vs=true->(∀t,dR t (u::us)=dR t (v::vs))->Op.bytesLess u.var v.var=false:=by
   intro u v us vs hu hv ht;cases hl:Op.bytesLess u.var v.var with
   |false=>rfl
   |true=>
    have h1:=ht u.var;rw[show dR u.var (u::us)=some u.value by simp[dR]]at h1;obtain⟨q,hq,e,_⟩:=yW h1.symm;rcases bV.1 hq with rfl|hq
    ·rw[e,sK]at hl;cases hl
    ·have:=AH hl (LP hv q hq);rw[e,sK]at this;cases this
  have e1:=key ha.2.2.2 hb.2.2.2 h;have e2:=key hb.2.2.2 ha.2.2.2 (fun t=>(h t).symm);have ev:x.var=y.var:=Gp e1 e2;have e3:x.value=y.value:=by
   have:=h x.var;rw[show dR x.var (x::xs)=some x.value by simp[dR],show dR x.var (y::ys)=some y.value by simp[dR,ev]]at this;exact lR this
  have e4:x=y:=by cases x;cases y;cases ev;cases e3;rfl
  subst e4
  congr 1
  refine Rf (O9 ha.2.2.2) (O9 hb.2.2.2) fun v=>?_
  by_cases hv:x.var=v
  ·have n1:∀ {l:aP},qV (some x) l=true->dR v l=none:=by
    intro l hl;cases hf:dR v l with
    |none=>rfl
    |some o=>
     obtain⟨q,hq,e,_⟩:=yW hf;have:=LP hl q hq;rw[hv,e,sK]at this;cases this
   rw[n1 ha.2.2.2,n1 hb.2.2.2]
  ·have:=h v;have hne:(x.var==v)=false:=by rw[dA];exact hv
   rw[dR,dR,hne,aL,aL]at this;exact this
structure WB(U:List Bytes)(b:List aW):Prop where
 ok:iP b=true
 sub:∀p∈b,p.var∈U
theorem WB.nil(U:aI):WB U []:=⟨rfl,fun p h=>by cases h⟩
theorem WB.room{U:aI}(hU:U.length<=6){b:aP}(h:WB U b){x:Bytes}(hx:x∈U)(hf:dR x b=none):b.length≠6:=by
 have h1:(x::b.map aW.var).length<=U.length:=Nl _ _ (by
  rw[gx];refine⟨fun hm=>?_,OA (ua h.ok)⟩;obtain⟨p,hp,e⟩:=cJ.1 hm;exact Pw hf p hp e) (fun y hy=>by
  rcases bV.1 hy with rfl|hy
  ·exact hx
  ·obtain⟨p,hp,rfl⟩:=cJ.1 hy;exact h.sub p hp)
 simp only[aR,aq]at h1;omega
theorem WB.set{U:aI}(hU:U.length<=6){b:aP}(h:WB U b){x y:Bytes}(hx:x∈U)(hv:fp x=true)(ha:fW y=true)(hf:dR x b=none):WB U (xM x y b):=
 ⟨Ds hv ha h.ok hf (h.room hU hx hf),fun p hp=>by
  rcases Qp x y b hp with e|e
  ·rw[e];exact hx
  ·exact h.sub p e⟩
theorem WB.ext{U:aI}{a b:aP}(ha:WB U a)(hb:WB U b)(h:∀v,dR v a=dR v b):a=b:=Rf (ua ha.ok) (ua hb.ok) h
theorem a4j{U:aI}(hU:U.length<=6){b:aP}(h:WB U b){x y:Bytes}(hx:x∈U)(hv:fp x=true):xf b x y=if fW y=true then(match dR x b with|some o=>bif o==y then(b,true)else([],false)|none=>(xM x y b,true))else([],false):=by
 unfold xf;rw[h.ok,hv];simp only[fM];cases ha:fW y with
 |false=>rfl
 |true=>
  rw[aG,bO rfl];cases hf:dR x b with
  |some o=>rfl
  |none=>dsimp only;rw[ax (h.room hU hx hf),aL]
def Says(h:Bytes->Bytes)(b:aP):Prop:=∀v o,dR v b=some o->h v=o
theorem wm{x y v:Bytes}{b:aP}(hf:dR x b=none):dR v (xM x y b)=if v=x then some y else dR v b:=by
 by_cases e:v=x
 ·subst e;rw[bO rfl,zl _ hf]
 ·rw[bE e,tE (fun e2=>e e2.symm)]
theorem a22{U:aI}(hU:U.length<=6):∀(l r:aI) (b:aP),WB U b->(∀x∈l,nC x=true)->(∀x∈l,fp x=true->x∈U)->(∀y∈r,fW y=true)->l.length=r.length->
 ((td l r b).2=true↔∃h,Says h b/\Fix h/\r=l.map h)/\((td l r b).2=true->WB U (td l r b).1/\∀v o,(dR v (td l r b).1=some o↔dR v b=some o\/(v∈l/\fp v=true/\∀h,Says h b->Fix h->r=l.map h->h v=o))):=by
 intro l
 induction l with
 |nil=>
  intro r b hb _ _ _ hl;have hr:r=[]:=by cases r with|nil=>rfl|cons _ _=>simp at hl
  subst hr;refine⟨⟨fun _=>?_,fun _=>rfl⟩,fun _=>⟨hb,fun v o=>⟨fun h=>.inl h,fun h=>?_⟩⟩⟩
  ·refine⟨fun y=>(dR y b).getD y,fun v o ho=>by simp[ho],fun y hy=>?_,rfl⟩;cases hf:dR y b with
   |none=>simp[hf]
   |some o=>
    obtain⟨p,hp,h1,_⟩:=yW hf;have:=(Bg (ua hb.ok) p hp).1;rw[h1]at this;rw[nj this]at hy;cases hy
  ·rcases h with h|⟨h,_⟩
   ·exact h
   ·cases h
 |cons x xs ih=>
  intro r b hb ht hv PD hl;cases r with
  |nil=>simp at hl
  |cons y ys=>
   have ht':∀z∈xs,nC z=true:=fun z hz=>ht z (by simp[hz])
   have hv':∀z∈xs,fp z=true->z∈U:=fun z hz=>hv z (by simp[hz])
   have ha':∀z∈ys,fW z=true:=fun z hz=>PD z (by simp[hz])
   have hl':xs.length=ys.length:=by simpa using hl
   have hay:=PD y (by simp);cases hx:fW x with
   |true=>
    have Xw:=LM hx;cases hxy:x==y with
    |false=>
     have e:td (x::xs) (y::ys) b=([],false):=by simp only[td,hx,hxy,aG,aL]
     rw[e];refine⟨⟨fun h=>(by cases h),?_⟩,fun h=>(by cases h)⟩;rintro⟨h,_,h2,h3⟩;rw[bA,h2 x hx]at h3;have:x=y:=(nH h3).1.symm;rw[this]at hxy;simp at hxy
    |true=>
     have exy:x=y:=by simpa using hxy
     have e:td (x::xs) (y::ys) b=td xs ys b:=by simp only[td,hx,hxy,aG]
     rw[e];obtain⟨i1,i2⟩:=ih ys b hb ht' hv' ha' hl';have hh:∀h:Bytes->Bytes,Fix h->(y::ys=(x::xs).map h↔ys=xs.map h):=by
      intro h hf;rw[bA,hf x hx,exy];exact⟨fun q=>(nH q).2,fun q=>by rw[<-q]⟩
     refine⟨⟨fun h=>?_,?_⟩,fun h=>?_⟩
     ·obtain⟨g,g1,g2,g3⟩:=i1.1 h;exact⟨g,g1,g2,(hh g g2).2 g3⟩
     ·rintro⟨g,g1,g2,g3⟩;exact i1.2 ⟨g,g1,g2,(hh g g2).1 g3⟩
     ·obtain⟨k1,k2⟩:=i2 h;refine⟨k1,fun v o=>(k2 v o).trans ⟨?_,?_⟩⟩
      ·rintro(q|⟨q1,q2,q3⟩)
       ·exact .inl q
       ·exact .inr ⟨by simp[q1],q2,fun g g1 g2 g3=>q3 g g1 g2 ((hh g g2).1 g3)⟩
      ·rintro(q|⟨q1,q2,q3⟩)
       ·exact .inl q
       ·rcases bV.1 q1 with rfl|q1
        ·rw[Xw]at q2;cases q2
        ·exact .inr ⟨q1,q2,fun g g1 g2 g3=>q3 g g1 g2 ((hh g g2).2 g3)⟩
   |false=>
    have Xw:fp x=true:=by have:=ht x (by simp);unfold nC at this;rw[hx]at this;simpa using this
    have hxU:=hv x (by simp) Xw;have ee:=a4j hU hb (y:=y) hxU Xw;rw[bO hay]at ee;cases hf:dR x b with
    |some o=>
     rw[hf]at ee;dsimp only at ee;cases ho:o==y with
     |false=>
      rw[ho,aL]at ee;have e:td (x::xs) (y::ys) b=([],false):=by simp only[td,hx,aL,ee]
      rw[e];refine⟨⟨fun h=>(by cases h),?_⟩,fun h=>(by cases h)⟩;rintro⟨h,h1,h2,h3⟩;rw[bA,h1 x o hf]at h3;have:o=y:=(nH h3).1.symm;rw[this]at ho;simp at ho
     |true=>
      have eo:o=y:=by simpa using ho
      rw[ho,aG]at ee;have e:td (x::xs) (y::ys) b=td xs ys b:=by simp only[td,hx,aL,ee,aG]
      rw[e];obtain⟨i1,i2⟩:=ih ys b hb ht' hv' ha' hl';have hh:∀h:Bytes->Bytes,Says h b->(y::ys=(x::xs).map h↔ys=xs.map h):=by
       intro h h1;rw[bA,h1 x o hf,eo];exact⟨fun q=>(nH q).2,fun q=>by rw[<-q]⟩
      refine⟨⟨fun h=>?_,?_⟩,fun h=>?_⟩
      ·obtain⟨g,g1,g2,g3⟩:=i1.1 h;exact⟨g,g1,g2,(hh g g1).2 g3⟩
      ·rintro⟨g,g1,g2,g3⟩;exact i1.2 ⟨g,g1,g2,(hh g g1).1 g3⟩
      ·obtain⟨k1,k2⟩:=i2 h;refine⟨k1,fun v q=>(k2 v q).trans ⟨?_,?_⟩⟩
       ·rintro(q1|⟨q1,q2,q3⟩)
        ·exact .inl q1
        ·exact .inr ⟨by simp[q1],q2,fun g g1 g2 g3=>q3 g g1 g2 ((hh g g1).1 g3)⟩
       ·rintro(q1|⟨q1,q2,q3⟩)
        ·exact .inl q1
        ·rcases bV.1 q1 with rfl|q1
         ·obtain⟨g,g1,g2,g3⟩:=i1.1 h;have:=q3 g g1 g2 ((hh g g1).2 g3);rw[g1 v o hf]at this;subst this;exact .inl hf
         ·exact .inr ⟨q1,q2,fun g g1 g2 g3=>q3 g g1 g2 ((hh g g1).2 g3)⟩
    |none=>
     rw[hf]at ee;dsimp only at ee;have e:td (x::xs) (y::ys) b=td xs ys (xM x y b):=by simp only[td,hx,aL,ee,aG]
     rw[e];obtain⟨i1,i2⟩:=ih ys (xM x y b) (hb.set hU hxU Xw hay hf) ht' hv' ha' hl';have hs:∀h:Bytes->Bytes,Says h (xM x y b)↔Says h b/\h x=y:=by
      intro h;constructor
      ·intro q;refine⟨fun v o ho=>q v o ?_,q x y (zl _ hf)⟩;rw[wm hf,bE (fun e=>by rw[e,hf]at ho;cases ho)];exact ho
      ·rintro⟨q1,q2⟩ v o ho;rw[wm hf]at ho;by_cases e:v=x
       ·rw[bO e]at ho;cases ho;rw[e];exact q2
       ·rw[bE e]at ho;exact q1 v o ho
     have hh:∀h:Bytes->Bytes,(y::ys=(x::xs).map h↔h x=y/\ys=xs.map h):=by
      intro h;rw[bA];exact⟨fun q=>⟨(nH q).1.symm,(nH q).2⟩,fun q=>by rw[q.1,<-q.2]⟩
     refine⟨⟨fun h=>?_,?_⟩,fun h=>?_⟩
     ·obtain⟨g,g1,g2,g3⟩:=i1.1 h;obtain⟨g1,g4⟩:=(hs g).1 g1;exact⟨g,g1,g2,(hh g).2 ⟨g4,g3⟩⟩
     ·rintro⟨g,g1,g2,g3⟩;obtain⟨g4,g3⟩:=(hh g).1 g3;exact i1.2 ⟨g,(hs g).2 ⟨g1,g4⟩,g2,g3⟩
     ·obtain⟨k1,k2⟩:=i2 h;refine⟨k1,fun v q=>(k2 v q).trans ⟨?_,?_⟩⟩
      ·rintro(q1|⟨q1,q2,q3⟩)
       ·rw[wm hf]at q1;by_cases ev:v=x
        ·rw[bO ev]at q1;cases q1;refine .inr ⟨by simp[ev],by rw[ev];exact Xw,fun g g1 g2 g3=>by rw[ev];exact((hh g).1 g3).1⟩
        ·rw[bE ev]at q1;exact .inl q1
       ·refine .inr ⟨by simp[q1],q2,fun g g1 g2 g3=>?_⟩;obtain⟨g4,g3⟩:=(hh g).1 g3;exact q3 g ((hs g).2 ⟨g1,g4⟩) g2 g3
      ·rintro(q1|⟨q1,q2,q3⟩)
       ·left
        rw[wm hf,bE (fun e=>by rw[e,hf]at q1;cases q1)];exact q1
       ·by_cases ev:v=x
        ·left
         obtain⟨g,g1,g2,g3⟩:=i1.1 h;obtain⟨g1,g4⟩:=(hs g).1 g1;have:=q3 g g1 g2 ((hh g).2 ⟨g4,g3⟩);rw[ev,g4]at this;rw[wm hf,bO ev,this]
        ·rcases bV.1 q1 with q1|q1
         ·exact absurd q1 ev
         ·refine .inr ⟨q1,q2,fun g g1 g2 g3=>?_⟩;obtain⟨g1,g4⟩:=(hs g).1 g1;exact q3 g g1 g2 ((hh g).2 ⟨g4,g3⟩)
def Fits(p f:aC)(h:Bytes->Bytes):Prop:=pL f=true/\p.rel=f.rel/\f.args=p.args.map h
theorem a23{U:aI}(hU:U.length<=6){p f:aC}{b:aP}(hb:WB U b)(hp:w9 p=true)(hv:∀x∈p.args,fp x=true->x∈U):
 ((kN p f b).2=true↔∃h,Says h b/\Fix h/\Fits p f h)/\((kN p f b).2=true->WB U (kN p f b).1/\∀v o,(dR v (kN p f b).1=some o↔dR v b=some o\/(v∈p.args/\fp v=true/\∀h,Says h b->Fix h->Fits p f h->h v=o))):=by
 cases hc:w9 p&&(pL f&&(iP b&&(p.rel==f.rel&&decide (p.args.length=f.args.length))))with
 |false=>
  have e:kN p f b=([],false):=by unfold kN;rw[hc];rfl
  rw[e];refine⟨⟨fun h=>(by cases h),?_⟩,fun h=>(by cases h)⟩;rintro⟨h,_,_,h1,h2,h3⟩;rw[hp,h1,hb.ok,h2,oU,au (by rw[h3];simp)]at hc;cases hc
 |true=>
  have e:kN p f b=td p.args f.args b:=by unfold kN;rw[hc];rfl
  simp only[aU,cr,bH]at hc;obtain⟨_,c2,_,c4,c5⟩:=hc;have PD:∀y∈f.args,fW y=true:=by
   unfold pL at c2;rw[aU]at c2;exact b8.1 c2.1
  obtain⟨i1,i2⟩:=a22 hU p.args f.args b hb (PM hp) hv PD c5;rw[e];have hf:∀h,Fits p f h↔f.args=p.args.map h:=fun h=>⟨fun q=>q.2.2,fun q=>⟨c2,c4,q⟩⟩
  refine⟨⟨fun h=>?_,?_⟩,fun h=>?_⟩
  ·obtain⟨g,g1,g2,g3⟩:=i1.1 h;exact⟨g,g1,g2,(hf g).2 g3⟩
  ·rintro⟨g,g1,g2,g3⟩;exact i1.2 ⟨g,g1,g2,(hf g).1 g3⟩
  ·obtain⟨k1,k2⟩:=i2 h;refine⟨k1,fun v o=>(k2 v o).trans ⟨?_,?_⟩⟩
   ·rintro(q|⟨q1,q2,q3⟩)
    ·exact .inl q
    ·exact .inr ⟨q1,q2,fun g g1 g2 g3=>q3 g g1 g2 ((hf g).1 g3)⟩
   ·rintro(q|⟨q1,q2,q3⟩)
    ·exact .inl q
    ·exact .inr ⟨q1,q2,fun g g1 g2 g3=>q3 g g1 g2 ((hf g).2 g3)⟩
theorem Pk{r:aN}:∀ {pre rest:ay} {c:aS} {i:Nat},uh r (pre++c::rest) i=true->pS c=true/\(i+pre.length=0->c.kind=1)/\∀v∈sW c,Om r (i+pre.length) c v=true
 | [],rest,c,i,h=>by
  rw[eN]at h;unfold uh at h;rw[Rb]at h;simp only[aU,qT,kx,qF,bH]at h;refine⟨h.1.1.1,fun e=>?_,fun v hv=>b8.1 h.1.2 v hv⟩;rcases h.1.1.2 with q|q
  ·exact absurd (by simpa using e) q
  ·exact q
 |x::pre,rest,c,i,h=>by
  rw[u7]at h;unfold uh at h;rw[aU]at h;have:=Pk h.2;rw[aR,show i+(pre.length+1)=i+1+pre.length by omega];exact this
theorem TY{r:aN}(h:fS r=true):uh r r.conds 0=true:=by
 unfold fS at h;simp only[aU]at h;exact h.2.1
def Ym(sh:aC):bP->Nat->Option Nat
 | [],_=>none
 |x::xs,i=>if x.shape=sh then some i else Ym sh xs (i+1)
def XO(al:bP)(sh:aC):bP×Int:=match Ym sh al 0 with
 |some i=>(al,dS i)
 |none=>(al++[⟨sh,[]⟩],dS al.length)
theorem OZ{n:Nat}(h:n<=1099511627776):IntKind.i64.wrap (((n+1:Nat):Int)-1)=dS n:=by
 unfold dS;rw[eD (qv.i64.2 (by omega))];omega
theorem aG7(n:aF)(sh:aC)(k:Option (aF×Int)):∀(l:bP) (i:Nat),ng n sh k l i=match Ym sh l i with|some j=>some (n,dS j)|none=>k:=by
 intro l
 induction l with
 |nil=>intro i;rfl
 |cons x l ih=>
  intro i;rw[ng,Wx,aA,ih,Ym];by_cases h:x.shape=sh
  ·rw[au h,aG,bO h];rfl
  ·rw[ax h,aL,bE h]
theorem sAl(n:aF)(sh:aC)(h:n.bG.length<=1048576):uU n sh=some (⟨n.rules,n.ends,(XO n.bG sh).1,n.nodes,n.facts,n.cP⟩,(XO n.bG sh).2):=by
 unfold uU;rw[sF (by omega),aG,aG7,gG (by omega) (by decide),aG];unfold XO;cases Ym sh n.bG 0 with
 |some j=>rfl
 |none=>
  dsimp only;rw[show((n.bG.map ah.c)++[[D.str sh.rel,D.sl (sh.args.map tx),D.sl []]]).length=n.bG.length+1 by simp,OZ (by omega)]
theorem aFl(n:aF)(sh:aC)(k:Option (aF×Int)):∀(l:bP) (i:Nat),fX n sh k l i=match Ym sh l i with|some j=>some (n,dS j)|none=>k:=by
 intro l
 induction l with
 |nil=>intro i;rfl
 |cons x l ih=>
  intro i;rw[fX,QD,aA,ih,Ym];by_cases h:x.shape=sh
  ·rw[au h,aG,bO h];rfl
  ·rw[ax h,aL,bE h]
theorem iAl(n:aF)(sh:aC)(h:n.bG.length<=1048576):jP n sh=some (⟨n.rules,n.ends,(XO n.bG sh).1,n.nodes,n.facts,n.cP⟩,(XO n.bG sh).2):=by
 unfold jP;rw[sF (by omega),aG,aFl,gG (by omega) (by decide),aG];unfold XO;cases Ym sh n.bG 0 with
 |some j=>rfl
 |none=>
  dsimp only;rw[show((n.bG.map ah.c)++[[D.str sh.rel,D.sl (sh.args.map tx),D.sl []]]).length=n.bG.length+1 by simp,OZ (by omega)]
def RE(p:Int)(c:aS):bN->Nat->Option Nat
 | [],_=>none
 |x::xs,i=>if 0<i/\x.parent=p/\x.cond=c then some i else RE p c xs (i+1)
def Rc(al:bP)(c:aS):bP×Int:=if c.kind=1\/c.kind=2 then XO al (vn c.pat)else(al, -1)
def Mx(al:bP)(ns:bN)(p:Int)(c:aS):(bP×bN)×Int:=match RE p c ns 0 with
 |some i=>((al,ns),dS i)
 |none=>(((Rc al c).1,ns++[⟨p,c,(Rc al c).2,[]⟩]),dS ns.length)
theorem UN(p:Int)(c:aS)(ns:bN):RE p c ns 0=RE p c (ns.drop 1) 1:=by
 cases ns with
 |nil=>rfl
 |cons x ns=>rw[RE,bE (fun h=>by omega)];rfl
def ZU(n:aF)(z:(bP×bN)×Int):aF×Int:=(⟨n.rules,n.ends,z.1.1,z.1.2,n.facts,n.cP⟩,z.2)
theorem aG9(n:aF)(p:Int)(c:aS)(k:Option (aF×Int))(hn:n.nodes.length<=1048576):∀(d v fu:Nat),v+d=n.nodes.length+1->1<=v->d<fu->iN n p c k fu (v:Int)=match RE p c (n.nodes.drop v) v with|some j=>some (n,dS j)|none=>k:=by
 intro d
 induction d with
 |zero=>
  intro v fu hv h1 hf;obtain⟨fu,rfl⟩:∃m,fu=m+1:=⟨fu-1,by omega⟩
  rw[iN,aq,ax (by omega),aL,nL (by omega)];rfl
 |succ d ih=>
  intro v fu hv h1 hf;obtain⟨fu,rfl⟩:∃m,fu=m+1:=⟨fu-1,by omega⟩
  by_cases hl:v<n.nodes.length
  ·have hx:n.nodes[v]?=some n.nodes[v]:=av hl;have e3:gA n.nodes (v:Int)=some n.nodes[v]:=by unfold gA;rw[au (by omega),aG];exact hx
   rw[oN hl,RE,iN,aq,au (by omega),aG,e3,aA,Fj (by omega),ih (v+1) fu (by omega) (by omega) (by omega),a38,aA];generalize n.nodes[v]=x;by_cases hp:x.parent=p
   ·rw[show((x.parent:Int)==p)=true by simp[hp],aG];by_cases hc:x.cond=c
    ·rw[au hc,aG,bO ⟨by omega,hp,hc⟩];rfl
    ·rw[ax hc,aL,bE (fun h=>hc h.2.2)]
   ·rw[show((x.parent:Int)==p)=false by simp[hp],aL,bE (fun h=>hp h.2.1)]
  ·rw[iN,aq,ax (by omega),aL,nL (by omega)];rfl
theorem sCh(n:aF)(p:Int)(c:aS)(hn:n.nodes.length<=1048576)(ha:n.bG.length<=1048576)(hc:c.wt<=1048576):wM n p c=some (ZU n (Mx n.bG n.nodes p c)):=by
 have hp:=aS.gW hc;have hargs:=aC.dZ hp;unfold wM;have e:=aG9 n p c;rw[show(1:Int)=((1:Nat):Int)from rfl,e _ hn n.nodes.length 1 fuel (by omega) (br _) (by unfold fuel;omega),<-UN,Tc c (by omega),aA,a9c c.pat hp,aA,sAl n _ ha,aA];unfold Mx Rc ZU;cases RE p c n.nodes 0 with
 |some j=>rfl
 |none=>
  dsimp only;rw[gG (by omega) (by decide),aG];by_cases h1:c.kind=1
  ·rw[show((c.kind:Int)==((1:Nat):Int))=true by simp[h1],aG,bO (.inl h1)];simp[OZ,hn,show n.nodes.length<=1099511627776 by omega]
   first|done| (unfold dS;rw[eD (qv.i64.2 (by omega))])
  ·rw[show((c.kind:Int)==((1:Nat):Int))=false by simp[h1],aL];by_cases h2:c.kind=2
   ·rw[show((c.kind:Int)==(2:Int))=true by simp[h2],aG,bO (.inr h2)];simp[OZ,hn,show n.nodes.length<=1099511627776 by omega]
    first|done| (unfold dS;rw[eD (qv.i64.2 (by omega))])
   ·rw[show((c.kind:Int)==(2:Int))=false by simp[h2],aL,bE (by omega)]
    first|rw[gG (by omega) (by decide),aG]|rw[aA,gG (by omega) (by decide),aG]|skip
    simp[OZ,hn,show n.nodes.length<=1099511627776 by omega]
    first|done| (unfold dS;rw[eD (qv.i64.2 (by omega))])
theorem aFn(n:aF)(p:Int)(c:aS)(k:Option (aF×Int)):∀(l:bN) (i:Nat),eG n p c k l i=match RE p c l i with|some j=>some (n,dS j)|none=>k:=by
 intro l
 induction l with
 |nil=>intro i;rfl
 |cons x l ih=>
  intro i;rw[eG,RE,ih,TD,aA];by_cases hi:0<i
  ·rw[au (by omega),aG];by_cases hp:x.parent=p
   ·rw[show((x.parent:Int)==p)=true by simp[hp],aG];by_cases hc:x.cond=c
    ·rw[au hc,aG,bO ⟨hi,hp,hc⟩];rfl
    ·rw[ax hc,aL,bE (fun h=>hc h.2.2)]
   ·rw[show((x.parent:Int)==p)=false by simp[hp],aL,bE (fun h=>hp h.2.1)]
  ·rw[ax (by omega),aL,bE (fun h=>hi h.1)]
theorem iCh(n:aF)(p:Int)(c:aS)(hn:n.nodes.length<=1048576)(ha:n.bG.length<=1048576)(hc:c.wt<=1048576):mO n p c=some (ZU n (Mx n.bG n.nodes p c)):=by
 have hp:=aS.gW hc;have hargs:=aC.dZ hp;unfold mO;rw[sF (by omega),aG,aFn,T8 c (by omega),a8s c.pat hp,aA,iAl n _ ha,aA,aA];unfold Mx Rc ZU;cases RE p c n.nodes 0 with
 |some j=>rfl
 |none=>
  dsimp only;rw[gG (by omega) (by decide),aG];by_cases h1:c.kind=1
  ·rw[show((c.kind:Int)==(1:Int))=true by simp[h1],aG,bO (.inl h1)];simp[OZ,hn,show n.nodes.length<=1099511627776 by omega]
   first|done| (unfold dS;rw[eD (qv.i64.2 (by omega))])
  ·rw[show((c.kind:Int)==(1:Int))=false by simp[h1],aL];by_cases h2:c.kind=2
   ·rw[show((c.kind:Int)==(2:Int))=true by simp[h2],aG,bO (.inr h2)];simp[OZ,hn,show n.nodes.length<=1099511627776 by omega]
    first|done| (unfold dS;rw[eD (qv.i64.2 (by omega))])
   ·rw[show((c.kind:Int)==(2:Int))=false by simp[h2],aL,bE (by omega)]
    first|rw[gG (by omega) (by decide),aG]|rw[aA,gG (by omega) (by decide),aG]|skip
    simp[OZ,hn,show n.nodes.length<=1099511627776 by omega]
    first|done| (unfold dS;rw[eD (qv.i64.2 (by omega))])
def IV(s:(bP×bN)×Int)(c:aS):(bP×bN)×Int:=Mx s.1.1 s.1.2 s.2 c
def Jq(z:(bP×bN)×bM)(r:aN):(bP×bN)×bM:=(((gF r).foldl IV (z.1,0)).1,z.2++[((gF r).foldl IV (z.1,0)).2])
def root(tk:ar):Node:=⟨-1,⟨0,⟨[],[]⟩,[],[]⟩, -1,tk⟩
def cZ(tk:ar)(rs:az):(bP×bN)×bM:=rs.foldl Jq (([],[root tk]),[])
theorem a4N(al:bP)(sh:aC):(XO al sh).1.length<=al.length+1:=by
 unfold XO;cases Ym sh al 0<;>simp
theorem a4X(al:bP)(c:aS):(Rc al c).1.length<=al.length+1:=by
 unfold Rc;by_cases h:c.kind=1\/c.kind=2
 ·rw[bO h];exact a4N _ _
 ·rw[bE h];exact Nat.le_succ _
theorem Sk(al:bP)(ns:bN)(p:Int)(c:aS):(Mx al ns p c).1.1.length<=al.length+1/\(Mx al ns p c).1.2.length<=ns.length+1:=by
 unfold Mx;cases RE p c ns 0 with
 |some i=>exact⟨Nat.le_succ _,Nat.le_succ _⟩
 |none=>exact⟨a4X _ _,by simp⟩
theorem IW:∀(cs:ay) (s:(bP×bN)×Int),(cs.foldl IV s).1.1.length<=s.1.1.length+cs.length/\(cs.foldl IV s).1.2.length<=s.1.2.length+cs.length
 | [],s=>⟨br _,br _⟩
 |c::cs,s=>by
  have h1:=Sk s.1.1 s.1.2 s.2 c;have h2:=IW cs (IV s c);have h3:(IV s c).1.1.length<=s.1.1.length+1/\(IV s c).1.2.length<=s.1.2.length+1:=h1;rw[cy,aR];omega
theorem aD5(a:az)(i:Nat)(y:ay)(k:Int->Int->az->bM->bP->bN->aJ->Option (aF×Bool)):∀(cs:ay) (j:Nat) (v u:Int) (w3:az) (w4:bM) (al:bP) (ns:bN) (w7:aJ),(∀c∈cs,c.wt<=1048576)->al.length+cs.length<=1048576->ns.length+cs.length<=1048576->
 ig a i y k cs j v u w3 w4 al ns w7=k (cs.foldl IV ((al,ns),v)).2 u w3 w4 (cs.foldl IV ((al,ns),v)).1.1 (cs.foldl IV ((al,ns),v)).1.2 w7:=by
 intro cs
 induction cs with
 |nil=>intros;rfl
 |cons c cs ih=>
  intro j v u w3 w4 al ns w7 hc ha hn;simp only[aR]at ha hn;have h1:=Sk al ns v c;rw[ig,sCh _ v c (show ns.length<=1048576 by omega) (show al.length<=1048576 by omega) (hc c (by simp)),aA];unfold ZU;dsimp only;rw[ih _ _ _ _ _ _ _ _ (fun x hx=>hc x (by simp[hx])) (by omega) (by omega)];rfl
theorem aBQ(a:az)(i:Nat)(y:ay)(k:Int->Int->az->bM->bP->bN->aJ->Option aF):∀(cs:ay) (j:Nat) (v u:Int) (w3:az) (w4:bM) (al:bP) (ns:bN) (w7:aJ),(∀c∈cs,c.wt<=1048576)->al.length+cs.length<=1048576->ns.length+cs.length<=1048576->
 kX a i y k cs j v u w3 w4 al ns w7=k (cs.foldl IV ((al,ns),v)).2 u w3 w4 (cs.foldl IV ((al,ns),v)).1.1 (cs.foldl IV ((al,ns),v)).1.2 w7:=by
 intro cs
 induction cs with
 |nil=>intros;rfl
 |cons c cs ih=>
  intro j v u w3 w4 al ns w7 hc ha hn;simp only[aR]at ha hn;have h1:=Sk al ns v c;rw[kX,iCh _ v c (show ns.length<=1048576 by omega) (show al.length<=1048576 by omega) (hc c (by simp)),aA];unfold ZU;dsimp only;rw[ih _ _ _ _ _ _ _ _ (fun x hx=>hc x (by simp[hx])) (by omega) (by omega)];rfl
theorem Nc:∀(ts:aI) (N:aP) {p:aW},p∈ts.foldl kO N->p∈N\/(p.var∈ts/\fp p.var=true)
 | [],_,_,h=>.inl h
 |t::ts,N,p,h=>by
  rcases Nc ts (kO N t) h with h1|h1
  ·unfold kO at h1;cases hv:fp t&& !Hx N t with
   |false=>rw[hv]at h1;exact .inl h1
   |true=>
    rw[hv,aG]at h1;simp only[aU]at hv;rcases aX.1 h1 with h2|h2
    ·exact .inl h2
    ·rw[cH.1 h2];exact .inr ⟨by simp,hv.1⟩
  ·exact .inr ⟨by simp[h1.1],h1.2⟩
theorem CT{l:ay}{v:Bytes}:v∈Au l↔v∈yI l/\fp v=true:=by
 unfold Au yI sW kQ;simp only[cB,gw];constructor
 ·rintro⟨c,hc,hm,hv⟩;exact⟨⟨c,hc,hm⟩,hv⟩
 ·rintro⟨⟨c,hc,hm⟩,hv⟩;exact⟨c,hc,hm,hv⟩
theorem Nk{r:aN}(h:fS r=true):(iJ r).length<=6:=by
 have h1:((iJ r).map aW.var).length<=(fU (Au r.conds)).length:=by
  refine Nl _ _ (Ac _ Tv.nil) fun x hx=>?_
  obtain⟨p,hp,rfl⟩:=cJ.1 hx;rcases Nc _ _ hp with h1|h1
  ·cases h1
  ·exact rS.2 (CT.2 h1)
 rw[aq]at h1;exact eZ h1 (Nx h)
theorem I8{r:aN}(h:fS r=true){v:Bytes}(hv:v∈Au r.conds):∃i p,i<6/\(iJ r)[i]?=some p/\p.var=v/\Dl (iJ r) v=nmB i:=by
 obtain⟨ht,Gd⟩:=CT.1 hv;obtain⟨p,hp,he⟩:=MJ _ [] ht Gd;have hp':p∈iJ r:=hp;obtain⟨i,hi,Q4,hval,_⟩:=Ky (DI _ Vj.nil) hp';refine⟨i,p,by have:=Nk h;unfold iJ at this;omega,Q4,he,?_⟩;rw[<-he];exact(IS (N:=iJ r) (Ac (yI r.conds) Tv.nil) hp').trans hval
theorem Mh{r:aN}(h:fS r=true){x:Bytes}(hx:x.length<=16)(hV:fp x=true->x∈Au r.conds):(Dl (iJ r) x).length<=16:=by
 cases hv:fp x with
 |false=>rw[show Dl (iJ r) x=x from MY hv];exact hx
 |true=>
  obtain⟨i,p,hi,_,_,e⟩:=I8 h (hV hv);rw[e];exact YB i hi
theorem PO:∀(l:aI),(∀x∈l,x.length<=16)->sD tw l<=17*l.length
 | [],_=>by simp[sD]
 |x::l,h=>by
  have h1:=PO l fun y hy=>h y (by simp[hy])
  have h2:=h x (by simp);rw[pz,aR];unfold tw at*;omega
theorem Qu{t:Bytes}(h:nC t=true):t.length<=16:=by have:=Zp h;omega
theorem Pj{c:aS}(h:pS c=true):c.pat.rel.length<=8/\c.pat.args.length<=3/\(∀x∈c.pat.args,x.length<=16)/\c.left.length<=16/\c.right.length<=16:=by
 by_cases hk:c.kind=1\/c.kind=2
 ·obtain⟨hp,hl,hr⟩:=Du h hk;have ht:=PM hp;unfold w9 at hp;simp only[aU,bH]at hp;have:=S6 hp.2.1;rw[hl,hr];exact⟨by omega,by omega,fun x hx=>Qu (ht x hx),by simp,by simp⟩
 ·obtain⟨_,hz,hl,hr⟩:=Ph h (fun e=>hk (.inl e)) (fun e=>hk (.inr e));unfold EZ at hz;simp only[aU,cr,bH]at hz;have h0:c.pat.args=[]:=dJ (by omega);rw[hz.1,h0];exact⟨by simp,by simp,fun x hx=>(by cases hx),Qu hl,Qu hr⟩
theorem IB{r:aN}(h:fS r=true):∀c∈gF r,c.wt<=1048576:=by
 intro c' hc';obtain⟨c,hc,rfl⟩:=cJ.1 hc';obtain⟨h1,h2,h3,h4,h5⟩:=Pj (DE h c hc);have hV:∀x∈c.pat.args++[c.left,c.right],fp x=true->x∈Au r.conds:=fun x hx hv=>CT.2 ⟨cB.2 ⟨c,hc,hx⟩,hv⟩
 have a1:(Dl (iJ r) c.left).length<=16:=Mh h h4 (hV _ (by simp));have a2:(Dl (iJ r) c.right).length<=16:=Mh h h5 (hV _ (by simp));have a3:=PO (c.pat.args.map (Dl (iJ r))) (fun x hx=>by
  obtain⟨y,hy,rfl⟩:=cJ.1 hx;exact Mh h (h3 y hy) (hV y (by simp[hy])))
 rw[aq]at a3;unfold Qj aS.wt;dsimp only;unfold tw at*;omega
theorem zo{r:aN}(h:fS r=true):(gF r).length<=4:=by unfold gF;rw[aq];exact Nw h
theorem XM{r:aN}{n:Nat}(h:r.wt<=n){a:Action}(ha:a∈r.dD):a.pat.args.length<=n:=by
 have h1:=aN.LI h;have h2:=qS (w:=Action.wt) ha;have h3:=tK tw a.pat.args;simp only[Action.wt]at h2;omega
theorem a2l(p:aC)(h:p.args.length<=1099511627770):fQ p=some p:=by
 unfold fQ;rw[a3C p.args (by omega)];rfl
theorem a1Z(p:aC)(h:p.args.length<=1099511627770):ez p=some p:=by
 unfold ez;rw[TG p.args (by omega)];rfl
theorem a9N(r:aN)(h:r.wt<=1048576):vV r=some r:=by
 have h1:=aN.vA h;have h2:=aN.LI h;have h3:=tK aS.wt r.conds;have h4:=tK Action.wt r.dD;unfold vV;rw[GX (c:=aS.c) (b:=80) (f:=lP) (g:=fun x=>x) (L:=rR r _) (k:=_) (by decide) (fun _ _=>rfl) (fun _ _ _ _=>rfl) _ _ _ (fun c hc=>Tc c (by have:=aC.dZ (aS.gW (aN.th h hc));omega)) (by simp;omega)];rw[GX (c:=Action.c) (b:=48) (f:=fun a:Action=>(fQ a.pat).bind fun y=>some (⟨a.kind,y⟩:Action)) (g:=fun x=>x) (L:=p9 r _ _) (k:=_) (by decide) (fun _ _=>rfl) (fun x xs i w=>by rw[p9];cases fQ x.pat<;>rfl) _ _ _ (fun a ha=>by rw[a2l a.pat (by have:=XM h ha;omega)];rfl) (by simp;omega)];simp
theorem VK(l:az)(h:sD aN.wt l<=1048576):sP l=some l:=by
 have h3:=tK aN.wt l;unfold sP;rw[GX (c:=aN.c) (b:=72) (f:=vV) (g:=fun x=>x) (L:=p8 l _) (k:=_) (by decide) (fun _ _=>rfl) (fun _ _ _ _=>rfl) _ _ _ (fun r hr=>a9N r (by have:=qS (w:=aN.wt) hr;omega)) (by simp;omega)];simp
theorem a1Y(l:ay)(h:l.length<=1048576)(hw:∀c∈l,c.wt<=1048576):uH l=some l:=by
 unfold uH;rw[GX (c:=aS.c) (b:=80) (f:=gH) (g:=fun x=>x) (L:=ny l _) (k:=_) (by decide) (fun _ _=>rfl) (fun _ _ _ _=>rfl) _ _ _ (fun c hc=>T8 c (by have:=aC.dZ (aS.gW (hw c hc));omega)) (by simp;omega)];simp
theorem a8j(r:aN)(h:r.wt<=1048576):sN r=some r:=by
 have h1:=aN.vA h;have h2:=aN.LI h;have h3:=tK aS.wt r.conds;have h4:=tK Action.wt r.dD;unfold sN;rw[a1Y r.conds (by omega) (fun c hc=>aN.th h hc),aA];rw[GX (c:=Action.c) (b:=48) (f:=fun a:Action=>(ez a.pat).bind fun y=>some (⟨a.kind,y⟩:Action)) (g:=fun x=>x) (L:=lz r _ _) (k:=_) (by decide) (fun _ _=>rfl) (fun x xs i w=>by rw[lz];cases ez x.pat<;>rfl) _ _ _ (fun a ha=>by rw[a1Z a.pat (by have:=XM h ha;omega)];rfl) (by simp;omega)];simp
theorem Uo(l:az)(h:sD aN.wt l<=1048576):rN l=some l:=by
 have h3:=tK aN.wt l;unfold rN;rw[GX (c:=aN.c) (b:=72) (f:=sN) (g:=fun x=>x) (L:=o5 l _) (k:=_) (by decide) (fun _ _=>rfl) (fun _ _ _ _=>rfl) _ _ _ (fun r hr=>a8j r (by have:=qS (w:=aN.wt) hr;omega)) (by simp;omega)];simp
theorem aD4(a:az)(k:Int->az->bM->bP->bN->aJ->Option (aF×Bool)):∀(l:az) (i:Nat) (u:Int) (w2:az) (es:bM) (al:bP) (ns:bN) (w6:aJ),(∀r∈l,r.wt<=1048576/\fS r=true)->es.length+l.length<=1000->al.length+4*l.length<=1000->ns.length+4*l.length<=1000->
 ic a k l i u w2 es al ns w6=k u w2 (l.foldl Jq ((al,ns),es)).2 (l.foldl Jq ((al,ns),es)).1.1 (l.foldl Jq ((al,ns),es)).1.2 w6:=by
 intro l
 induction l with
 |nil=>intros;rfl
 |cons r l ih=>
  intro i u w2 es al ns w6 hr he ha hn;simp only[aR]at he ha hn;obtain⟨hw,hb⟩:=hr r (by simp);have h4:=zo hb;have hl:=IW (gF r) ((al,ns),0);dsimp only at hl;rw[ic,a9M r hw,aA,sF (by omega),aG,aD5 _ _ _ _ _ _ _ _ _ _ _ _ _ (IB hb) (by omega) (by omega),gG (by omega) (by decide),aG,ih _ _ _ _ _ _ _ (fun x hx=>hr x (by simp[hx])) (by simp;omega) (by omega) (by omega)];rfl
theorem a2r(rs:az)(h:sD aN.wt rs<=1048576):ke rs=some (bif qU rs then(⟨rs,(cZ [⟨[],[]⟩] rs).2,(cZ [⟨[],[]⟩] rs).1.1,(cZ [⟨[],[]⟩] rs).1.2,[],0⟩,true)else(⟨[],[],[],[],[],0⟩,false)):=by
 unfold ke;rw[aG8 rs h,aA];cases hb:qU rs with
 |false=>rfl
 |true=>
  have h6:rs.length<=6:=by unfold qU at hb;simp only[aU,bH]at hb;omega
  rw[bU,aL,aG,VK rs h,aA,aD4 _ _ _ _ _ _ _ _ _ _ (fun r hr=>⟨by have:=qS (w:=aN.wt) hr;omega,oQ hb r hr⟩) (by simp;omega) (by simp;omega) (by simp;omega)];rfl
theorem aBP(a:az)(k:Int->az->bM->bP->bN->aJ->Option aF):∀(l:az) (i:Nat) (u:Int) (w2:az) (es:bM) (al:bP) (ns:bN) (w6:aJ),(∀r∈l,r.wt<=1048576/\fS r=true)->es.length+l.length<=1000->al.length+4*l.length<=1000->ns.length+4*l.length<=1000->
 kW a k l i u w2 es al ns w6=k u w2 (l.foldl Jq ((al,ns),es)).2 (l.foldl Jq ((al,ns),es)).1.1 (l.foldl Jq ((al,ns),es)).1.2 w6:=by
 intro l
 induction l with
 |nil=>intros;rfl
 |cons r l ih=>
  intro i u w2 es al ns w6 hr he ha hn;simp only[aR]at he ha hn;obtain⟨hw,hb⟩:=hr r (by simp);have h4:=zo hb;have hl:=IW (gF r) ((al,ns),0);dsimp only at hl;rw[kW,a8h r hw,aA,sF (by omega),aG,aBQ _ _ _ _ _ _ _ _ _ _ _ _ _ (IB hb) (by omega) (by omega),gG (by omega) (by decide),aG,ih _ _ _ _ _ _ _ (fun x hx=>hr x (by simp[hx])) (by simp;omega) (by omega) (by omega)];rfl
theorem aFr(rs:az)(h:sD aN.wt rs<=1048576)(hb:qU rs=true):uM rs=some ⟨rs,(cZ [] rs).2,(cZ [] rs).1.1,(cZ [] rs).1.2,[],0⟩:=by
 unfold uM;have h6:rs.length<=6:=by unfold qU at hb;simp only[aU,bH]at hb;omega
 rw[Uo rs h,aA,aBP _ _ _ _ _ _ _ _ _ _ (fun r hr=>⟨by have:=qS (w:=aN.wt) hr;omega,oQ hb r hr⟩) (by simp;omega) (by simp;omega) (by simp;omega)];rfl
def chR(al:bP)(ns:bN)(p:Int)(c:aS):(bP×bN)×Int:=match RE p c ns 1 with
 |some i=>((al,ns),dS i)
 |none=>(((Rc al c).1,ns++[⟨p,c,(Rc al c).2,[]⟩]),dS (ns.length+1))
theorem a0m(tk:ar)(al:bP)(ns:bN)(p:Int)(c:aS):Mx al (root tk::ns) p c=(((chR al ns p c).1.1,root tk::(chR al ns p c).1.2),(chR al ns p c).2):=by
 unfold Mx chR;rw[UN,List.drop_succ_cons,Bp];cases RE p c ns 1<;>rfl
def rtC(s:(bP×bN)×Int)(c:aS):(bP×bN)×Int:=chR s.1.1 s.1.2 s.2 c
def rtR(z:(bP×bN)×bM)(r:aN):(bP×bN)×bM:=(((gF r).foldl rtC (z.1,0)).1,z.2++[((gF r).foldl rtC (z.1,0)).2])
def rtB(rs:az):(bP×bN)×bM:=rs.foldl rtR (([],[]),[])
theorem VP(tk:ar):∀(cs:ay) (al:bP) (ns:bN) (v:Int),cs.foldl IV ((al,root tk::ns),v)=(((cs.foldl rtC ((al,ns),v)).1.1,root tk::(cs.foldl rtC ((al,ns),v)).1.2),(cs.foldl rtC ((al,ns),v)).2)
 | [],_,_,_=>rfl
 |c::cs,al,ns,v=>by
  rw[cy,cy];show cs.foldl IV (Mx al (root tk::ns) v c)=_;rw[a0m,VP tk cs];rfl
theorem VR(tk:ar):∀(rs:az) (al:bP) (ns:bN) (es:bM),rs.foldl Jq ((al,root tk::ns),es)=(((rs.foldl rtR ((al,ns),es)).1.1,root tk::(rs.foldl rtR ((al,ns),es)).1.2),(rs.foldl rtR ((al,ns),es)).2)
 | [],_,_,_=>rfl
 |r::rs,al,ns,es=>by
  rw[cy,cy];have e:Jq ((al,root tk::ns),es) r=(((rtR ((al,ns),es) r).1.1,root tk::(rtR ((al,ns),es) r).1.2),(rtR ((al,ns),es) r).2):=by
   unfold Jq rtR;dsimp only;rw[VP]
  rw[e,VR tk rs]
theorem iW(tk:ar)(rs:az):cZ tk rs=(((rtB rs).1.1,root tk::(rtB rs).1.2),(rtB rs).2):=VR tk rs [] [] []
theorem Cb(tk:ar){rs:az}(h:∀r∈rs,fS r=true)(h6:rs.length<=6):(cZ tk rs).1.2.length<=25:=by
 have main:∀(l:az) (z:(bP×bN)×bM),(∀r∈l,fS r=true)->(l.foldl Jq z).1.2.length<=z.1.2.length+4*l.length:=by
  intro l
  induction l with
  |nil=>intro z _;exact br _
  |cons r l ih=>
   intro z hl;have h1:=ih (Jq z r) (fun x hx=>hl x (by simp[hx]));have h2:=(IW (gF r) (z.1,0)).2;have h3:=zo (hl r (by simp));have h4:(Jq z r).1.2.length=((gF r).foldl IV (z.1,0)).1.2.length:=rfl;rw[cy,aR];dsimp only at h2;omega
 have:=main rs (([],[root tk]),[]) h;unfold cZ;simp only[aR,cE]at this;omega
def sG(x:Node):Int×aS:=(x.parent,x.cond)
theorem SI{a b:bN}(h:a.map sG=b.map sG):∀(k v:Nat),RV a k v=RV b k v
 |0,_=>rfl
 |k+1,v=>by
  have e:(a[v]?).map sG=(b[v]?).map sG:=by rw[<-cR,<-cR,h]
  unfold RV;cases ha:a[v]? with
  |none=>
   cases hb:b[v]? with
   |none=>rfl
   |some y=>rw[ha,hb]at e;cases e
  |some x=>
   cases hb:b[v]? with
   |none=>rw[ha,hb]at e;cases e
   |some y=>
    rw[ha,hb]at e;have e1:x.parent=y.parent:=(l6 (lR e)).1;dsimp only;rw[e1,SI h k]
theorem Sm{a b:bN}(h:a.map sG=b.map sG):DN a=DN b:=by
 funext i
 have e:(a[i]?).map sG=(b[i]?).map sG:=by rw[<-cR,<-cR,h]
 unfold DN;cases ha:a[i]? with
 |none=>
  cases hb:b[i]? with
  |none=>rfl
  |some y=>rw[ha,hb]at e;cases e
 |some x=>
  cases hb:b[i]? with
  |none=>rw[ha,hb]at e;cases e
  |some y=>
   rw[ha,hb]at e;have e2:x.cond=y.cond:=(l6 (lR e)).2;show some x.cond=some y.cond;rw[e2]
theorem wR{a b:bN}(h:a.map sG=b.map sG)(v:Int):ed a v=ed b v:=by
 have hl:a.length=b.length:=by have:=congrArg List.length h;simpa using this
 unfold ed Jm;rw[hl,SI h,Sm h]
def gO(al:bP)(fs:aJ):bP:=al.map fun a=>⟨a.shape,sC a.shape [] fs⟩
def pu(ns:bN)(fs:aJ):bN->Nat->bN
 | [],_=>[]
 |x::xs,i=>⟨x.parent,x.cond,x.cX,rT (ed ns (dS i)) fs⟩::pu ns fs xs (i+1)
def fR(ns:bN)(fs:aJ):bN:=pu ns fs ns 0
theorem Km(ns:bN)(fs:aJ):∀(l:bN) (i:Nat),(pu ns fs l i).map sG=l.map sG
 | [],_=>rfl
 |x::l,i=>by rw[pu,bA,Km ns fs l];rfl
theorem Z0(ns:bN)(fs:aJ)(l:bN)(i:Nat):(pu ns fs l i).length=l.length:=by
 have:=congrArg List.length (Km ns fs l i);simpa using this
theorem setAt{G:Type}(pre l:List G)(x y:G):(pre++x::l).set pre.length y=pre++y::l:=by
 rw[oP _ _ (br _),qu];rfl
structure D1(ns:List Node):Prop where
 len:ns.length<=1048576
 wt:∀x∈ns,x.cond.wt<=1048576
 path:∀i:Nat,(ed ns (dS i)).length<=4
theorem Mf{ns:bN}{v:Int}{c:aS}(h:c∈ed ns v):∃x∈ns,x.cond=c:=by
 unfold ed at h;split at h
 ·unfold Jm at h;obtain⟨i,_,hc⟩:=dQ.1 h;unfold DN at hc;cases hx:ns[i]? with
  |none=>rw[hx]at hc;cases hc
  |some x=>rw[hx]at hc;exact⟨x,aE hx,lR hc⟩
 ·cases h
theorem a0y(n:aF)(fs y:aJ)(k:bP->Option (aF×Unit))(hf:FS fs):∀(l pre:bP),(∀x∈l,x.shape.wt<=1048576)->gC n fs y k l pre.length (pre++l)=k (pre++gO l fs):=by
 intro l
 induction l with
 |nil=>intro pre _;rfl
 |cons x l ih=>
  intro pre hw;have hx:(pre++x::l)[pre.length]?=some x:=by simp
  have hlt:decide (pre.length<((pre++x::l).map ah.c).length)=true:=by simp
  rw[gC,hlt,aG,hx,aA,aBC x.shape [] fs (hw x (by simp)) PB.nil hf,aA,aG,setAt];have:=ih (pre++[⟨x.shape,sC x.shape [] fs⟩]) (fun z hz=>hw z (by simp[hz]));rw[bC,eA,dH]at this;rw[show pre++(⟨x.shape,sC x.shape [] fs⟩:ah)::l=pre++([⟨x.shape,sC x.shape [] fs⟩]++l)from rfl,this];simp[gO]
theorem a8B(n:aF)(fs y:aJ)(q:bP)(k:Option (aF×Unit))(hf:FS fs)(h24:fs.length<=24)(ns:bN)(hp:D1 ns):∀(l pre:bN),(pre++l).map sG=ns.map sG->
 fC n fs y q k l pre.length (pre++l)=some (⟨n.rules,n.ends,q,pre++pu ns fs l pre.length,y,n.cP⟩,()):=by
 intro l
 induction l with
 |nil=>intro pre _;rfl
 |cons x l ih=>
  intro pre he;have hx:(pre++x::l)[pre.length]?=some x:=by simp
  have hlt:decide (pre.length<((pre++x::l).map Node.c).length)=true:=by simp
  have hlen:(pre++x::l).length=ns.length:=by have:=congrArg List.length he;simpa using this
  have hok:NOk ⟨n.rules,n.ends,q,pre++x::l,y,n.cP⟩:=by
   refine⟨by show(pre++x::l).length<=1048576;rw[hlen];exact hp.len,fun z hz=>?_⟩;have hm:sG z∈ns.map sG:=by rw[<-he];exact cJ.2 ⟨z,hz,rfl⟩
   obtain⟨w,hw,e⟩:=cJ.1 hm;have:w.cond=z.cond:=(l6 e).2;rw[<-this];exact hp.wt w hw
  have a1I:ed (pre++x::l) ((pre.length:Nat):Int)=ed ns (dS pre.length):=wR he _;have Ud:∀c∈ed ns (dS pre.length),c.wt<=1048576:=by
   intro c hc;obtain⟨z,hz,e⟩:=Mf hc;rw[<-e];exact hp.wt z hz
  rw[fC,a8o _ _ hok,aA,a1I,aBT _ fs Ud (hp.path _) hf h24,aA,hlt,aG,hx,aA,setAt];have:=ih (pre++[⟨x.parent,x.cond,x.cX,rT (ed ns (dS pre.length)) fs⟩]) (by
   rw[<-he];simp[sG])
  rw[bC,eA,dH]at this;rw[show pre++(⟨x.parent,x.cond,x.cX,rT (ed ns (dS pre.length)) fs⟩:Node)::l=pre++([⟨x.parent,x.cond,x.cX,rT (ed ns (dS pre.length)) fs⟩]++l)from rfl,this,pu];simp
theorem a6h(n:aF)(fs:aJ)(hf:FS fs)(h24:fs.length<=24)(ha:n.bG.length<=1048576)(hs:∀x∈n.bG,x.shape.wt<=1048576)(hp:D1 n.nodes):kA n fs=some (⟨n.rules,n.ends,gO n.bG fs,fR n.nodes fs,fs,n.cP⟩,()):=by
 unfold kA;have h1:=a0y n fs fs;have hl:=hp.len;rw[wP fs hf.1 (fun f hf2=>by have:=aC.dZ (hf.2 f hf2);omega),aA,sF (by omega),aG];have e1:=a0y n fs fs (fun(eO:bP)=>(bif decide (n.nodes.length<=maxLen)then(fC n fs fs eO none n.nodes 0 n.nodes)else none)) hf n.bG [] hs;refine e1.trans ?_;rw[eN,sF (by omega),aG];exact a8B n fs fs _ none hf h24 n.nodes hp n.nodes [] rfl
theorem VU(ns:bN):∀(k k' v:Nat),1<=v->v<=k->v<=k'->RV ns k v=RV ns k' v
 |0,_,v,h1,h2,_=>by omega
 |k+1,0,v,h1,_,h3=>by omega
 |k+1,k'+1,v,h1,h2,h3=>by
  unfold RV;cases hx:ns[v]? with
  |none=>rfl
  |some x=>
   dsimp only;by_cases hp:1<=x.parent/\x.parent<(v:Int)
   ·rw[bO hp,bO hp,VU ns k k' x.parent.toNat (by omega) (by omega) (by omega)]
   ·rw[bE hp,bE hp]
theorem uz(ns:bN):ed ns (dS 0)=[]:=by unfold ed dS;rw[bE (by omega)]
theorem yF{ns:bN}{i:Nat}{x:Node}(hx:ns[i]?=some x)(h1:1<=i){p:Nat}(hp:x.parent=dS p)(hpi:p<i):ed ns (dS i)=ed ns (dS p)++[x.cond]:=by
 have hl:=(aO.1 hx).1;unfold dS at hp;have e1:ed ns (dS i)=Jm ns i i:=by unfold ed dS;rw[bO (by omega)];rfl
 obtain⟨k,rfl⟩:∃k,i=k+1:=⟨i-1,by omega⟩
 rw[e1,Qf hx];by_cases h0:1<=p
 ·rw[bO (by omega)];have e2:ed ns (dS p)=Jm ns p p:=by unfold ed dS;rw[bO (by omega)];rfl
  rw[e2,hp,kz];unfold Jm;rw[VU ns k p p h0 (by omega) (br _)]
 ·rw[bE (by omega),show p=0 by omega,uz]
def Vh(ns:bN):Prop:=∀(i:Nat) x,1<=i->ns[i]?=some x->∃p:Nat,x.parent=dS p/\p<i
theorem Np{ns:bN}(hb:Vh ns)(m:bN):∀(n i:Nat),i<=n->i<ns.length->ed (ns++m) (dS i)=ed ns (dS i):=by
 intro n
 induction n with
 |zero=>
  intro i h1 _;rw[show i=0 by omega,uz,uz]
 |succ n ih=>
  intro i h1 h2;by_cases h0:i=0
  ·rw[h0,uz,uz]
  ·have hx:ns[i]?=some ns[i]:=av h2;have hx':(ns++m)[i]?=some ns[i]:=by rw[bJ h2];exact hx
   obtain⟨p,hp,hpi⟩:=hb i _ (by omega) hx;rw[yF hx (by omega) hp hpi,yF hx' (by omega) hp hpi,ih p (by omega) (by omega)]
structure FV(R:List aS->Prop)(ns:List Node):Prop where
 pos:1<=ns.length
 below:Vh ns
 path:∀i:Nat,1<=i->i<ns.length->R (ed ns (dS i))
theorem UO{p:Int}{c:aS}:∀ {l:bN} {i j:Nat},RE p c l i=some j->∃x,l[j-i]?=some x/\i<=j/\0<j/\x.parent=p/\x.cond=c
 |x::l,i,j,h=>by
  unfold RE at h;split at h
  ·rename_i hc;cases h;exact⟨x,by simp,br _,hc.1,hc.2.1,hc.2.2⟩
  ·obtain⟨y,h1,h2,h3,h4,h5⟩:=UO h;refine⟨y,?_,by omega,h3,h4,h5⟩;rw[show j-i=(j-(i+1))+1 by omega];exact h1
theorem FV.step{R:ay->Prop}{al:bP}{ns:bN}(h:FV R ns){a:Nat}(ha:a<ns.length){c:aS}(hR:R (ed ns (dS a)++[c])):
 FV R (Mx al ns (dS a) c).1.2/\∃b:Nat,(Mx al ns (dS a) c).2=dS b/\b<(Mx al ns (dS a) c).1.2.length/\ed (Mx al ns (dS a) c).1.2 (dS b)=ed ns (dS a)++[c]:=by
 unfold Mx;cases hc:RE (dS a) c ns 0 with
 |some j=>
  obtain⟨x,h1,h2,h3,h4,h5⟩:=UO hc;rw[yh]at h1;have hj:=(aO.1 h1).1;obtain⟨p,hp,hpj⟩:=h.below j x (by omega) h1;have:p=a:=by rw[hp]at h4;unfold dS at h4;omega
  subst this;exact⟨h,j,rfl,hj,by rw[yF h1 (by omega) hp hpj,h5]⟩
 |none=>
  dsimp only;have hbel:Vh (ns++[⟨dS a,c,(Rc al c).2,[]⟩]):=by
   intro i x h1 hx;by_cases hi:i<ns.length
   ·rw[bJ hi]at hx;exact h.below i x h1 hx
   ·rw[bW (by omega)]at hx;have hi2:i=ns.length:=by
     have:=(aO.1 hx).1;simp at this;omega
    rw[hi2,qu]at hx;cases hx;exact⟨a,rfl,by omega⟩
  have hnew:ed (ns++[⟨dS a,c,(Rc al c).2,[]⟩]) (dS ns.length)=ed ns (dS a)++[c]:=by
   have hx:(ns++[(⟨dS a,c,(Rc al c).2,[]⟩:Node)])[ns.length]?=some ⟨dS a,c,(Rc al c).2,[]⟩:=by simp
   have h1:=h.pos;rw[yF hx (by omega) (p:=a) rfl ha,Np h.below _ a a (br _) ha]
  refine⟨⟨by simp,hbel,fun i h1 h2=>?_⟩,ns.length,rfl,by simp,hnew⟩;by_cases hi:i<ns.length
  ·rw[Np h.below _ i i (br _) hi];exact h.path i h1 hi
  ·have:i=ns.length:=by simp at h2;omega
   rw[this,hnew];exact hR
theorem FV.rule{R:ay->Prop}:∀(cs:ay) {al:bP} {ns:bN} {a:Nat},FV R ns->a<ns.length->(∀j:Nat,1<=j->j<=cs.length->R (ed ns (dS a)++cs.take j))->
 FV R (cs.foldl IV ((al,ns),dS a)).1.2/\∃b:Nat,(cs.foldl IV ((al,ns),dS a)).2=dS b/\b<(cs.foldl IV ((al,ns),dS a)).1.2.length/\ed (cs.foldl IV ((al,ns),dS a)).1.2 (dS b)=ed ns (dS a)++cs
 | [],al,ns,a,h,ha,_=>⟨h,a,rfl,ha,by simp⟩
 |c::cs,al,ns,a,h,ha,hR=>by
  obtain⟨h1,b,h2,h3,h4⟩:=h.step (al:=al) ha (c:=c) (by have:=hR 1 (br _) (by simp);simpa using this);have e:IV ((al,ns),dS a) c=(((Mx al ns (dS a) c).1.1,(Mx al ns (dS a) c).1.2),dS b):=by
   show Mx al ns (dS a) c=_;rw[<-h2]
  rw[cy,e];obtain⟨k1,d,k2,k3,k4⟩:=FV.rule cs (al:=(Mx al ns (dS a) c).1.1) h1 h3 (fun j Q6 hj2=>by
   rw[h4,dH];have:=hR (j+1) (by omega) (by simp;omega);simpa using this)
  exact⟨k1,d,k2,k3,by rw[k4,h4];simp⟩
theorem a4Y(al:bP)(ns:bN)(p:Int)(c:aS):∃m,(Mx al ns p c).1.2=ns++m:=by
 unfold Mx;cases RE p c ns 0 with
 |some i=>exact⟨[],by simp⟩
 |none=>exact⟨[⟨p,c,(Rc al c).2,[]⟩],rfl⟩
theorem YP:∀(cs:ay) (s:(bP×bN)×Int),∃m,(cs.foldl IV s).1.2=s.1.2++m
 | [],s=>⟨[],by simp⟩
 |c::cs,s=>by
  obtain⟨m,h⟩:=a4Y s.1.1 s.1.2 s.2 c;obtain⟨m2,h2⟩:=YP cs (IV s c);refine⟨m++m2,?_⟩;rw[cy,h2];show(Mx s.1.1 s.1.2 s.2 c).1.2++m2=_;rw[h,dH]
def XL(rs:az)(p:ay):Prop:=∃r∈rs,∃j:Nat,1<=j/\j<=(gF r).length/\p=(gF r).take j
theorem VQ(all:az):∀(l:az) (al:bP) (ns:bN) (es:bM),(∀r∈l,r∈all)->FV (XL all) ns->
 FV (XL all) (l.foldl Jq ((al,ns),es)).1.2/\(∃m,(l.foldl Jq ((al,ns),es)).1.2=ns++m)/\∃fs,(l.foldl Jq ((al,ns),es)).2=es++fs/\fs.length=l.length/\
  ∀(i:Nat) r,l[i]?=some r->∃b:Nat,fs[i]?=some (dS b)/\b<(l.foldl Jq ((al,ns),es)).1.2.length/\ed (l.foldl Jq ((al,ns),es)).1.2 (dS b)=gF r
 | [],al,ns,es,_,h=>⟨h,⟨[],by simp⟩,[],by simp,rfl,fun i r hr=>by simp at hr⟩
 |r::l,al,ns,es,hm,h=>by
  obtain⟨h1,b,h2,h3,h4⟩:=FV.rule (gF r) (al:=al) h (a:=0) (by have:=h.pos;omega) (fun j Q6 hj2=>by
   rw[uz,eN];exact⟨r,hm r (by simp),j,Q6,hj2,rfl⟩)
  obtain⟨m1,hm1⟩:=YP (gF r) ((al,ns),dS 0);obtain⟨k1,⟨m2,hm2⟩,fs,k2,k3,k4⟩:=VQ all l ((gF r).foldl IV ((al,ns),dS 0)).1.1 ((gF r).foldl IV ((al,ns),dS 0)).1.2 (es++[dS b]) (fun x hx=>hm x (by simp[hx])) h1;have e:Jq ((al,ns),es) r=((((gF r).foldl IV ((al,ns),dS 0)).1.1,((gF r).foldl IV ((al,ns),dS 0)).1.2),es++[dS b]):=by
   rw[<-h2];rfl
  rw[cy,e];refine⟨k1,⟨m1++m2,by rw[hm2,hm1,dH]⟩,dS b::fs,by rw[k2];simp,by simp[k3],?_⟩;intro i x hx;cases i with
  |zero=>
   have:r=x:=by simpa using hx
   subst this;refine⟨b,rfl,by rw[hm2];simp;omega,?_⟩;rw[hm2,Np h1.below _ b b (br _) h3,h4,uz];rfl
  |succ i=>exact k4 i x (by simpa using hx)
theorem Zj(R:ay->Prop)(tk:ar):FV R [root tk]:=
 ⟨br _,fun i x h1 hx=>by
  have:=(aO.1 hx).1;simp at this;omega,fun i h1 h2=>by simp at h2;omega⟩
theorem vb(tk:ar)(rs:az):FV (XL rs) (cZ tk rs).1.2/\(cZ tk rs).2.length=rs.length/\∀(i:Nat) r,rs[i]?=some r->∃b:Nat,(cZ tk rs).2[i]?=some (dS b)/\b<(cZ tk rs).1.2.length/\ed (cZ tk rs).1.2 (dS b)=gF r:=by
 obtain⟨h1,_,fs,h2,h3,h4⟩:=VQ rs rs [] [root tk] [] (fun r hr=>hr) (Zj _ tk);rw[eN]at h2;refine⟨h1,?_,?_⟩
 ·show(rs.foldl Jq (([],[root tk]),[])).2.length=_;rw[h2,h3]
 ·intro i r hr;obtain⟨b,k1,k2,k3⟩:=h4 i r hr;refine⟨b,?_,k2,k3⟩;show(rs.foldl Jq (([],[root tk]),[])).2[i]?=_;rw[h2];exact k1
theorem VD{r:aN}(h:fS r=true):∃c cs,gF r=c::cs/\c.kind=1:=by
 have hb:=TY h;cases hc:r.conds with
 |nil=>
  unfold fS at h;rw[hc]at h;simp at h
 |cons c cs=>
  refine⟨Qj (iJ r) c,cs.map (Qj (iJ r)),by unfold gF;rw[hc];rfl,?_⟩;exact(Pk (pre:=[]) (i:=0) (c:=c) (rest:=cs) (by rw[eN,<-hc];exact hb)).2.1 rfl
theorem S9{rs:az}(h:∀r∈rs,fS r=true){p:ay}(hp:XL rs p):p.length<=4/\∃c cs,p=c::cs/\c.kind=1:=by
 obtain⟨r,hr,j,h1,h2,rfl⟩:=hp;have:=zo (h r hr);refine⟨by rw[cU];omega,?_⟩;obtain⟨c,cs,e,hk⟩:=VD (h r hr);obtain⟨j,rfl⟩:∃k,j=k+1:=⟨j-1,by omega⟩
 exact⟨c,cs.take j,by rw[e];rfl,hk⟩
theorem Zu{c:aS}{cs:ay}(hk:c.kind=1):rT (c::cs) []=[]:=by
 have h0:∀(l:ay),l.foldl (sI []) []=[]:=by
  intro l
  induction l with
  |nil=>rfl
  |cons x l ih=>rw[cy];exact ih
 unfold rT;rw[cy];have:sI [] [⟨[],[]⟩] c=[]:=by
  unfold sI BY;rw[au hk];rfl
 rw[this,h0]
theorem OR{r:aN}(h:fS r=true):∀c∈gF r,c.pat.rel.length<=8/\c.pat.args.length<=3/\∀x∈c.pat.args,x.length<=16:=by
 intro c' hc';obtain⟨c,hc,rfl⟩:=cJ.1 hc';obtain⟨h1,h2,h3,h4,h5⟩:=Pj (DE h c hc);have hV:∀x∈c.pat.args++[c.left,c.right],fp x=true->x∈Au r.conds:=fun x hx hv=>CT.2 ⟨cB.2 ⟨c,hc,hx⟩,hv⟩
 refine⟨h1,by show(c.pat.args.map _).length<=3;rw[aq];exact h2,fun x hx=>?_⟩;obtain⟨y,hy,rfl⟩:=cJ.1 hx;exact Mh h (h3 y hy) (hV y (by simp[hy]))
theorem a3D{p:aC}(h1:p.rel.length<=8)(h2:p.args.length<=3)(h3:∀x∈p.args,x.length<=16):(vn p).wt<=1048576:=by
 have a3:=PO (p.args.map (Dl (p.args.foldl kO []))) (fun x hx=>by
  obtain⟨y,hy,rfl⟩:=cJ.1 hx;exact a9G (by omega) (h3 y hy))
 rw[aq]at a3;show aC.wt ⟨p.rel,p.args.map (Dl (p.args.foldl kO []))⟩<=1048576;unfold aC.wt;dsimp only;unfold tw at*;omega
def yo(al:bP):Prop:=∀x∈al,x.shape.wt<=1048576/\x.facts=[]
theorem Vp{al:bP}{ns:bN}{p:Int}{c:aS}(h:yo al)(hc:(vn c.pat).wt<=1048576):yo (Mx al ns p c).1.1:=by
 unfold Mx;cases RE p c ns 0 with
 |some i=>exact h
 |none=>
  show yo (Rc al c).1;unfold Rc;by_cases hk:c.kind=1\/c.kind=2
  ·rw[bO hk];unfold XO;cases Ym (vn c.pat) al 0 with
   |some i=>exact h
   |none=>
    intro x hx;rcases aX.1 hx with hx|hx
    ·exact h x hx
    ·rw[cH.1 hx];exact⟨hc,rfl⟩
  ·rw[bE hk];exact h
theorem Qr:∀(cs:ay) (s:(bP×bN)×Int),yo s.1.1->(∀c∈cs,(vn c.pat).wt<=1048576)->yo (cs.foldl IV s).1.1
 | [],_,h,_=>h
 |c::cs,s,h,hc=>Qr cs (IV s c) (Vp h (hc c (by simp))) (fun x hx=>hc x (by simp[hx]))
theorem yY(tk:ar){rs:az}(h:∀r∈rs,fS r=true):yo (cZ tk rs).1.1:=by
 have main:∀(l:az) (z:(bP×bN)×bM),(∀r∈l,fS r=true)->yo z.1.1->yo (l.foldl Jq z).1.1:=by
  intro l
  induction l with
  |nil=>intro z _ hz;exact hz
  |cons r l ih=>
   intro z hl hz;refine ih (Jq z r) (fun x hx=>hl x (by simp[hx])) ?_;exact Qr (gF r) (z.1,0) hz (fun c hc=>by
    obtain⟨p1,p2,p3⟩:=OR (hl r (by simp)) c hc;exact a3D p1 p2 p3)
 exact main rs _ h (fun x hx=>by cases hx)
theorem Mm(tk:ar){rs:az}(h:∀r∈rs,fS r=true)(h6:rs.length<=6):D1 (cZ tk rs).1.2:=by
 have hp:=(vb tk rs).1;have hl:=Cb tk h h6;refine⟨by omega,?_,?_⟩
 ·intro x hx;obtain⟨i,hi⟩:=iO hx;have hil:=(aO.1 hi).1;by_cases h0:i=0
  ·subst h0;rw[iW]at hi;cases hi;unfold root aS.wt;simp[sD,tw]
  ·obtain⟨p,hpp,hpi⟩:=hp.below i x (by omega) hi;obtain⟨r,hr,j,j1,j2,e⟩:=hp.path i (by omega) hil;rw[yF hi (by omega) hpp hpi]at e;have hm:x.cond∈gF r:=cO (by rw[<-e];simp:x.cond∈(gF r).take j);exact IB (h r hr) _ hm
 ·intro i;by_cases hi:1<=i/\i<(cZ tk rs).1.2.length
  ·exact(S9 h (hp.path i hi.1 hi.2)).1
  ·unfold ed dS;rw[bE (by omega)];simp
theorem a8g(rs:az)(fs:aJ)(t:Int)(hr:sD aN.wt rs<=1048576)(hb:qU rs=true)(hf:FS fs)(h24:fs.length<=24):yz rs fs t=some ⟨rs,(cZ [] rs).2,gO (cZ [] rs).1.1 fs,fR (cZ [] rs).1.2 fs,fs,t⟩:=by
 have h6:rs.length<=6:=by unfold qU at hb;simp only[aU,bH]at hb;omega
 have hv:=oQ hb;have hsh:=yY [] hv;have hal:(cZ [] rs).1.1.length<=1048576:=by
  have main:∀(l:az) (z:(bP×bN)×bM),(∀r∈l,fS r=true)->(l.foldl Jq z).1.1.length<=z.1.1.length+4*l.length:=by
   intro l
   induction l with
   |nil=>intro z _;exact br _
   |cons r l ih=>
    intro z hl;have h1:=ih (Jq z r) (fun x hx=>hl x (by simp[hx]));have h2:=(IW (gF r) (z.1,0)).1;have h3:=zo (hl r (by simp));have h4:(Jq z r).1.1.length=((gF r).foldl IV (z.1,0)).1.1.length:=rfl;rw[cy,aR];dsimp only at h2;omega
  have:=main rs (([],[root []]),[]) hv;unfold cZ;simp only[cE]at this;omega
 unfold yz;rw[aFr rs hr hb,aA,a6h _ fs hf h24 hal (fun x hx=>(hsh x hx).1) (Mm [] hv h6)];rfl
theorem Yw{al:bP}(h:yo al):gO al []=al:=by
 unfold gO;have:∀l:bP,(∀x∈l,x.facts=[])->l.map (fun a=>(⟨a.shape,sC a.shape [] []⟩:ah))=l:=by
  intro l
  induction l with
  |nil=>intro _;rfl
  |cons x l ih=>
   intro hl;rw[bA,ih (fun y hy=>hl y (by simp[hy]))];have:=hl x (by simp);cases x;simp only at this;subst this;rfl
 exact this al fun x hx=>(h x hx).2
theorem a4Z{al:bP}{ns:bN}{p:Int}{c:aS}(h:∀x∈ns,x.tokens=[]):∀x∈(chR al ns p c).1.2,x.tokens=[]:=by
 unfold chR;cases RE p c ns 1 with
 |some i=>exact h
 |none=>
  intro x hx;rcases aX.1 hx with hx|hx
  ·exact h x hx
  ·rw[cH.1 hx]
theorem YI:∀(cs:ay) (s:(bP×bN)×Int),(∀x∈s.1.2,x.tokens=[])->∀x∈(cs.foldl rtC s).1.2,x.tokens=[]
 | [],_,h=>h
 |c::cs,s,h=>YI cs (rtC s c) (a4Z h)
theorem a5b(rs:az):∀x∈(rtB rs).1.2,x.tokens=[]:=by
 have main:∀(l:az) (z:(bP×bN)×bM),(∀x∈z.1.2,x.tokens=[])->∀x∈(l.foldl rtR z).1.2,x.tokens=[]:=by
  intro l
  induction l with
  |nil=>intro z hz;exact hz
  |cons r l ih=>intro z hz;exact ih (rtR z r) (YI (gF r) (z.1,0) hz)
 exact main rs _ (fun x hx=>by cases hx)
theorem Pv(ns:bN):∀(l:bN) (i:Nat),(∀x∈l,x.tokens=[])->(∀j:Nat,i<=j->j<i+l.length->rT (ed ns (dS j)) []=[])->pu ns [] l i=l
 | [],_,_,_=>rfl
 |x::l,i,ht,hp=>by
  rw[pu,hp i (br _) (by simp),Pv ns l (i+1) (fun y hy=>ht y (by simp[hy])) (fun j h1 h2=>hp j (by omega) (by simp only[aR];omega))];have:=ht x (by simp);cases x;simp only at this;subst this;rfl
theorem Yy{rs:az}(h:∀r∈rs,fS r=true):fR (cZ [] rs).1.2 []=(cZ [⟨[],[]⟩] rs).1.2:=by
 have hp:=(vb [] rs).1;have e:(cZ [] rs).1.2=root []::(rtB rs).1.2:=by rw[iW]
 have e2:(cZ [⟨[],[]⟩] rs).1.2=root [⟨[],[]⟩]::(rtB rs).1.2:=by rw[iW]
 have hlen:(cZ [] rs).1.2.length=(rtB rs).1.2.length+1:=by rw[e];rfl
 unfold fR;rw[e2];have h1:=Pv (cZ [] rs).1.2 (rtB rs).1.2 1 (a5b rs) (fun j j1 j2=>by
  obtain⟨_,c,cs,ec,hk⟩:=S9 h (hp.path j j1 (by rw[hlen];omega));rw[ec];exact Zu hk)
 have h2:pu (cZ [] rs).1.2 [] (cZ [] rs).1.2 0=pu (cZ [] rs).1.2 [] (root []::(rtB rs).1.2) 0:=by rw[<-e]
 rw[h2,pu,h1,uz];rfl
def tH(rs:az)(fs:aJ)(t:Int):aF:=⟨rs,(cZ [] rs).2,gO (cZ [] rs).1.1 fs,fR (cZ [] rs).1.2 fs,fs,t⟩
def Ge(n:aF):Bool:=qU n.rules&&(fK n.facts&&(decide (0<=n.cP)&&Ov n (tH n.rules n.facts 0)))
theorem FS.Ff{fs:aJ}(h:sD aC.wt fs<=1048576):FS fs:=⟨by have:=tK aC.wt fs;omega,fun f hf=>by have:=qS (w:=aC.wt) hf;omega⟩
theorem TA(n:aF)(hr:sD aN.wt n.rules<=1048576)(hf:sD aC.wt n.facts<=1048576):oW n=some (Ge n):=by
 unfold oW Ge;rw[aFm _ hr,a1Q _ hf,aA,aA];cases h1:qU n.rules with
 |false=>rfl
 |true=>
  cases h2:fK n.facts with
  |false=>rfl
  |true=>
   rw[a8g _ _ _ hr h1 (FS.Ff hf) (qG h2),aA,aFp,aA];simp only[aG,fM];by_cases h3:0<=n.cP
   ·rw[au h3];rfl
   ·rw[ax h3];rfl
def xL(x:Node):Int×Int×aS:=(x.parent,x.cX,x.cond)
theorem a2F{a b:bN}(h:a.map xL=b.map xL):a.map sG=b.map sG:=by
 have:=congrArg (List.map fun t:Int×Int×aS=>(t.1,t.2.2)) h;rw[sU,sU]at this;exact this
def Zv(ns:bN)(fs:aJ):bN->Nat->Bool
 | [],_=>true
 |x::xs,i=>decide (x.tokens=rT (ed ns (dS i)) fs)&&Zv ns fs xs (i+1)
theorem Rr(fs:aJ):∀(a b:bP),a.map ah.shape=b.map ah.shape->((a.all fun x=>decide (x.facts=sC x.shape [] fs))=true↔a=gO b fs)
 | [],[],_=>⟨fun _=>rfl,fun _=>rfl⟩
 | [],_::_,h=>by simp at h
 |_::_,[],h=>by simp at h
 |x::a,y::b,h=>by
  rw[bA,bA]at h;obtain⟨h1,h2⟩:=nH h;have ih:=Rr fs a b h2;rw[eE,aU,bH,ih];show _↔x::a=⟨y.shape,sC y.shape [] fs⟩::gO b fs;constructor
  ·rintro⟨q1,q2⟩;rw[<-h1,<-q1,<-q2]
  ·intro q;obtain⟨q1,q2⟩:=nH q;exact⟨by rw[q1],q2⟩
theorem Rs(ns:bN)(fs:aJ):∀(a b:bN) (i:Nat),a.map xL=b.map xL->(Zv ns fs a i=true↔a=pu ns fs b i)
 | [],[],_,_=>⟨fun _=>rfl,fun _=>rfl⟩
 | [],_::_,_,h=>by simp at h
 |_::_,[],_,h=>by simp at h
 |x::a,y::b,i,h=>by
  rw[bA,bA]at h;obtain⟨h1,h2⟩:=nH h;have ih:=Rs ns fs a b (i+1) h2;have e1:x.parent=y.parent:=(l6 h1).1;have e2:x.cX=y.cX:=(l6 (l6 h1).2).1;have e3:x.cond=y.cond:=(l6 (l6 h1).2).2;unfold Zv pu;rw[aU,bH,ih];constructor
  ·rintro⟨q1,q2⟩;rw[<-e1,<-e2,<-e3,<-q1,<-q2]
  ·intro q;obtain⟨q1,q2⟩:=nH q;exact⟨by rw[q1],q2⟩
theorem a7Z(n:aF)(k:Option Bool)(hf:FS n.facts):∀(l:bP) (i:Nat),(∀x∈l,x.shape.wt<=1048576)->kj n k l i=bif l.all (fun x=>decide (x.facts=sC x.shape [] n.facts))then k else some false
 | [],_,_=>rfl
 |x::l,i,h=>by
  rw[kj,a5i x.shape [] n.facts (h x (by simp)) PB.nil hf,aA,PJ,aA,a7Z n k hf l _ (fun y hy=>h y (by simp[hy])),eE];cases decide (x.facts=sC x.shape [] n.facts)<;>rfl
theorem a7a(n:aF)(k:Option Bool)(hf:FS n.facts)(h24:n.facts.length<=24)(hp:D1 n.nodes):∀(l:bN) (i:Nat),kn n k l i=bif Zv n.nodes n.facts l i then k else some false
 | [],_=>rfl
 |x::l,i=>by
  have Ud:∀c∈ed n.nodes ((i:Nat):Int),c.wt<=1048576:=by
   intro c hc;obtain⟨z,hz,e⟩:=Mf hc;rw[<-e];exact hp.wt z hz
  rw[kn,a30 n _ ⟨hp.len,hp.wt⟩,aA,a7h _ n.facts Ud (hp.path i) hf h24,aA,a5t,aA,a7a n k hf h24 hp l,Zv];show(bif !decide (x.tokens=rT (ed n.nodes (dS i)) n.facts)then some false else _)=_;cases decide (x.tokens=rT (ed n.nodes (dS i)) n.facts)<;>rfl
theorem Wu(n:aF)(hr:sD aN.wt n.rules<=1048576)(hf:sD aC.wt n.facts<=1048576):mc n=some (Ge n):=by
 unfold mc Ge;rw[a2r _ hr,a2g _ hf,aA,aA];cases h1:qU n.rules with
 |false=>rfl
 |true=>
  cases h2:fK n.facts with
  |false=>rfl
  |true=>
   have h6:n.rules.length<=6:=by unfold qU at h1;simp only[aU,bH]at h1;omega
   have hv:=oQ h1;simp only[aG,bU,aL,fM];rw[aCn,aA];have hroot:(cZ [⟨[],[]⟩] n.rules).1.2.map xL=(cZ [] n.rules).1.2.map xL:=by rw[iW,iW];rfl
   have hA:(cZ [⟨[],[]⟩] n.rules).1.1=(cZ [] n.rules).1.1:=by rw[iW,iW]
   have hE:(cZ [⟨[],[]⟩] n.rules).2=(cZ [] n.rules).2:=by rw[iW,iW]
   have hmem:Ov n (tH n.rules n.facts 0)=(decide (n.ends=(cZ [] n.rules).2)&&(decide (n.bG=gO (cZ [] n.rules).1.1 n.facts)&&decide (n.nodes=fR (cZ [] n.rules).1.2 n.facts))):=by
    unfold Ov tH;simp
   by_cases hform:Py n ⟨n.rules,(cZ [⟨[],[]⟩] n.rules).2,(cZ [⟨[],[]⟩] n.rules).1.1,(cZ [⟨[],[]⟩] n.rules).1.2,[],0⟩=true
   ·rw[hform];unfold Py at hform;simp only[aU,bH]at hform;obtain⟨f1,f2,f3⟩:=hform;have f2':n.nodes.map xL=(cZ [] n.rules).1.2.map xL:=by rw[<-hroot];exact f2
    have f1':n.bG.map ah.shape=(cZ [] n.rules).1.1.map ah.shape:=by rw[<-hA];exact f1
    have f3':n.ends=(cZ [] n.rules).2:=by rw[<-hE];exact f3
    have a8S:=Mm [] hv h6;have hfn:=a2F f2';have hok:D1 n.nodes:=by
     refine⟨by have:=congrArg List.length f2';rw[aq,aq]at this;rw[this];exact a8S.len,fun x hx=>?_,fun i=>by rw[wR hfn];exact a8S.path i⟩;have hm:sG x∈(cZ [] n.rules).1.2.map sG:=by rw[<-hfn];exact cJ.2 ⟨x,hx,rfl⟩
     obtain⟨w,hw,e⟩:=cJ.1 hm;have:w.cond=x.cond:=(l6 e).2;rw[<-this];exact a8S.wt w hw
    have hsh:∀x∈n.bG,x.shape.wt<=1048576:=by
     intro x hx;have hm:x.shape∈(cZ [] n.rules).1.1.map ah.shape:=by rw[<-f1'];exact cJ.2 ⟨x,hx,rfl⟩
     obtain⟨w,hw,e⟩:=cJ.1 hm;rw[<-e];exact(yY [] hv w hw).1
    have g1:=Rr n.facts n.bG _ f1';have g2:=Rs n.nodes n.facts n.nodes _ 0 f2';have g3:pu n.nodes n.facts (cZ [] n.rules).1.2 0=fR (cZ [] n.rules).1.2 n.facts:=by
     unfold fR;have:∀(l:bN) (i:Nat),pu n.nodes n.facts l i=pu (cZ [] n.rules).1.2 n.facts l i:=by
      intro l
      induction l with
      |nil=>intro i;rfl
      |cons x l ih=>intro i;rw[pu,pu,ih,wR hfn]
     exact this _ _
    rw[g3]at g2;rw[hmem,au f3',fM,a7Z n _ (FS.Ff hf) _ _ hsh,a7a n _ (FS.Ff hf) (qG h2) hok];have k1:(n.bG.all fun x=>decide (x.facts=sC x.shape [] n.facts))=decide (n.bG=gO (cZ [] n.rules).1.1 n.facts):=by rw[cK,g1,bH]
    have k2:Zv n.nodes n.facts n.nodes 0=decide (n.nodes=fR (cZ [] n.rules).1.2 n.facts):=by rw[cK,g2,bH]
    rw[k1,k2];by_cases h3:0<=n.cP
    ·rw[au h3,ax (by omega)];cases decide (n.bG=gO (cZ [] n.rules).1.1 n.facts)<;>cases decide (n.nodes=fR (cZ [] n.rules).1.2 n.facts)<;>rfl
    ·rw[ax h3,au (by omega)];rfl
   ·have hfalse:Py n ⟨n.rules,(cZ [⟨[],[]⟩] n.rules).2,(cZ [⟨[],[]⟩] n.rules).1.1,(cZ [⟨[],[]⟩] n.rules).1.2,[],0⟩=false:=by
     cases hq:Py n ⟨n.rules,(cZ [⟨[],[]⟩] n.rules).2,(cZ [⟨[],[]⟩] n.rules).1.1,(cZ [⟨[],[]⟩] n.rules).1.2,[],0⟩with
     |true=>exact absurd hq hform
     |false=>rfl
    rw[hfalse];have hm:Ov n (tH n.rules n.facts 0)=false:=by
     cases hq:Ov n (tH n.rules n.facts 0)with
     |false=>rfl
     |true=>
      exfalso;rw[hmem]at hq;simp only[aU,bH]at hq;obtain⟨q1,q2,q3⟩:=hq;apply hform;unfold Py;simp only[aU,bH];have r1:n.bG.map ah.shape=(cZ [⟨[],[]⟩] n.rules).1.1.map ah.shape:=by rw[hA,q2];unfold gO;rw[sU];rfl
      have r2:n.nodes.map xL=(cZ [⟨[],[]⟩] n.rules).1.2.map xL:=by
       rw[hroot,q3];have:∀(ns l:bN) (i:Nat),(pu ns n.facts l i).map xL=l.map xL:=by
        intro ns l
        induction l with
        |nil=>intro i;rfl
        |cons x l ih=>intro i;rw[pu,bA,ih];rfl
       exact this _ _ _
      exact⟨r1,r2,by rw[hE];exact q1⟩
    rw[hm,wA];rfl
theorem Tn{fs:aJ}(hf:FS fs):∀(cs:ay) (l:ar) (n:Nat),(∀c∈cs,c.wt<=1048576)->(∀t∈l,TK n t)->∀t∈cs.foldl (sI fs) l,TK (n+cs.length) t
 | [],l,n,_,hl=>hl
 |c::cs,l,n,hc,hl=>by
  have:=Tn hf cs (sI fs l c) (n+1) (fun x hx=>hc x (by simp[hx])) (TO hl (hc c (by simp)) hf);rw[aR,show n+(cs.length+1)=n+1+cs.length from by omega];exact this
def zK(rs:az)(fs:aJ):bL:=bif qU rs then rs.flatMap fun r=>mtB r fs else []
theorem Yv{b:aP}{x y:Bytes}(h:(xf b x y).2=true):iP (xf b x y).1=true:=by
 unfold xf at h⊢;cases hc:iP b&&(fp x&&fW y)with
 |false=>rw[hc]at h;cases h
 |true=>
  rw[hc,aG]at h;rw[aG];simp only[aU]at hc;cases hf:dR x b with
  |some o=>
   rw[hf]at h;dsimp only at h⊢;cases ho:o==y with
   |false=>rw[ho]at h;cases h
   |true=>exact hc.1
  |none=>
   rw[hf]at h;dsimp only at h⊢;cases hd:decide (b.length=6)with
   |true=>rw[hd]at h;cases h
   |false=>exact Ds hc.2.1 hc.2.2 hc.1 hf (of_decide_eq_false hd)
theorem Ni:∀(l r:aI) (b:aP),iP b=true->(td l r b).2=true->iP (td l r b).1=true
 | [],_,b,hb,_=>hb
 |_::_,[],_,_,h=>by cases h
 |x::xs,y::ys,b,hb,h=>by
  simp only[td]at h⊢;cases hx:fW x with
  |true=>
   rw[hx,aG]at h;rw[aG];cases hxy:x==y with
   |false=>rw[hxy]at h;cases h
   |true=>rw[hxy,aG]at h;rw[aG];exact Ni xs ys b hb h
  |false=>
   rw[hx,aL]at h;rw[aL];cases he:(xf b x y).2 with
   |false=>rw[he]at h;cases h
   |true=>rw[he,aG]at h;rw[aG];exact Ni xs ys _ (Yv he) h
theorem ZN{p f:aC}{b:aP}(hb:iP b=true)(h:(kN p f b).2=true):iP (kN p f b).1=true:=by
 unfold kN at h⊢;cases hc:w9 p&&(pL f&&(iP b&&(p.rel==f.rel&&decide (p.args.length=f.args.length))))with
 |false=>rw[hc]at h;cases h
 |true=>rw[hc,aG]at h;rw[aG];exact Ni _ _ _ hb h
theorem ZX{c:aS}{fs:aJ}{t u:aQ}(hb:iP t.bind=true)(hu:u∈BY c fs t):iP u.bind=true:=by
 unfold BY at hu;cases hk:decide (c.kind=1)with
 |true=>
  rw[hk,aG]at hu;obtain⟨f,hf,hu⟩:=cB.1 hu;unfold ext1 at hu;cases hm:(kN c.pat f t.bind).2 with
  |false=>rw[hm]at hu;cases hu
  |true=>
   rw[hm,aG]at hu;rw[cH.1 hu];exact ZN hb hm
 |false=>
  rw[hk,aL]at hu;cases hh:zm c t.bind fs with
  |false=>rw[hh]at hu;cases hu
  |true=>rw[hh,aG]at hu;rw[cH.1 hu];exact hb
theorem Qy(fs:aJ):∀(cs:ay) (A:ar),(∀t∈A,iP t.bind=true)->∀u∈cs.foldl (sI fs) A,iP u.bind=true
 | [],_,h=>h
 |c::cs,A,h=>Qy fs cs (sI fs A c) (fun u hu=>by
  obtain⟨t,ht,hu⟩:=cB.1 hu;exact ZX (h t ht) hu)
theorem Zt{cs:ay}{fs:aJ}:∀u∈rT cs fs,iP u.bind=true:=Qy fs cs [⟨[],[]⟩] (fun t ht=>by rw[cH.1 ht];rfl)
def bkS(b:aP)(w:aP)(x:aW):aP:=bif (rU b x.value).2 then xM x.var (rU b x.value).1 w else w
def bkB(b to:aP):aP:=to.foldl (bkS b) []
theorem a0h{b:aP}(h:iP b=true):PB b:=by
 have h6:=Dr h;refine⟨by omega,fun p hp=>?_⟩;obtain⟨h1,h2⟩:=Bg (ua h) p hp;have:=IJ h1;have:=Bf h2;omega
theorem a2h(b to:aP)(k:aP->Option aP):∀(l:aP) (i:Nat) (w:aP),(∀x∈l,x.value.length<=1048576)->w.length+l.length<=1000000->n7 b to k l i w=k (l.foldl (bkS b) w)
 | [],_,_,_,_=>rfl
 |x::l,i,w,h,hl=>by
  simp only[aR]at hl;have ih:=a2h b to k l (i+1);rw[n7,a5u b x.value (h x (by simp)),aA,cy,a7g w x.var _ (by omega),aA];unfold bkS;cases(rU b x.value).2 with
  |true=>rw[aG,aG];exact ih _ (fun y hy=>h y (by simp[hy])) (by rw[CZ];omega)
  |false=>rw[aL,aL];exact ih _ (fun y hy=>h y (by simp[hy])) (by omega)
theorem aCf(b to:aP)(h:∀x∈to,x.value.length<=1048576)(hl:to.length<=1000):xb b to=some (bkB b to):=by
 unfold xb;rw[a2h b to _ to 0 [] h (by simp;omega)];rfl
theorem a1R(a:aF)(w2:bL)(i2:Nat)(t:aQ)(i1:Nat)(r:aN)(y:aP)(nd:Node)(fs:aJ)(k:aP->Option bL)(hb:iP t.bind=true):∀(l:aP) (i:Nat) (w:aP),(∀x∈l,fp x.var=true/\fp x.value=true/\dR x.var w=none)->(l.map aW.var).Nodup->iP w=true->w.length+l.length<=6->gb a w2 i2 t i1 r y nd fs k l i w=k (l.foldl (bkS t.bind) w)
 | [],_,_,_,_,_,_=>rfl
 |x::l,i,w,h,hn,hw,hl=>by
  simp only[aR]at hl;rw[bA,gx]at hn;obtain⟨h1,h2,h3⟩:=h x (by simp);have ih:=a1R a w2 i2 t i1 r y nd fs k hb l (i+1);have hx:=IJ h1;have hv:=IJ h2;rw[gb,a5D t.bind x.value (by omega),aA,cy];unfold bkS;cases hval:(rU t.bind x.value).2 with
  |false=>rw[aL,aL];exact ih w (fun z hz=>h z (by simp[hz])) hn.2 hw (by omega)
  |true=>
   have PD:fW (rU t.bind x.value).1=true:=by
    unfold rU at hval⊢;rw[nj h2,h2,aL,aG]at hval⊢;cases hf:dR x.value t.bind with
    |none=>rw[hf]at hval;cases hval
    |some o=>
     obtain⟨p,hp,_,e⟩:=yW hf;dsimp only;rw[<-e];exact(Bg (ua hb) p hp).2
   have hal:=Bf PD;have hne:w.length≠6:=by omega
   have he:xf w x.var (rU t.bind x.value).1=(xM x.var (rU t.bind x.value).1 w,true):=by
    unfold xf;rw[hw,h1,PD,h3,ax hne];rfl
   rw[aG,aG,aBA w x.var _ (a0h hw) (by omega) (by omega),aA,he];refine ih _ (fun z hz=>?_) hn.2 (Ds h1 PD hw h3 hne) (by rw[CZ];omega);obtain⟨z1,z2,z3⟩:=h z (by simp[hz]);refine⟨z1,z2,?_⟩;rw[tE (fun e=>hn.1 (by rw[e];exact cJ.2 ⟨z,hz,rfl⟩))];exact z3
def cfT(r:aN)(t:aQ):ai:=⟨r.name,t.facts,bkB t.bind (iJ r)⟩
def TF(t:aQ):Prop:=t.facts.length<=1048576/\∀f∈t.facts,f.args.length<=1048576
theorem QX{r:aN}(h:fS r=true):(∀x∈iJ r,fp x.var=true/\fp x.value=true)/\((iJ r).map aW.var).Nodup/\(iJ r).length<=6:=by
 refine⟨fun x hx=>?_,Ac (yI r.conds) Tv.nil,Nk h⟩;obtain⟨i,hi,_,hval,hv⟩:=Ky (DI (yI r.conds) Vj.nil) hx;have:=Nk h;unfold iJ at this;exact⟨hv,by rw[hval];exact MX i (by omega)⟩
theorem a7Q(a:aF)(i1:Nat)(r:aN)(nd:Node)(k:bL->Option bL)(hr:fS r=true):∀(l:ar) (i:Nat) (w:bL),(∀t∈l,TF t)->w.length+l.length<=1099511627000->gi a i1 r (iJ r) nd k l i w=k (w++l.map (cfT r))
 | [],_,_,_,_=>by rw[gi];simp
 |t::l,i,w,h,hl=>by
  simp only[aR]at hl;obtain⟨n1,n2,n3⟩:=QX hr;obtain⟨h1,h2⟩:=h t (by simp);rw[gi,zJ t.facts h1 h2,aA,aCf t.bind (iJ r) (fun x hx=>by have:=IJ (n1 x hx).2;omega) (by omega),aA,gG (by omega) (by decide),aG,a7Q a i1 r nd k hr l _ _ (fun u hu=>h u (by simp[hu])) (by simp;omega)];simp[cfT]
theorem a6f(a:aF)(i1:Nat)(r:aN)(nd:Node)(k:bL->Option bL)(hr:fS r=true):∀(l:ar) (i:Nat) (w:bL),(∀t∈l,TF t/\iP t.bind=true)->w.length+l.length<=1099511627000->ga a i1 r (iJ r) nd k l i w=k (w++l.map (cfT r))
 | [],_,_,_,_=>by rw[ga];simp
 |t::l,i,w,h,hl=>by
  simp only[aR]at hl;obtain⟨n1,n2,n3⟩:=QX hr;obtain⟨⟨h1,h2⟩,h3⟩:=h t (by simp);rw[ga,wP t.facts h1 h2,aA,sF (by omega),aG,a1R _ _ _ _ _ _ _ _ _ _ h3 (iJ r) 0 [] (fun x hx=>⟨(n1 x hx).1,(n1 x hx).2,rfl⟩) n2 rfl (by simp;omega),gG (by omega) (by decide),aG,a6f a i1 r nd k hr l _ _ (fun u hu=>h u (by simp[hu])) (by simp;omega)];simp[cfT,bkB]
theorem IN(ns:bN)(fs:aJ):∀(l:bN) (i j:Nat),(pu ns fs l i)[j]?=(l[j]?).map fun x=>⟨x.parent,x.cond,x.cX,rT (ed ns (dS (i+j))) fs⟩
 | [],_,_=>by simp[pu]
 |x::l,i,0=>by simp[pu]
 |x::l,i,j+1=>by
  rw[pu,hY,hY,IN ns fs l (i+1) j,show i+1+j=i+(j+1)by omega]
def U1(n:aF)(i:Nat)(r:aN):Prop:=fS r=true/\r.wt<=1048576/\∃(b:Nat) (nd:Node),n.ends[i]?=some (dS b)/\n.nodes[b]?=some nd/\nd.tokens.length<=390625/\∀t∈nd.tokens,TF t/\iP t.bind=true
def a0w(n:aF)(i:Nat):ar:=match n.ends[i]? with
 |some e=>(match gA n.nodes e with|some nd=>nd.tokens|none=>[])
 |none=>[]
def Yp(n:aF):az->Nat->bL
 | [],_=>[]
 |r::rs,i=>(a0w n i).map (cfT r)++Yp n rs (i+1)
theorem U1.get{n:aF}{i:Nat}{r:aN}(h:U1 n i r):∃e nd,gA n.ends (i:Int)=some e/\gA n.nodes e=some nd/\a0w n i=nd.tokens/\nd.tokens.length<=390625/\∀t∈nd.tokens,TF t/\iP t.bind=true:=by
 obtain⟨_,_,b,nd,h1,h2,h3,h4⟩:=h;have e1:gA n.ends (i:Int)=some (dS b):=by unfold gA;rw[au (by omega),aG];exact h1
 have e2:gA n.nodes (dS b)=some nd:=by unfold gA dS;rw[au (by omega),aG];exact h2
 exact⟨dS b,nd,e1,e2,by unfold a0w;rw[h1];dsimp only;rw[e2],h3,h4⟩
theorem a7P(n:aF)(k:bL->Option bL)(hn:mc n=some true):∀(l:az) (i:Nat) (w:bL),(∀(j:Nat) r,l[j]?=some r->U1 n (i+j) r)->w.length+390625*l.length<=100000000->fm n k l i w=k (w++Yp n l i)
 | [],_,_,_,_=>by rw[fm];simp[Yp]
 |r::l,i,w,h,hl=>by
  simp only[aR]at hl;have h0:=h 0 r rfl;rw[wX]at h0;obtain⟨e,nd,g1,g2,g3,g4,g5⟩:=h0.get;rw[fm,hn,aA,aG,a2x r h0.2.1,aA,g1,aA,g2,aA,sF (by omega),aG,a7Q n i r nd _ h0.1 nd.tokens 0 w (fun t ht=>(g5 t ht).1) (by omega),a7P n k hn l (i+1) _ (fun j x hx=>by rw[show i+1+j=i+(j+1)by omega];exact h (j+1) x (by simpa using hx)) (by simp;omega),Yp,g3,dH]
theorem a6e(n:aF)(k:bL->Option bL):∀(l:az) (i:Nat) (w:bL),(∀(j:Nat) r,l[j]?=some r->U1 n (i+j) r)->w.length+390625*l.length<=100000000->gZ n k l i w=k (w++Yp n l i)
 | [],_,_,_,_=>by rw[gZ];simp[Yp]
 |r::l,i,w,h,hl=>by
  simp only[aR]at hl;have h0:=h 0 r rfl;rw[wX]at h0;obtain⟨e,nd,g1,g2,g3,g4,g5⟩:=h0.get;rw[gZ,a1c r h0.2.1,aA,g1,aA,g2,aA,sF (by omega),aG,a6f n i r nd _ h0.1 nd.tokens 0 w g5 (by omega),a6e n k l (i+1) _ (fun j x hx=>by rw[show i+1+j=i+(j+1)by omega];exact h (j+1) x (by simpa using hx)) (by simp;omega),Yp,g3,dH]
theorem UW{n:aF}(hb:Ge n=true)(hr:sD aN.wt n.rules<=1048576)(hf:sD aC.wt n.facts<=1048576):∀(i:Nat) r,n.rules[i]?=some r->U1 n i r:=by
 intro i r hri;unfold Ge Ov tH at hb;simp only[aU,bH]at hb;obtain⟨b1,b2,_,_,b3,_,_,b4⟩:=hb;have hm:=aE hri;have hv:=oQ b1 r hm;have hrw:r.wt<=1048576:=by have:=qS (w:=aN.wt) hm;omega
 obtain⟨b,e1,e2,e3⟩:=(vb [] n.rules).2.2 i r hri;have hx:=av e2;have h4:=zo hv;have h24:=qG b2;have Sr:=FS.Ff hf;refine⟨hv,hrw,b,⟨((cZ [] n.rules).1.2[b]).parent,((cZ [] n.rules).1.2[b]).cond,((cZ [] n.rules).1.2[b]).cX,rT (gF r) n.facts⟩,by rw[b3];exact e1,?_,Qx h4 h24,?_⟩
 ·rw[b4];unfold fR;rw[IN,hx,cY,e3];rfl
 ·intro t ht;have ht':t∈(gF r).foldl (sI n.facts) [⟨[],[]⟩]:=ht;have hk:=Tn Sr (gF r) [⟨[],[]⟩] 0 (IB hv) TR t ht';exact⟨⟨by have:=hk.1;omega,fun f hff=>aC.dZ (hk.2.1 f hff)⟩,Zt t ht⟩
theorem aCk(n:aF)(hr:sD aN.wt n.rules<=1048576)(hf:sD aC.wt n.facts<=1048576):fe n=some (bif Ge n then Yp n n.rules 0 else []):=by
 unfold fe;have hi:=Wu n hr hf;cases hb:Ge n with
 |true=>
  rw[hb]at hi;have h6:n.rules.length<=6:=by
   have On:=hb;unfold Ge qU at On;simp only[aU,bH]at On;omega
  rw[a7P n _ hi n.rules 0 [] (fun j r hj=>by rw[cY];exact UW hb hr hf j r hj) (by simp;omega)];rfl
 |false=>
  rw[hb]at hi;cases v7:n.rules with
  |nil=>rfl
  |cons r rs=>rw[fm,hi];rfl
theorem aB9(n:aF)(hr:sD aN.wt n.rules<=1048576)(hf:sD aC.wt n.facts<=1048576):xu n=some (bif Ge n then Yp n n.rules 0 else []):=by
 unfold xu fc;rw[TA n hr hf,aA];cases hb:Ge n with
 |true=>
  have h6:n.rules.length<=6:=by
   have On:=hb;unfold Ge qU at On;simp only[aU,bH]at On;omega
  rw[a6e n _ n.rules 0 [] (fun j r hj=>by rw[cY];exact UW hb hr hf j r hj) (by simp;omega)];rfl
 |false=>rfl
def findF(f:aC):aJ->Nat->Int
 | [],_=> -1
 |x::xs,i=>if x=f then(i:Int)else findF f xs (i+1)
theorem Bj(f:aC):∀(l:aJ) (i:Nat),decide (findF f l i>=0)=decide (f∈l)
 | [],i=>by simp[findF]
 |x::xs,i=>by
  rw[findF];by_cases h:x=f
  ·rw[bO h];subst h;simp
  ·rw[bE h,Bj f xs (i+1)];have:f≠x:=fun e=>h e.symm
   simp[this]
theorem Wt(l:aJ)(f:aC):qd l f=some (findF f l 0):=by
 unfold qd;have:∀(r:aJ) (i:Nat),mG l f (some (-1)) r i=some (findF f r i):=by
  intro r
  induction r with
  |nil=>intro i;rfl
  |cons x xs ih=>
   intro i;rw[mG,Ww,aA,ih,findF];by_cases h:x=f
   ·rw[au h,bO h,aG]
   ·rw[ax h,bE h,aL]
 exact this l 0
theorem WS(l:aJ)(f:aC):qY l f=some (findF f l 0):=by
 unfold qY;have:∀(r:aJ) (i:Nat),lf l f (some (-1)) r i=some (findF f r i):=by
  intro r
  induction r with
  |nil=>intro i;rfl
  |cons x xs ih=>
   intro i;rw[lf,a1e,aA,ih,findF];by_cases h:x=f
   ·rw[au h,bO h,aG]
   ·rw[ax h,bE h,aL]
 exact this l 0
theorem a6i(m:ai)(f:aC):jw m f=some (decide (f∈m.facts)):=by
 unfold jw;rw[WS,aA,Bj]
theorem Rm{a b:Bytes}(h:ya a b>0):ya b a<0:=by
 unfold ya at h⊢;by_cases h1:Op.bytesLess a b=true
 ·rw[bO h1]at h;omega
 ·rw[bE h1]at h;by_cases h2:a=b
  ·rw[bO h2]at h;omega
  ·have h3:Op.bytesLess b a=true:=by
    cases hb:Op.bytesLess b a with
    |true=>rfl
    |false=>exact absurd (Gp (by simpa using h1) hb) h2
   rw[bO h3];omega
theorem Ro{a b:Bytes}(h:ya a b=0):a=b:=dK fun hne=>Sl hne h
theorem Pf{a b:Bytes}(h:ya a b<0):ya b a>0:=by
 unfold ya at h⊢;by_cases h1:Op.bytesLess a b=true
 ·have h3:=LN h1;have h4:¬(Op.bytesLess b a=true):=by rw[h3];simp
  have h5:¬b=a:=fun e=>by subst e;rw[sK]at h1;cases h1
  rw[bE h4,bE h5];omega
 ·rw[bE h1]at h;by_cases h2:a=b
  ·rw[bO h2]at h;omega
  ·rw[bE h2]at h;omega
theorem Ri(a b:Bytes):(Cn a b>0->Cn b a<0)/\(Cn a b=0->a=b)/\(Cn a b<0->Cn b a>0):=by
 have num:∀ {s:Bytes} {n:Nat},zL s=some n->Lib.decDigits n=s:=by
  intro s n h;unfold zL at h;split at h
  ·split at h
   ·split at h
    ·rename_i h2;cases h;exact h2
    ·cases h
   ·cases h
  ·cases h
 unfold Cn;cases ha:zL a with
 |none=>
  cases hb:zL b with
  |none=>exact⟨Rm,Ro,Pf⟩
  |some y=>simp
 |some x=>
  cases hb:zL b with
  |none=>simp
  |some y=>
   simp only[Ia];refine⟨fun h=>?_,fun h=>?_,fun h=>?_⟩
   ·split at h
    ·omega
    ·split at h
     ·rw[bO (by omega)];omega
     ·omega
   ·split at h
    ·omega
    ·split at h
     ·omega
     ·have:x=y:=by omega
      rw[<-num ha,<-num hb,this]
   ·split at h
    ·rw[bE (by omega),bO (by omega)];omega
    ·split at h<;>omega
theorem Po{G:Type}{g:G->G->Int}(hg:∀a b,(g a b>0->g b a<0)/\(g a b=0->a=b)/\(g a b<0->g b a>0)):∀(a b:List G),
 (∀z,vR g a b=some z->z≠0/\∃y,vR g b a=some y/\(z>0->y<0)/\(z<0->y>0))/\(vR g a b=none->vR g b a=none/\(a.length=b.length->a=b))
 | [],[]=>⟨fun z h=>(by simp[vR]at h),fun _=>⟨rfl,fun _=>rfl⟩⟩
 | [],y::ys=>⟨fun z h=>(by simp[vR]at h),fun _=>⟨by simp[vR],fun h=>by simp at h⟩⟩
 |x::xs,[]=>⟨fun z h=>(by simp[vR]at h),fun _=>⟨by simp[vR],fun h=>by simp at h⟩⟩
 |x::xs,y::ys=>by
  obtain⟨i1,i2⟩:=Po hg xs ys;obtain⟨g1,g2,g3⟩:=hg x y;by_cases h0:g x y=0
  ·have e:=g2 h0;subst e;simp only[vR,h0,ne_eq,not_true_eq_false,AE];exact⟨i1,fun h=>⟨(i2 h).1,fun hl=>by rw[(i2 h).2 (by simpa using hl)]⟩⟩
  ·have h1:g y x≠0:=by
    intro e;by_cases hp:g x y>0
    ·have:=g1 hp;omega
    ·have:=g3 (by omega);omega
   simp only[vR,ne_eq,h0,h1,not_false_eq_true,nN];refine⟨fun z h=>?_,fun h=>by cases h⟩;cases h;exact⟨h0,_,rfl,g1,g3⟩
theorem Rl{G:Type}{g:G->G->Int}(hg:∀a b,(g a b>0->g b a<0)/\(g a b=0->a=b)/\(g a b<0->g b a>0))(a b:List G):(cmpL g a b>0->cmpL g b a<0)/\(cmpL g a b=0->a=b)/\(cmpL g a b<0->cmpL g b a>0):=by
 obtain⟨h1,h2⟩:=Po hg a b;unfold cmpL;cases hd:vR g a b with
 |some z=>
  obtain⟨hz,y,hy,p,q⟩:=h1 z hd;rw[hy];exact⟨p,fun e=>absurd e hz,q⟩
 |none=>
  obtain⟨h3,h4⟩:=h2 hd;rw[h3];simp only[Ia];refine⟨fun h=>?_,fun h=>?_,fun h=>?_⟩
  ·split at h
   ·omega
   ·split at h
    ·rw[bO (by omega)];omega
    ·omega
  ·split at h
   ·omega
   ·split at h
    ·omega
    ·exact h4 (by omega)
  ·split at h
   ·rw[bE (by omega),bO (by omega)];omega
   ·split at h<;>omega
theorem Bh(a b:aC):(oJ a b>0->oJ b a<0)/\(oJ a b=0->a=b)/\(oJ a b<0->oJ b a>0):=by
 obtain⟨h1,h2,h3⟩:=Rl Ri a.args b.args;unfold oJ;by_cases hr:a.rel=b.rel
 ·rw[bE (by simpa using hr),bE (by simpa using hr.symm)];refine⟨h1,fun h=>?_,h3⟩;cases a;cases b;simp only at hr h2 h;rw[hr,h2 h]
 ·have hr2:b.rel≠a.rel:=fun e=>hr e.symm
  rw[bO hr,bO hr2];exact⟨Rm,fun h=>absurd (Ro h) hr,Pf⟩
def xK(f:aC):aJ->aJ
 | []=>[f]
 |x::xs=>if oJ x f>0 then f::x::xs else x::xK f xs
theorem MN(f:aC):∀(l:aJ) (x:aC),x∈xK f l↔x=f\/x∈l
 | [],x=>by simp[xK]
 |y::ys,x=>by
  rw[xK];split
  ·simp
  ·simp only[bV,MN f ys x];constructor
   ·rintro(h|h|h)<;>simp[h]
   ·rintro(h|h|h)<;>simp[h]
theorem QE(f:aC):∀(l:aJ),(xK f l).length=l.length+1
 | []=>rfl
 |y::ys=>by rw[xK];split<;>simp[QE f ys]
theorem Rg{f:aC}(hf:pL f=true):∀(l:aJ) (p:Option aC),chainB p l=true->f∉l->(∀q,p=some q->oJ q f<0)->chainB p (xK f l)=true
 | [],p,_,_,hp=>by
  cases p with
  |none=>simp[xK,chainB,hf]
  |some q=>simp[xK,chainB,hf,hp q rfl]
 |x::xs,p,h,hn,hp=>by
  simp only[bV,Gj]at hn;have hx:chainB (some x) xs=true/\pL x=true/\(∀q,p=some q->oJ q x<0):=by
   cases p with
   |none=>simp[chainB]at h;exact⟨h.2,h.1,by simp⟩
   |some q=>
    simp only[chainB,aU,bH]at h;exact⟨by first|exact h.2.2|exact h.2,by first|exact h.1.1|exact h.1,fun q' e=>by cases e;first|exact h.1.2|exact h.2.1⟩
  rw[xK];split
  ·rename_i hgt;have h1:=(Bh x f).1 hgt;cases p with
   |none=>simp[chainB,hf,hx.2.1,h1,hx.1]
   |some q=>simp[chainB,hf,hx.2.1,h1,hx.1,hp q rfl]
  ·rename_i hle;have hlt:oJ x f<0:=by
    have:oJ x f≠0:=fun e=>hn.1 ((Bh x f).2.1 e).symm
    omega
   have ih:=Rg hf xs (some x) hx.1 hn.2 (fun q e=>by cases e;exact hlt);cases p with
   |none=>simp[chainB,hx.2.1,ih]
   |some q=>simp[chainB,hx.2.1,ih,hx.2.2 q rfl]
theorem Se{f:aC}{l:aJ}(hf:pL f=true)(hl:fK l=true)(hn:f∉l)(h24:l.length≠24):fK (xK f l)=true:=by
 unfold fK at hl⊢;simp only[aU,bH]at hl⊢;exact⟨Rg hf l none hl.1 hn (by simp),by rw[QE];omega⟩
theorem aCq(a:aJ)(f:aC)(K:Bool->aJ->Option aJ)(hf:f.args.length<=1099511627776):∀(rest:aJ) (i:Nat) (v:Bool) (w:aJ),(∀x∈rest,x.args.length<=1099511627776)->w.length+2*rest.length<=1048576->f∉rest->
 (v=true->dF a f K rest i v w=K true (w++rest))/\
 (v=false->(dF a f K rest i v w=K true (w++xK f rest))\/(dF a f K rest i v w=K false (w++rest)/\xK f rest=rest++[f])):=by
 intro rest
 induction rest with
 |nil=>intro i v w _ _ _;exact⟨fun h=>by subst h;simp[dF],fun h=>by subst h;exact .inr ⟨by simp[dF],rfl⟩⟩
 |cons x xs ih=>
  intro i v w hs hl hn;simp only[aR]at hl;simp only[bV,Gj]at hn;have hx:=hs x (by simp);have hs':∀y∈xs,y.args.length<=1099511627776:=fun y hy=>hs y (by simp[hy])
  have cx:=zu x hx;have cf:=zu f hf;have nx:=fun w':aJ=>fun h:w'.length<1099511627776=>gG (w:=w') (c:=aC.c) (y:=[D.str x.rel,D.sl (x.args.map tx)]) (b:=40) h (by decide)
  have nf:=fun w':aJ=>fun h:w'.length<1099511627776=>gG (w:=w') (c:=aC.c) (y:=[D.str f.rel,D.sl (f.args.map tx)]) (b:=40) h (by decide)
  constructor
  ·intro h;subst h;rw[dF,bU,aL,cx,aA,nx w (by omega),aG,(ih (i+1) true (w++[x]) hs' (by simp;omega) hn.2).1 rfl];simp
  ·intro h;subst h;rw[dF,bt,aG,VJ,aA];by_cases hgt:oJ x f>0
   ·left
    have e2:room (((w.map aC.c)++[[D.str f.rel,D.sl (f.args.map tx)]]).length+[[D.str x.rel,D.sl (x.args.map tx)]].length) 40=true:=by
     have:=nx (w++[f]) (by simp;omega);rw[bI]at this;exact this
    rw[au (by omega:oJ x f>=0),aG,aA,au hgt,aG,cf,aA,nf w (by omega),aG,cx,aA,e2,aG];rw[(ih (i+1) true (w++[f]++[x]) hs' (by simp;omega) hn.2).1 rfl,xK,bO hgt];simp
   ·have hlt:¬oJ x f>=0:=by
     have:oJ x f≠0:=fun e=>hn.1 ((Bh x f).2.1 e).symm
     omega
    rw[ax hlt,aL,cx,aA,nx w (by omega),aG];rw[xK,bE hgt];rcases(ih (i+1) false (w++[x]) hs' (by simp;omega) hn.2).2 rfl with q|⟨q1,q2⟩
    ·left;rw[q];simp
    ·right;rw[q1,q2];simp
theorem a7W(l:aJ)(f:aC)(hf:f.args.length<=1099511627776)(hl:∀x∈l,x.args.length<=1099511627776)(hn:l.length<=1000)(hm:f∉l):lW l f=some (xK f l):=by
 unfold lW;rcases(aCq l f _ hf l 0 false [] hl (by simp;omega) hm).2 rfl with q|⟨q1,q2⟩
 ·rw[q];rfl
 ·rw[q1,q2];show(bif !false then _ else _)=_;rw[bt,aG,zu f hf,aA,eN,gG (w:=l) (c:=aC.c) (y:=[D.str f.rel,D.sl (f.args.map tx)]) (by omega) (by decide),aG]
def IZ(l:aJ)(f:aC):aJ×Bool:=if fK l=true/\pL f=true/\f∉l/\l.length≠24 then(xK f l,true)else(l,false)
theorem aCb(l:aJ)(f:aC)(hl:sD aC.wt l<=1048576)(hf:f.wt<=1048576):wK l f=some (IZ l f):=by
 have hm:∀x∈l,x.args.length<=1048576:=fun x hx=>by have:=aC.dZ (n:=1048576) (p:=x) (by have:=qS (w:=aC.wt) hx;omega);omega
 have hlen:=tK aC.wt l;have cp:=zJ l (by omega) hm;unfold wK IZ;rw[a2g l hl,aA];cases h1:fK l with
 |false=>rw[bt,aG,cp,aA,bE (by simp)]
 |true=>
  rw[bU,aL,a2s f hf,aA];cases h2:pL f with
  |false=>rw[bt,aG,cp,aA,bE (by simp)]
  |true=>
   rw[bU,aL,Wt,aA,Bj];by_cases h3:f∈l
   ·rw[au h3,aG,cp,aA,bE (by simp[h3])]
   ·rw[ax h3,aL,aq];by_cases h4:l.length=24
    ·have e:(((l.length:Nat):Int)==(24:Int))=true:=by simp[h4]
     rw[e,aG,cp,aA,bE (by simp[h4])]
    ·have e:(((l.length:Nat):Int)==(24:Int))=false:=by simp;omega
     rw[e,aL,a7W l f (by have:=aC.dZ hf;omega) (fun x hx=>by have:=hm x hx;omega) (by have:=qG h1;omega) h3,aA,bO ⟨rfl,rfl,h3,h4⟩]
theorem Pg{a b c:Bytes}(h1:ya a b<0)(h2:ya b c<0):ya a c<0:=by
 have lt:∀ {x y:Bytes},ya x y<0->Op.bytesLess x y=true:=by
  intro x y h;unfold ya at h;split at h
  ·assumption
  ·split at h<;>omega
 have:=AH (lt h1) (lt h2);unfold ya;rw[bO this];omega
theorem a4c{x y:Int}:Ia x y<0↔x<y:=by
 unfold Ia;split
 ·omega
 ·split<;>omega
theorem Vr{a b c:Bytes}(h1:Cn a b<0)(h2:Cn b c<0):Cn a c<0:=by
 unfold Cn at*;cases ha:zL a<;>cases hb:zL b<;>cases hc:zL c<;>simp only[ha,hb,hc]at h1 h2⊢ <;>first|omega|exact Pg h1 h2| (rw[a4c]at*;omega)
theorem a4b{G:Type}(g:G->G->Int):cmpL g [] []=0:=rfl
theorem a4a{G:Type}(g:G->G->Int)(y:G)(ys:List G):cmpL g [] (y::ys)= -1:=by
 unfold cmpL vR Ia;simp<;>omega
theorem Xd{G:Type}(g:G->G->Int)(x:G)(xs:List G):cmpL g (x::xs) []=1:=by
 unfold cmpL vR Ia;simp<;>omega
theorem Xc{G:Type}(g:G->G->Int)(x y:G)(xs ys:List G):cmpL g (x::xs) (y::ys)=if g x y≠0 then g x y else cmpL g xs ys:=by
 unfold cmpL;rw[vR];by_cases h:g x y≠0
 ·rw[bO h,bO h]
 ·rw[bE h,bE h,aR,aR];cases vR g xs ys with
  |some z=>rfl
  |none=>
   show Ia _ _=Ia _ _;unfold Ia
   congr 1
   ·rw[wC];omega
   ·congr 1
    rw[wC];omega
theorem Pe{G:Type}{g:G->G->Int}(h0:∀a b,g a b=0->a=b)(ht:∀a b c,g a b<0->g b c<0->g a c<0):∀(a b c:List G),cmpL g a b<0->cmpL g b c<0->cmpL g a c<0
 | [],[],c,h1,_=>by rw[a4b]at h1;omega
 |_::_,[],c,h1,_=>by rw[Xd]at h1;omega
 |_,y::ys,[],_,h2=>by rw[Xd]at h2;omega
 | [],y::ys,z::zs,_,_=>by rw[a4a];omega
 |x::xs,y::ys,z::zs,h1,h2=>by
  rw[Xc]at*;by_cases e1:g x y=0
  ·have:=h0 _ _ e1;subst this;rw[bE (by omega)]at h1;by_cases e2:g x z=0
   ·rw[bE (by omega)]at h2⊢;exact Pe h0 ht xs ys zs h1 h2
   ·rw[bO e2]at h2⊢;exact h2
  ·rw[bO e1]at h1;by_cases e2:g y z=0
   ·have:=h0 _ _ e2;subst this;rw[bO e1];exact h1
   ·rw[bO e2]at h2;have:=ht x y z h1 h2;rw[bO (by omega)];exact this
theorem Pd{a b c:aC}(h1:oJ a b<0)(h2:oJ b c<0):oJ a c<0:=by
 unfold oJ at*;by_cases e1:a.rel=b.rel
 ·by_cases e2:b.rel=c.rel
  ·rw[bE (by simpa using e1)]at h1;rw[bE (by simpa using e2)]at h2;rw[bE (by simpa using e1.trans e2)];exact Pe (fun a b=>(Ri a b).2.1) (fun _ _ _=>Vr) _ _ _ h1 h2
  ·rw[bO e2]at h2;rw[e1,bO e2];exact h2
 ·rw[bO e1]at h1;by_cases e2:b.rel=c.rel
  ·rw[<-e2,bO e1];exact h1
  ·rw[bO e2]at h2;have:=Pg h1 h2;have hne:a.rel≠c.rel:=fun e=>by rw[e,Rn]at this;omega
   rw[bO hne];exact this
theorem Rk(a:aC):¬oJ a a<0:=by
 intro h;have:=(Bh a a).2.2 h;omega
theorem Rj(a:aC):oJ a a=0:=by
 have h1:=Rk a;have h2:=(Bh a a).1;omega
theorem IM{a b:aJ}:cmpL oJ a b=0↔a=b:=by
 constructor
 ·exact(Rl Bh a b).2.1
 ·rintro rfl
  induction a with
  |nil=>rfl
  |cons x xs ih=>rw[Xc,bE (by simp[Rj]),ih]
theorem yP{p:Option aC}{x:aC}{xs:aJ}(h:chainB p (x::xs)=true):pL x=true/\(∀q,p=some q->oJ q x<0)/\chainB (some x) xs=true:=by
 cases p with
 |none=>simp[chainB]at h;exact⟨h.1,by simp,h.2⟩
 |some q=>
  simp only[chainB,aU,bH]at h;exact⟨h.1.1,fun q' e=>by cases e;exact h.1.2,h.2⟩
theorem NA:∀ {l:aJ} {p:aC},chainB (some p) l=true->∀x∈l,oJ p x<0
 | [],_,_,_,h=>by cases h
 |y::ys,p,h,x,hx=>by
  obtain⟨_,h2,h3⟩:=yP h;have hp:=h2 p rfl;rcases bV.1 hx with rfl|hx
  ·exact hp
  ·exact Pd hp (NA h3 x hx)
theorem LO:∀ {l:aJ} {p:Option aC},chainB p l=true->l.Nodup
 | [],_,_=>List.nodup_nil
 |x::xs,p,h=>by
  obtain⟨_,_,h3⟩:=yP h;rw[gx];exact⟨fun hx=>Rk x (NA h3 x hx),LO h3⟩
theorem Gm{l:aJ}(h:fK l=true):l.Nodup:=by
 unfold fK at h;simp only[aU]at h;exact LO h.1
theorem O8:∀ {l:aJ} {p:Option aC},chainB p l=true->∀x∈l,pL x=true
 | [],_,_,_,h=>by cases h
 |y::ys,p,h,x,hx=>by
  obtain⟨h1,_,h3⟩:=yP h;rcases bV.1 hx with rfl|hx
  ·exact h1
  ·exact O8 h3 x hx
def BW(f:aC)(l:aJ):aJ:=l.filter fun x=> !decide (x=f)
theorem UP{p:Option aC}{x:aC}{xs:aJ}(h:chainB (some x) xs=true)(hp:∀q,p=some q->oJ q x<0):chainB p xs=true:=by
 cases xs with
 |nil=>cases p<;>rfl
 |cons y ys=>
  obtain⟨h1,h2,h3⟩:=yP h;cases p with
  |none=>simp[chainB,h1,h3]
  |some q=>simp[chainB,h1,h3,Pd (hp q rfl) (h2 x rfl)]
theorem Pc(f:aC):∀(l:aJ) (p:Option aC),chainB p l=true->chainB p (BW f l)=true
 | [],_,h=>h
 |x::xs,p,h=>by
  obtain⟨h1,h2,h3⟩:=yP h;have ih:=Pc f xs;unfold BW at*;by_cases e:x=f
  ·rw[gz (by simp[e])];exact ih p (UP h3 h2)
  ·rw[hG (by simp[e])];have:=ih (some x) h3;cases p with
   |none=>simp[chainB,h1,this]
   |some q=>simp[chainB,h1,this,h2 q rfl]
theorem XS{l:aJ}(f:aC)(h:fK l=true):fK (BW f l)=true:=by
 unfold fK at h⊢;simp only[aU,bH]at h⊢;exact⟨Pc f l none h.1,eZ (lF _ _) h.2⟩
theorem XR{l:aJ}{f:aC}(h:(IZ l f).2=true):fK (IZ l f).1=true:=by
 unfold IZ at h⊢;split at h
 ·rename_i hc;rw[bO hc];exact Se hc.2.1 hc.1 hc.2.2.1 hc.2.2.2
 ·cases h
def Kv(l:aJ)(f:aC):aJ×Bool:=if fK l=true/\f∈l then(BW f l,true)else(l,false)
theorem Zm{p:aC}(h:w9 p=true)(hl:p.args.length<=5):Cov (vn p) p:=by
 have hT:∀t∈p.args,nC t=true:=PM h;refine⟨Zn h hl,h,rfl,unB (p.args.foldl kO []),?_,fun y hy=>?_⟩
 ·rw[Kw,sU];have:p.args.map (unB (p.args.foldl kO [])∘Dl (p.args.foldl kO []))=p.args.map id:=by
   apply nr;intro t ht;exact aDD hl ht (hT t ht)
  rw[this,List.map_id]
 ·refine O2 fun q hq e=>?_
  obtain⟨i,hi,_,hpv,_⟩:=Ky (DI p.args Vj.nil) hq;have h5:=DB p.args;have:=nj (MX i (by omega));rw[<-hpv,e,hy]at this;cases this
theorem S4{p f:aC}{b:aP}(hl:p.args.length<=5)(hm:(kN p f b).2=true):(kN (vn p) f []).2=true:=by
 unfold kN at hm;cases hc:(w9 p&&(pL f&&(iP b&&(p.rel==f.rel&&decide (p.args.length=f.args.length)))))with
 |false=>rw[hc]at hm;cases hm
 |true=>
  rw[hc,aG]at hm;simp only[aU,bH,cr]at hc;obtain⟨c1,c2,c3,c4,c5⟩:=hc;obtain⟨h,_,h2,h3⟩:=CS p.args f.args b c5 (fun x hx=>(Bg (ua c3) x hx).1) hm;exact a4f (Zm c1 hl) (QT.2 ⟨c1,c2,c4,h,h2,h3⟩)
theorem Ps{c:aS}(hl:c.pat.args.length<=5)(t:aQ):∀fs:aJ,(sC (vn c.pat) [] fs).flatMap (ext1 c t)=fs.flatMap (ext1 c t)
 | []=>rfl
 |f::fs=>by
  have ih:=Ps hl t fs;unfold sC at*;cases hm:(kN (vn c.pat) f []).2 with
  |true=>rw[hG (by rw[hm]),cw,cw,ih]
  |false=>
   have h0:ext1 c t f=[]:=by
    unfold ext1;cases h2:(kN c.pat f t.bind).2 with
    |false=>rfl
    |true=>rw[S4 hl h2]at hm;cases hm
   rw[gz (by simp[hm]),cw,h0,ih];rfl
theorem Z1{p:aC}{b:aP}(hl:p.args.length<=5)(fs:aJ):sC p b (sC (vn p) [] fs)=sC p b fs:=by
 unfold sC;rw[Br];apply Cv;intro f _;cases h:(kN p f b).2 with
 |false=>rfl
 |true=>rw[S4 hl h];rfl
theorem ZY{c:aS}(hl:c.pat.args.length<=5)(fs:aJ)(A:ar):sI (sC (vn c.pat) [] fs) A c=sI fs A c:=by
 unfold sI
 congr 1
 funext t
 unfold BY zm;rw[Ps hl,Z1 hl]
theorem a2H{c:aS}(h1:c.kind≠1)(h2:c.kind≠2)(fs:aJ)(A:ar):sI [] A c=sI fs A c:=by
 unfold sI
 congr 1
 funext t
 unfold BY zm;rw[ax h1,ax h2];rfl
def KD(A:ar):Prop:=A.Pairwise fun t u=>t.facts≠u.facts
theorem Kl{c:aS}{t u:aQ}{f:aC}(h:u∈ext1 c t f):u.facts=t.facts++[f]:=by
 unfold ext1 at h;cases hm:(kN c.pat f t.bind).2 with
 |false=>rw[hm]at h;cases h
 |true=>rw[hm,aG]at h;rw[cH.1 h]
theorem QY{c:aS}{fs:aJ}{t u:aQ}(h:u∈BY c fs t):(c.kind=1/\∃f∈fs,u.facts=t.facts++[f])\/(c.kind≠1/\u=t):=by
 unfold BY at h;by_cases hk:c.kind=1
 ·rw[au hk,aG]at h;obtain⟨f,hf,hu⟩:=cB.1 h;exact .inl ⟨hk,f,hf,Kl hu⟩
 ·rw[ax hk,aL]at h;cases hh:zm c t.bind fs with
  |false=>rw[hh]at h;cases h
  |true=>rw[hh,aG]at h;exact .inr ⟨hk,cH.1 h⟩
theorem a5W{c:aS}{fs:aJ}{A:ar}(hf:fs.Nodup)(hA:KD A):KD (sI fs A c):=by
 unfold KD sI;rw[zQ];refine⟨fun t _=>?_,?_⟩
 ·unfold BY;cases decide (c.kind=1)with
  |true=>
   rw[aG,zQ];refine⟨fun f _=>?_,?_⟩
   ·unfold ext1;cases(kN c.pat f t.bind).2<;>simp
   ·exact List.Pairwise.imp (fun {f g} hne x hx y hy e=>by
     rw[Kl hx,Kl hy]at e;exact hne (by simpa using e)) hf
  |false=>cases zm c t.bind fs<;>simp
 ·exact List.Pairwise.imp (fun {t u} hne x hx y hy e=>by
   rcases QY hx with⟨k,f,_,e1⟩|⟨k,e1⟩<;>rcases QY hy with⟨k',g,_,e2⟩|⟨k',e2⟩
   ·rw[e1,e2]at e;exact hne (List.append_inj' e rfl).1
   ·exact k' k
   ·exact k k'
   ·rw[e1,e2]at e;exact hne e) hA
theorem KD.one(t:aQ):KD [t]:=List.pairwise_singleton _ _
theorem Xm{fs:aJ}(hf:fs.Nodup):∀(cs:ay) {A:ar},KD A->KD (cs.foldl (sI fs) A)
 | [],_,h=>h
 |c::cs,_,h=>Xm hf cs (a5W hf h)
theorem YS{cs:ay}{fs:aJ}(hf:fs.Nodup):KD (rT cs fs):=Xm hf cs (KD.one _)
def YM(t:aQ)(l:ar):ar:=l.filter fun u=>decide (t.facts=u.facts)
def RI(l:ar)(t:aQ):Bool:=l.any fun u=>decide (u.facts=t.facts)
def MO(now old:ar):Nat:=(now.filter fun t=>RI old t).length
theorem SA{t:aQ}:∀ {l:ar},KD l->(YM t l).length=(bif RI l t then 1 else 0)
 | [],_=>rfl
 |u::l,h=>by
  unfold KD at h;rw[lZ]at h;have ih:=SA (t:=t) (l:=l) h.2;unfold YM RI at*;by_cases e:t.facts=u.facts
  ·rw[hG (by simp[e]),tM,au e.symm,Bool.true_or,aG,aR,ih];have:(l.any fun u=>decide (u.facts=t.facts))=false:=by
    rw[yd];intro w hw;have:=h.1 w hw;rw[<-e]at this;simp only[bH];exact fun e2=>this e2.symm
   rw[this];rfl
  ·rw[gz (by simp[e]),tM,ax (fun h=>e h.symm),rA,ih]
def Od(al:bP)(x:Node):Prop:=(x.cond.kind=1\/x.cond.kind=2->∃a:Nat,x.cX=dS a/\∃y,al[a]?=some y/\y.shape=vn x.cond.pat)/\(¬(x.cond.kind=1\/x.cond.kind=2)->x.cX= -1)
theorem Od.mono{al:bP}{x:Node}(h:Od al x)(m:bP):Od (al++m) x:=⟨fun hk=>by
 obtain⟨a,h1,y,h2,h3⟩:=h.1 hk;exact⟨a,h1,y,by rw[bJ (aO.1 h2).1];exact h2,h3⟩,h.2⟩
theorem UC{sh:aC}:∀ {l:bP} {i j:Nat},Ym sh l i=some j->∃x,l[j-i]?=some x/\i<=j/\x.shape=sh
 |x::l,i,j,h=>by
  unfold Ym at h;split at h
  ·rename_i hc;cases h;exact⟨x,by simp,br _,hc⟩
  ·obtain⟨y,h1,h2,h3⟩:=UC h;refine⟨y,?_,by omega,h3⟩;rw[show j-i=(j-(i+1))+1 by omega];exact h1
theorem a7z(al:bP)(sh:aC):(∃m,(XO al sh).1=al++m)/\∃a:Nat,(XO al sh).2=dS a/\∃y,(XO al sh).1[a]?=some y/\y.shape=sh:=by
 unfold XO;cases h:Ym sh al 0 with
 |some i=>
  obtain⟨x,h1,_,h3⟩:=UC h;exact⟨⟨[],by simp⟩,i,rfl,x,by simpa using h1,h3⟩
 |none=>exact⟨⟨_,rfl⟩,al.length,rfl,⟨sh,[]⟩,by simp,rfl⟩
theorem a84(al:bP)(c:aS)(p:Int)(tk:ar):(∃m,(Rc al c).1=al++m)/\Od (Rc al c).1 ⟨p,c,(Rc al c).2,tk⟩:=by
 unfold Rc;by_cases hk:c.kind=1\/c.kind=2
 ·rw[bO hk];obtain⟨h1,h2⟩:=a7z al (vn c.pat);exact⟨h1,fun _=>h2,fun h=>absurd hk h⟩
 ·rw[bE hk];exact⟨⟨[],by simp⟩,fun h=>absurd h hk,fun _=>rfl⟩
theorem a86{al:bP}{ns:bN}{p:Int}{c:aS}(h:∀x∈ns,Od al x):∀x∈(Mx al ns p c).1.2,Od (Mx al ns p c).1.1 x:=by
 unfold Mx;cases RE p c ns 0 with
 |some i=>exact h
 |none=>
  obtain⟨⟨m,hm⟩,h2⟩:=a84 al c p [];intro x hx;rcases aX.1 hx with hx|hx
  ·show Od (Rc al c).1 x;rw[hm];exact(h x hx).mono m
  ·rw[cH.1 hx];exact h2
theorem a3G:∀(cs:ay) (s:(bP×bN)×Int),(∀x∈s.1.2,Od s.1.1 x)->∀x∈(cs.foldl IV s).1.2,Od (cs.foldl IV s).1.1 x
 | [],_,h=>h
 |c::cs,s,h=>a3G cs (IV s c) (a86 h)
theorem a3H:∀(l:az) (z:(bP×bN)×bM),(∀x∈z.1.2,Od z.1.1 x)->∀x∈(l.foldl Jq z).1.2,Od (l.foldl Jq z).1.1 x
 | [],_,h=>h
 |r::l,z,h=>a3H l (Jq z r) (a3G (gF r) (z.1,0) h)
theorem a5y(tk:ar)(rs:az):∀x∈(cZ tk rs).1.2,Od (cZ tk rs).1.1 x:=
 a3H rs (([],[root tk]),[]) (fun x hx=>by
  rw[cH.1 hx];exact⟨fun h=>by simp[root]at h,fun _=>rfl⟩)
theorem a3N{tk:ar}{rs:az}{i:Nat}{x:Node}(h1:1<=i)(hx:(cZ tk rs).1.2[i]?=some x):∃r∈rs,x.cond∈gF r:=by
 have hp:=(vb tk rs).1;obtain⟨p,hpp,hpi⟩:=hp.below i x h1 hx;obtain⟨r,hr,j,j1,j2,e⟩:=hp.path i h1 (aO.1 hx).1;rw[yF hx h1 hpp hpi]at e;exact⟨r,hr,cO (by rw[<-e];simp:x.cond∈(gF r).take j)⟩
theorem a3U{ns:bN}{i p:Nat}{x:Node}(h1:1<=i)(hx:ns[i]?=some x)(hp:x.parent=dS p)(hpi:p<i)(fs:aJ):rT (ed ns (dS i)) fs=sI fs (rT (ed ns (dS p)) fs) x.cond:=by
 rw[yF hx h1 hp hpi];unfold rT;rw[List.foldl_append];rfl
theorem aBJ(a:aJ)(f:aC)(K:Bool->aJ->Option aJ)(hf:f.args.length<=1099511627776):∀(rest:aJ) (i:Nat) (v:Bool) (w:aJ),(∀x∈rest,x.args.length<=1099511627776)->w.length+2*rest.length<=1048576->
 (v=true->eR a f K rest i v w=K true (w++rest))/\
 (v=false->(eR a f K rest i v w=K true (w++xK f rest))\/(eR a f K rest i v w=K false (w++rest)/\xK f rest=rest++[f])):=by
 intro rest
 induction rest with
 |nil=>intro i v w _ _;exact⟨fun h=>by subst h;simp[eR],fun h=>by subst h;exact .inr ⟨by simp[eR],rfl⟩⟩
 |cons x xs ih=>
  intro i v w hs hl;simp only[aR]at hl;have hx:=hs x (by simp);have hs':∀y∈xs,y.args.length<=1099511627776:=fun y hy=>hs y (by simp[hy])
  have cx:=Nf x hx;have cf:=Nf f hf;have nx:=fun w':aJ=>fun h:w'.length<1099511627776=>gG (w:=w') (c:=aC.c) (y:=[D.str x.rel,D.sl (x.args.map tx)]) (b:=40) h (by decide)
  have nf:=fun w':aJ=>fun h:w'.length<1099511627776=>gG (w:=w') (c:=aC.c) (y:=[D.str f.rel,D.sl (f.args.map tx)]) (b:=40) h (by decide)
  constructor
  ·intro h;subst h;rw[eR,bU,aL,cx,aA,nx w (by omega),aG,(ih (i+1) true (w++[x]) hs' (by simp;omega)).1 rfl];simp
  ·intro h;subst h;rw[eR,bt,aG,a1V,aA];by_cases hgt:oJ x f>0
   ·left
    have e2:room (((w.map aC.c)++[[D.str f.rel,D.sl (f.args.map tx)]]).length+[[D.str x.rel,D.sl (x.args.map tx)]].length) 40=true:=by
     have:=nx (w++[f]) (by simp;omega);rw[bI]at this;exact this
    rw[au hgt,aG,cf,aA,nf w (by omega),aG,cx,aA,e2,aG];rw[(ih (i+1) true (w++[f]++[x]) hs' (by simp;omega)).1 rfl,xK,bO hgt];simp
   ·rw[ax hgt,aL,cx,aA,nx w (by omega),aG];rw[xK,bE hgt];rcases(ih (i+1) false (w++[x]) hs' (by simp;omega)).2 rfl with q|⟨q1,q2⟩
    ·left;rw[q];simp
    ·right;rw[q1,q2];simp
theorem aBI(l:aJ)(f:aC)(hf:f.args.length<=1099511627776)(hl:∀x∈l,x.args.length<=1099511627776)(hn:l.length<=1000):wJ l f=some (xK f l):=by
 unfold wJ;rcases(aBJ l f _ hf l 0 false [] hl (by simp;omega)).2 rfl with q|⟨q1,q2⟩
 ·rw[q];rfl
 ·rw[q1,q2];show(bif !false then _ else _)=_;rw[bt,aG,Nf f hf,aA,eN,gG (w:=l) (c:=aC.c) (y:=[D.str f.rel,D.sl (f.args.map tx)]) (by omega) (by decide),aG]
theorem aB4(l:aJ)(f:aC)(hl:sD aC.wt l<=1048576)(hf:f.wt<=1048576):wF l f=some (IZ l f):=by
 have hm:∀x∈l,x.args.length<=1048576:=fun x hx=>by have:=aC.dZ (n:=1048576) (p:=x) (by have:=qS (w:=aC.wt) hx;omega);omega
 have hlen:=tK aC.wt l;have cp:=wP l (by omega) hm;unfold wF IZ;rw[a1Q l hl,aA];cases h1:fK l with
 |false=>rw[bt,aG,cp,aA,bE (by simp)]
 |true=>
  have h24:=qG h1;rw[bU,aL,a1a f hf,aA];cases h2:pL f with
  |false=>rw[bt,aG,cp,aA,bE (by simp)]
  |true=>
   rw[bU,aL,WS,aA,Bj];by_cases h3:f∈l
   ·rw[au h3,aG,cp,aA,bE (by simp[h3])]
   ·rw[ax h3,aL,aq];by_cases h4:l.length=24
    ·rw[au (by omega),aG,cp,aA,bE (by simp[h4])]
    ·rw[ax (by omega),aL,aBI l f (by have:=aC.dZ hf;omega) (fun x hx=>by have:=hm x hx;omega) (by omega),aA,bO ⟨rfl,rfl,h3,h4⟩]
theorem a7U(a:aJ)(f:aC)(K:aJ->Option aJ):∀(rest:aJ) (i:Nat) (w:aJ),(∀x∈rest,x.args.length<=1048576)->w.length+rest.length<=1048576->gu a f K rest i w=K (w++BW f rest)
 | [],i,w,_,_=>by rw[gu];simp[BW]
 |x::xs,i,w,hs,hl=>by
  simp only[aR]at hl;have ih:=a7U a f K xs (i+1);unfold BW at*;rw[gu,Ww,aA];by_cases e:x=f
  ·rw[au e,bU,aL,gz (by simp[e]),ih w (fun y hy=>hs y (by simp[hy])) (by omega)]
  ·rw[ax e,bt,aG,zu x (by have:=hs x (by simp);omega),aA,gG (w:=w) (c:=aC.c) (y:=[D.str x.rel,D.sl (x.args.map tx)]) (by omega) (by decide),aG,hG (by simp[e]),ih (w++[x]) (fun y hy=>hs y (by simp[hy])) (by simp;omega)];simp
theorem aD0(l:aJ)(f:aC)(hl:sD aC.wt l<=1048576):sv l f=some (Kv l f):=by
 have hm:∀x∈l,x.args.length<=1048576:=fun x hx=>by have:=aC.dZ (n:=1048576) (p:=x) (by have:=qS (w:=aC.wt) hx;omega);omega
 have hlen:=tK aC.wt l;have cp:=zJ l (by omega) hm;unfold sv Kv;rw[a2g l hl,aA];cases h1:fK l with
 |false=>rw[bt,aG,cp,aA,bE (by simp)]
 |true=>
  have hd:decide (findF f l 0<0)= !decide (f∈l):=by
   rw[<-Bj f l 0,<-decide_not]
   congr 1
   rw[wC];omega
  rw[bU,aL,Wt,aA,hd];by_cases h3:f∈l
  ·rw[au h3,bU,aL,bO ⟨rfl,h3⟩];unfold wi;rw[a7U l f _ l 0 [] hm (by simp;omega)];rfl
  ·rw[ax h3,bt,aG,cp,aA,bE (by simp[h3])]
theorem OD{f:aC}:∀ {l:aJ} (i:Nat),f∈l->∃pre post,l=pre++f::post/\f∉pre/\findF f l i=((i+pre.length:Nat):Int)
 | [],_,h=>by cases h
 |x::xs,i,h=>by
  by_cases e:x=f
  ·subst e;exact⟨[],xs,rfl,by simp,by rw[findF,bO rfl];rfl⟩
  ·have hx:f∈xs:=by
    rcases bV.1 h with h|h
    ·exact absurd h.symm e
    ·exact h
   obtain⟨pre,post,h1,h2,h3⟩:=OD (i+1) hx;refine⟨x::pre,post,by rw[h1];rfl,?_,?_⟩
   ·simp only[bV,Gj];exact⟨fun h=>e h.symm,h2⟩
   ·rw[findF,bE e,h3,aR,show i+1+pre.length=i+(pre.length+1)by omega]
theorem Nb{f:aC}:∀ {l:aJ},f∉l->BW f l=l
 | [],_=>rfl
 |x::xs,h=>by
  simp only[bV,Gj]at h;have ih:=Nb (l:=xs) h.2;unfold BW at*;rw[hG (by simp only[kx,qF];exact fun e=>h.1 e.symm),ih]
theorem a0r{f:aC}{pre post:aJ}(h1:f∉pre)(h2:f∉post):BW f (pre++f::post)=pre++post:=by
 have e1:=Nb h1;have e2:=Nb h2;unfold BW at*;rw[Bq,gz (by simp),e1,e2]
theorem aBM(l:aJ)(f:aC)(hl:sD aC.wt l<=1048576):si l f=some (Kv l f):=by
 have hm:∀x∈l,x.args.length<=1048576:=fun x hx=>by have:=aC.dZ (n:=1048576) (p:=x) (by have:=qS (w:=aC.wt) hx;omega);omega
 have hlen:=tK aC.wt l;have cp:=wP l (by omega) hm;unfold si Kv;rw[WS,aA,a1Q l hl,aA];cases h1:fK l with
 |false=>rw[bt,aG,cp,aA,bE (by simp)]
 |true=>
  have hd:decide (findF f l 0<0)= !decide (f∈l):=by
   rw[<-Bj f l 0,<-decide_not]
   congr 1
   rw[wC];omega
  rw[bU,aL,hd];by_cases h3:f∈l
  ·rw[au h3,bU,aL,bO ⟨rfl,h3⟩];obtain⟨pre,post,e1,e2,e3⟩:=OD 0 h3;have hnd:=Gm h1;have e4:f∉post:=by
    rw[e1,cC]at hnd;exact(gx.1 hnd.2.1).1
   rw[cY]at e3;have hl1:l.length=pre.length+(post.length+1):=by rw[e1];simp
   have hw:IntKind.i64.wrap (findF f l 0+1)=((pre.length+1:Nat):Int):=by rw[e3];exact Fj (by omega)
   have p1:yG ((l.map aC.c).length) none (some (D.int .i64 (findF f l 0)))=some (0,pre.length):=by
    rw[aCX (by omega) (by rw[aq];omega),e3];rfl
   have p2:yG ((l.map aC.c).length) (some (D.int .i64 (IntKind.i64.wrap (findF f l 0+1)))) none=some (pre.length+1,l.length):=by
    rw[hw];unfold yG;rw[aq];simp only[bO (show 0<=((pre.length+1:Nat):Int)/\((pre.length+1:Nat):Int).toNat<=l.length from⟨by omega,by omega⟩)];rfl
   have t1:(l.take pre.length).drop 0=pre:=by rw[e1];simp
   have t2:(l.take l.length).drop (pre.length+1)=post:=by
    rw[zg,e1,List.drop_append,nL (by omega),show pre.length+1-pre.length=1 by omega];rfl
   rw[p1,aA];dsimp only;rw[t1,wP pre (by omega) (fun x hx=>hm x (by rw[e1];simp[hx])),aA,p2,aA];dsimp only;rw[t2,wP post (by omega) (fun x hx=>hm x (by rw[e1];simp[hx])),aA,Fg (by simp;omega) (by decide),aG];have e5:BW f l=pre++post:=by rw[e1];exact a0r e2 e4
   rw[e5]
  ·rw[ax h3,bt,aG,cp,aA,bE (by simp[h3])]
structure BA(n:aF):Prop where
 rules:sD aN.wt n.rules<=1048576
 facts:sD aC.wt n.facts<=1048576
 ends:n.ends.length<=1048576
 bG:n.bG.length<=1048576
 cX:∀a∈n.bG,a.shape.wt<=1048576/\FS a.facts
 nodes:n.nodes.length<=1048576
 node:∀x∈n.nodes,x.cond.wt<=1048576/\x.tokens.length<=1048576/\∀t∈x.tokens,TK 1048576 t
theorem FS.args{fs:aJ}(h:FS fs):∀f∈fs,f.args.length<=1048576:=fun f hf=>aC.dZ (h.2 f hf)
theorem a5d(l:ar)(hl:l.length<=1048576)(h:∀t∈l,TK 1048576 t):kw l=some l:=by
 unfold kw;rw[GX (c:=aQ.c) (b:=48) (f:=tW) (g:=fun x=>x) (L:=kL l _) (k:=_) (by decide) (fun _ _=>rfl) (fun _ _ _ _=>rfl) _ _ _ (fun t ht=>a2k t (h t ht)) (by simp;omega)];simp
theorem a50(l:ar)(hl:l.length<=1048576)(h:∀t∈l,TK 1048576 t):nS l=some l:=by
 unfold nS;rw[GX (c:=aQ.c) (b:=48) (f:=fun t:aQ=>(cm t.facts).bind fun y=>(j8 t.bind).bind fun z=>some (⟨y,z⟩:aQ)) (g:=fun x=>x) (L:=jY l _) (k:=_) (by decide) (fun _ _=>rfl) (fun x xs i w=>by
  rw[jY];cases cm x.facts with
  |none=>rfl
  |some a=>cases j8 x.bind<;>rfl) _ _ _ (fun t ht=>by
  have hk:=h t ht;rw[wP t.facts hk.1 (fun f hf=>aC.dZ (hk.2.1 f hf)),aA,T9 t.bind (by have:=hk.2.2.1;omega)];rfl) (by simp;omega)]
 simp
theorem aCr(l:bM)(h:l.length<=1048576):xY l=some l:=by
 unfold xY;rw[Fg (by simp;omega) (by decide),aG,eN]
theorem aBK(l:bM)(h:l.length<=1048576):vF l=some l:=by
 unfold vF;rw[Fg (by simp;omega) (by decide),aG,eN]
theorem Qn(n:aF)(h:BA n):pQ n=some n:=by
 have hF:=FS.Ff h.facts;have h1:=h.bG;have h2:=h.nodes;unfold pQ;rw[VK n.rules h.rules,aA,aCr n.ends h.ends,aA,zJ n.facts hF.1 hF.args,aA];rw[GX (c:=ah.c) (b:=64) (f:=fun a:ah=>(fQ a.shape).bind fun y=>(dO a.facts).bind fun z=>some (⟨y,z⟩:ah)) (g:=fun x=>x) (L:=pG n _ _ _ _) (k:=_) (by decide) (fun _ _=>rfl) (fun x xs i w=>by
  rw[pG];cases fQ x.shape with
  |none=>rfl
  |some a=>cases dO x.facts<;>rfl) _ _ _ (fun a ha=>by
  obtain⟨g1,g2⟩:=h.cX a ha;rw[a2l a.shape (by have:=aC.dZ g1;omega),aA,zJ a.facts g2.1 g2.args];rfl) (by simp;omega)]
 rw[GX (c:=Node.c) (b:=120) (f:=fun x:Node=>(lP x.cond).bind fun y=>(kw x.tokens).bind fun z=>some (⟨x.parent,y,x.cX,z⟩:Node)) (g:=fun x=>x) (L:=pH n _ _ _ _ _) (k:=_) (by decide) (fun _ _=>rfl) (fun x xs i w=>by
  rw[pH];cases lP x.cond with
  |none=>rfl
  |some a=>cases kw x.tokens<;>rfl) _ _ _ (fun x hx=>by
  obtain⟨g1,g2,g3⟩:=h.node x hx;rw[Tc x.cond (by have:=aC.dZ (aS.gW g1);omega),aA,a5d x.tokens g2 g3];rfl) (by simp;omega)]
 simp
theorem QC(n:aF)(h:BA n):ia n=some n:=by
 have hF:=FS.Ff h.facts;have h1:=h.bG;have h2:=h.nodes;unfold ia;rw[Uo n.rules h.rules,aA,aBK n.ends h.ends,aA,wP n.facts hF.1 hF.args,aA];rw[GX (c:=ah.c) (b:=64) (f:=fun a:ah=>(ez a.shape).bind fun y=>(cm a.facts).bind fun z=>some (⟨y,z⟩:ah)) (g:=fun x=>x) (L:=jE n _ _ _ _) (k:=_) (by decide) (fun _ _=>rfl) (fun x xs i w=>by
  rw[jE];cases ez x.shape with
  |none=>rfl
  |some a=>cases cm x.facts<;>rfl) _ _ _ (fun a ha=>by
  obtain⟨g1,g2⟩:=h.cX a ha;rw[a1Z a.shape (by have:=aC.dZ g1;omega),aA,wP a.facts g2.1 g2.args];rfl) (by simp;omega)]
 rw[GX (c:=Node.c) (b:=120) (f:=fun x:Node=>(gH x.cond).bind fun y=>(nS x.tokens).bind fun z=>some (⟨x.parent,y,x.cX,z⟩:Node)) (g:=fun x=>x) (L:=jF n _ _ _ _ _) (k:=_) (by decide) (fun _ _=>rfl) (fun x xs i w=>by
  rw[jF];cases gH x.cond with
  |none=>rfl
  |some a=>cases nS x.tokens<;>rfl) _ _ _ (fun x hx=>by
  obtain⟨g1,g2,g3⟩:=h.node x hx;rw[T8 x.cond (by have:=aC.dZ (aS.gW g1);omega),aA,a50 x.tokens g2 g3];rfl) (by simp;omega)]
 simp
theorem I2{n:aF}(h:Ge n=true):qU n.rules=true/\fK n.facts=true/\0<=n.cP/\n=tH n.rules n.facts n.cP:=by
 unfold Ge Ov tH at h;simp only[aU,bH]at h;obtain⟨b1,b2,b0,_,b3,_,b5,b4⟩:=h;refine⟨b1,b2,b0,?_⟩;unfold tH;cases n;simp only at b3 b4 b5⊢;rw[<-b3,<-b4,<-b5]
theorem Y1{rs:az}{fs:aJ}{t:Int}(h1:qU rs=true)(h2:fK fs=true):Ge (tH rs fs t)=decide (0<=t):=by
 unfold Ge Ov tH;simp[h1,h2]
theorem MH{f:aC}(h:pL f=true):f.wt<=100:=by
 unfold pL at h;simp only[aU,bH,b8]at h;obtain⟨h1,h2,h3⟩:=h;have a1:=S6 h2;have a2:=PO f.args (fun x hx=>by have:=Bf (h1 x hx);omega);unfold aC.wt tw;unfold tw at a2;omega
theorem Jw{fs:aJ}(h:fK fs=true):∀f∈fs,pL f=true:=by
 unfold fK at h;simp only[aU]at h;exact O8 h.1
theorem SL{G:Type}{w:G->Nat}{B:Nat}:∀(l:List G),(∀x∈l,w x<=B)->sD w l<=(B+1)*l.length
 | [],_=>by simp[sD]
 |x::l,h=>by
  have h1:=SL l fun y hy=>h y (by simp[hy])
  have h2:=h x (by simp);rw[pz,aR,Nat.mul_add];omega
theorem yp{fs:aJ}(h:fK fs=true):sD aC.wt fs<=2424:=by
 have h1:=SL (w:=aC.wt) (B:=100) fs fun f hf=>MH (Jw h f hf)
 have h2:=qG h;have:(100+1)*fs.length<=(100+1)*24:=dY _ h2;omega
theorem vY(ns:bN)(fs:aJ)(i:Nat):(fR ns fs)[i]?=(ns[i]?).map fun x=>⟨x.parent,x.cond,x.cX,rT (ed ns (dS i)) fs⟩:=by
 unfold fR;rw[IN,cY]
theorem zk(ns:bN)(fs:aJ):(fR ns fs).length=ns.length:=Z0 ns fs ns 0
theorem xT{rs:az}(h:qU rs=true):rs.length<=6:=by unfold qU at h;simp only[aU,bH]at h;omega
theorem Qs{rs:az}(tk:ar)(h:qU rs=true):(cZ tk rs).1.1.length<=24:=by
 have h6:=xT h;have main:∀(l:az) (z:(bP×bN)×bM),(∀r∈l,fS r=true)->(l.foldl Jq z).1.1.length<=z.1.1.length+4*l.length:=by
  intro l
  induction l with
  |nil=>intro z _;exact br _
  |cons r l ih=>
   intro z hl;have h1:=ih (Jq z r) (fun x hx=>hl x (by simp[hx]));have h2:=(IW (gF r) (z.1,0)).1;have h3:=zo (hl r (by simp));have h4:(Jq z r).1.1.length=((gF r).foldl IV (z.1,0)).1.1.length:=rfl;rw[cy,aR];dsimp only at h2;omega
 have:=main rs (([],[root tk]),[]) (oQ h);unfold cZ;simp only[cE]at this;omega
theorem EO{rs:az}{fs:aJ}(h1:qU rs=true)(h2:fK fs=true){i:Nat}{x:Node}(hx:(fR (cZ [] rs).1.2 fs)[i]?=some x):x.cond.wt<=1048576/\x.tokens.length<=390625/\(∀t∈x.tokens,TK 4 t)/\KD x.tokens:=by
 have hv:=oQ h1;have hok:=Mm [] hv (xT h1);rw[vY]at hx;obtain⟨y,hy,rfl⟩:=Eh.1 hx;have Sr:=FS.Ff (by have:=yp h2;omega:sD aC.wt fs<=1048576);have Ud:∀c∈ed (cZ [] rs).1.2 (dS i),c.wt<=1048576:=by
  intro c hc;obtain⟨z,hz,e⟩:=Mf hc;rw[<-e];exact hok.wt z hz
 refine⟨hok.wt y (aE hy),Qx (hok.path i) (qG h2),fun t ht=>?_,YS (Gm h2)⟩;exact(Tn Sr _ [⟨[],[]⟩] 0 Ud TR t ht).le (by have:=hok.path i;omega)
theorem TN{rs:az}{fs:aJ}(t:Int)(h1:qU rs=true)(h2:fK fs=true)(hr:sD aN.wt rs<=1048576):BA (tH rs fs t):=by
 have hv:=oQ h1;have h6:=xT h1;have hw:=yp h2;have hl:=Cb [] hv h6;refine⟨hr,by show sD aC.wt fs<=1048576;omega,?_,?_,?_,?_,?_⟩
 ·show(cZ [] rs).2.length<=1048576;rw[(vb [] rs).2.1];omega
 ·show(gO (cZ [] rs).1.1 fs).length<=1048576;unfold gO;rw[aq];have:=Qs [] h1;omega
 ·intro a ha;obtain⟨y,hy,rfl⟩:=cJ.1 (show a∈(cZ [] rs).1.1.map _ from ha);refine⟨(yY [] hv y hy).1,?_,fun f hf=>?_⟩
  ·have:=lF (fun f=>(kN y.shape f []).2) fs;have:=qG h2;show(sC y.shape [] fs).length<=1048576;unfold sC;omega
  ·have:=MH (Jw h2 f (gw.1 hf).1);omega
 ·show(fR (cZ [] rs).1.2 fs).length<=1048576;rw[zk];omega
 ·intro x hx;obtain⟨i,hi⟩:=iO (show x∈fR (cZ [] rs).1.2 fs from hx);obtain⟨g1,g2,g3,_⟩:=EO h1 h2 hi;exact⟨g1,by omega,fun t ht=>(g3 t ht).le (by omega)⟩
def XN(now old:ar):Nat:=now.length-MO now old
theorem QI(now old:ar):MO now old<=now.length:=lF _ _
theorem QH(t:aQ)(l old:ar):MO (t::l) old=(bif RI old t then 1 else 0)+MO l old:=by
 unfold MO;cases h:RI old t with
 |true=>rw[hG (by rw[h]),aR,aG];omega
 |false=>rw[gz (by simp[h]),aL];omega
def stepT(al:bP)(f:aC)(x:Node)(now old:ar)(t:Int):Int:=
 if x.cX<0 then IntKind.i64.wrap (t+((XN now old:Nat):Int))else match gA al x.cX with
  |none=>t
  |some y=>bif (kN y.shape f []).2 then IntKind.i64.wrap (IntKind.i64.wrap (t+IntKind.i64.wrap (((XN now old:Nat):Int)*((y.facts.length:Nat):Int)))+((MO now old:Nat):Int))else IntKind.i64.wrap (t+IntKind.i64.wrap (((XN now old:Nat):Int)*((y.facts.length:Nat):Int)))
def Cc(ns:bN)(p:Int):ar:=match gA ns p with|some x=>x.tokens|none=>[]
def trN(N0 N1:bN)(al:bP)(f:aC):bN->Int->Int
 | [],t=>t
 |x::xs,t=>trN N0 N1 al f xs (stepT al f x (Cc N1 x.parent) (Cc N0 x.parent) t)
theorem YK(a b:ar)(i1:Nat)(x:aQ)(k:Int->Option (Int×Int)):∀(l:ar) (i v:Nat),v+l.length<=1099511627000->nA a b i1 x k l i (v:Int)=k ((v+(YM x l).length:Nat):Int)
 | [],i,v,_=>rfl
 |y::l,i,v,h=>by
  simp only[aR]at h;have ih:=YK a b i1 x k l (i+1);unfold YM at*;rw[nA,aCj,aA];by_cases e:x.facts=y.facts
  ·rw[show((cmpL oJ x.facts y.facts:Int)==0)=true by simp[IM.2 e],aG,Fj (by omega),ih (v+1) (by omega),hG (by simp[e]),aR]
   congr 2;omega
  ·rw[show((cmpL oJ x.facts y.facts:Int)==0)=false by
    have:cmpL oJ x.facts y.facts≠0:=fun h=>e (IM.1 h)
    simp[this],aL,ih v (by omega),gz (by simp[e])]
theorem Te(a b:ar)(k:Int->Option (Int×Int))(hK:KD b)(hb:b.length<=1048576):∀(l:ar) (i v:Nat),v+l.length<=1099500000000->pK a b k l i (v:Int)=k ((v+MO l b:Nat):Int)
 | [],i,v,_=>rfl
 |x::l,i,v,h=>by
  simp only[aR]at h;have hx:=SA (t:=x) hK;rw[pK,sF (by omega),aG,YK a b i x _ b 0 v (by omega),hx,QH];cases RI b x with
  |true=>rw[aG,Te a b k hK hb l (i+1) (v+1) (by omega)];congr 2;omega
  |false=>rw[aL,Te a b k hK hb l (i+1) (v+0) (by omega)];congr 2;omega
theorem aCs(now old:ar)(hK:KD old)(h1:now.length<=1048576)(h2:old.length<=1048576):xe now old=some (((MO now old:Nat):Int),((XN now old:Nat):Int)):=by
 have hle:=QI now old;unfold xe;have:=Te now old (fun(wV:Int)=>(some (wV,IntKind.i64.wrap (((now.map aQ.c).length:Int)-wV)))) hK h2 now 0 0 (by omega);rw[show(0:Int)=((0:Nat):Int)from rfl,this,cY,aq,eD (qv.i64.2 (by omega))];unfold XN
 congr 2
 omega
theorem aBE(l:ar)(t:aQ):vH l t=some (RI l t):=by
 unfold vH;have:∀(r:ar) (i:Nat),mB l t (some false) r i=some (RI r t):=by
  intro r
  induction r with
  |nil=>intro i;rfl
  |cons x r ih=>
   intro i;rw[mB,aB7,aA,ih];unfold RI;rw[tM];by_cases e:x.facts=t.facts
   ·rw[show((cmpL oJ x.facts t.facts:Int)==0)=true by simp[IM.2 e],aG,au e,Bool.true_or]
   ·rw[show((cmpL oJ x.facts t.facts:Int)==0)=false by
     have:cmpL oJ x.facts t.facts≠0:=fun h=>e (IM.1 h)
     simp[this],aL,ax e,rA]
 exact this l 0
theorem a1U(n:aF)(f:aC)(y3:aF×Unit)(u:Int)(i1:Nat)(x xx y:Node)(k:Int->Int->Option aF)(hy:gA n.nodes x.parent=some y):∀(l:ar) (i a b:Nat),a+l.length<=1099511627000->b+l.length<=1099511627000->
 l7 n f y3 u i1 x xx k l i (a:Int) (b:Int)=k ((a+MO l y.tokens:Nat):Int) ((b+XN l y.tokens:Nat):Int)
 | [],i,a,b,_,_=>rfl
 |t::l,i,a,b,h1,h2=>by
  simp only[aR]at h1 h2;have ih:=a1U n f y3 u i1 x xx y k hy l (i+1);have hle:=QI l y.tokens;rw[l7,hy,aA,aBE,aA];unfold XN at*;rw[QH,aR];cases RI y.tokens t with
  |true=>
   rw[aG,aG,Fj (by omega),ih (a+1) b (by omega) (by omega)]
   congr 2<;>omega
  |false=>
   rw[aL,aL,Fj (by omega),ih a (b+1) (by omega) (by omega)]
   congr 2<;>omega
def aEP(N0 N1:bN)(al:bP)(x:Node):Prop:=(∃p0 p1,gA N0 x.parent=some p0/\gA N1 x.parent=some p1/\p1.tokens.length<=1048576)/\(x.cX<0\/∃y,gA al x.cX=some y/\y.shape.wt<=1048576)
theorem a1T(n:aF)(f:aC)(y3:aF×Unit)(k:Int->Option aF)(hf:f.wt<=1048576):∀(l:bN) (i:Nat) (u:Int),1<=i->(∀x∈l,aEP n.nodes y3.1.nodes y3.1.bG x)->gJ n f y3 k l i u=k (trN n.nodes y3.1.nodes y3.1.bG f l u)
 | [],_,_,_,_=>rfl
 |x::l,i,u,hi,hU=>by
  have ih:=a1T n f y3 k hf l (i+1);have hU':=fun z (hz:z∈l)=>hU z (by simp[hz])
  obtain⟨⟨p0,p1,e0,e1,hl⟩,ha⟩:=hU x (by simp);rw[gJ,show(((i:Nat):Int)==0)=false by simp;omega,aL,e1,aA,sF (by omega),aG];rw[show(0:Int)=((0:Nat):Int)from rfl,a1U n f y3 u i x p1 p0 _ e0 p1.tokens 0 0 0 (by omega) (by omega),cY,cY,trN];unfold stepT;rw[show Cc y3.1.nodes x.parent=p1.tokens by unfold Cc;rw[e1],show Cc n.nodes x.parent=p0.tokens by unfold Cc;rw[e0]];by_cases hal:x.cX<0
  ·rw[au (by simpa using hal),aG,bO hal,ih _ (by omega) hU']
  ·rw[ax (by simpa using hal),aL,bE hal];rcases ha with ha|⟨y,hy,hyw⟩
   ·exact absurd ha hal
   ·rw[hy,aA,a8m y.shape f [] hyw hf PB.nil,aA,aq];dsimp only;cases(kN y.shape f []).2 with
    |true=>rw[aG,aG,ih _ (by omega) hU']
    |false=>rw[aL,aL,ih _ (by omega) hU']
theorem BQ{G:Type}(l:List G)(i:Nat):gA l (dS i)=l[i]?:=by
 unfold gA dS;rw[au (by omega),aG];rfl
theorem a2A{rs:az}{fs0 fs:aJ}(h1:qU rs=true)(h0:fK fs0=true)(h2:fK fs=true){i:Nat}(hi:1<=i){x:Node}(hx:(cZ [] rs).1.2[i]?=some x):
 ∃(p:Nat) (q:Node),p<i/\x.parent=dS p/\(cZ [] rs).1.2[p]?=some q/\(fR (cZ [] rs).1.2 fs0)[p]?=some ⟨q.parent,q.cond,q.cX,rT (ed (cZ [] rs).1.2 (dS p)) fs0⟩/\(fR (cZ [] rs).1.2 fs)[p]?=some ⟨q.parent,q.cond,q.cX,rT (ed (cZ [] rs).1.2 (dS p)) fs⟩/\
  x.cond.pat.args.length<=3/\x.cond.wt<=1048576/\((x.cX<0/\x.cond.kind≠1/\x.cond.kind≠2)\/∃(a:Nat) (y:ah),x.cX=dS a/\(cZ [] rs).1.1[a]?=some y/\y.shape=vn x.cond.pat/\y.shape.wt<=1048576):=by
 have hv:=oQ h1;obtain⟨p,hp,hpi⟩:=(vb [] rs).1.below i x hi hx;have hil:=(aO.1 hx).1;have hq:=av (show p<(cZ [] rs).1.2.length by omega);obtain⟨r,hr,hc⟩:=a3N hi hx;have hal:=a5y [] rs x (aE hx);refine⟨p,_,hpi,hp,hq,by rw[vY,hq];rfl,by rw[vY,hq];rfl,(OR (hv r hr) _ hc).2.1,IB (hv r hr) _ hc,?_⟩;by_cases hk:x.cond.kind=1\/x.cond.kind=2
 ·obtain⟨a,e1,y,e2,e3⟩:=hal.1 hk;exact .inr ⟨a,y,e1,e2,e3,(yY [] hv y (aE e2)).1⟩
 ·exact .inl ⟨by rw[hal.2 hk];decide,fun e=>hk (.inl e),fun e=>hk (.inr e)⟩
def Vq(n:aF)(fs:aJ)(f:aC):aF:=tH n.rules fs (trN n.nodes (fR (cZ [] n.rules).1.2 fs) (gO (cZ [] n.rules).1.1 fs) f ((fR (cZ [] n.rules).1.2 fs).drop 1) n.cP)
theorem aB5(n:aF)(fs:aJ)(f:aC)(hn:Ge n=true)(hr:sD aN.wt n.rules<=1048576)(h2:fK fs=true)(hf:f.wt<=1048576):uF n fs f=some (Vq n fs f):=by
 obtain⟨h1,h0,ht,e⟩:=I2 hn;have hv:=oQ h1;have h6:=xT h1;have Sr:=FS.Ff (by have:=yp h2;omega:sD aC.wt fs<=1048576);have hok:BA n:=by rw[e];exact TN _ h1 h0 hr
 have hN:n.nodes=fR (cZ [] n.rules).1.2 n.facts:=congrArg aF.nodes e;have hA:n.bG=gO (cZ [] n.rules).1.1 n.facts:=congrArg aF.bG e;have hE:n.ends=(cZ [] n.rules).2:=congrArg aF.ends e;have hform:n.nodes.map sG=(cZ [] n.rules).1.2.map sG:=by rw[hN];exact Km _ _ _ _
 have hp0:=Mm [] hv h6;have a8W:D1 n.nodes:=by
  refine⟨hok.nodes,fun x hx=>(hok.node x hx).1,fun i=>?_⟩;rw[wR hform];exact hp0.path i
 have hfA:gO n.bG fs=gO (cZ [] n.rules).1.1 fs:=by
  rw[hA];unfold gO;rw[sU];rfl
 have hfN:fR n.nodes fs=fR (cZ [] n.rules).1.2 fs:=by
  have key:∀(l m:bN) (i:Nat),l.map xL=m.map xL->pu n.nodes fs l i=pu (cZ [] n.rules).1.2 fs m i:=by
   intro l
   induction l with
   |nil=>intro m i hm;cases m with
    |nil=>rfl
    |cons y m=>simp at hm
   |cons x l ih=>intro m i hm;cases m with
    |nil=>simp at hm
    |cons y m=>
     rw[bA,bA]at hm;obtain⟨q1,q2⟩:=nH hm;have e1:x.parent=y.parent:=(l6 q1).1;have e2:x.cX=y.cX:=(l6 (l6 q1).2).1;have e3:x.cond=y.cond:=(l6 (l6 q1).2).2;rw[pu,pu,ih m (i+1) q2,wR hform,e1,e2,e3]
  refine key _ _ 0 ?_;rw[hN];have:∀(ns l:bN) (i:Nat),(pu ns n.facts l i).map xL=l.map xL:=by
   intro ns l
   induction l with
   |nil=>intro i;rfl
   |cons x l ih=>intro i;rw[pu,bA,ih];rfl
  exact this _ _ _
 unfold uF;rw[QC n hok,aA,a6h n fs Sr (qG h2) hok.bG (fun x hx=>(hok.cX x hx).1) a8W,aA,hfA,hfN];have hlen:=zk (cZ [] n.rules).1.2 fs;have aI5:=Cb [] hv h6;dsimp only;rw[sF (by omega),aG];have wO:fR (cZ [] n.rules).1.2 fs=(fR (cZ [] n.rules).1.2 fs).take 1++(fR (cZ [] n.rules).1.2 fs).drop 1:=(cc 1 _).symm;cases hns:fR (cZ [] n.rules).1.2 fs with
 |nil=>
  have:=(vb [] n.rules).1.pos;rw[hns]at hlen;simp at hlen;omega
 |cons x0 l=>
  rw[gJ,show(((0:Nat):Int)==0)=true from rfl,aG,a1T n f _ _ hf l 1 _ (br _) (fun x hx=>?_)]
  ·unfold Vq tH;rw[hns,hE];rfl
  ·obtain⟨i,hi⟩:=iO hx;have hi2:(fR (cZ [] n.rules).1.2 fs)[i+1]?=some x:=by rw[hns];exact hi
   rw[vY]at hi2;obtain⟨z,hz,rfl⟩:=Eh.1 hi2;obtain⟨p,q,_,e1,_,e3,e4,_,_,e7⟩:=a2A h1 h0 h2 (i:=i+1) (by omega) hz;have g4:=(EO h1 h2 e4).2.1;have u3:=(show gA n.nodes z.parent=(fR (cZ [] n.rules).1.2 n.facts)[p]? by rw[e1,BQ,hN]).trans e3;have u4:=(show gA (x0::l) z.parent=(fR (cZ [] n.rules).1.2 fs)[p]? by rw[e1,BQ,hns]).trans e4;refine⟨⟨_,_,u3,u4,by omega⟩,?_⟩
   ·rcases e7 with⟨e7,_⟩|⟨a,y,e7,e8,_,e10⟩
    ·exact .inl e7
    ·refine .inr ⟨⟨y.shape,sC y.shape [] fs⟩,?_,e10⟩;show gA (gO (cZ [] n.rules).1.1 fs) z.cX=_;rw[e7,BQ];unfold gO;rw[cR,e8];rfl
structure Ren(h:Bytes->Bytes)(V:Bytes->Prop):Prop where
 var:∀v,V v->fp v=true
 V4:∀t,fp t=false->h t=t
 X8:∀v,V v->fp (h v)=true
 inj:∀u v,V u->V v->h u=h v->u=v
structure RB(h:Bytes->Bytes)(V:Bytes->Prop)(b b':List aW):Prop where
 len:b'.length=b.length
 get:∀v,V v->dR (h v) b'=dR v b
 ok:iP b=true
 ok':iP b'=true
def Nv(h:Bytes->Bytes)(c:aS):aS:=⟨c.kind,⟨c.pat.rel,c.pat.args.map h⟩,h c.left,h c.right⟩
theorem RB.ext{h:Bytes->Bytes}{V:Bytes->Prop}(hr:Ren h V){b b':aP}(H:RB h V b b'){x y:Bytes}(hx:V x):(xf b' (h x) y).2=(xf b x y).2/\((xf b x y).2=true->RB h V (xf b x y).1 (xf b' (h x) y).1):=by
 unfold xf;rw[H.ok,H.ok',hr.var x hx,hr.X8 x hx,H.get x hx,H.len];simp only[fM];cases ha:fW y with
 |false=>exact⟨rfl,fun h=>by cases h⟩
 |true=>
  rw[aG,aG];cases hf:dR x b with
  |some o=>
   dsimp only;cases o==y with
   |true=>exact⟨rfl,fun _=>H⟩
   |false=>exact⟨rfl,fun h=>by cases h⟩
  |none=>
   dsimp only;cases hl:decide (b.length=6)with
   |true=>exact⟨rfl,fun h=>by cases h⟩
   |false=>
    have hl':b.length≠6:=of_decide_eq_false hl;refine⟨rfl,fun _=>⟨?_,?_,?_,?_⟩⟩
    ·rw[aL,aL,CZ,CZ,H.len]
    ·intro v hv;rw[aL,aL];by_cases e:v=x
     ·subst e;rw[zl _ hf,zl _ (by rw[H.get v hx,hf])]
     ·rw[tE (fun e2=>e e2.symm),tE (fun e2=>e (hr.inj _ _ hx hv e2).symm),H.get v hv]
    ·exact Ds (hr.var x hx) ha H.ok hf hl'
    ·exact Ds (hr.X8 x hx) ha H.ok' (by rw[H.get x hx,hf]) (by rw[H.len];exact hl')
theorem RB.td{h:Bytes->Bytes}{V:Bytes->Prop}(hr:Ren h V):∀(l r:aI) (b b':aP),(∀x∈l,nC x=true)->(∀x∈l,fp x=true->V x)->RB h V b b'->(td (l.map h) r b').2=(td l r b).2/\((td l r b).2=true->RB h V (td l r b).1 (td (l.map h) r b').1)
 | [],r,b,b',_,_,H=>⟨rfl,fun _=>H⟩
 |x::xs,[],b,b',_,_,H=>⟨rfl,fun h=>by cases h⟩
 |x::xs,y::ys,b,b',ht,hV,H=>by
  have ih:=fun c c'=>RB.td hr xs ys c c' (fun z hz=>ht z (by simp[hz])) (fun z hz=>hV z (by simp[hz]))
  rw[bA];simp only[Cx.td];cases hx:fW x with
  |true=>
   have hxx:h x=x:=hr.V4 x (LM hx);rw[hxx,hx];simp only[aG];cases x==y with
   |true=>exact ih b b' H
   |false=>exact⟨rfl,fun h=>by cases h⟩
  |false=>
   have hv:fp x=true:=by have:=ht x (by simp);unfold nC at this;rw[hx]at this;simpa using this
   have ha':fW (h x)=false:=nj (hr.X8 x (hV x (by simp) hv));rw[ha'];simp only[aL];obtain⟨e1,e2⟩:=H.ext hr (y:=y) (hV x (by simp) hv);rw[e1];cases he:(xf b x y).2 with
   |false=>exact⟨rfl,fun h=>by cases h⟩
   |true=>simp only[aG];exact ih _ _ (e2 he)
theorem Qk{h:Bytes->Bytes}{V:Bytes->Prop}(hr:Ren h V){t:Bytes}(hV:fp t=true->V t):nC (h t)=nC t:=by
 cases hv:fp t with
 |false=>rw[hr.V4 t hv]
 |true=>unfold nC;rw[hr.X8 t (hV hv),hv];simp
theorem YH{h:Bytes->Bytes}{V:Bytes->Prop}(hr:Ren h V){p:aC}(hV:∀x∈p.args,fp x=true->V x)(hp:w9 p=true):w9 ⟨p.rel,p.args.map h⟩=true:=by
 unfold w9 at hp⊢;simp only[aU,b8]at hp⊢;refine⟨?_,hp.2.1,by rw[aq];exact hp.2.2⟩;intro x hx;obtain⟨y,hy,rfl⟩:=cJ.1 hx;rw[Qk hr (hV y hy)];exact hp.1 y hy
def CV(V:Bytes->Prop)(c:aS):Prop:=∀x∈c.pat.args++[c.left,c.right],fp x=true->V x
theorem CV.args{V:Bytes->Prop}{c:aS}(h:CV V c):∀x∈c.pat.args,fp x=true->V x:=fun x hx=>h x (by simp[hx])
theorem CV.left{V:Bytes->Prop}{c:aS}(h:CV V c):fp c.left=true->V c.left:=h _ (by simp)
theorem CV.right{V:Bytes->Prop}{c:aS}(h:CV V c):fp c.right=true->V c.right:=h _ (by simp)
theorem VF{h:Bytes->Bytes}{V:Bytes->Prop}(hr:Ren h V){c:aS}(hV:CV V c)(hc:pS c=true):pS (Nv h c)=true:=by
 by_cases hk:c.kind=1\/c.kind=2
 ·obtain⟨hp,hl,hrr⟩:=Du hc hk;have e:h []=[]:=hr.V4 [] rfl;unfold pS;have h0:(decide ((Nv h c).kind=1)||decide ((Nv h c).kind=2))=true:=by show(decide (c.kind=1)||decide (c.kind=2))=true;simpa using hk
  rw[h0,aG];show(w9 ⟨c.pat.rel,c.pat.args.map h⟩&&(h c.left==[]&&h c.right==[]))=true;rw[hl,hrr,e,YH hr hV.args hp];rfl
 ·have h1:c.kind≠1:=fun e=>hk (.inl e)
  have h2:c.kind≠2:=fun e=>hk (.inr e)
  obtain⟨h3,hz,hl,hrr⟩:=Ph hc h1 h2;unfold pS;have h0:(decide ((Nv h c).kind=1)||decide ((Nv h c).kind=2))=false:=by simp[Nv,h1,h2]
  rw[h0,aL];show(bif (decide (c.kind=3)||decide (c.kind=4)||decide (c.kind=5))then(EZ ⟨c.pat.rel,c.pat.args.map h⟩&&(nC (h c.left)&&nC (h c.right)))else false)=true;rw[h3,aG,Qk hr hV.left,Qk hr hV.right,hl,hrr];unfold EZ at hz⊢;rw[aq];simpa using hz
theorem RB.kN{h:Bytes->Bytes}{V:Bytes->Prop}(hr:Ren h V){p f:aC}{b b':aP}(hV:∀x∈p.args,fp x=true->V x)(hp:w9 p=true)(H:RB h V b b'):(kN ⟨p.rel,p.args.map h⟩ f b').2=(kN p f b).2/\((kN p f b).2=true->RB h V (kN p f b).1 (kN ⟨p.rel,p.args.map h⟩ f b').1):=by
 unfold Cx.kN;rw[hp,YH hr hV hp,H.ok,H.ok',aq];dsimp only;cases(true&&(pL f&&(true&&(p.rel==f.rel&&decide (p.args.length=f.args.length)))))with
 |false=>exact⟨rfl,fun h=>by cases h⟩
 |true=>exact RB.td hr _ _ _ _ (PM hp) hV H
theorem RB.rU{h:Bytes->Bytes}{V:Bytes->Prop}(hr:Ren h V){b b':aP}(H:RB h V b b'){t:Bytes}(hV:fp t=true->V t):rU b' (h t)=rU b t:=by
 unfold Cx.rU;cases hv:fp t with
 |false=>rw[hr.V4 t hv,hv];rfl
 |true=>rw[nj hv,hr.X8 t (hV hv),nj (hr.X8 t (hV hv)),H.get t (hV hv)];rfl
theorem RB.zm{h:Bytes->Bytes}{V:Bytes->Prop}(hr:Ren h V){c:aS}{b b':aP}{fs:aJ}(hV:CV V c)(hc:pS c=true)(H:RB h V b b'):zm (Nv h c) b' fs=zm c b fs:=by
 unfold Cx.zm;rw[hc,VF hr hV hc,H.ok,H.ok'];show(true&&(true&&(bif decide (c.kind=1)then decide (0<(sC ⟨c.pat.rel,c.pat.args.map h⟩ b' fs).length)else bif decide (c.kind=2)then decide ((sC ⟨c.pat.rel,c.pat.args.map h⟩ b' fs).length=0)else WE (Nv h c) b')))=_;by_cases hk:c.kind=1\/c.kind=2
 ·have hp:=(Du hc hk).1;have e:sC ⟨c.pat.rel,c.pat.args.map h⟩ b' fs=sC c.pat b fs:=by
   unfold sC
   congr 1;funext f
   exact(RB.kN hr hV.args hp H).1
  rw[e];rcases hk with hk|hk
  ·rw[au hk];rfl
  ·rw[au hk];cases decide (c.kind=1)<;>rfl
 ·have h1:c.kind≠1:=fun e=>hk (.inl e)
  have h2:c.kind≠2:=fun e=>hk (.inr e)
  rw[ax h1,ax h2];simp only[aL];unfold WE Js;rw[hc,VF hr hV hc,H.ok,H.ok'];show(true&&(true&&(true&&decide (c.kind>=3)&&(true&&((Cx.rU b' (h c.left)).2&&((Cx.rU b' (h c.right)).2&&(bif decide (c.kind=3)then(Cx.rU b' (h c.left)).1==(Cx.rU b' (h c.right)).1 else bif decide (c.kind=4)then !((Cx.rU b' (h c.left)).1==(Cx.rU b' (h c.right)).1)else ltB (Cx.rU b' (h c.left)).1 (Cx.rU b' (h c.right)).1)))))))=_;rw[RB.rU hr H hV.left,RB.rU hr H hV.right]
structure RT(h:Bytes->Bytes)(V:Bytes->Prop)(t t':aQ):Prop where
 facts:t'.facts=t.facts
 bind:RB h V t.bind t'.bind
inductive RL(R:aQ->aQ->Prop):List aQ->List aQ->Prop
 |nil:RL R [] []
 |cons {a b:aQ} {l m:ar}:R a b->RL R l m->RL R (a::l) (b::m)
theorem RL.app{R:aQ->aQ->Prop}{a b c d:ar}(h:RL R a b)(k:RL R c d):RL R (a++c) (b++d):=by
 induction h with
 |nil=>exact k
 |cons x _ ih=>exact .cons x ih
theorem RL.one{R:aQ->aQ->Prop}{a b:aQ}(h:R a b):RL R [a] [b]:=.cons h .nil
theorem RL.flat{G:Type}{R:aQ->aQ->Prop}(f g:G->ar):∀(l:List G),(∀x∈l,RL R (f x) (g x))->RL R (l.flatMap f) (l.flatMap g)
 | [],_=>.nil
 |x::xs,h=>by rw[cw,cw];exact(h x (by simp)).app (RL.flat f g xs fun y hy=>h y (by simp[hy]))
theorem a5U{h:Bytes->Bytes}{V:Bytes->Prop}(hr:Ren h V){c:aS}{fs:aJ}{t t':aQ}(hV:CV V c)(hc:pS c=true)(H:RT h V t t'):RL (RT h V) (BY c fs t) (BY (Nv h c) fs t'):=by
 unfold BY;rw[RB.zm hr hV hc H.bind];show RL _ _ (bif decide (c.kind=1)then fs.flatMap (ext1 (Nv h c) t')else bif Cx.zm c t.bind fs then [t']else []);by_cases h1:c.kind=1
 ·rw[au h1,aG,aG];refine RL.flat _ _ fs fun f _=>?_
  unfold ext1;have hp:=(Du hc (.inl h1)).1;obtain⟨e1,e2⟩:=RB.kN hr (f:=f) hV.args hp H.bind;show RL _ _ (bif (Cx.kN ⟨c.pat.rel,c.pat.args.map h⟩ f t'.bind).2 then [⟨t'.facts++[f],(Cx.kN ⟨c.pat.rel,c.pat.args.map h⟩ f t'.bind).1⟩]else []);rw[e1];cases hm:(Cx.kN c.pat f t.bind).2 with
  |false=>exact .nil
  |true=>exact .one ⟨by rw[H.facts],e2 hm⟩
 ·rw[ax h1,aL,aL];cases Cx.zm c t.bind fs with
  |false=>exact .nil
  |true=>exact .one H
theorem YC{h:Bytes->Bytes}{V:Bytes->Prop}(hr:Ren h V){c:aS}{fs:aJ}(hV:CV V c)(hc:pS c=true):∀ {l m:ar},RL (RT h V) l m->RL (RT h V) (sI fs l c) (sI fs m (Nv h c))
 |_,_,.nil=>.nil
 |_,_,.cons hx hl=>by unfold sI;rw[cw,cw];exact(a5U hr hV hc hx).app (YC hr hV hc hl)
theorem a3T{h:Bytes->Bytes}{V:Bytes->Prop}(hr:Ren h V){fs:aJ}:∀(cs:ay) {l m:ar},(∀c∈cs,CV V c/\pS c=true)->RL (RT h V) l m->RL (RT h V) (cs.foldl (sI fs) l) ((cs.map (Nv h)).foldl (sI fs) m)
 | [],_,_,_,H=>H
 |c::cs,_,_,hc,H=>by
  rw[bA,cy,cy];exact a3T hr cs (fun x hx=>hc x (by simp[hx])) (YC hr (hc c (by simp)).1 (hc c (by simp)).2 H)
theorem RB.nil(h:Bytes->Bytes)(V:Bytes->Prop):RB h V [] []:=⟨rfl,fun _ _=>rfl,rfl,rfl⟩
theorem ZS{r:aN}(h:fS r=true):Ren (Dl (iJ r)) (fun v=>v∈Au r.conds) where
 var:=fun v hv=>(CT.1 hv).2
 V4:=fun t ht=>MY ht
 X8:=fun v hv=>by
  obtain⟨i,p,hi,_,_,e⟩:=I8 h hv;rw[e];exact MX i hi
 inj:=fun u v hu hv e=>by
  obtain⟨i,p,hi,g1,e1,e2⟩:=I8 h hu;obtain⟨j,q,hj,g2,e3,e4⟩:=I8 h hv;rw[e2,e4]at e;have:=YA i hi j hj e;subst this;rw[g1]at g2;cases g2;rw[<-e1,<-e3]
theorem a6M{r:aN}{c:aS}(hc:c∈r.conds):CV (fun v=>v∈Au r.conds) c:=fun x hx hv=>CT.2 ⟨cB.2 ⟨c,hc,hx⟩,hv⟩
theorem wbU{r:aN}(h:fS r=true){fs:aJ}:∀(cs:ay) (A:ar),(∀c∈cs,c∈r.conds)->(∀t∈A,WB (fU (Au r.conds)) t.bind)->∀u∈cs.foldl (sI fs) A,WB (fU (Au r.conds)) u.bind
 | [],_,_,hA=>hA
 |c::cs,A,hc,hA=>by
  rw[cy];refine wbU h cs _ (fun x hx=>hc x (by simp[hx])) (fun u hu=>?_);obtain⟨t,ht,hu⟩:=cB.1 hu;have hcm:=hc c (by simp);have hcb:=DE h c hcm;unfold BY at hu;by_cases hk:c.kind=1
  ·rw[au hk,aG]at hu;obtain⟨f,_,hu⟩:=cB.1 hu;unfold ext1 at hu;cases hm:(kN c.pat f t.bind).2 with
   |false=>rw[hm]at hu;cases hu
   |true=>
    rw[hm,aG]at hu;rw[cH.1 hu];exact((a23 (Nx h) (hA t ht) (Du hcb (.inl hk)).1 (fun x hx hv=>rS.2 ((a6M hcm).args x hx hv))).2 hm).1
  ·rw[ax hk,aL]at hu;cases hh:zm c t.bind fs with
   |false=>rw[hh]at hu;cases hu
   |true=>rw[hh,aG]at hu;rw[cH.1 hu];exact hA t ht
theorem Sg{U:aI}(hU:U.length<=6){b b':aP}(hb:WB U b)(hb':iP b'=true){h:Bytes->Bytes}(hg:∀v∈U,dR (h v) b'=dR v b):∀(N:aP) (w:aP),(N.map aW.var).Nodup->(∀p∈N,p.var∈U/\p.value=h p.var/\fp p.var=true/\fp p.value=true)->WB U w->(∀p∈N,dR p.var w=none)->
 WB U (N.foldl (bkS b') w)/\∀v,dR v (N.foldl (bkS b') w)=if v∈N.map aW.var then dR v b else dR v w
 | [],w,_,_,hw,_=>⟨hw,fun v=>by simp⟩
 |p::N,w,hn,hp,hw,hf=>by
  rw[bA,gx]at hn;obtain⟨p1,p2,p3,p4⟩:=hp p (by simp);have hpw:=hf p (by simp);have hval:rU b' p.value=match dR p.var b with|some v=>(v,true)|none=>([],false):=by
   unfold rU;rw[nj p4,p4,aL,aG,p2,hg _ p1]
   all_goals(cases dR p.var b<;>rfl)
  have hnot:∀q∈N,q.var≠p.var:=fun q hq e=>hn.1 (by rw[<-e];exact cJ.2 ⟨q,hq,rfl⟩)
  rw[cy];cases hfb:dR p.var b with
  |none=>
   rw[hfb]at hval;have e:bkS b' w p=w:=by unfold bkS;rw[hval];rfl
   rw[e];obtain⟨g1,g2⟩:=Sg hU hb hb' hg N w hn.2 (fun q hq=>hp q (by simp[hq])) hw (fun q hq=>hf q (by simp[hq]));refine⟨g1,fun v=>?_⟩;rw[g2 v,bA];by_cases hv:v=p.var
   ·subst hv;rw[bE hn.1,bO (by simp),hfb,hpw]
   ·by_cases Gd:v∈N.map aW.var
    ·rw[bO Gd,bO (by simp[Gd])]
    ·rw[bE Gd,bE (by simp only[bV,Gj];exact⟨hv,Gd⟩)]
  |some o=>
   rw[hfb]at hval;have e:bkS b' w p=xM p.var o w:=by unfold bkS;rw[hval];rfl
   rw[e];have ho:fW o=true:=by
    obtain⟨q,hq,_,e2⟩:=yW hfb;rw[<-e2];exact(Bg (ua hb.ok) q hq).2
   obtain⟨g1,g2⟩:=Sg hU hb hb' hg N (xM p.var o w) hn.2 (fun q hq=>hp q (by simp[hq])) (hw.set hU p1 p3 ho hpw) (fun q hq=>by
    rw[tE (fun e=>hnot q hq e.symm)];exact hf q (by simp[hq]))
   refine⟨g1,fun v=>?_⟩;rw[g2 v,bA,wm hpw];by_cases hv:v=p.var
   ·subst hv;rw[bE hn.1,bO rfl,bO (by simp),hfb]
   ·rw[bE hv];by_cases Gd:v∈N.map aW.var
    ·rw[bO Gd,bO (by simp[Gd])]
    ·rw[bE Gd,bE (by simp only[bV,Gj];exact⟨hv,Gd⟩)]
theorem a4T{r:aN}(h:fS r=true){t t':aQ}(ht:WB (fU (Au r.conds)) t.bind)(H:RT (Dl (iJ r)) (fun v=>v∈Au r.conds) t t'):cfT r t'=⟨r.name,t.facts,t.bind⟩:=by
 have hN:=Ac (yI r.conds) Tv.nil;have hmem:∀p∈iJ r,p.var∈fU (Au r.conds)/\p.value=Dl (iJ r) p.var/\fp p.var=true/\fp p.value=true:=fun p hp=>by
  obtain⟨n1,n2⟩:=(QX h).1 p hp;refine⟨?_,(IS (N:=iJ r) hN hp).symm,n1,n2⟩;rcases Nc _ _ hp with h1|h1
  ·cases h1
  ·exact rS.2 (CT.2 h1)
 obtain⟨g1,g2⟩:=Sg (Nx h) ht H.bind.ok' (h:=Dl (iJ r)) (fun v hv=>H.bind.get v (rS.1 hv)) (iJ r) [] hN hmem (WB.nil _) (fun p _=>rfl);have e:bkB t'.bind (iJ r)=t.bind:=by
  refine g1.ext ht fun v=>?_
  unfold bkB at*;rw[g2 v];by_cases hv:v∈(iJ r).map aW.var
  ·rw[bO hv]
  ·rw[bE hv];cases hf:dR v t.bind with
   |none=>rfl
   |some o=>
    exfalso;obtain⟨q,hq,e1,_⟩:=yW hf;have hU:=rS.1 (ht.sub q hq);rw[e1]at hU;obtain⟨i,p,_,Q4,he,_⟩:=I8 h hU;exact hv (cJ.2 ⟨p,aE Q4,he⟩)
 unfold cfT;rw[e,H.facts]
theorem RL.map_eq{G:Type}{R:aQ->aQ->Prop}{f g:aQ->G}:∀ {l m:ar},RL R l m->(∀a∈l,∀b,R a b->g b=f a)->m.map g=l.map f
 |_,_,.nil,_=>rfl
 |_,_,.cons hx hl,h=>by
  rw[bA,bA,h _ (by simp) _ hx,RL.map_eq hl (fun a ha b hb=>h a (by simp[ha]) b hb)]
theorem a4W{r:aN}(h:fS r=true)(fs:aJ):(rT (gF r) fs).map (cfT r)=(rT r.conds fs).map fun t=>(⟨r.name,t.facts,t.bind⟩:ai):=by
 have H:=a3T (ZS h) (fs:=fs) r.conds (fun c hc=>⟨a6M hc,DE h c hc⟩) (RL.one (a:=⟨[],[]⟩) (b:=⟨[],[]⟩) ⟨rfl,RB.nil _ _⟩);refine RL.map_eq H fun t ht t' hR=>?_
 exact a4T h (wbU h r.conds [⟨[],[]⟩] (fun _ hc=>hc) (fun t ht=>by rw[cH.1 ht];exact WB.nil _) t ht) hR
theorem a5S{rs:az}(fs:aJ)(t:Int){i:Nat}{r:aN}(hr:rs[i]?=some r):a0w (tH rs fs t) i=rT (gF r) fs:=by
 obtain⟨b,e1,e2,e3⟩:=(vb [] rs).2.2 i r hr;have hx:=av e2;have e4:gA (fR (cZ [] rs).1.2 fs) (dS b)=some ⟨((cZ [] rs).1.2[b]).parent,((cZ [] rs).1.2[b]).cond,((cZ [] rs).1.2[b]).cX,rT (gF r) fs⟩:=by
  unfold gA dS fR;rw[au (by omega),aG];show(pu _ fs _ 0)[b]?=_;rw[IN,hx,cY,e3];rfl
 unfold a0w tH;dsimp only;rw[e1];dsimp only;rw[e4]
theorem a29{rs:az}(hv:∀r∈rs,fS r=true)(fs:aJ)(t:Int):∀(l:az) (i:Nat),(∀(j:Nat) r,l[j]?=some r->rs[i+j]?=some r)->Yp (tH rs fs t) l i=l.flatMap fun r=>(rT r.conds fs).map fun u=>(⟨r.name,u.facts,u.bind⟩:ai)
 | [],_,_=>rfl
 |r::l,i,h=>by
  have h0:=h 0 r rfl;rw[wX]at h0;rw[Yp,a5S fs t h0,a4W (hv r (aE h0)),cw,a29 hv fs t l (i+1) (fun j x hx=>by
   rw[show i+1+j=i+(j+1)by omega];exact h (j+1) x (by simpa using hx))]
theorem WY{r:aN}{fs:aJ}(h1:fS r=true)(h2:fK fs=true):mtB r fs=(rT r.conds fs).map fun t=>⟨r.name,t.facts,t.bind⟩:=by
 unfold mtB;rw[a9j h1 h2 (br _),zg]
theorem a83{rs:az}{fs:aJ}(t:Int)(h1:qU rs=true)(h2:fK fs=true):Yp (tH rs fs t) rs 0=zK rs fs:=by
 have hv:=oQ h1;rw[a29 hv fs t rs 0 (fun j r hj=>by rw[cY];exact hj)];unfold zK;rw[h1,aG];have:∀l:az,(∀r∈l,fS r=true)->(l.flatMap fun r=>(rT r.conds fs).map fun u=>(⟨r.name,u.facts,u.bind⟩:ai))=l.flatMap fun r=>mtB r fs:=by
  intro l
  induction l with
  |nil=>intro _;rfl
  |cons r l ih=>intro hl;rw[cw,cw,ih (fun x hx=>hl x (by simp[hx])),WY (hl r (by simp)) h2]
 exact this rs hv
theorem a0l{n:aF}(h:Ge n=true):Yp n n.rules 0=zK n.rules n.facts:=by
 obtain⟨h1,h2,_,e⟩:=I2 h;have:=a83 n.cP h1 h2;rw[<-e]at this;exact this
def Jl(f:aC)(A:bP):List Bool:=A.map fun a=>(kN a.shape f []).2
theorem yV(A:bP)(fs:aJ):(gO A fs).length=A.length:=by unfold gO;rw[aq]
theorem Pu(A:bP)(x:ah)(fs:aJ):gO (A++[x]) fs=gO A fs++[⟨x.shape,sC x.shape [] fs⟩]:=by unfold gO;rw[bI];rfl
theorem a7R(n:aF)(fs:aJ)(f:aC)(y1:aF)(y3:aJ)(K:List Bool->bP->Option aF)(Sr:FS fs)(hf:f.wt<=1048576)(A:bP)(hA:∀a∈A,a.shape.wt<=1048576)(hl:A.length<=1048576):∀(rest pre:bP) (fu:Nat),A=pre++rest->rest.length<fu->
 jq n fs f y1 y3 K fu (pre.length:Int) (Jl f pre) (gO pre fs++rest)=K (Jl f A) (gO A fs)
 | [],pre,fu,e,hu=>by
  obtain⟨fu,rfl⟩:∃m,fu=m+1:=⟨fu-1,by simp at hu;omega⟩
  rw[dV]at e;rw[jq,dV,aq,yV,ax (by omega),aL,e]
 |x::rest,pre,fu,e,hu=>by
  obtain⟨fu,rfl⟩:∃m,fu=m+1:=⟨fu-1,by simp at hu;omega⟩
  simp only[aR]at hu;have hlen:A.length=pre.length+(rest.length+1):=by rw[e];simp
  have hx:=hA x (by rw[e];simp);have ih:=a7R n fs f y1 y3 K Sr hf A hA hl rest (pre++[x]) fu (by rw[e];simp) (by omega);have PD:gA (gO pre fs++x::rest) (pre.length:Int)=some x:=by
   have:=xk (a:=gO pre fs++x::rest) (pre:=gO pre fs) (xs:=rest) (x:=x) rfl;rw[yV]at this;exact this
  have xJ:(gO pre fs++x::rest).set (pre.length:Int).toNat ⟨x.shape,sC x.shape [] fs⟩=gO (pre++[x]) fs++rest:=by
   have:=setAt (gO pre fs) rest x ⟨x.shape,sC x.shape [] fs⟩;rw[yV]at this;rw[kz,this,Pu,dH];rfl
  have hh:Jl f pre++[(kN x.shape f []).2]=Jl f (pre++[x]):=by unfold Jl;rw[bI];rfl
  have hpl:(Jl f pre).length=pre.length:=by unfold Jl;rw[aq]
  rw[jq,aq,bC,yV,aR,au (by omega),aG,PD,aA,a9S x.shape f [] hx hf PB.nil,aA,Fg (by simp;omega) (by decide),aG,a5i x.shape [] fs hx PB.nil Sr,aA,Fj (by omega),xJ,hh];rw[bC,eA]at ih;exact ih
theorem Y8{N0 N1:bN}{v:Nat}(hl:N0.length=N1.length)(hv:v<=N1.length)(j:Nat):(N1.take v++N0.drop v)[j]?=if j<v then N1[j]? else N0[j]?:=by
 have h1:(N1.take v).length=v:=by rw[cU];omega
 by_cases h:j<v
 ·rw[bO h,bJ (by omega),dP,bO h]
 ·rw[bE h,bW (by omega),h1,gP]
  congr 1;omega
theorem a5Q{N0 N1:bN}{v:Nat}(hl:N0.length=N1.length)(hv:v<N1.length){y:Node}(hy:N1[v]?=some y):(N1.take v++N0.drop v).set v y=N1.take (v+1)++N0.drop (v+1):=by
 have h1:(N1.take v).length=v:=by rw[cU];omega
 rw[oN (by omega:v<N0.length)];have:=setAt (N1.take v) (N0.drop (v+1)) (N0[v]'(by omega)) y;rw[h1]at this;rw[this,List.take_add_one,hy];simp
theorem ZQ(S:bN)(a b:aJ):(fR S b).take 1++(fR S a).drop 1=fR S a:=by
 have h:(fR S b).take 1=(fR S a).take 1:=by
  apply qD;intro i;rw[dP,dP];by_cases hi:i<1
  ·rw[bO hi,bO hi,show i=0 by omega,vY,vY,uz];rfl
  ·rw[bE hi,bE hi]
 rw[h,cc]
theorem aCi(n:aF)(fs:aJ)(f:aC)(y1:aF)(y3:aJ)(K:Int->bN->Option aF)(h1:qU n.rules=true)(h0:fK n.facts=true)(h2:fK fs=true)(hN:n.nodes=fR (cZ [] n.rules).1.2 n.facts)(hA:n.bG=gO (cZ [] n.rules).1.1 n.facts):
 ∀(d v fu:Nat) (u:Int),v+d=(cZ [] n.rules).1.2.length->1<=v->d<fu->
  fk n y1 y3 (Jl f n.bG) (gO (cZ [] n.rules).1.1 fs) K fu (v:Int) u ((fR (cZ [] n.rules).1.2 fs).take v++n.nodes.drop v)=
   K (trN n.nodes (fR (cZ [] n.rules).1.2 fs) (gO (cZ [] n.rules).1.1 fs) f ((fR (cZ [] n.rules).1.2 fs).drop v) u) (fR (cZ [] n.rules).1.2 fs):=by
 have hl0:n.nodes.length=(cZ [] n.rules).1.2.length:=by rw[hN,zk]
 have hl1:=zk (cZ [] n.rules).1.2 fs;have Ve:n.nodes.length=(fR (cZ [] n.rules).1.2 fs).length:=by omega
 have Sr:=FS.Ff (by have:=yp h2;omega:sD aC.wt fs<=1048576);intro d
 induction d with
 |zero=>
  intro v fu u hv _ hfu;obtain⟨fu,rfl⟩:∃m,fu=m+1:=⟨fu-1,by omega⟩
  have e1:(fR (cZ [] n.rules).1.2 fs).take v++n.nodes.drop v=fR (cZ [] n.rules).1.2 fs:=by
   rw[nL (by omega),dV,k9 (by omega)]
  rw[fk,e1,aq,ax (by omega),aL,nL (by omega)];rfl
 |succ d ih=>
  intro v fu u hv hv1 hfu;obtain⟨fu,rfl⟩:∃m,fu=m+1:=⟨fu-1,by omega⟩
  have hvl:v<(cZ [] n.rules).1.2.length:=by omega
  have hx:=av hvl;generalize hxx:(cZ [] n.rules).1.2[v]=x at hx;obtain⟨p,q,hpv,e1,_,e3,e4,e5,e6,e7⟩:=a2A h1 h0 h2 hv1 hx;have hx0:n.nodes[v]?=some ⟨x.parent,x.cond,x.cX,rT (ed (cZ [] n.rules).1.2 (dS v)) n.facts⟩:=by rw[hN,vY,hx];rfl
  have hx1:(fR (cZ [] n.rules).1.2 fs)[v]?=some ⟨x.parent,x.cond,x.cX,rT (ed (cZ [] n.rules).1.2 (dS v)) fs⟩:=by rw[vY,hx];rfl
  have hb1:=Cb [] (oQ h1) (xT h1);have m1:gA ((fR (cZ [] n.rules).1.2 fs).take v++n.nodes.drop v) (v:Int)=some ⟨x.parent,x.cond,x.cX,rT (ed (cZ [] n.rules).1.2 (dS v)) n.facts⟩:=by
   rw[show(v:Int)=dS v from rfl,BQ,Y8 Ve (by omega),bE (by omega),hx0]
  have m2:gA ((fR (cZ [] n.rules).1.2 fs).take v++n.nodes.drop v) x.parent=some ⟨q.parent,q.cond,q.cX,rT (ed (cZ [] n.rules).1.2 (dS p)) fs⟩:=by
   rw[e1,BQ,Y8 Ve (by omega),bO hpv,e4]
  have m3:gA n.nodes x.parent=some ⟨q.parent,q.cond,q.cX,rT (ed (cZ [] n.rules).1.2 (dS p)) n.facts⟩:=by rw[e1,BQ,hN,e3]
  have m4:gA (fR (cZ [] n.rules).1.2 fs) x.parent=some ⟨q.parent,q.cond,q.cX,rT (ed (cZ [] n.rules).1.2 (dS p)) fs⟩:=by rw[e1,BQ,e4]
  obtain⟨_,k2,k3,_⟩:=EO h1 h2 e4;obtain⟨_,j2,_,j4⟩:=EO h1 h0 e3;dsimp only at k2 k3 j2 j4;have hstep:=a3U hv1 hx e1 hpv fs;have hlen:((fR (cZ [] n.rules).1.2 fs).take v++n.nodes.drop v).length=(cZ [] n.rules).1.2.length:=by
   rw[bC,cU,mN];omega
  have Ue:(fR (cZ [] n.rules).1.2 fs).drop v=⟨x.parent,x.cond,x.cX,rT (ed (cZ [] n.rules).1.2 (dS v)) fs⟩::(fR (cZ [] n.rules).1.2 fs).drop (v+1):=by
   rw[oN (by omega)]
   congr 1
   exact lR ((av (by omega)).symm.trans hx1)
  have xJ:=a5Q Ve (by omega) hx1;have t4:Cc (fR (cZ [] n.rules).1.2 fs) x.parent=rT (ed (cZ [] n.rules).1.2 (dS p)) fs:=by unfold Cc;rw[m4]
  have t3:Cc n.nodes x.parent=rT (ed (cZ [] n.rules).1.2 (dS p)) n.facts:=by unfold Cc;rw[m3]
  rw[fk,aq,hlen,au (by omega),aG,m1,aA];dsimp only;rw[m2,aA,m3,aA];dsimp only;rw[aCs _ _ j4 (by omega) (by omega),aA,Ue,trN,t4,t3,Fj (by omega)];unfold stepT;dsimp only;rcases e7 with⟨g1,g2,g3⟩|⟨a,y,g1,g2,g3,g4⟩
  ·rw[au (by simpa using g1),aG,a2z _ x.cond [] e6 ⟨by simp,fun f hf=>by cases hf⟩ (fun t ht=>(k3 t ht).le (by omega)) (by simp;omega),aA,a2H g2 g3 fs,<-hstep,kz,xJ,ih (v+1) fu _ (by omega) (by omega) (by omega),bO g1]
  ·have ha0:¬x.cX<0:=by rw[g1];unfold dS;omega
   have n1:gA (gO (cZ [] n.rules).1.1 fs) x.cX=some ⟨y.shape,sC y.shape [] fs⟩:=by
    rw[g1,BQ];unfold gO;rw[cR,g2];rfl
   have n2:gA (Jl f n.bG) x.cX=some (kN y.shape f []).2:=by
    rw[g1,BQ,hA];unfold Jl gO;rw[sU,cR,g2];rfl
   have hfl:(sC y.shape [] fs).length<=24:=by
    unfold sC;exact eZ (lF _ _) (qG h2)
   have aEw:FS (sC y.shape [] fs):=⟨by omega,fun f hf=>Sr.2 f (gw.1 hf).1⟩
   have hnx:sI (sC y.shape [] fs) (rT (ed (cZ [] n.rules).1.2 (dS p)) fs) x.cond=rT (ed (cZ [] n.rules).1.2 (dS v)) fs:=by
    rw[g3,ZY (by omega),hstep]
   rw[ax (by simpa using ha0),aL,n1,aA];dsimp only;rw[a2z _ x.cond _ e6 aEw (fun t ht=>(k3 t ht).le (by omega)) (by
    have:(rT (ed (cZ [] n.rules).1.2 (dS p)) fs).length*((sC y.shape [] fs).length+1)<=390625*25:=Gh k2 (by omega);omega),aA,hnx,n2,aA,kz,xJ,bE ha0,aq]
   cases(kN y.shape f []).2 with
   |true=>rw[aG,aG,ih (v+1) fu _ (by omega) (by omega) (by omega)]
   |false=>rw[aL,aL,ih (v+1) fu _ (by omega) (by omega) (by omega)]
theorem aCh(n:aF)(fs:aJ)(f:aC)(hn:Ge n=true)(hr:sD aN.wt n.rules<=1048576)(h2:fK fs=true)(hf:f.wt<=1048576):sQ n fs f=some (Vq n fs f):=by
 obtain⟨h1,h0,ht,e⟩:=I2 hn;have Sr:=FS.Ff (by have:=yp h2;omega:sD aC.wt fs<=1048576);have hok:BA n:=by rw[e];exact TN _ h1 h0 hr
 have hN:n.nodes=fR (cZ [] n.rules).1.2 n.facts:=congrArg aF.nodes e;have hA:n.bG=gO (cZ [] n.rules).1.1 n.facts:=congrArg aF.bG e;have hE:n.ends=(cZ [] n.rules).2:=congrArg aF.ends e;have hfA:gO n.bG fs=gO (cZ [] n.rules).1.1 fs:=by
  rw[hA];unfold gO;rw[sU];rfl
 have hb1:=Cb [] (oQ h1) (xT h1);have hpos:=(vb [] n.rules).1.pos;have hal:=hok.bG;unfold sQ;rw[Qn n hok,aA,zJ fs Sr.1 Sr.args,aA];have a1:=a7R n fs f n fs (fun(eO:List Bool) (wS:bP)=>(fk n n fs eO wS (fun(qh:Int) (nB:bN)=>(some (⟨n.rules,n.ends,wS,nB,fs,qh⟩:aF))) fuel 1 n.cP n.nodes)) Sr hf n.bG (fun a ha=>(hok.cX a ha).1) hok.bG n.bG [] fuel rfl (by unfold fuel;omega);refine a1.trans ?_;rw[hfA];have a2:=aCi n fs f n fs (fun(qh:Int) (nB:bN)=>(some (⟨n.rules,n.ends,gO (cZ [] n.rules).1.1 fs,nB,fs,qh⟩:aF))) h1 h0 h2 hN hA ((cZ [] n.rules).1.2.length -1) 1 fuel n.cP (by omega) (br _) (by unfold fuel;omega);have a3:(fR (cZ [] n.rules).1.2 fs).take 1++n.nodes.drop 1=n.nodes:=by rw[hN];exact ZQ _ _ _
 rw[a3]at a2;refine a2.trans ?_;unfold Vq tH;rw[hE]
def RS(n:aF)(f:aC):aF×Bool:=bif Ge n&&(IZ n.facts f).2 then(Vq n (IZ n.facts f).1 f,true)else(n,false)
def Oy(n:aF)(f:aC):aF×Bool:=bif Ge n&&(Kv n.facts f).2 then(Vq n (Kv n.facts f).1 f,true)else(n,false)
theorem XT{l:aJ}{f:aC}(h:(Kv l f).2=true):fK (Kv l f).1=true:=by
 unfold Kv at h⊢;split at h
 ·rename_i hc;rw[bO hc];exact XS f hc.1
 ·cases h
theorem a7d(n:aF)(f:aC)(h:BA n)(hf:f.wt<=1048576):qn n f=some (RS n f):=by
 unfold qn RS;rw[aCb n.facts f h.facts hf,aA,Wu n h.rules h.facts,aA];cases hb:Ge n with
 |false=>rw[bt,aG,Qn n h];rfl
 |true=>
  rw[bU,aL];cases ha:(IZ n.facts f).2 with
  |false=>rw[bt,aG,Qn n h];rfl
  |true=>rw[bU,aL,aCh n _ f hb h.rules (XR ha) hf];rfl
theorem aBL(n:aF)(f:aC)(h:BA n)(hf:f.wt<=1048576):ql n f=some (RS n f):=by
 unfold ql F0 RS;rw[TA n h.rules h.facts,aA];cases hb:Ge n with
 |false=>rw[bt,aG,QC n h];rfl
 |true=>
  rw[bU,aL,aB4 n.facts f h.facts hf,aA];cases ha:(IZ n.facts f).2 with
  |false=>rw[bt,aG,QC n h];rfl
  |true=>rw[bU,aL,aB5 n _ f hb h.rules (XR ha) hf];rfl
theorem YL(n:aF)(f:aC)(h:BA n)(hf:f.wt<=1048576):nY n f=some (Oy n f):=by
 unfold nY Oy;rw[aD0 n.facts f h.facts,aA,Wu n h.rules h.facts,aA];cases hb:Ge n with
 |false=>rw[bt,aG,Qn n h];rfl
 |true=>
  rw[bU,aL];cases ha:(Kv n.facts f).2 with
  |false=>rw[bt,aG,Qn n h];rfl
  |true=>rw[bU,aL,aCh n _ f hb h.rules (XT ha) hf];rfl
theorem aBR(n:aF)(f:aC)(h:BA n)(hf:f.wt<=1048576):nQ n f=some (Oy n f):=by
 unfold nQ D3 Oy;rw[TA n h.rules h.facts,aA];cases hb:Ge n with
 |false=>rw[bt,aG,QC n h];rfl
 |true=>
  rw[bU,aL,aBM n.facts f h.facts,aA];cases ha:(Kv n.facts f).2 with
  |false=>rw[bt,aG,QC n h];rfl
  |true=>rw[bU,aL,aB5 n _ f hb h.rules (XT ha) hf];rfl
theorem Rp{rs:az}(h:qU rs=true):(⟨rs,(cZ [⟨[],[]⟩] rs).2,(cZ [⟨[],[]⟩] rs).1.1,(cZ [⟨[],[]⟩] rs).1.2,[],0⟩:aF)=tH rs [] 0:=by
 have hv:=oQ h;unfold tH;rw[Yw (yY [] hv),Yy hv];have e1:(cZ [⟨[],[]⟩] rs).2=(cZ [] rs).2:=by rw[iW,iW]
 have e2:(cZ [⟨[],[]⟩] rs).1.1=(cZ [] rs).1.1:=by rw[iW,iW]
 rw[e1,e2]
def aE4:aF:=⟨[],[],[],[],[],0⟩
theorem a5h(rs:az)(h:sD aN.wt rs<=1048576):ke rs=some (bif qU rs then(tH rs [] 0,true)else(aE4,false)):=by
 rw[a2r rs h];cases hb:qU rs with
 |false=>rfl
 |true=>rw[aG,aG,Rp hb]
theorem XU{G:Type}{l:List G}{i:Int}{x:G}(h:gA l i=some x):x∈l:=by
 unfold gA at h;cases hd:decide (0<=i)with
 |false=>rw[hd]at h;cases h
 |true=>rw[hd,aG]at h;exact aE h
theorem Zs{N:bN}(h:∀x∈N,x.tokens.length<=390625)(p:Int):(Cc N p).length<=390625:=by
 unfold Cc;cases e:gA N p with
 |none=>simp
 |some x=>exact h x (XU e)
theorem a3I{al:bP}{f:aC}{x:Node}{now old:ar}{t:Int}(hn:now.length<=390625)(ha:∀y∈al,y.facts.length<=24)(h0:0<=t)(h1:t<=1000000000000000000):
 t<=stepT al f x now old t/\stepT al f x now old t<=t+10000000:=by
 have a1:XN now old<=390625:=by unfold XN;omega
 have a2:=QI now old;unfold stepT;split
 ·rw[eD (qv.i64.2 (by omega))];omega
 ·cases e:gA al x.cX with
  |none=>dsimp only;omega
  |some y=>
   have hy:=ha y (XU e);have a3:XN now old*y.facts.length<=390625*24:=Gh a1 hy;have e3:((XN now old:Nat):Int)*((y.facts.length:Nat):Int)=((XN now old*y.facts.length:Nat):Int):=(Int.natCast_mul _ _).symm;dsimp only;rw[e3,eD (n:=((XN now old*y.facts.length:Nat):Int)) (qv.i64.2 (by omega)),eD (n:=t+((XN now old*y.facts.length:Nat):Int)) (qv.i64.2 (by omega))];cases(kN y.shape f []).2 with
   |true=>rw[aG,eD (qv.i64.2 (by omega))];omega
   |false=>rw[aL];omega
theorem a3V{N0 N1:bN}{al:bP}{f:aC}(hN:∀x∈N1,x.tokens.length<=390625)(ha:∀y∈al,y.facts.length<=24):∀(l:bN) (t:Int),0<=t->t+10000000*(l.length:Int)<=1000000000000000000->
 t<=trN N0 N1 al f l t/\trN N0 N1 al f l t<=t+10000000*(l.length:Int)
 | [],t,_,_=>by rw[trN];simp
 |x::xs,t,h0,h1=>by
  rw[aR,Int.natCast_add,Int.natCast_one]at h1⊢;have s:=a3I (x:=x) (f:=f) (old:=Cc N0 x.parent) (Zs hN x.parent) ha h0 (by omega);have r:=a3V (N0:=N0) (f:=f) hN ha xs (stepT al f x (Cc N1 x.parent) (Cc N0 x.parent) t) (by omega) (by omega);rw[trN];omega
theorem Yz{rs:az}{fs:aJ}(h1:qU rs=true)(h2:fK fs=true):∀x∈fR (cZ [] rs).1.2 fs,x.tokens.length<=390625:=by
 intro x hx;obtain⟨i,hi⟩:=iO hx;exact(EO h1 h2 hi).2.1
theorem Yx{al:bP}{fs:aJ}(h2:fK fs=true):∀y∈gO al fs,y.facts.length<=24:=by
 intro y hy;obtain⟨z,_,rfl⟩:=cJ.1 hy;exact eZ (lF _ _) (qG h2)
theorem a0n{n:aF}{fs:aJ}(f:aC)(hb:Ge n=true)(h2:fK fs=true)(ht:n.cP<=100000000000000000):
 ∃t,Vq n fs f=tH n.rules fs t/\n.cP<=t/\t<=n.cP+250000000:=by
 obtain⟨h1,_,h0,_⟩:=I2 hb;have hl:=Cb [] (oQ h1) (xT h1);have h3:((fR (cZ [] n.rules).1.2 fs).drop 1).length<=25:=by rw[mN,zk];omega
 have:=a3V (N0:=n.nodes) (f:=f) (Yz h1 h2) (Yx (al:=(cZ [] n.rules).1.1) h2) ((fR (cZ [] n.rules).1.2 fs).drop 1) n.cP h0 (by omega);exact⟨_,rfl,by omega,by omega⟩
theorem a2T{n:aF}{f:aC}(hb:Ge n=true)(hf:pL f=true)(hn:f∉n.facts)(h24:n.facts.length<24)(ht:n.cP<=100000000000000000):
 ∃t,RS n f=(tH n.rules (xK f n.facts) t,true)/\fK (xK f n.facts)=true/\n.cP<=t/\t<=n.cP+250000000:=by
 have h2:=(I2 hb).2.1;have ha:IZ n.facts f=(xK f n.facts,true):=by unfold IZ;rw[bO ⟨h2,hf,hn,by omega⟩]
 have h3:=Se hf h2 hn (by omega);obtain⟨t,e,e1,e2⟩:=a0n f hb h3 ht;exact⟨t,by unfold RS;rw[ha,hb];simp[e],h3,e1,e2⟩
theorem a3P{n:aF}{f:aC}(hb:Ge n=true)(hn:f∈n.facts)(ht:n.cP<=100000000000000000):
 ∃t,Oy n f=(tH n.rules (BW f n.facts) t,true)/\fK (BW f n.facts)=true/\n.cP<=t/\t<=n.cP+250000000:=by
 have h2:=(I2 hb).2.1;have ha:Kv n.facts f=(BW f n.facts,true):=by unfold Kv;rw[bO ⟨h2,hn⟩]
 have h3:=XS f h2;obtain⟨t,e,e1,e2⟩:=a0n f hb h3 ht;exact⟨t,by unfold Oy;rw[ha,hb];simp[e],h3,e1,e2⟩
theorem UQ{f x:aC}{l:aJ}:x∈BW f l↔x∈l/\x≠f:=by
 unfold BW;rw[gw];simp
def runT(fs:aJ):ay->aJ->aP->Option aP
 | [],[],b=>some b
 | [],_::_,_=>none
 |c::cs,F,b=>if c.kind=1 then(match F with| []=>none|f::F'=>if f∈fs/\(kN c.pat f b).2=true then runT fs cs F' (kN c.pat f b).1 else none)else if zm c b fs=true then runT fs cs F b else none
theorem To(fs:aJ):∀(cs:ay) (A:ar) (u:aQ),u∈cs.foldl (sI fs) A↔∃t∈A,∃F,u.facts=t.facts++F/\runT fs cs F t.bind=some u.bind:=by
 intro cs
 induction cs with
 |nil=>
  intro A u;constructor
  ·intro h;exact⟨u,h,[],by simp,rfl⟩
  ·rintro⟨t,ht,F,h1,h2⟩;cases F with
   |nil=>
    have e:t.bind=u.bind:=by simpa[runT]using h2
    have e2:u.facts=t.facts:=by simpa using h1
    have:u=t:=by cases u;cases t;cases e;cases e2;rfl
    rw[this];exact ht
   |cons f F=>simp[runT]at h2
 |cons c cs ih=>
  intro A u;rw[cy,ih];constructor
  ·rintro⟨t',ht',F,h1,h2⟩;obtain⟨t,ht,hn⟩:=cB.1 ht';refine⟨t,ht,?_⟩;unfold BY at hn;by_cases hk:c.kind=1
   ·rw[au hk,aG]at hn;obtain⟨f,hf,hn⟩:=cB.1 hn;unfold ext1 at hn;cases hm:(kN c.pat f t.bind).2 with
    |false=>rw[hm]at hn;cases hn
    |true=>
     rw[hm,aG]at hn;have:=cH.1 hn;subst this;exact⟨f::F,by rw[h1];simp,by simp only[runT];rw[bO hk,bO ⟨hf,hm⟩];exact h2⟩
   ·rw[ax hk,aL]at hn;cases hh:zm c t.bind fs with
    |false=>rw[hh]at hn;cases hn
    |true=>
     rw[hh,aG]at hn;have:=cH.1 hn;subst this;exact⟨F,h1,by simp only[runT];rw[bE hk,bO hh];exact h2⟩
  ·rintro⟨t,ht,F,h1,h2⟩;simp only[runT]at h2;by_cases hk:c.kind=1
   ·rw[bO hk]at h2;cases F with
    |nil=>cases h2
    |cons f F=>
     dsimp only at h2;split at h2
     ·rename_i hc;refine⟨⟨t.facts++[f],(kN c.pat f t.bind).1⟩,cB.2 ⟨t,ht,?_⟩,F,by rw[h1];simp,h2⟩;unfold BY;rw[au hk,aG];refine cB.2 ⟨f,hc.1,?_⟩;unfold ext1;rw[hc.2,aG];exact cH.2 rfl
     ·cases h2
   ·rw[bE hk]at h2;split at h2
    ·rename_i hh;refine⟨t,cB.2 ⟨t,ht,?_⟩,F,h1,h2⟩;unfold BY;rw[ax hk,aL,hh,aG];exact cH.2 rfl
    ·cases h2
theorem TM{r:aN}{fs:aJ}(h1:fS r=true)(h2:fK fs=true)(m:ai):m∈mtB r fs↔m.rule=r.name/\runT fs r.conds m.facts []=some m.bind:=by
 rw[WY h1 h2];constructor
 ·intro h;obtain⟨t,ht,e⟩:=cJ.1 h;obtain⟨t0,ht0,F',q1,q2⟩:=(To fs r.conds _ t).1 ht;rw[cH.1 ht0]at q1 q2;subst e;rw[eN]at q1;refine⟨rfl,?_⟩;show runT fs r.conds t.facts []=some t.bind;rw[q1];exact q2
 ·rintro⟨e,h⟩;exact cJ.2 ⟨⟨m.facts,m.bind⟩,(To fs r.conds _ _).2 ⟨⟨[],[]⟩,by simp,m.facts,by simp,h⟩,by cases m;cases e;rfl⟩
theorem Z8{c:aS}{b:aP}{fs gs:aJ}(h1:c.kind≠1)(h2:c.kind≠2):zm c b fs=zm c b gs:=by
 unfold zm;rw[ax h1,ax h2];rfl
theorem Ny{fs gs:aJ}:∀(cs:ay) (F:aJ) (b b':aP),(∀c∈cs,c.kind≠2)->(∀f∈F,f∈fs->f∈gs)->runT fs cs F b=some b'->runT gs cs F b=some b'
 | [],[],_,_,_,_,h=>h
 | [],_::_,_,_,_,_,h=>by simp[runT]at h
 |c::cs,F,b,b',h2,hF,h=>by
  simp only[runT]at h⊢;by_cases hk:c.kind=1
  ·rw[bO hk]at h⊢;cases F with
   |nil=>cases h
   |cons f F=>
    dsimp only at h⊢;split at h
    ·rename_i hc;rw[bO ⟨hF f (by simp) hc.1,hc.2⟩];exact Ny cs F _ b' (fun c hc=>h2 c (by simp[hc])) (fun f hf=>hF f (by simp[hf])) h
    ·cases h
  ·rw[bE hk]at h⊢;split at h
   ·rename_i hh;rw[bO (by rw[<-Z8 (fs:=fs) hk (h2 c (by simp))];exact hh)];exact Ny cs F b b' (fun c hc=>h2 c (by simp[hc])) hF h
   ·cases h
theorem IT{fs:aJ}:∀(cs:ay) (F:aJ) (b b':aP),runT fs cs F b=some b'->∀f∈F,f∈fs
 | [],[],_,_,_=>by simp
 | [],_::_,_,_,h=>by simp[runT]at h
 |c::cs,F,b,b',h=>by
  simp only[runT]at h;by_cases hk:c.kind=1
  ·rw[bO hk]at h;cases F with
   |nil=>cases h
   |cons f F=>
    dsimp only at h;split at h
    ·rename_i hc;intro g hg;rcases bV.1 hg with rfl|hg
     ·exact hc.1
     ·exact IT cs F _ b' h g hg
    ·cases h
  ·rw[bE hk]at h;split at h
   ·exact IT cs F b b' h
   ·cases h
theorem XP{all:az}:∀ {l:az} {i:Nat},LL all l i=true->∀(j:Nat) r,l[j]?=some r->fS r=true/\Ab r.name all 0=((i+j:Nat):Int)
 | [],_,_,j,r,h=>by simp at h
 |x::l,i,ha,j,r,h=>by
  unfold LL at ha;simp only[aU,bH]at ha;cases j with
  |zero=>simp at h;subst h;exact⟨ha.1.1,ha.1.2⟩
  |succ j=>
   have:=XP ha.2 j r (by simpa using h);exact⟨this.1,by rw[this.2];congr 1;omega⟩
theorem LK{l:az}(h:qU l=true){j:Nat}{r:aN}(hj:l[j]?=some r):fS r=true/\Ab r.name l 0=(j:Int):=by
 unfold qU at h;rw[aU]at h;have:=XP h.1 j r hj;rw[cY]at this;exact this
theorem Y7{rs:az}{fs:aJ}(h1:qU rs=true)(h2:fK fs=true)(m:ai):m∈zK rs fs↔∃(j:Nat) (r:aN),rs[j]?=some r/\m.rule=r.name/\runT fs r.conds m.facts []=some m.bind:=by
 unfold zK;rw[h1,aG,cB];constructor
 ·rintro⟨r,hr,hm⟩;obtain⟨j,hj⟩:=iO hr;obtain⟨q1,q2⟩:=(TM (LK h1 hj).1 h2 m).1 hm;exact⟨j,r,hj,q1,q2⟩
 ·rintro⟨j,r,hj,q1,q2⟩;exact⟨r,aE hj,(TM (LK h1 hj).1 h2 m).2 ⟨q1,q2⟩⟩
theorem a26{r:aN}{fs:aJ}(h1:fS r=true)(h2:fK fs=true):(mtB r fs).Nodup:=by
 rw[WY h1 h2];have h:=YS (cs:=r.conds) (Gm h2);unfold KD at h;unfold List.Nodup;rw[List.pairwise_map];exact h.imp fun hne e=>hne (ai.mk.inj e).2.1
theorem IL{rs:az}{fs:aJ}(h1:qU rs=true)(h2:fK fs=true):(zK rs fs).Nodup:=by
 unfold zK;rw[h1,aG];unfold List.Nodup;rw[zQ];refine⟨fun r hr=>a26 (oQ h1 r hr) h2,?_⟩;rw[Cl];intro i j hi hj hij x hx y hy e;have a1:=LK h1 (av hi);have a2:=LK h1 (av hj);have e1:=((TM a1.1 h2 x).1 hx).1;have e2:=((TM a2.1 h2 y).1 hy).1;rw[<-e1,e,e2]at a1;have:=a1.2.symm.trans a2.2;omega
theorem UR{G:Type}[DecidableEq G]{a b:List G}(ha:a.Nodup)(hb:b.Nodup):b.length+(a.filter fun x=> !decide (x∈b)).length=a.length+(b.filter fun x=> !decide (x∈a)).length:=by
 have h1:(a.filter fun x=>decide (x∈b)).Perm (b.filter fun x=>decide (x∈a)):=by
  rw[List.perm_ext_iff_of_nodup (ha.sublist List.filter_sublist) (hb.sublist List.filter_sublist)];intro x;simp only[gw,bH];exact And.comm
 have h2:=h1.length_eq;have k:∀(l m:List G),l.length=(l.filter fun x=>decide (x∈m)).length+(l.filter fun x=> !decide (x∈m)).length:=by
  intro l m
  induction l with
  |nil=>rfl
  |cons x l ih=>
   by_cases h:x∈m
   ·simp only[Dn,h,Cy,nN,bU,aR];simp at ih⊢;omega
   ·simp only[Dn,h,LB,bt,nN,aR];simp at ih⊢;omega
 have h3:=k a b;have h4:=k b a;omega
structure Frg(rs:List aN)(f:aC):Prop where
 ne:f.rel≠[]
 cond:∀r∈rs,∀c∈r.conds,c.pat.rel≠f.rel
def dN(c:ck):Prop:=0<=c.i/\c.b.length<=4096
theorem XW(x:Int):0<=Ji .i64 x 255/\Ji .i64 x 255<=255:=by
 unfold Ji;have h:(BitVec.ofInt IntKind.i64.bits x&&& BitVec.ofInt IntKind.i64.bits 255).toNat<=255:=by
  rw[BitVec.toNat_and];exact eZ Nat.and_le_right (by decide)
 rw[eD (qv.i64.2 (by omega))];omega
theorem aCg(c:ck)(h:dN c):∃c' x,rF c=some (c',x)/\dN c'/\0<=x/\x<=255:=by
 obtain⟨h1,h2⟩:=h;unfold rF;rw[aq];by_cases hi:c.i<(c.b.length:Int)
 ·have hlt:c.i.toNat<c.b.length:=by omega
  have e:gA c.b c.i=some c.b[c.i.toNat]:=by unfold gA;rw[au h1,aG];exact av hlt
  rw[au hi,aG,e,aA];refine⟨_,_,rfl,⟨?_,h2⟩,XW _⟩;show 0<=IntKind.i64.wrap (c.i+1);rw[eD (qv.i64.2 (by omega))];omega
 ·rw[ax hi,aL];exact⟨_,_,rfl,⟨h1,h2⟩,XW _⟩
theorem qi(c:ck)(n:Int)(h:dN c)(h0:0<n)(h1:n<=256):∃c' r,cg c n=some (c',r)/\dN c'/\0<=r/\r<n:=by
 obtain⟨c',x,e,hc,hx,hx2⟩:=aCg c h;unfold cg;have e1:decide (n<=0)=false:=by simp;omega
 have e2:decide (n<=256)=true:=by simp;omega
 have e3:(decide (0<=x)&&decide (0<n))=true:=by simp;omega
 rw[e1,aL,e2,aG,e,aA,e3,aG];exact⟨_,_,rfl,hc,Int.emod_nonneg _ (by omega),Int.emod_lt_of_pos _ h0⟩
theorem Qo(c:ck)(n:Int)(h:dN c)(h0:0<n)(h1:n<=256):∃c' b,eb c n=some (c',b)/\dN c':=by
 obtain⟨c',x,e,hc,_⟩:=qi c n h h0 h1;unfold eb;rw[e,aA];exact⟨_,_,rfl,hc⟩
theorem Zl(c:ck)(l:aI)(h:dN c)(h0:0<l.length)(h1:l.length<=256):∃c' s,qy c l=some (c',s)/\dN c'/\s∈l:=by
 obtain⟨c',x,e,hc,hx,hx2⟩:=qi c (l.length:Int) h (by omega) (by omega);unfold qy;rw[aq,e,aA];have hlt:x.toNat<l.length:=by omega
 have e2:gA l x=some l[x.toNat]:=by unfold gA;rw[au hx,aG];exact av hlt
 rw[e2,aA];exact⟨_,_,rfl,hc,j6 hlt⟩
theorem Wn(c:ck)(h:dN c):∃c' s,jA c=some (c',s)/\dN c'/\s.length<=16:=by
 unfold jA;obtain⟨c',s,e,hc,hs⟩:=Zl c ([[97],[98],[99],[49],[50]]:aI) h (by decide) (by decide);rw[e,aA];have:∀s∈([[97],[98],[99],[49],[50]]:aI),s.length<=16:=by decide
 exact⟨_,_,rfl,hc,this s hs⟩
theorem O0(c:ck)(h:dN c):∃c' s,nJ c=some (c',s)/\dN c'/\s.length<=16:=by
 unfold nJ;generalize hl:([[97],[98],[111,110],[55],[49,48],[57,57,57,57],[49,48,48,48,48],[48,48,55],[48],[],[65],[63,120],[63,63],[63],[97,98,99,100,101,102,103,104],[97,98,99,100,101,102,103,104,105],[63,97,98,99,100,101,102,103,104],[97,45,98],[120,49],[49,120],[45,51]]:aI)=l;have h0:0<l.length/\l.length<=256/\∀s∈l,s.length<=16:=by subst hl;decide
 obtain⟨c',s,e,hc,hs⟩:=Zl c l h h0.1 h0.2.1;rw[e,aA];exact⟨_,_,rfl,hc,h0.2.2 s hs⟩
theorem Wy(c:ck)(h:dN c):∃c' s,rH c=some (c',s)/\dN c'/\s.length<=16:=by
 unfold rH;obtain⟨c1,b,e,hc⟩:=Qo c 4 h (by decide) (by decide);rw[e,aA];cases b with
 |true=>
  obtain⟨c2,s,e2,CO,hs⟩:=Wn c1 hc;rw[aG,e2,aA];exact⟨_,_,rfl,CO,hs⟩
 |false=>
  obtain⟨c2,s,e2,CO,hs⟩:=Zl c1 ([[63,120],[63,121],[63,122]]:aI) hc (by decide) (by decide);rw[aL,e2,aA];have:∀s∈([[63,120],[63,121],[63,122]]:aI),s.length<=16:=by decide
  exact⟨_,_,rfl,CO,this s hs⟩
theorem aCx(c:ck)(h:dN c):∃c' r n,pP c=some (c',(r,n))/\dN c'/\r.length<=16/\0<=n/\n<=2:=by
 unfold pP;obtain⟨c1,x,e,hc,hx,hx2⟩:=qi c 6 h (by decide) (by decide);rw[e,aA];have key:x=0\/x=1\/x=2\/x=3\/x=4\/x=5:=by omega
 rcases key with rfl|rfl|rfl|rfl|rfl|rfl<;>exact⟨c1,_,_,rfl,hc,by decide,by decide,by decide⟩
def lM(k:Nat)(p:aC):Prop:=p.rel.length<=16/\p.args.length<=k/\∀x∈p.args,x.length<=16
theorem SM:∀(l:aI),(∀x∈l,x.length<=16)->sD tw l<=17*l.length
 | [],_=>by simp[sD]
 |x::l,h=>by
  have h1:=SM l fun y hy=>h y (by simp[hy])
  have h2:=h x (by simp);rw[pz,aR];unfold tw at*;omega
theorem a5g(y:ck×(Bytes×Int))(k:bM->Int->Int->aI->Option (ck×aC)):∀(m:Nat) (fu:Nat) (v:Int) (c:ck) (w:aI),y.2.2-v=(m:Int)->m<fu->0<=v->y.2.2<=100->w.length+m<=1000->dN c->(∀x∈w,x.length<=16)->
 ∃c' w',mr y k fu v c.b c.i c.h w=k c'.b c'.i c'.h w'/\dN c'/\w'.length<=w.length+m/\∀x∈w',x.length<=16:=by
 intro m
 induction m with
 |zero=>
  intro fu v c w hv hf h0 hy hw hc hx;cases fu with
  |zero=>omega
  |succ fu=>
   have e:decide (v<y.2.2)=false:=by simp;omega
   rw[mr,e,aL];exact⟨c,w,rfl,hc,by omega,hx⟩
 |succ m ih=>
  intro fu v c w hv hf h0 hy hw hc hx;cases fu with
  |zero=>omega
  |succ fu=>
   have e:decide (v<y.2.2)=true:=by simp;omega
   obtain⟨c1,s,e2,hc1,hs⟩:=Wy c hc;have Vv:rH (⟨c.b,c.i,c.h⟩:ck)=some (c1,s):=e2;have e3:IntKind.i64.wrap (v+1)=v+1:=eD (qv.i64.2 (by omega));rw[mr,e,aG,Vv,aA,gG (by omega) (by decide),aG,e3];obtain⟨c',w',q1,q2,q3,q4⟩:=ih fu (v+1) c1 (w++[s]) (by omega) (by omega) (by omega) hy (by simp;omega) hc1 (fun x WN=>by
    rcases aX.1 WN with h|h
    ·exact hx x h
    ·simp at h;subst h;exact hs)
   exact⟨c',w',q1,q2,by simp at q3;omega,q4⟩
theorem Td(c:ck)(h:dN c):∃c' p,jy c=some (c',p)/\dN c'/\lM 2 p:=by
 unfold jy;obtain⟨c1,r,n,e,hc,hr,hn,hn2⟩:=aCx c h;rw[e,aA];obtain⟨c',w',q1,q2,q3,q4⟩:=a5g (c1,(r,n)) (fun a b d q=>some ((⟨a,b,d⟩:ck),(⟨r,q⟩:aC))) n.toNat fuel 0 c1 [] (by simp;omega) (by unfold fuel;omega) (by omega) (by simp;omega) (by simp;omega) hc (by simp);exact⟨_,_,q1,q2,hr,by show w'.length<=2;simp at q3;omega,q4⟩
theorem a7O(c:ck)(h:dN c):∃c' p,wj c=some (c',p)/\dN c'/\lM 4 p:=by
 unfold wj;obtain⟨c1,p,e,hc,hp1,hp2,hp3⟩:=Td c h;obtain⟨c2,x,e2,CO,hx,hx2⟩:=qi c1 10 hc (by decide) (by decide);rw[e,aA,e2,aA];cases(x==(0:Int))with
 |true=>
  obtain⟨c3,s,e3,Hy,hs⟩:=O0 c2 CO;rw[aG,e3,aA];exact⟨_,_,rfl,Hy,hs,by show p.args.length<=4;omega,hp3⟩
 |false=>
  rw[aL];cases(x==(1:Int))with
  |true=>
   obtain⟨c3,s,e3,Hy,hs⟩:=O0 c2 CO;rw[aG,e3,aA,gG (w:=p.args) (by omega) (by decide),aG];refine⟨_,_,rfl,Hy,hp1,by simp;omega,fun y hy=>?_⟩;rcases aX.1 hy with h|h
   ·exact hp3 y h
   ·simp at h;subst h;exact hs
  |false=>
   rw[aL];cases(x==(2:Int))with
   |true=>
    obtain⟨c3,z,e3,Hy,hz,WO⟩:=qi c2 5 CO (by decide) (by decide);have e4:(decide (0<=z)&&decide (z.toNat<=(([[63,120],[63,120],[63,121],[63,120]]:aI).map tx).length))=true:=by simp;omega
    rw[aG,e3,aA,e4,aG];refine⟨_,_,rfl,Hy,hp1,by simp[cU];omega,fun y hy=>?_⟩;have:∀s∈([[63,120],[63,120],[63,121],[63,120]]:aI),s.length<=16:=by decide
    exact this y (cO hy)
   |false=>exact⟨_,_,rfl,CO,hp1,by show p.args.length<=4;omega,hp3⟩
theorem aCt(code:bM)(h:code.length<=4096):∃c,zA code=some c/\dN c:=by
 unfold zA;have key:∀(k:Int->Option ck) (r:bM) (i:Nat) (v:Int),∃z,qf code k r i v=k z:=by
  intro k r
  induction r with
  |nil=>intro i v;exact⟨v,rfl⟩
  |cons x r ih=>
   intro i v;rw[qf];cases decide ((i:Int)<4000)with
   |true=>exact ih _ _
   |false=>exact⟨v,rfl⟩
 obtain⟨z,e⟩:=key (fun z=>some (⟨code,0,z⟩:ck)) code 0 (IntKind.i64.wrap (851207+(IntKind.i64.wrap (3*((code.map yx).length:Int)))));rw[sF (by omega),aG,e];exact⟨_,rfl,by show(0:Int)<=0;omega,h⟩
theorem OX(c:ck)(l:bM)(h:dN c)(h0:0<l.length)(h1:l.length<=256):∃c' s,iv c l=some (c',s)/\dN c'/\s∈l:=by
 obtain⟨c',x,e,hc,hx,hx2⟩:=qi c (l.length:Int) h (by omega) (by omega);unfold iv;rw[aq,e,aA];have hlt:x.toNat<l.length:=by omega
 have e2:gA l x=some l[x.toNat]:=by unfold gA;rw[au hx,aG];exact av hlt
 rw[e2,aA];exact⟨_,_,rfl,hc,j6 hlt⟩
theorem a5e(y:ck×(Bytes×Int))(k:bM->Int->Int->aI->Option (ck×aC)):∀(m:Nat) (fu:Nat) (v:Int) (c:ck) (w:aI),y.2.2-v=(m:Int)->m<fu->0<=v->y.2.2<=100->w.length+m<=1000->dN c->(∀x∈w,x.length<=16)->
 ∃c' w',iH y k fu v c.b c.i c.h w=k c'.b c'.i c'.h w'/\dN c'/\w'.length<=w.length+m/\∀x∈w',x.length<=16:=by
 intro m
 induction m with
 |zero=>
  intro fu v c w hv hf h0 hy hw hc hx;cases fu with
  |zero=>omega
  |succ fu=>
   have e:decide (v<y.2.2)=false:=by simp;omega
   rw[iH,e,aL];exact⟨c,w,rfl,hc,by omega,hx⟩
 |succ m ih=>
  intro fu v c w hv hf h0 hy hw hc hx;cases fu with
  |zero=>omega
  |succ fu=>
   have e:decide (v<y.2.2)=true:=by simp;omega
   obtain⟨c1,s,e2,hc1,hs⟩:=Wn c hc;have Vv:jA (⟨c.b,c.i,c.h⟩:ck)=some (c1,s):=e2;have e3:IntKind.i64.wrap (v+1)=v+1:=eD (qv.i64.2 (by omega));rw[iH,e,aG,Vv,aA,gG (by omega) (by decide),aG,e3];obtain⟨c',w',q1,q2,q3,q4⟩:=ih fu (v+1) c1 (w++[s]) (by omega) (by omega) (by omega) hy (by simp;omega) hc1 (fun x WN=>by
    rcases aX.1 WN with h|h
    ·exact hx x h
    ·simp at h;subst h;exact hs)
   exact⟨c',w',q1,q2,by simp at q3;omega,q4⟩
theorem aCy(c:ck)(h:dN c):∃c' r n,pP c=some (c',(r,n))/\dN c'/\r.length<=16/\0<=n/\n<=2/\r≠[110]:=by
 unfold pP;obtain⟨c1,x,e,hc,hx,hx2⟩:=qi c 6 h (by decide) (by decide);rw[e,aA];have key:x=0\/x=1\/x=2\/x=3\/x=4\/x=5:=by omega
 rcases key with rfl|rfl|rfl|rfl|rfl|rfl<;>exact⟨c1,_,_,rfl,hc,by decide,by decide,by decide,by decide⟩
theorem Ws(c:ck)(h:dN c):∃c' p,fP c=some (c',p)/\dN c'/\lM 2 p/\p.rel≠[110]:=by
 unfold fP;obtain⟨c1,r,n,e,hc,hr,hn,hn2,hrn⟩:=aCy c h;rw[e,aA];obtain⟨c',w',q1,q2,q3,q4⟩:=a5e (c1,(r,n)) (fun a b d q=>some ((⟨a,b,d⟩:ck),(⟨r,q⟩:aC))) n.toNat fuel 0 c1 [] (by simp;omega) (by unfold fuel;omega) (by omega) (by simp;omega) (by simp;omega) hc (by simp);exact⟨_,_,q1,q2,⟨hr,by show w'.length<=2;simp at q3;omega,q4⟩,hrn⟩
theorem a7N(c:ck)(h:dN c):∃c' p,lV c=some (c',p)/\dN c'/\lM 4 p:=by
 unfold lV;obtain⟨c1,p,e,hc,⟨hp1,hp2,hp3⟩,_⟩:=Ws c h;obtain⟨c2,x,e2,CO,hx,hx2⟩:=qi c1 10 hc (by decide) (by decide);rw[e,aA,e2,aA];cases(x==(0:Int))with
 |true=>
  obtain⟨c3,s,e3,Hy,hs⟩:=O0 c2 CO;rw[aG,e3,aA];exact⟨_,_,rfl,Hy,hs,by show p.args.length<=4;omega,hp3⟩
 |false=>
  rw[aL];cases(x==(1:Int))with
  |true=>
   obtain⟨c3,s,e3,Hy,hs⟩:=O0 c2 CO;rw[aG,e3,aA,gG (w:=p.args) (by omega) (by decide),aG];refine⟨_,_,rfl,Hy,hp1,by simp;omega,fun y hy=>?_⟩;rcases aX.1 hy with h|h
   ·exact hp3 y h
   ·simp at h;subst h;exact hs
  |false=>
   rw[aL];cases(x==(2:Int))with
   |true=>
    obtain⟨c3,z,e3,Hy,hz,WO⟩:=qi c2 5 CO (by decide) (by decide);have e4:(decide (0<=z)&&decide (z.toNat<=(([[97],[98],[99],[97]]:aI).map tx).length))=true:=by simp;omega
    rw[aG,e3,aA,e4,aG];refine⟨_,_,rfl,Hy,hp1,by simp[cU];omega,fun y hy=>?_⟩;have:∀s∈([[97],[98],[99],[97]]:aI),s.length<=16:=by decide
    exact this y (cO hy)
   |false=>exact⟨_,_,rfl,CO,hp1,by show p.args.length<=4;omega,hp3⟩
def DL(n:Nat)(l:aJ):Prop:=l.length<=n/\∀f∈l,lM 4 f
theorem lM.le{k m:Nat}{p:aC}(h:lM k p)(hm:k<=m):lM m p:=⟨h.1,by have:=h.2.1;omega,h.2.2⟩
theorem lM.copy{k:Nat}{p:aC}(h:lM k p)(hk:k<=1000):p.args.length<=1099511627776:=by have:=h.2.1;omega
theorem a9W(a:aJ)(f:aC)(K:Bool->aJ->Option aJ)(hf:lM 4 f):∀(rest:aJ) (i:Nat) (v:Bool) (w:aJ),(∀x∈rest,lM 4 x)->w.length+2*rest.length<=1000->
 ∃v' w',dF a f K rest i v w=K v' w'/\(∀x∈w',x∈w\/x∈rest\/x=f)/\w.length+rest.length<=w'.length/\
  (bif v then v'=true/\w'.length=w.length+rest.length else bif v' then w'.length<=w.length+rest.length+1/\((∀x∈rest,oJ x f≠0)->w'.length=w.length+rest.length+1)else w'.length=w.length+rest.length):=by
 intro rest
 induction rest with
 |nil=>
  intro i v w _ _;refine⟨v,w,rfl,fun x hx=>.inl hx,by simp,?_⟩;cases v<;>simp
 |cons x xs ih=>
  intro i v w hs hl;simp only[aR]at hl;have hx:=hs x (by simp);have hs':∀y∈xs,lM 4 y:=fun y hy=>hs y (by simp[hy])
  have cx:=zu x (hx.copy (by decide));have cf:=zu f (hf.copy (by decide));have nx:=fun w':aJ=>fun h:w'.length<1099511627776=>gG (w:=w') (c:=aC.c) (y:=[D.str x.rel,D.sl (x.args.map tx)]) (b:=40) h (by decide)
  have nf:=fun w':aJ=>fun h:w'.length<1099511627776=>gG (w:=w') (c:=aC.c) (y:=[D.str f.rel,D.sl (f.args.map tx)]) (b:=40) h (by decide)
  cases v with
  |true=>
   obtain⟨v',w',q1,q2,q3,q4⟩:=ih (i+1) true (w++[x]) hs' (by simp;omega);simp only[bC,aR,cE,aG]at q3 q4;refine⟨v',w',?_,fun z hz=>?_,by simp only[aR];omega,?_⟩
   ·rw[dF,bU,aL,cx,aA,nx w (by omega),aG];exact q1
   ·rcases q2 z hz with h|h|h
    ·rcases aX.1 h with h|h
     ·exact .inl h
     ·simp at h;subst h;exact .inr (.inl (by simp))
    ·exact .inr (.inl (by simp[h]))
    ·exact .inr (.inr h)
   ·simp only[aG,aR];exact⟨q4.1,by omega⟩
  |false=>
   rw[dF,bt,aG,VJ,aA];by_cases hge:oJ x f>=0
   ·rw[au hge,aG,aA];by_cases hgt:oJ x f>0
    ·obtain⟨v',w',q1,q2,q3,q4⟩:=ih (i+1) true (w++[f]++[x]) hs' (by simp;omega);simp only[bC,aR,cE,aG]at q3 q4;have e2:room (((w.map aC.c)++[[D.str f.rel,D.sl (f.args.map tx)]]).length+[[D.str x.rel,D.sl (x.args.map tx)]].length) 40=true:=by
      have:=nx (w++[f]) (by simp;omega);rw[bI]at this;exact this
     refine⟨v',w',?_,fun z hz=>?_,by simp only[aR];omega,?_⟩
     ·rw[au hgt,aG,cf,aA,nf w (by omega),aG,cx,aA,e2,aG];exact q1
     ·rcases q2 z hz with h|h|h
      ·rcases aX.1 h with h|h
       ·rcases aX.1 h with h|h
        ·exact .inl h
        ·simp at h;exact .inr (.inr h)
       ·simp at h;subst h;exact .inr (.inl (by simp))
      ·exact .inr (.inl (by simp[h]))
      ·exact .inr (.inr h)
     ·rw[q4.1];simp only[aL,aG,aR];exact⟨by omega,fun _=>by omega⟩
    ·have hz:oJ x f=0:=by omega
     obtain⟨v',w',q1,q2,q3,q4⟩:=ih (i+1) true (w++[x]) hs' (by simp;omega);simp only[bC,aR,cE,aG]at q3 q4;refine⟨v',w',?_,fun z hz=>?_,by simp only[aR];omega,?_⟩
     ·rw[ax hgt,aL,cx,aA,nx w (by omega),aG];exact q1
     ·rcases q2 z hz with h|h|h
      ·rcases aX.1 h with h|h
       ·exact .inl h
       ·simp at h;subst h;exact .inr (.inl (by simp))
      ·exact .inr (.inl (by simp[h]))
      ·exact .inr (.inr h)
     ·rw[q4.1];simp only[aL,aG,aR];exact⟨by omega,fun h=>absurd hz (h x (by simp))⟩
   ·obtain⟨v',w',q1,q2,q3,q4⟩:=ih (i+1) false (w++[x]) hs' (by simp;omega);simp only[bC,aR,cE,aL]at q3 q4;refine⟨v',w',?_,fun z hz=>?_,by simp only[aR];omega,?_⟩
    ·rw[ax hge,aL,cx,aA,nx w (by omega),aG];exact q1
    ·rcases q2 z hz with h|h|h
     ·rcases aX.1 h with h|h
      ·exact .inl h
      ·simp at h;subst h;exact .inr (.inl (by simp))
     ·exact .inr (.inl (by simp[h]))
     ·exact .inr (.inr h)
    ·cases v' with
     |true=>
      simp only[aG,aL,aR]at q4⊢;exact⟨by omega,fun h=>by have:=q4.2 (fun y hy=>h y (by simp[hy]));omega⟩
     |false=>simp only[aL,aR]at q4⊢;omega
theorem a7b(l:aJ)(f:aC){n:Nat}(hl:DL n l)(hn:n<=100)(hf:lM 4 f):∃l',lW l f=some l'/\DL (n+1) l'/\(∀x∈l',x∈l\/x=f)/\((∀x∈l,oJ x f≠0)->l'.length=l.length+1):=by
 unfold lW;obtain⟨v',w',q1,q2,q3,q4⟩:=a9W l f (fun(wV:Bool) (kP:aJ)=>(bif !(wV)then((eF f).bind fun RW=>(bif room ((kP.map aC.c).length+([[D.str RW.rel,D.sl (RW.args.map tx)]]).length) 40 then(some (kP++([RW])))else none))else(some kP))) hf l 0 false [] hl.2 (by have:=hl.1;simp;omega);have hln:=hl.1;simp only[cE,cY,aL]at q3 q4;have q2':∀x∈w',x∈l\/x=f:=fun x hx=>by
  rcases q2 x hx with h|h|h
  ·cases h
  ·exact .inl h
  ·exact .inr h
 have sm:∀x∈w',lM 4 x:=fun x hx=>by
  rcases q2' x hx with h|h
  ·exact hl.2 x h
  ·rw[h];exact hf
 cases v' with
 |true=>
  simp only[aG]at q4;exact⟨w',q1,⟨by omega,sm⟩,q2',q4.2⟩
 |false=>
  simp only[aL]at q4;refine⟨w'++[f],?_,⟨by simp;omega,fun x hx=>?_⟩,fun x hx=>?_,fun _=>by simp;omega⟩
  ·rw[q1];show(bif !false then _ else _)=_;rw[bt,aG,zu f (hf.copy (by decide)),aA,gG (w:=w') (c:=aC.c) (y:=[D.str f.rel,D.sl (f.args.map tx)]) (by omega) (by decide),aG]
  ·rcases aX.1 hx with h|h
   ·exact sm x h
   ·simp at h;subst h;exact hf
  ·rcases aX.1 hx with h|h
   ·exact q2' x h
   ·simp at h;exact .inr h
theorem aD2(k:bM->Int->Int->aJ->Option (ck×aJ)):∀(m:Nat) (fu:Nat) (v:Int) (c:ck) (w:aJ) (n:Nat),v=(m:Int)->m<fu->m<=50->n+m<=60->dN c->DL n w->(∀x∈w,x.rel≠[110])->
 ∃c' w',j5 k fu v c.b c.i c.h w=k c'.b c'.i c'.h w'/\dN c'/\DL (n+m) w'/\∀x∈w',x.rel≠[110]:=by
 intro m
 induction m with
 |zero=>
  intro fu v c w n hv hf hm hn hc hw hr;cases fu with
  |zero=>omega
  |succ fu=>
   have e:decide (v>0)=false:=by simp;omega
   rw[j5,e,aL];exact⟨c,w,rfl,hc,hw,hr⟩
 |succ m ih=>
  intro fu v c w n hv hf hm hn hc hw hr;cases fu with
  |zero=>omega
  |succ fu=>
   have e:decide (v>0)=true:=by simp;omega
   obtain⟨c1,f,e2,hc1,hf1,hf2⟩:=Ws c hc;have Vv:fP (⟨c.b,c.i,c.h⟩:ck)=some (c1,f):=e2;obtain⟨w1,e4,hw1,hm1,_⟩:=a7b w f hw (by omega) (hf1.le (by decide));have e3:IntKind.i64.wrap (v-1)=v-1:=eD (qv.i64.2 (by omega));rw[j5,e,aG,Vv,aA,e4,aA,e3];obtain⟨c',w',q1,q2,q3,q4⟩:=ih fu (v-1) c1 w1 (n+1) (by omega) (by omega) (by omega) (by omega) hc1 hw1 (fun x hx=>by
    rcases hm1 x hx with h|h
    ·exact hr x h
    ·rw[h];exact hf2)
   exact⟨c',w',q1,q2,⟨by have:=q3.1;omega,q3.2⟩,q4⟩
theorem a7f(c:ck)(n:Int)(h:dN c)(h0:0<=n)(hn:n<=40):∃c' l,qz c n=some (c',l)/\dN c'/\DL 40 l/\∀x∈l,x.rel≠[110]:=by
 unfold qz;have e3:IntKind.i64.wrap (n+1)=n+1:=eD (qv.i64.2 (by omega));obtain⟨c1,x,e,hc,hx,hx2⟩:=qi c (n+1) h (by omega) (by omega);rw[e3,e,aA];obtain⟨c',w',q1,q2,q3,q4⟩:=aD2 (fun a b d q=>some ((⟨a,b,d⟩:ck),q)) x.toNat fuel x c1 [] 0 (by omega) (by unfold fuel;omega) (by omega) (by omega) hc ⟨by simp,by simp⟩ (by simp);exact⟨_,_,q1,q2,⟨by have:=q3.1;omega,q3.2⟩,q4⟩
def Yt(j:Nat):Bytes:=if j<10 then [UInt8.ofNat (48+j)]else [UInt8.ofNat (48+j/10),UInt8.ofNat (48+j%10)]
theorem P9{j:Nat}(h:j<100):Lib.decDigits j=Yt j:=by
 unfold Yt;by_cases h1:j<10
 ·rw[bO h1,Lib.decDigits,dif_pos h1]
 ·rw[bE h1,Lib.decDigits,dif_neg h1,Lib.decDigits,dif_pos (by omega)];rfl
theorem US:∀j,j<25->Lib.decFrom 0 (Yt j)=some j/\1<=(Yt j).length/\(Yt j).length<=4:=by decide
theorem V5{j:Nat}(h:j<25):zL (Lib.decDigits j)=some j:=by
 rw[P9 (by omega)];obtain⟨h1,h2,h3⟩:=US j h;unfold zL;rw[bO ⟨h2,h3⟩,h1];simp only;rw[bO (P9 (by omega))]
def MV(j:Nat):aC:=⟨[110],[Lib.decDigits j]⟩
theorem a2E{i j:Nat}(hi:i<25)(hj:j<25)(h:i≠j):oJ (MV i) (MV j)≠0:=by
 have:Cn (Lib.decDigits i) (Lib.decDigits j)≠0:=by
  unfold Cn;rw[V5 hi,V5 hj];unfold Ia;simp only;split
  ·omega
  ·split<;>omega
 unfold oJ MV cmpL vR;simp only[ne_eq,not_true_eq_false,AE,this,not_false_eq_true,nN]
theorem V2{j:Nat}(h:j<25):lM 4 (MV j):=by
 refine⟨by simp[MV],by simp[MV],fun x hx=>?_⟩;simp only[MV,cH]at hx;subst hx;rw[P9 (by omega)];have:=(US j h).2.2;omega
theorem a9R(y:ck×Int)(k:aJ->Option (ck×aJ))(n0:Nat):∀(m:Nat) (fu:Nat) (j:Nat) (w:aJ),j+m=25->m<fu->n0<=40->DL (n0+j) w->j<=w.length->(∀x∈w,x.rel≠[110]\/∃i,i<j/\x=MV i)->
 ∃w',mq y k fu (j:Int) w=k w'/\DL (n0+25) w'/\25<=w'.length:=by
 intro m
 induction m with
 |zero=>
  intro fu j w hj hf hn hw hl hx;cases fu with
  |zero=>omega
  |succ fu=>
   have e:decide ((j:Int)<25)=false:=by simp;omega
   rw[mq,e,aL];exact⟨w,rfl,by rw[show n0+25=n0+j from by omega];exact hw,by omega⟩
 |succ m ih=>
  intro fu j w hj hf hn hw hl hx;cases fu with
  |zero=>omega
  |succ fu=>
   have e:decide ((j:Int)<25)=true:=by simp;omega
   have e1:kG (j:Int)=some (Lib.decDigits j):=by
    rw[a5j _ (qv.i64.2 (by omega))];unfold Lib.itoa;rw[bE (by omega)];rfl
   obtain⟨w1,e4,hw1,hm1,hlen⟩:=a7b w (MV j) hw (by omega) (V2 (by omega));have e4':lW w (⟨[110],[Lib.decDigits j]⟩:aC)=some w1:=e4;have e3:IntKind.i64.wrap ((j:Int)+1)=((j+1:Nat):Int):=by rw[eD (qv.i64.2 (by omega))];rfl
   have hlen:=hlen (fun x WN=>by
    rcases hx x WN with h|⟨i,hi,rfl⟩
    ·unfold oJ;rw[bO (by exact h)];exact Sl h
    ·exact a2E (by omega) (by omega) (by omega))
   rw[mq,e,aG,e1,aA,e4',aA,e3];exact ih fu (j+1) w1 (by omega) (by omega) hn hw1 (by omega) (fun x WN=>by
    rcases hm1 x WN with h|h
    ·rcases hx x h with h|⟨i,hi,rfl⟩
     ·exact .inl h
     ·exact .inr ⟨i,by omega,rfl⟩
    ·exact .inr ⟨j,by omega,h⟩)
theorem a9Q(c:ck)(h:dN c):∃c' l,xZ c=some (c',l)/\dN c'/\DL 65 l:=by
 unfold xZ;obtain⟨c1,l,e,hc,hl,hr⟩:=a7f c 6 h (by decide) (by decide);obtain⟨c2,x,e2,CO,hx,hx2⟩:=qi c1 8 hc (by decide) (by decide);rw[e,aA,e2,aA];have hl1:=hl.1;cases(x==(0:Int))with
 |true=>
  obtain⟨c3,f,e3,Hy,hf⟩:=a7N c2 CO;rw[aG,e3,aA,gG (w:=l) (c:=aC.c) (y:=[D.str f.rel,D.sl (f.args.map tx)]) (by omega) (by decide),aG];refine⟨_,_,rfl,Hy,by simp;omega,fun y hy=>?_⟩;rcases aX.1 hy with h|h
  ·exact hl.2 y h
  ·simp at h;subst h;exact hf
 |false=>
  rw[aL];cases(x==(1:Int))with
  |true=>
   rw[aG];obtain⟨w',q1,q2,q3⟩:=a9R (c2,x) (fun(kP:aJ)=>((iv c2 ([23,24,25]:bM)).bind fun Fk=>(bif decide (0<=(Fk.2:Int))&&decide (Fk.2.toNat<=(kP.map aC.c).length)then(some (Fk.1,kP.take Fk.2.toNat))else none))) 40 25 fuel 0 l (by omega) (by unfold fuel;omega) (by omega) hl (by omega) (fun y hy=>.inl (hr y hy));obtain⟨c3,z,e3,Hy,hz⟩:=OX c2 [23,24,25] CO (by decide) (by decide);have WO:0<=z/\z<=25:=by
    have:∀s∈([23,24,25]:bM),0<=s/\s<=25:=by decide
    exact this z hz
   have e4:(decide (0<=z)&&decide (z.toNat<=(w'.map aC.c).length))=true:=by simp;omega
   refine⟨c3,w'.take z.toNat,?_,Hy,by have:=q2.1;simp;omega,fun y hy=>q2.2 y (cO hy)⟩;refine Eq.trans q1 ?_;show((iv c2 [23,24,25]).bind _)=_;rw[e3,aA,e4,aG]
  |false=>exact⟨_,_,rfl,CO,by show l.length<=65;omega,hl.2⟩
def Ek(c:aS):Prop:=lM 4 c.pat/\c.left.length<=16/\c.right.length<=16
def Sa(a:Action):Prop:=lM 4 a.pat
def vc(n:Nat)(r:aN):Prop:=r.name.length<=16/\(r.conds.length<=n/\∀c∈r.conds,Ek c)/\(r.dD.length<=n/\∀a∈r.dD,Sa a)
theorem Bb{G:Type}{w:G->Nat}{B:Nat}:∀(l:List G),(∀x∈l,w x<=B)->sD w l<=(B+1)*l.length
 | [],_=>by simp[sD]
 |x::l,h=>by
  have h1:=Bb l fun y hy=>h y (by simp[hy])
  have h2:=h x (by simp);rw[pz,aR,Nat.mul_add];omega
theorem lM.wt4{p:aC}(h:lM 4 p):tw p.rel+sD tw p.args<=100:=by
 have:=SM p.args h.2.2;have h1:=h.1;have h2:=h.2.1;unfold tw at*;omega
theorem Ek.wt{c:aS}(h:Ek c):c.wt<=200:=by
 have h1:=h.1.wt4;have h2:=h.2.1;have h3:=h.2.2;unfold aS.wt;unfold tw at*;omega
theorem Sa.wt{a:Action}(h:Sa a):a.wt<=200:=by
 have h1:=lM.wt4 h;unfold Action.wt;unfold tw at*;omega
theorem vc.wt{n:Nat}{r:aN}(h:vc n r)(hn:n<=1000):r.wt<=1048576:=by
 obtain⟨h1,⟨h2,h3⟩,h4,h5⟩:=h;have c1:=Bb (w:=aS.wt) (B:=200) r.conds (fun x hx=>(h3 x hx).wt);have c2:=Bb (w:=Action.wt) (B:=200) r.dD (fun x hx=>(h5 x hx).wt);have d1:(200+1)*r.conds.length<=201*1000:=dY _ (by omega);have d2:(200+1)*r.dD.length<=201*1000:=dY _ (by omega);unfold aN.wt;unfold tw at*;omega
def PK(p:aC):Bool:=decide (p.rel.length<=16)&&(decide (p.args.length<=4)&&p.args.all fun x=>decide (x.length<=16))
theorem SB{p:aC}(h:PK p=true):lM 4 p:=by
 unfold PK at h;simp only[aU,bH,b8]at h;exact h
def Tk(r:aN):Bool:=(decide (r.name.length<=16)&&((decide (r.conds.length<=4)&&r.conds.all fun c=>PK c.pat&&(decide (c.left.length<=16)&&decide (c.right.length<=16)))&&(decide (r.dD.length<=4)&&r.dD.all fun a=>PK a.pat)))&&(decide (1<=r.conds.length)&&decide (1<=r.dD.length))
theorem Zo{r:aN}(h:Tk r=true):vc 4 r/\1<=r.conds.length/\1<=r.dD.length:=by
 unfold Tk at h;simp only[aU,bH,b8]at h;obtain⟨⟨h1,⟨h2,h3⟩,h4,h5⟩,h6,h7⟩:=h;exact⟨⟨h1,⟨h2,fun c hc=>⟨SB (h3 c hc).1,(h3 c hc).2⟩⟩,h4,fun a ha=>SB (h5 a ha)⟩,h6,h7⟩
theorem a9d(c:ck)(l r:Bytes)(h:dN c)(hl:l.length<=16)(hr:r.length<=16):∃c' x,xa c l r=some (c',x)/\dN c'/\Ek x:=by
 unfold xa;obtain⟨c1,k,e,hc,_⟩:=OX c [3,4,4,5] h (by decide) (by decide);rw[e,aA];exact⟨_,_,rfl,hc,⟨by simp,by simp,by simp⟩,hl,hr⟩
theorem a2m(c:ck)(h:dN c):∃c' x,tV c=some (c',x)/\dN c'/\Ek x:=by
 unfold tV;obtain⟨c1,k,e,hc,_,_⟩:=qi c 5 h (by decide) (by decide);rw[e,aA];have one:∀k:Int,∃c' x,((jy c1).bind fun y4=>(some (y4.1,(⟨k,y4.2,[],[]⟩:aS))))=some (c',x)/\dN c'/\Ek x:=fun k=>by
  obtain⟨c2,p,e2,CO,hp⟩:=Td c1 hc;rw[e2,aA];exact⟨_,_,rfl,CO,⟨hp.1,by have:=hp.2.1;show p.args.length<=4;omega,hp.2.2⟩,by simp,by simp⟩
 cases(k==(0:Int))with
 |true=>rw[aG];exact one 1
 |false=>
  rw[aL];cases(k==(1:Int))with
  |true=>rw[aG];exact one 1
  |false=>
   rw[aL];cases(k==(2:Int))with
   |true=>rw[aG];exact one 2
   |false=>
    obtain⟨c2,l,e2,CO,hl⟩:=Wy c1 hc;obtain⟨c3,r,e3,Hy,hr⟩:=Wy c2 CO;obtain⟨c4,x,e4,hc4,hx⟩:=a9d c3 l r Hy hl hr;rw[aL,e2,aA,e3,aA,e4,aA];exact⟨_,_,rfl,hc4,hx⟩
theorem aCc(c:ck)(h:dN c):∃c' x,zC c=some (c',x)/\dN c'/\Ek x:=by
 unfold zC;obtain⟨c1,x,e,hc,hx⟩:=a2m c h;obtain⟨c2,k,e2,CO,_,_⟩:=qi c1 12 hc (by decide) (by decide);rw[e,aA,e2,aA];cases(k==(0:Int))with
 |true=>
  obtain⟨c3,n,e3,Hy,_⟩:=OX c2 [0,1,3,5,6, -1] CO (by decide) (by decide);rw[aG,e3,aA];exact⟨_,_,rfl,Hy,hx⟩
 |false=>
  rw[aL];cases(k==(1:Int))with
  |true=>
   obtain⟨c3,s,e3,Hy,hs⟩:=O0 c2 CO;rw[aG,e3,aA];exact⟨_,_,rfl,Hy,hx.1,hs,hx.2.2⟩
  |false=>
   rw[aL];cases(k==(2:Int))with
   |true=>
    obtain⟨c3,p,e3,Hy,hp⟩:=a7O c2 CO;rw[aG,e3,aA];exact⟨_,_,rfl,Hy,hp,hx.2⟩
   |false=>exact⟨_,_,rfl,CO,hx⟩
def Y4(s:Bytes):Bool:=match rQ s with
 |some (r,_)=>Tk r&&fS r
 |none=>false
def U3(r:aN):Prop:=vc 4 r/\fS r=true/\1<=r.conds.length/\1<=r.dD.length
theorem a5k(K:aI)(c:ck)(m:Int)(h:dN c)(hm:0<m)(h0:0<K.length)(h1:K.length<=256)(hK:K.all Y4=true):
 ∃c' r,((cg c (TB m ((K.map tx).length:Int))).bind fun y1=>((gA K y1.2).bind fun x3=>((rQ x3).bind fun y5=>(some (y1.1,y5.1)))))=some (c',r)/\dN c'/\U3 r:=by
 have hlen:((K.map tx).length:Int)=(K.length:Int):=by simp
 have hmin:0<TB m ((K.map tx).length:Int)/\TB m ((K.map tx).length:Int)<=(K.length:Int):=by
  unfold TB;rw[hlen];split<;>omega
 obtain⟨c1,x,e,hc,hx,hx2⟩:=qi c _ h hmin.1 (by omega);have hlt:x.toNat<K.length:=by omega
 have e2:gA K x=some K[x.toNat]:=by unfold gA;rw[au hx,aG];exact av hlt
 have hk:=b8.1 hK _ (j6 hlt);unfold Y4 at hk;rw[e,aA,e2,aA];cases hp:rQ K[x.toNat]with
 |none=>rw[hp]at hk;cases hk
 |some p=>
  rw[hp]at hk;simp only[aU]at hk;obtain⟨q1,q2,q3⟩:=Zo hk.1;exact⟨_,_,rfl,hc,q1,hk.2,q2,q3⟩
theorem a2v(c:ck)(m:Int)(h:dN c)(hm:0<m):∃c' r,pq c m=some (c',r)/\dN c'/\U3 r:=by
 unfold pq;refine a5k _ c m h hm ?_ ?_ ?_
 ·decide
 ·decide
 ·kernel_rfl
theorem a5m(y1:ck×Int):∀(m:Nat) (fu:Nat) (v:Int) (c:ck) (w:ay),v=(m:Int)->m<fu->m<=50->w.length+m<=100->dN c->(∀x∈w,Ek x)->
 ∃c' w',(∀k,jk y1 k fu v c.b c.i c.h w=k c'.b c'.i c'.h w')/\dN c'/\w'.length=w.length+m/\∀x∈w',Ek x:=by
 intro m
 induction m with
 |zero=>
  intro fu v c w hv hf hm hn hc hw;cases fu with
  |zero=>omega
  |succ fu=>
   have e:decide (v>0)=false:=by simp;omega
   exact⟨c,w,fun k=>by rw[jk,e,aL],hc,rfl,hw⟩
 |succ m ih=>
  intro fu v c w hv hf hm hn hc hw;cases fu with
  |zero=>omega
  |succ fu=>
   have e:decide (v>0)=true:=by simp;omega
   obtain⟨c1,x,e2,hc1,hx⟩:=a2m c hc;have Vv:tV (⟨c.b,c.i,c.h⟩:ck)=some (c1,x):=e2;have e3:IntKind.i64.wrap (v-1)=v-1:=eD (qv.i64.2 (by omega));obtain⟨c',w',q1,q2,q3,q4⟩:=ih fu (v-1) c1 (w++[x]) (by omega) (by omega) (by omega) (by simp;omega) hc1 (fun y hy=>by
    rcases aX.1 hy with h|h
    ·exact hw y h
    ·simp at h;subst h;exact hx)
   exact⟨c',w',fun k=>by rw[jk,e,aG,Vv,aA,gG (by omega) (by decide),aG,e3];exact q1 k,q2,by simp at q3;omega,q4⟩
theorem a5n(y1:ck×Int)(q:ay)(y:aI)(xo:ck×aC):∀(m:Nat) (fu:Nat) (v:Nat) (c:ck) (w:aI),w.length=v+m->m<fu->w.length<=100->dN c->(∀x∈w,x.length<=16)->
 ∃c' w',(∀k,eH y1 q y xo k fu (v:Int) c.b c.i c.h w=k c'.b c'.i c'.h w')/\dN c'/\w'.length=w.length/\∀x∈w',x.length<=16:=by
 intro m
 induction m with
 |zero=>
  intro fu v c w hv hf hm hc hw;cases fu with
  |zero=>omega
  |succ fu=>
   have e:decide ((v:Int)<((w.map tx).length:Int))=false:=by simp;omega
   exact⟨c,w,fun k=>by rw[eH,e,aL],hc,rfl,hw⟩
 |succ m ih=>
  intro fu v c w hv hf hm hc hw;cases fu with
  |zero=>omega
  |succ fu=>
   have e:decide ((v:Int)<((w.map tx).length:Int))=true:=by simp;omega
   have hlt:v<w.length:=by omega
   have e1:gA w (v:Int)=some w[v]:=by unfold gA;rw[au (by omega),aG];exact av hlt
   have hx:=hw w[v] (j6 hlt);have e4:IntKind.i64.wrap ((v:Int)+1)=((v+1:Nat):Int):=by rw[eD (qv.i64.2 (by omega))];rfl
   have st:∀k,eH y1 q y xo k (fu+1) (v:Int) c.b c.i c.h w=(bif fp w[v]then(bif !(y.contains w[v])then((jA (⟨c.b,c.i,c.h⟩:ck)).bind fun y83=>eH y1 q y xo k fu ((v+1:Nat):Int) y83.1.b y83.1.i y83.1.h (w.set (v:Int).toNat y83.2))else eH y1 q y xo k fu ((v+1:Nat):Int) c.b c.i c.h w)else eH y1 q y xo k fu ((v+1:Nat):Int) c.b c.i c.h w):=by
    intro k;rw[eH,e,aG,e1,aA,Th w[v] (by omega),aA,e4,Zk,aA]
   obtain⟨c0,w0,p1,p2,p3,p4⟩:=ih fu (v+1) c w (by omega) (by omega) hm hc hw;cases hv1:fp w[v]with
   |false=>exact⟨c0,w0,fun k=>by rw[st k,hv1,aL];exact p1 k,p2,p3,p4⟩
   |true=>
    cases Gd:y.contains w[v]with
    |true=>exact⟨c0,w0,fun k=>by rw[st k,hv1,Gd,aG,bU,aL];exact p1 k,p2,p3,p4⟩
    |false=>
     obtain⟨c1,s,e2,hc1,hs⟩:=Wn c hc;have Vv:jA (⟨c.b,c.i,c.h⟩:ck)=some (c1,s):=e2;obtain⟨c',w',q1,q2,q3,q4⟩:=ih fu (v+1) c1 (w.set (v:Int).toNat s) (by simp;omega) (by omega) (by simpa using hm) hc1 (fun x WN=>by
      rcases sH WN with h|h
      ·exact hw x h
      ·subst h;exact hs)
     exact⟨c',w',fun k=>by rw[st k,hv1,Gd,aG,bt,aG,Vv,aA];exact q1 k,q2,by simpa using q3,q4⟩
theorem aCw(c:ck)(h:dN c):∃c' r,vQ c=some (c',r)/\dN c'/\U3 r:=by
 unfold vQ;obtain⟨c1,n,e1,hc1,_,_⟩:=qi c 4 h (by decide) (by decide);obtain⟨c2,p,e2,CO,hp⟩:=Td c1 hc1;obtain⟨c3,m,e3,Hy,hm,hm2⟩:=qi c2 3 CO (by decide) (by decide);rw[e1,aA,e2,aA,e3,aA];have hp4:lM 4 p:=⟨hp.1,by have:=hp.2.1;omega,hp.2.2⟩
 obtain⟨c4,cs,q1,hc4,a8M,hsm⟩:=a5m (c1,n) m.toNat fuel m c3 [(⟨1,p,[],[]⟩:aS)] (by omega) (by unfold fuel;omega) (by omega) (by simp;omega) Hy (fun x hx=>by
  simp at hx;subst hx;exact⟨hp4,by simp,by simp⟩)
 have hcs:1<=cs.length/\cs.length<=3:=by simp at a8M;omega
 rw[q1];dsimp only;have hw0:(⟨[114],n,cs,[]⟩:aN).wt<=1048576:=vc.wt (n:=4) ⟨by simp,⟨by show cs.length<=4;omega,hsm⟩,by simp,by simp⟩ (by decide);obtain⟨c5,q,e5,hc5,hq⟩:=Td c4 hc4;have e5':jy (⟨c4.b,c4.i,c4.h⟩:ck)=some (c5,q):=e5;rw[Wo (⟨[114],n,cs,[]⟩:aN) _ hw0,aA,e5',aA];dsimp only;obtain⟨c6,qa,r1,hc6,r3,r4⟩:=a5n (c1,n) cs (fU (Bw (⟨[114],n,cs,[]⟩:aN) ((cs.map aS.c).length:Int))) (c5,q) q.args.length fuel 0 c5 q.args (by simp) (by have:=hq.2.1;unfold fuel;omega) (by have:=hq.2.1;omega) hc5 hq.2.2;have r1':=r1;rw[show((0:Nat):Int)=0 from rfl]at r1';rw[r1'];obtain⟨c7,k,e7,hc7,_⟩:=OX c6 [1,1,2] hc6 (by decide) (by decide);have e7':iv (⟨c6.b,c6.i,c6.h⟩:ck) [1,1,2]=some (c7,k):=e7;obtain⟨c8,b,e8,hc8⟩:=Qo c7 6 hc7 (by decide) (by decide);have a2d:∀n,n<=4->room n 48=true:=fun n hn=>Fg (by omega) (by decide)
 rw[e7',aA];dsimp only;rw[a2d _ (by simp),aG,e8,aA];have hq4:lM 4 (⟨q.rel,qa⟩:aC):=⟨hq.1,by show qa.length<=4;have:=hq.2.1;omega,r4⟩
 have fin:∀(al:fB),1<=al.length->al.length<=2->(∀a∈al,Sa a)->∃c' r,((pN (⟨[114],n,cs,al⟩:aN)).bind fun y92=>(bif !(y92)then((pq c8 99).bind fun y95=>(some (y95.1,y95.2)))else(some (c8,(⟨[114],n,cs,al⟩:aN)))))=some (c',r)/\dN c'/\U3 r:=by
  intro al ha1 ha2 ha;have hsr:vc 4 (⟨[114],n,cs,al⟩:aN):=⟨by simp,⟨by show cs.length<=4;omega,hsm⟩,by show al.length<=4;omega,ha⟩
  rw[a7e _ (hsr.wt (by decide)),aA];cases hr:fS (⟨[114],n,cs,al⟩:aN)with
  |true=>exact⟨_,_,rfl,hc8,hsr,hr,hcs.1,ha1⟩
  |false=>
   obtain⟨c9,r,e9,hc9,hr9⟩:=a2v c8 99 hc8 (by decide);rw[bt,aG,e9,aA];exact⟨_,_,rfl,hc9,hr9⟩
 cases b with
 |true=>
  dsimp only;rw[aG,a2d _ (by simp),aG];exact fin _ (by simp) (by simp) (fun a ha=>by
   simp at ha;rcases ha with rfl|rfl
   ·exact hq4
   ·exact⟨by simp,by simp,by simp⟩)
 |false=>
  dsimp only;rw[aL];exact fin _ (by simp) (by simp) (fun a ha=>by
   simp at ha;subst ha;exact hq4)
theorem a2n(c:ck)(h:dN c):∃c' r,nK c=some (c',r)/\dN c'/\U3 r:=by
 unfold nK;obtain⟨c1,b,e,hc⟩:=Qo c 3 h (by decide) (by decide);rw[e,aA];cases b with
 |true=>
  obtain⟨c2,r,e2,CO,hr⟩:=aCw c1 hc;rw[aG,e2,aA];exact⟨_,_,rfl,CO,hr⟩
 |false=>
  obtain⟨c2,r,e2,CO,hr⟩:=a2v c1 99 hc (by decide);rw[aL,e2,aA];exact⟨_,_,rfl,CO,hr⟩
theorem vc.le{n m:Nat}{r:aN}(h:vc n r)(hm:n<=m):vc m r:=⟨h.1,⟨by have:=h.2.1.1;omega,h.2.1.2⟩,by have:=h.2.2.1;omega,h.2.2.2⟩
theorem aCd(c:ck)(h:dN c):∃c' r,zD c=some (c',r)/\dN c'/\vc 5 r:=by
 unfold zD;obtain⟨c1,r,e,hc,hg,_,g1,g2⟩:=a2n c h;obtain⟨c2,x,e2,CO,_,_⟩:=qi c1 14 hc (by decide) (by decide);have hr:=hg.le (m:=5) (by decide);have hl1:=hg.2.1.1;have PF:=hg.2.2.1;rw[e,aA,e2,aA];cases(x==(0:Int))with
 |true=>
  obtain⟨c3,s,e3,Hy,hs⟩:=O0 c2 CO;rw[aG,e3,aA];exact⟨_,_,rfl,Hy,hs,hr.2⟩
 |false=>
  rw[aL];cases(x==(1:Int))with
  |true=>
   obtain⟨c3,s,e3,Hy,_⟩:=OX c2 [-1,0,9,10] CO (by decide) (by decide);rw[aG,e3,aA];exact⟨_,_,rfl,Hy,hr⟩
  |false=>
   rw[aL];cases(x==(2:Int))with
   |true=>
    obtain⟨c3,k,e3,Hy,hk⟩:=aCc c2 CO;rw[aG,e3,aA,gG (by show r.conds.length<_;omega) (by decide),aG];refine⟨_,_,rfl,Hy,hr.1,⟨by simp;omega,fun y hy=>?_⟩,hr.2.2⟩;rcases aX.1 hy with h|h
    ·exact hr.2.1.2 y h
    ·simp at h;subst h;exact hk
   |false=>
    rw[aL];cases(x==(3:Int))with
    |true=>
     obtain⟨c3,k,e3,Hy,_⟩:=OX c2 [0,1,2,3,4] CO (by decide) (by decide);obtain⟨c4,p,e4,hc4,hp⟩:=a7O c3 Hy;rw[aG,e3,aA,e4,aA,gG (by show r.dD.length<_;omega) (by decide),aG];refine⟨_,_,rfl,hc4,hr.1,hr.2.1,by simp;omega,fun y hy=>?_⟩;rcases aX.1 hy with h|h
     ·exact hr.2.2.2 y h
     ·simp at h;subst h;exact hp
    |false=>
     rw[aL];cases(x==(4:Int))with
     |true=>
      rw[aG,YE (by simpa using g1),aA];exact⟨_,_,rfl,CO,hr.1,⟨by rw[mN,cU];show min _ r.conds.length-1<=5;omega,fun y hy=>hr.2.1.2 y (cO (fN hy))⟩,hr.2.2⟩
     |false=>
      rw[aL];cases(x==(5:Int))with
      |true=>
       rw[aG,YE (by simpa using g2),aA];exact⟨_,_,rfl,CO,hr.1,hr.2.1,by rw[mN,cU];show min _ r.dD.length-1<=5;omega,fun y hy=>hr.2.2.2 y (cO (fN hy))⟩
      |false=>
       rw[aL];cases(x==(6:Int))with
       |true=>
        obtain⟨c3,s,e3,Hy,hs⟩:=Zl c2 [[63,102],[63,97],[63,103]] CO (by decide) (by decide);obtain⟨c4,k,e4,hc4,_⟩:=OX c3 [1,2] Hy (by decide) (by decide);obtain⟨c5,t,e5,hc5,ht⟩:=Zl c4 [[63,102],[63,120]] hc4 (by decide) (by decide);have hs2:s.length<=16:=by
         have:∀s∈([[63,102],[63,97],[63,103]]:aI),s.length<=16:=by decide
         exact this s hs
        have ht2:t.length<=16:=by
         have:∀s∈([[63,102],[63,120]]:aI),s.length<=16:=by decide
         exact this t ht
        rw[aG,e3,aA,e4,aA,e5,aA];refine⟨_,_,rfl,hc5,hr.1,⟨by simp,fun y hy=>?_⟩,by simp,fun y hy=>?_⟩
        ·simp at hy;rcases hy with rfl|rfl|rfl
         ·exact⟨⟨by simp,by simp,by simp⟩,by simp,by simp⟩
         ·exact⟨⟨by simp,by simp,by simpa using hs2⟩,by simp,by simp⟩
         ·exact⟨⟨by simp,by simp,by simpa using ht2⟩,by simp,by simp⟩
        ·simp at hy;subst hy;exact⟨by simp,by simp,by simp⟩
       |false=>exact⟨_,_,rfl,CO,hr⟩
theorem DL.wt{n:Nat}{l:aJ}(h:DL n l)(hn:n<=1000):sD aC.wt l<=1048576:=by
 have c1:=Bb (w:=aC.wt) (B:=200) l (fun x hx=>by
  have:=lM.wt4 (h.2 x hx);unfold aC.wt;unfold tw at*;omega)
 have d1:(200+1)*l.length<=201*1000:=dY _ (by have:=h.1;omega);omega
theorem a9L(c:ck)(h:dN c):∃c' s,jA c=some (c',s)/\dN c'/\fW s=true:=by
 unfold jA;obtain⟨c',s,e,hc,hs⟩:=Zl c ([[97],[98],[99],[49],[50]]:aI) h (by decide) (by decide);rw[e,aA];have:∀s∈([[97],[98],[99],[49],[50]]:aI),fW s=true:=by decide
 exact⟨_,_,rfl,hc,this s hs⟩
theorem aCz(c:ck)(h:dN c):∃c' r n,pP c=some (c',(r,n))/\dN c'/\zH r=true/\r.length<=2/\0<=n/\n<=2:=by
 unfold pP;obtain⟨c1,x,e,hc,hx,hx2⟩:=qi c 6 h (by decide) (by decide);rw[e,aA];have key:x=0\/x=1\/x=2\/x=3\/x=4\/x=5:=by omega
 rcases key with rfl|rfl|rfl|rfl|rfl|rfl<;>exact⟨c1,_,_,rfl,hc,by decide,by decide,by decide,by decide⟩
theorem a2q(y:ck×(Bytes×Int))(k:bM->Int->Int->aI->Option (ck×aC)):∀(m:Nat) (fu:Nat) (v:Int) (c:ck) (w:aI),y.2.2-v=(m:Int)->m<fu->0<=v->y.2.2<=100->w.length+m<=1000->dN c->(∀x∈w,fW x=true)->
 ∃c' w',iH y k fu v c.b c.i c.h w=k c'.b c'.i c'.h w'/\dN c'/\w'.length<=w.length+m/\∀x∈w',fW x=true:=by
 intro m
 induction m with
 |zero=>
  intro fu v c w hv hf h0 hy hw hc hx;cases fu with
  |zero=>omega
  |succ fu=>
   have e:decide (v<y.2.2)=false:=by simp;omega
   rw[iH,e,aL];exact⟨c,w,rfl,hc,by omega,hx⟩
 |succ m ih=>
  intro fu v c w hv hf h0 hy hw hc hx;cases fu with
  |zero=>omega
  |succ fu=>
   have e:decide (v<y.2.2)=true:=by simp;omega
   obtain⟨c1,s,e2,hc1,hs⟩:=a9L c hc;have Vv:jA (⟨c.b,c.i,c.h⟩:ck)=some (c1,s):=e2;have e3:IntKind.i64.wrap (v+1)=v+1:=eD (qv.i64.2 (by omega));rw[iH,e,aG,Vv,aA,gG (by omega) (by decide),aG,e3];obtain⟨c',w',q1,q2,q3,q4⟩:=ih fu (v+1) c1 (w++[s]) (by omega) (by omega) (by omega) hy (by simp;omega) hc1 (fun x WN=>by
    rcases aX.1 WN with h|h
    ·exact hx x h
    ·simp at h;subst h;exact hs)
   exact⟨c',w',q1,q2,by simp at q3;omega,q4⟩
theorem a5f(c:ck)(h:dN c):∃c' p,fP c=some (c',p)/\dN c'/\pL p=true/\p.rel.length<=2:=by
 unfold fP;obtain⟨c1,r,n,e,hc,hr,hr2,hn,hn2⟩:=aCz c h;rw[e,aA];obtain⟨c',w',q1,q2,q3,q4⟩:=a2q (c1,(r,n)) (fun a b d q=>some ((⟨a,b,d⟩:ck),(⟨r,q⟩:aC))) n.toNat fuel 0 c1 [] (by simp;omega) (by unfold fuel;omega) (by omega) (by simp;omega) (by simp;omega) hc (by simp);refine⟨_,_,q1,q2,?_,hr2⟩;unfold pL;simp only[aU,bH,b8];exact⟨q4,hr,by simp at q3;omega⟩
theorem a7Y(a:aJ)(f:aC)(K:Bool->aJ->Option aJ):∀(rest:aJ) (i:Nat) (w:aJ),(∀x∈rest,x.args.length<=1048576)->w.length+rest.length<=1048576->dF a f K rest i true w=K true (w++rest)
 | [],i,w,_,_=>by simp[dF]
 |x::xs,i,w,hs,hl=>by
  simp only[aR]at hl;rw[dF,bU,aL,zu x (by have:=hs x (by simp);omega),aA,gG (w:=w) (c:=aC.c) (y:=[D.str x.rel,D.sl (x.args.map tx)]) (b:=40) (by omega) (by decide),aG,a7Y a f K xs (i+1) (w++[x]) (fun y hy=>hs y (by simp[hy])) (by simp;omega)];simp
theorem a7X(a:aJ)(f:aC)(K:Bool->aJ->Option aJ):∀(rest:aJ) (p:Option aC) (i:Nat) (w:aJ),(∀x∈rest,x.args.length<=1048576)->w.length+rest.length<=1048576->chainB p rest=true->f∈rest->dF a f K rest i false w=K true (w++rest)
 | [],_,_,_,_,_,_,h=>by cases h
 |x::xs,p,i,w,hs,hl,hc,hm=>by
  simp only[aR]at hl;obtain⟨_,_,h3⟩:=yP hc;have cx:=zu x (by have:=hs x (by simp);omega);have rx:=gG (w:=w) (c:=aC.c) (y:=[D.str x.rel,D.sl (x.args.map tx)]) (b:=40) (by omega) (by decide);rw[dF,bt,aG,VJ,aA];by_cases e:x=f
  ·rw[e,Rj,<-e];rw[au (by omega:(0:Int)>=0),aG,aA,ax (by omega:¬(0:Int)>0),aL,cx,aA,rx,aG,a7Y a x K xs (i+1) (w++[x]) (fun y hy=>hs y (by simp[hy])) (by simp;omega)];simp
  ·have hxs:f∈xs:=by
    rcases bV.1 hm with q|q
    ·exact absurd q.symm e
    ·exact q
   have hlt:=NA h3 f hxs;rw[ax (by omega),aL,cx,aA,rx,aG,a7X a f K xs (some x) (i+1) (w++[x]) (fun y hy=>hs y (by simp[hy])) (by simp;omega) h3 hxs];simp
theorem aCv{l:aJ}{f:aC}(hl:fK l=true)(hf:pL f=true)(hn:l.length<24):∃l',lW l f=some l'/\fK l'=true/\l'.length<=l.length+1/\∀x∈l',x∈l\/x=f:=by
 have hargs:∀x∈l,x.args.length<=1048576:=fun x hx=>aC.dZ (by have:=MH (Jw hl x hx);omega)
 by_cases hm:f∈l
 ·refine⟨l,?_,hl,by omega,fun x hx=>.inl hx⟩;have hc:chainB none l=true:=by
   unfold fK at hl;rw[aU]at hl;exact hl.1
  unfold lW;rw[a7X l f _ l none 0 [] hargs (by simp;omega) hc hm];rfl
 ·refine⟨xK f l,a7W l f (by have:=aC.dZ (n:=1048576) (by have:=MH hf;omega:f.wt<=1048576);omega) (fun x hx=>by have:=hargs x hx;omega) (by omega) hm,Se hf hl hm (by omega),by rw[QE];omega,fun x hx=>?_⟩;rcases(MN f l x).1 hx with h|h
  ·exact .inr h
  ·exact .inl h
theorem a9b(k:bM->Int->Int->aJ->Option (ck×aJ)):∀(m:Nat) (fu:Nat) (v:Int) (c:ck) (w:aJ),v=(m:Int)->m<fu->w.length+m<=20->dN c->fK w=true->(∀x∈w,x.rel.length<=2)->
 ∃c' w',j5 k fu v c.b c.i c.h w=k c'.b c'.i c'.h w'/\dN c'/\fK w'=true/\w'.length<=w.length+m/\∀x∈w',x.rel.length<=2:=by
 intro m
 induction m with
 |zero=>
  intro fu v c w hv hf hm hc hw hr;cases fu with
  |zero=>omega
  |succ fu=>
   have e:decide (v>0)=false:=by simp;omega
   rw[j5,e,aL];exact⟨c,w,rfl,hc,hw,by omega,hr⟩
 |succ m ih=>
  intro fu v c w hv hf hm hc hw hr;cases fu with
  |zero=>omega
  |succ fu=>
   have e:decide (v>0)=true:=by simp;omega
   obtain⟨c1,f,e2,hc1,hf1,hf2⟩:=a5f c hc;have Vv:fP (⟨c.b,c.i,c.h⟩:ck)=some (c1,f):=e2;obtain⟨w1,e4,hw1,hl1,hm1⟩:=aCv hw hf1 (by omega);have e3:IntKind.i64.wrap (v-1)=v-1:=eD (qv.i64.2 (by omega));rw[j5,e,aG,Vv,aA,e4,aA,e3];obtain⟨c',w',q1,q2,q3,q4,q5⟩:=ih fu (v-1) c1 w1 (by omega) (by omega) (by omega) hc1 hw1 (fun x hx=>by
    rcases hm1 x hx with h|h
    ·exact hr x h
    ·rw[h];exact hf2)
   exact⟨c',w',q1,q2,q3,by omega,q5⟩
theorem aD3(c:ck)(n:Int)(h:dN c)(h0:0<=n)(hn:n<=19):∃c' l,qz c n=some (c',l)/\dN c'/\fK l=true/\(l.length:Int)<=n/\∀x∈l,x.rel.length<=2:=by
 unfold qz;have e3:IntKind.i64.wrap (n+1)=n+1:=eD (qv.i64.2 (by omega));obtain⟨c1,x,e,hc,hx,hx2⟩:=qi c (n+1) h (by omega) (by omega);rw[e3,e,aA];obtain⟨c',w',q1,q2,q3,q4,q5⟩:=a9b (fun a b d q=>some ((⟨a,b,d⟩:ck),q)) x.toNat fuel x c1 [] (by omega) (by unfold fuel;omega) (by simp;omega) hc rfl (by simp);exact⟨_,_,q1,q2,q3,by simp at q4;omega,q5⟩
theorem OB(r:aN)(n:Bytes):∀(cs:ay) (i:Nat),uh ⟨n,r.prio,r.conds,r.dD⟩ cs i=uh r cs i
 | [],_=>rfl
 |c::cs,i=>by
  rw[uh,uh,OB r n cs (i+1)];rfl
theorem Wm{r:aN}{n:Bytes}(h:fS r=true)(hn:zH n=true):fS ⟨n,r.prio,r.conds,r.dD⟩=true:=by
 unfold fS at h⊢;dsimp only;rw[OB];simp only[aU]at h⊢;exact⟨⟨⟨⟨hn,h.1.1.1.2⟩,h.1.1.2⟩,h.1.2⟩,h.2.1,h.2.2.1,h.2.2.2⟩
theorem UY:∀ {l:az} {k i:Nat} {r:aN},(l.map aN.name).Nodup->l[i]?=some r->Ab r.name l k=((k+i:Nat):Int)
 | [],_,_,_,_,h=>by simp at h
 |x::xs,k,i,r,hn,h=>by
  rw[bA,gx]at hn;cases i with
  |zero=>
   simp at h;subst h;rw[Ab];simp
  |succ i=>
   have hx:xs[i]?=some r:=by simpa using h
   have hne:¬x.name=r.name:=fun e=>hn.1 (by rw[e];exact cJ.2 ⟨r,aE hx,rfl⟩)
   rw[Ab,show(x.name==r.name)=false from dA.2 hne,aL,UY hn.2 hx]
   congr 1;omega
theorem XQ{all:az}(hn:(all.map aN.name).Nodup):∀(l:az) (i:Nat),(∀r∈l,fS r=true)->(∀(j:Nat) r,l[j]?=some r->all[i+j]?=some r)->LL all l i=true
 | [],_,_,_=>rfl
 |r::l,i,hv,ha=>by
  have h0:=UY (k:=0) hn (ha 0 r rfl);rw[LL,hv r (by simp),au (by rw[h0];congr 1;omega),XQ hn l (i+1) (fun x hx=>hv x (by simp[hx])) (fun j x hx=>by rw[show i+1+j=i+(j+1)by omega];exact ha (j+1) x (by simpa using hx))];rfl
theorem a4Q{l:az}(hn:(l.map aN.name).Nodup)(hv:∀r∈l,fS r=true)(h6:l.length<=6):qU l=true:=by
 unfold qU;rw[XQ hn l 0 hv (fun j r hj=>by rw[cY];exact hj)];simp;omega
def rnm(m:Nat):Bytes:=[114,UInt8.ofNat (48+m)]
theorem a9H:∀m,m<=7->zH (rnm m)=true/\∀j,j<=7->rnm m=rnm j->m=j:=by decide
theorem a2c{m:Nat}(h:m<=7):([114]:Bytes)++Lib.itoa (m:Int)=rnm m:=by
 have:Lib.itoa (m:Int)=Lib.decDigits m:=by unfold Lib.itoa;rw[bE (by omega)];rfl
 rw[this,P9 (by omega)];unfold Yt rnm;rw[bO (by omega)];rfl
theorem a9a(k:bM->Int->Int->az->Option (ck×az))(P:aN->Prop)(hP:∀c c' r,dN c->nK c=some (c',r)->P r):∀(m:Nat) (fu:Nat) (v:Int) (c:ck) (w:az),v=(m:Int)->m<fu->w.length+m<=6->dN c->(∀r∈w,fS r=true/\vc 4 r/\∃r0,P r0/\r.conds=r0.conds)->(w.map aN.name).Nodup->(∀r∈w,∃j,m<j/\j<=7/\r.name=rnm j)->
 ∃c' w',oH k fu v c.b c.i c.h w=k c'.b c'.i c'.h w'/\dN c'/\w'.length<=w.length+m/\(∀r∈w',fS r=true/\vc 4 r/\∃r0,P r0/\r.conds=r0.conds)/\(w'.map aN.name).Nodup:=by
 intro m
 induction m with
 |zero=>
  intro fu v c w hv hf hm hc hw hn hj;cases fu with
  |zero=>omega
  |succ fu=>
   have e:decide (v>0)=false:=by simp;omega
   rw[oH,e,aL];exact⟨c,w,rfl,hc,by omega,hw,hn⟩
 |succ m ih=>
  intro fu v c w hv hf hm hc hw hn hj;cases fu with
  |zero=>omega
  |succ fu=>
   have e:decide (v>0)=true:=by simp;omega
   obtain⟨c1,r,e2,hc1,hr⟩:=a2n c hc;have Vv:nK (⟨c.b,c.i,c.h⟩:ck)=some (c1,r):=e2;have e3:IntKind.i64.wrap (v-1)=v-1:=eD (qv.i64.2 (by omega));have e5:=a5j v (qv.i64.2 (by omega));have e6:([114]:Bytes)++Lib.itoa v=rnm (m+1):=by rw[hv];exact a2c (by omega)
   have e7:decide (([114]:Bytes).length+(Lib.itoa v).length<=maxLen)=true:=by
    have:=congrArg List.length e6;rw[bC]at this;rw[this];rfl
   have hnm:=a9H (m+1) (by omega);rw[oH,e,aG,Vv,aA,e5,aA,e7,aG,gG (by omega) (by decide),aG,e3,e6];have aAr:=Wm hr.2.1 hnm.1;obtain⟨c',w',q1,q2,q3,q4,q5⟩:=ih fu (v-1) c1 (w++[⟨rnm (m+1),r.prio,r.conds,r.dD⟩]) (by omega) (by omega) (by simp;omega) hc1 (fun x hx=>by
    rcases aX.1 hx with h|h
    ·exact hw x h
    ·rw[cH.1 h];exact⟨aAr,⟨by show(rnm (m+1)).length<=16;unfold rnm;simp,hr.1.2⟩,r,hP c c1 r hc e2,rfl⟩) (by
    rw[bI,cC];refine⟨hn,by simp,fun a ha b hb e=>?_⟩;simp at hb;obtain⟨x,hx,rfl⟩:=cJ.1 ha;obtain⟨j,j1,j2,j3⟩:=hj x hx;have:=hnm.2 j j2 (by rw[<-j3,e,hb]);omega) (fun x hx=>by
    rcases aX.1 hx with h|h
    ·obtain⟨j,j1,j2,j3⟩:=hj x h;exact⟨j,by omega,j2,j3⟩
    ·rw[cH.1 h];exact⟨m+1,by omega,by omega,rfl⟩)
   exact⟨c',w',q1,q2,by simp at q3;omega,q4,q5⟩
theorem vc.wt4{r:aN}(h:vc 4 r):r.wt<=10000:=by
 obtain⟨h1,⟨h2,h3⟩,h4,h5⟩:=h;have c1:=Bb (w:=aS.wt) (B:=200) r.conds (fun x hx=>(h3 x hx).wt);have c2:=Bb (w:=Action.wt) (B:=200) r.dD (fun x hx=>(h5 x hx).wt);have d1:(200+1)*r.conds.length<=201*4:=dY _ (by omega);have d2:(200+1)*r.dD.length<=201*4:=dY _ (by omega);unfold aN.wt;unfold tw at*;omega
theorem aD1(P:aN->Prop)(hP:∀c c' r,dN c->nK c=some (c',r)->P r)(c:ck)(n:Int)(h:dN c)(h0:0<=n)(hn:n<=6):∃c' l,zE c n=some (c',l)/\dN c'/\qU l=true/\sD aN.wt l<=100000/\∀r∈l,∃r0,P r0/\r.conds=r0.conds:=by
 unfold zE;have e3:IntKind.i64.wrap (n+1)=n+1:=eD (qv.i64.2 (by omega));obtain⟨c1,x,e,hc,hx,hx2⟩:=qi c (n+1) h (by omega) (by omega);rw[e3,e,aA];obtain⟨c',w',q1,q2,q3,q4,q5⟩:=a9a (fun a b d q=>some ((⟨a,b,d⟩:ck),q)) P hP x.toNat fuel x c1 [] (by omega) (by unfold fuel;omega) (by simp;omega) hc (by simp) (by simp) (by simp);have h6:w'.length<=6:=by simp at q3;omega
 refine⟨_,_,q1,q2,a4Q q5 (fun r hr=>(q4 r hr).1) h6,?_,fun r hr=>(q4 r hr).2.2⟩;have h1:=Bb (w:=aN.wt) (B:=10000) w' (fun r hr=>vc.wt4 (q4 r hr).2.1);have:(10000+1)*w'.length<=(10000+1)*6:=dY _ h6;omega
theorem a2t(n:aF)(fs y:aJ)(K:bP->Option aF)(Sr:FS fs)(A:bP)(hA:∀a∈A,a.shape.wt<=1048576)(hl:A.length<=1048576):∀(rest pre:bP) (fu:Nat),A=pre++rest->rest.length<fu->
 n8 n fs y K fu (pre.length:Int) (gO pre fs++rest)=K (gO A fs)
 | [],pre,fu,e,hu=>by
  obtain⟨fu,rfl⟩:∃m,fu=m+1:=⟨fu-1,by simp at hu;omega⟩
  rw[dV]at e;rw[n8,dV,aq,yV,ax (by omega),aL,e]
 |x::rest,pre,fu,e,hu=>by
  obtain⟨fu,rfl⟩:∃m,fu=m+1:=⟨fu-1,by simp at hu;omega⟩
  simp only[aR]at hu;have hlen:A.length=pre.length+(rest.length+1):=by rw[e];simp
  have hx:=hA x (by rw[e];simp);have ih:=a2t n fs y K Sr A hA hl rest (pre++[x]) fu (by rw[e];simp) (by omega);have PD:gA (gO pre fs++x::rest) (pre.length:Int)=some x:=by
   have:=xk (a:=gO pre fs++x::rest) (pre:=gO pre fs) (xs:=rest) (x:=x) rfl;rw[yV]at this;exact this
  have xJ:(gO pre fs++x::rest).set (pre.length:Int).toNat ⟨x.shape,sC x.shape [] fs⟩=gO (pre++[x]) fs++rest:=by
   have:=setAt (gO pre fs) rest x ⟨x.shape,sC x.shape [] fs⟩;rw[yV]at this;rw[kz,this,Pu,dH];rfl
  rw[n8,aq,bC,yV,aR,au (by omega),aG,PD,aA,a5i x.shape [] fs hx PB.nil Sr,aA,Fj (by omega),xJ];rw[bC,eA]at ih;exact ih
theorem a2u(n:aF)(fs y:aJ)(q:bP)(K:bN->Option aF)(hf:FS fs)(h24:fs.length<=24)(ns:bN)(hp:D1 ns):∀(rest pre:bN) (fu:Nat),(pre++rest).map sG=ns.map sG->rest.length<fu->
 kM n fs y q K fu (pre.length:Int) (pre++rest)=K (pre++pu ns fs rest pre.length)
 | [],pre,fu,he,hu=>by
  obtain⟨fu,rfl⟩:∃m,fu=m+1:=⟨fu-1,by simp at hu;omega⟩
  rw[kM,dV,aq,ax (by omega),aL,pu,dV]
 |x::rest,pre,fu,he,hu=>by
  obtain⟨fu,rfl⟩:∃m,fu=m+1:=⟨fu-1,by simp at hu;omega⟩
  simp only[aR]at hu;have hlen:(pre++x::rest).length=ns.length:=by have:=congrArg List.length he;simpa using this
  have hlt:=hp.len;have hok:NOk ⟨n.rules,n.ends,q,pre++x::rest,y,n.cP⟩:=by
   refine⟨by show(pre++x::rest).length<=1048576;rw[hlen];exact hp.len,fun z hz=>?_⟩;have hm:sG z∈ns.map sG:=by rw[<-he];exact cJ.2 ⟨z,hz,rfl⟩
   obtain⟨w,hw,e⟩:=cJ.1 hm;have:w.cond=z.cond:=(l6 e).2;rw[<-this];exact hp.wt w hw
  have a1I:ed (pre++x::rest) ((pre.length:Nat):Int)=ed ns (dS pre.length):=wR he _;have Ud:∀c∈ed ns (dS pre.length),c.wt<=1048576:=by
   intro c hc;obtain⟨z,hz,e⟩:=Mf hc;rw[<-e];exact hp.wt z hz
  have PD:gA (pre++x::rest) (pre.length:Int)=some x:=xk rfl;have ih:=a2u n fs y q K hf h24 ns hp rest (pre++[⟨x.parent,x.cond,x.cX,rT (ed ns (dS pre.length)) fs⟩]) fu (by rw[<-he];simp[sG]) (by omega);rw[bC,aR]at hlen;rw[kM,aq,bC,aR,au (by omega),aG,a30 _ _ hok,aA];show((qg (ed (pre++x::rest) (pre.length:Int)) fs).bind _)=_;rw[a1I,a7h _ fs Ud (hp.path _) hf h24,aA,PD,aA,Fj (by omega),kz,setAt];rw[bC,eA,dH]at ih;rw[show pre++(⟨x.parent,x.cond,x.cX,rT (ed ns (dS pre.length)) fs⟩:Node)::rest=pre++([⟨x.parent,x.cond,x.cX,rT (ed ns (dS pre.length)) fs⟩]++rest)from rfl,ih,pu];simp
theorem a9P(n:aF)(fs:aJ)(hf:FS fs)(h24:fs.length<=24)(ha:n.bG.length<=1048576)(hs:∀x∈n.bG,x.shape.wt<=1048576)(hp:D1 n.nodes):vX n fs=some ⟨n.rules,n.ends,gO n.bG fs,fR n.nodes fs,fs,n.cP⟩:=by
 have hl:=hp.len;unfold vX;rw[zJ fs hf.1 (fun f hf2=>by have:=aC.dZ (hf.2 f hf2);omega),aA];have e1:=a2t n fs fs (fun(lX:bP)=>(kM n fs fs lX (fun(nB:bN)=>(some (⟨n.rules,n.ends,lX,nB,fs,n.cP⟩:aF))) fuel 0 n.nodes)) hf n.bG hs ha n.bG [] fuel rfl (by unfold fuel;omega);refine e1.trans ?_;have e2:=a2u n fs fs (gO n.bG fs) (fun(nB:bN)=>(some (⟨n.rules,n.ends,gO n.bG fs,nB,fs,n.cP⟩:aF))) hf h24 n.nodes hp n.nodes [] fuel rfl (by unfold fuel;omega);exact e2
theorem a0z{rs:az}{fs:aJ}(h1:qU rs=true)(h2:fK fs=true)(hr:sD aN.wt rs<=1048576):vX (tH rs [] 0) fs=some (tH rs fs 0):=by
 have hv:=oQ h1;have h6:=xT h1;have Sr:=FS.Ff (fs:=fs) (by have:=yp h2;omega);have e:tH rs [] 0=⟨rs,(cZ [] rs).2,(cZ [] rs).1.1,(cZ [⟨[],[]⟩] rs).1.2,[],0⟩:=by
  rw[<-Rp h1]
  congr 1
  ·rw[iW,iW]
  ·rw[iW,iW]
 have hf:(cZ [⟨[],[]⟩] rs).1.2.map sG=(cZ [] rs).1.2.map sG:=by rw[iW,iW];rfl
 rw[e,a9P _ fs Sr (qG h2) (by show(cZ [] rs).1.1.length<=1048576;have:=Qs [] h1;omega) (fun x hx=>(yY [] hv x hx).1) (Mm [⟨[],[]⟩] hv h6)];unfold tH;dsimp only;have:fR (cZ [⟨[],[]⟩] rs).1.2 fs=fR (cZ [] rs).1.2 fs:=by
  refine qD fun i=>?_
  rw[vY,vY,wR hf (dS i)];rw[iW,iW];cases i with
  |zero=>rfl
  |succ i=>rfl
 rw[this]
theorem a2o(P:aN->Prop)(hP:∀c c' r,dN c->nK c=some (c',r)->P r)(c:ck)(h:dN c):∃c' rs fs t,vW c=some (c',tH rs fs t)/\dN c'/\qU rs=true/\sD aN.wt rs<=100000/\fK fs=true/\fs.length<=8/\(∀x∈fs,x.rel.length<=2)/\0<=t/\t<50/\∀r∈rs,∃r0,P r0/\r.conds=r0.conds:=by
 unfold vW;obtain⟨c1,rs,e1,h1,r1,r2,r3⟩:=aD1 P hP c 4 h (by decide) (by decide);obtain⟨c2,fs,e2,h2,f1,f2,f3⟩:=aD3 c1 8 h1 (by decide) (by decide);obtain⟨c3,t,e3,h3,t0,t1⟩:=qi c2 50 h2 (by decide) (by decide);rw[e1,aA,a5h rs (by omega),r1,aG,aA];dsimp only;rw[e2,aA];dsimp only;rw[a0z r1 f1 (by omega),aA,e3,aA];exact⟨_,rs,fs,t,rfl,h3,r1,r2,f1,by omega,f3,t0,t1,r3⟩
theorem vc.wt5{r:aN}(h:vc 5 r):r.wt<=10000:=by
 obtain⟨h1,⟨h2,h3⟩,h4,h5⟩:=h;have c1:=Bb (w:=aS.wt) (B:=200) r.conds (fun x hx=>(h3 x hx).wt);have c2:=Bb (w:=Action.wt) (B:=200) r.dD (fun x hx=>(h5 x hx).wt);have d1:(200+1)*r.conds.length<=201*5:=dY _ (by omega);have d2:(200+1)*r.dD.length<=201*5:=dY _ (by omega);unfold aN.wt;unfold tw at*;omega
theorem ZV{rs:az}{fs:aJ}(t:Int)(h1:qU rs=true)(h2:fK fs=true):0<(tH rs fs t).nodes.length/\(tH rs fs t).nodes.length<=25/\(tH rs fs t).ends.length<=6/\∀x∈(tH rs fs t).nodes,x.tokens.length<=390625:=by
 have hv:=oQ h1;have h6:=xT h1;have hl:=Cb [] hv h6;refine⟨?_,?_,?_,fun x hx=>?_⟩
 ·show 0<(fR (cZ [] rs).1.2 fs).length;rw[zk,iW];simp
 ·show(fR (cZ [] rs).1.2 fs).length<=25;rw[zk];omega
 ·show(cZ [] rs).2.length<=6;rw[(vb [] rs).2.1];omega
 ·obtain⟨i,hi⟩:=iO (show x∈fR (cZ [] rs).1.2 fs from hx);exact(EO h1 h2 hi).2.1
theorem QV{G:Type}{l:List G}{i:Nat}{y x:G}(h:x∈l.set i y):x∈l\/x=y:=sH h
theorem aCe(c:ck)(h:dN c):∃c' n,zF c=some (c',n)/\dN c'/\BA n/\n.cP<=50/\n.facts.length<=256:=by
 obtain⟨c1,rs,fs,t,e1,h1,r1,r2,f1,f2,_,t0,t1,_⟩:=a2o (fun _=>True) (fun _ _ _ _ _=>trivial) c h;obtain⟨c2,x,e2,h2,x0,x1⟩:=qi c1 12 h1 (by decide) (by decide);have hn:=TN t r1 f1 (by omega);obtain⟨n1,n2,n3,n4⟩:=ZV t r1 f1;have hw:sD aN.wt (tH rs fs t).rules<=100000:=r2;have ht:(tH rs fs t).cP<=50:=by show t<=50;omega
 have hfl:(tH rs fs t).facts.length<=256:=by show fs.length<=256;omega
 have hr6:(tH rs fs t).rules.length<=6:=xT r1;unfold zF;rw[e1,aA];generalize tH rs fs t=n at hn n1 n2 n3 n4 hw hr6 ht hfl;dsimp only;rw[e2,aA];dsimp only;have bq:∀k:Int,x≠k->((x:Int)==k)=false:=fun k h=>dA.2 h
 by_cases q0:x=0
 ·subst q0;exact⟨_,_,rfl,h2,⟨hn.rules,hn.facts,hn.ends,hn.bG,hn.cX,hn.nodes,hn.node⟩,by show(-1:Int)<=50;decide,hfl⟩
 rw[bq 0 q0,aL];by_cases q1:x=1
 ·subst q1;obtain⟨c3,l,e3,h3,l1⟩:=a9Q c2 h2;rw[show(((1:Int):Int)==1)=true from rfl,aG,e3,aA];exact⟨_,_,rfl,h3,⟨hn.rules,l1.wt (by decide),hn.ends,hn.bG,hn.cX,hn.nodes,hn.node⟩,ht,by have:=l1.1;show l.length<=256;omega⟩
 rw[bq 1 q1,aL];by_cases q2:x=2
 ·subst q2;obtain⟨c3,k,e3,h3,k0,k1⟩:=qi c2 (((n.nodes.map Node.c).length:Nat):Int) h2 (by rw[aq];omega) (by rw[aq];omega);obtain⟨c4,v,e4,h4,_⟩:=OX c3 ([-1,0,1,2,99]:bM) h3 (by decide) (by decide);rw[aq]at k1;have hlt:k.toNat<n.nodes.length:=by omega
  have e5:gA n.nodes k=some n.nodes[k.toNat]:=by unfold gA;rw[au k0,aG];exact av hlt
  rw[show(((2:Int):Int)==2)=true from rfl,aG,e3,aA];dsimp only;rw[e4,aA];dsimp only;rw[e5,aA];have hx:=hn.node _ (j6 hlt);refine⟨_,_,rfl,h4,⟨hn.rules,hn.facts,hn.ends,hn.bG,hn.cX,?_,fun z hz=>?_⟩,ht,hfl⟩
  ·have:=hn.nodes;rw[jt];exact this
  ·rcases QV hz with hz|rfl
   ·exact hn.node z hz
   ·exact hx
 rw[bq 2 q2,aL];by_cases q3:x=3
 ·subst q3;obtain⟨c3,k,e3,h3,k0,k1⟩:=qi c2 (((n.nodes.map Node.c).length:Nat):Int) h2 (by rw[aq];omega) (by rw[aq];omega);obtain⟨c4,l,e4,h4,l1,_⟩:=a7f c3 1 h3 (by decide) (by decide);rw[aq]at k1;have hlt:k.toNat<n.nodes.length:=by omega
  have e5:gA n.nodes k=some n.nodes[k.toNat]:=by unfold gA;rw[au k0,aG];exact av hlt
  have hx:=hn.node _ (j6 hlt);have h4t:=n4 _ (j6 hlt);rw[show(((3:Int):Int)==3)=true from rfl,aG,e3,aA];dsimp only;rw[e5,aA,e4,aA];dsimp only;rw[gG (by omega) (by decide),aG];have hl:=l1.wt (by decide);refine⟨_,_,rfl,h4,⟨hn.rules,hn.facts,hn.ends,hn.bG,hn.cX,?_,fun z hz=>?_⟩,ht,hfl⟩
  ·have:=hn.nodes;rw[jt];exact this
  ·rcases QV hz with hz|rfl
   ·exact hn.node z hz
   ·refine⟨hx.1,?_,fun t ht=>?_⟩
    ·show(_++[_]).length<=1048576;rw[bC,eA];omega
    ·rcases aX.1 ht with ht|ht
     ·exact hx.2.2 t ht
     ·rw[cH.1 ht];have q:=FS.Ff hl;exact⟨q.1,q.2,PB.nil⟩
 rw[bq 3 q3,aL];by_cases q4:x=4
 ·subst q4;obtain⟨c3,r,e3,h3,l1⟩:=aCd c2 h2;rw[show(((4:Int):Int)==4)=true from rfl,aG,e3,aA];dsimp only;rw[gG (by omega) (by decide),aG];refine⟨_,_,rfl,h3,⟨?_,hn.facts,hn.ends,hn.bG,hn.cX,hn.nodes,hn.node⟩,ht,hfl⟩;have:=vc.wt5 l1;show sD aN.wt (n.rules++[r])<=1048576;rw[R4,pz,a68];omega
 rw[bq 4 q4,aL];by_cases q5:x=5
 ·subst q5;rw[show(((5:Int):Int)==5)=true from rfl,aG,gG (by omega) (by decide),aG];refine⟨_,_,rfl,h2,⟨hn.rules,hn.facts,?_,hn.bG,hn.cX,hn.nodes,hn.node⟩,ht,hfl⟩;show(n.ends++[0]).length<=1048576;rw[bC,eA];omega
 rw[bq 5 q5,aL];exact⟨_,_,rfl,h2,hn,ht,hfl⟩
theorem lM.wt1{p:aC}(h:lM 4 p):p.wt<=1048576:=by have:=lM.wt4 h;unfold aC.wt;omega
theorem lM.up{k:Nat}{p:aC}(h:lM 2 p):lM 4 p:=⟨h.1,by have:=h.2.1;omega,h.2.2⟩
theorem a9O(c:ck)(h:dN c):∃c' n f,xd c=some (c',(n,f))/\dN c'/\BA n/\n.cP<=50/\f.wt<=1048576:=by
 have last:∀(c0:ck) (n:aF),dN c0->BA n->n.cP<=50->∃c' n' f,((eb c0 8).bind fun y=>(bif y.2 then((lV y.1).bind fun z=>(some (z.1,(n,z.2))))else((fP y.1).bind fun z=>(some (z.1,(n,z.2))))))=some (c',(n',f))/\dN c'/\BA n'/\n'.cP<=50/\f.wt<=1048576:=by
  intro c0 n h0 hn ht;obtain⟨c1,b,e1,h1⟩:=Qo c0 8 h0 (by decide) (by decide);rw[e1,aA];cases b with
  |true=>
   obtain⟨c2,f,e2,h2,hf⟩:=a7N c1 h1;dsimp only;rw[aG,e2,aA];exact⟨_,_,_,rfl,h2,hn,ht,hf.wt1⟩
  |false=>
   obtain⟨c2,f,e2,h2,hf,_⟩:=Ws c1 h1;dsimp only;rw[aL,e2,aA];exact⟨_,_,_,rfl,h2,hn,ht,(lM.up (k:=2) hf).wt1⟩
 have body:∀(c0:ck) (n:aF) (K:Option (ck×(aF×aC))),dN c0->BA n->n.cP<=50->n.facts.length<=256->K=((eb c0 8).bind fun y=>(bif y.2 then((lV y.1).bind fun z=>(some (z.1,(n,z.2))))else((fP y.1).bind fun z=>(some (z.1,(n,z.2))))))->∃c' n' f,(bif decide ((((n.facts.map aC.c).length:Int):Int)>0)then((eb c0 2).bind fun y9=>(bif y9.2 then((cg y9.1 ((n.facts.map aC.c).length:Int)).bind fun P3=>((gA n.facts P3.2).bind fun x20=>((eF x20).bind fun rV=>(some (P3.1,(n,rV))))))else((eb y9.1 8).bind fun EY=>(bif EY.2 then((lV EY.1).bind fun Dm=>(some (Dm.1,(n,Dm.2))))else((fP EY.1).bind fun uf=>(some (uf.1,(n,uf.2))))))))else K)=some (c',(n',f))/\dN c'/\BA n'/\n'.cP<=50/\f.wt<=1048576:=by
  intro c0 n K h0 hn ht hl hK;rw[aq];cases hd:decide (((n.facts.length:Int):Int)>0)with
  |false=>rw[aL,hK];exact last c0 n h0 hn ht
  |true=>
   have hpos:0<n.facts.length:=by have:=bh hd;omega
   obtain⟨c1,b,e1,h1⟩:=Qo c0 2 h0 (by decide) (by decide);rw[aG,e1,aA];cases b with
   |false=>dsimp only;rw[aL];exact last c1 n h1 hn ht
   |true=>
    obtain⟨c2,x,e2,h2,x0,x1⟩:=qi c1 (n.facts.length:Int) h1 (by omega) (by omega);have hlt:x.toNat<n.facts.length:=by omega
    have e3:gA n.facts x=some n.facts[x.toNat]:=by unfold gA;rw[au x0,aG];exact av hlt
    have hw:=qS (w:=aC.wt) (j6 hlt);have hf:=hn.facts;have Xv:(n.facts[x.toNat]).wt<=1048576:=by omega
    dsimp only;rw[aG,e2,aA];dsimp only;rw[e3,aA,zu _ (by have:=aC.dZ Xv;omega),aA];exact⟨_,_,_,rfl,h2,hn,ht,Xv⟩
 unfold xd;obtain⟨c1,rs,fs,t,e1,h1,r1,r2,f1,f2,_,t0,t1,_⟩:=a2o (fun _=>True) (fun _ _ _ _ _=>trivial) c h;obtain⟨c2,b,e2,h2⟩:=Qo c1 10 h1 (by decide) (by decide);rw[e1,aA];dsimp only;rw[e2,aA];cases b with
 |false=>
  dsimp only;rw[aL];exact body c2 (tH rs fs t) _ h2 (TN t r1 f1 (by omega)) (by show t<=50;omega) (by show fs.length<=256;omega) rfl
 |true=>
  obtain⟨c3,n,e3,h3,hn,ht,hl⟩:=aCe c2 h2;dsimp only;rw[aG,e3,aA];exact body c3 n _ h3 hn ht hl rfl
def MOk(m:ai):Prop:=m.facts.length<=1048576/\(∀f∈m.facts,f.args.length<=1048576)/\m.bind.length<=1099511627776
theorem Ta{fs:aJ}:∀(cs:ay) (F:aJ) (b b':aP),runT fs cs F b=some b'->F.length<=cs.length
 | [],[],_,_,_=>br _
 | [],_::_,_,_,h=>by simp[runT]at h
 |c::cs,F,b,b',h=>by
  simp only[runT]at h;split at h
  ·cases F with
   |nil=>cases h
   |cons f F=>
    dsimp only at h;split at h
    ·have:=Ta cs F _ _ h;simp only[aR];omega
    ·cases h
  ·split at h
   ·have:=Ta cs F _ _ h;simp only[aR];omega
   ·cases h
theorem a0b{rs:az}{fs:aJ}(h1:qU rs=true)(h2:fK fs=true){m:ai}(hm:m∈zK rs fs):∃(j:Nat) (r:aN),rs[j]?=some r/\m.rule=r.name/\fS r=true/\Ab m.rule rs 0=(j:Int)/\runT fs r.conds m.facts []=some m.bind:=by
 obtain⟨j,r,e1,e2,e3⟩:=(Y7 h1 h2 m).1 hm;obtain⟨q1,q2⟩:=LK h1 e1;exact⟨j,r,e1,e2,q1,by rw[e2];exact q2,e3⟩
theorem Sd{rs:az}{fs:aJ}(h1:qU rs=true)(h2:fK fs=true){m:ai}(hm:m∈zK rs fs):MOk m:=by
 obtain⟨j,r,_,_,e1,_,e2⟩:=a0b h1 h2 hm;have q1:=Ta _ _ _ _ e2;have q2:=Nw e1;refine⟨by omega,fun f hf=>?_,?_⟩
 ·have q3:=yp h2;have q4:=qS (w:=aC.wt) (IT _ _ _ _ e2 f hf);exact aC.dZ (n:=1048576) (by omega)
 ·have q5:(⟨m.facts,m.bind⟩:aQ)∈r.conds.foldl (sI fs) [⟨[],[]⟩]:=(To fs r.conds _ _).2 ⟨⟨[],[]⟩,by simp,m.facts,rfl,e2⟩;have q6:=Qy fs r.conds [⟨[],[]⟩] (fun t ht=>by rw[cH.1 ht];rfl) _ q5;have:m.bind.length<=6:=Dr q6;omega
theorem a4O{rs:az}{fs:aJ}(h1:qU rs=true):(zK rs fs).length<=390625*rs.length:=by
 unfold zK;rw[h1,aG];clear h1
 induction rs with
 |nil=>simp
 |cons r rs ih=>
  rw[cw,bC,aR];have:(mtB r fs).length<=390625:=by unfold mtB;rw[aq];exact a63 r _ fs
  omega
theorem a0c{rs:az}{fs gs:aJ}(h1:qU rs=true)(h3:fK gs=true){m:ai}{j:Nat}{r:aN}(hr:rs[j]?=some r)(hn:m.rule=r.name)(hrun:runT fs r.conds m.facts []=some m.bind)(hk:(r.conds.any fun c=>c.kind==2)=false)(hs:∀f∈m.facts,f∈fs->f∈gs):m∈zK rs gs:=by
 refine(Y7 h1 h3 m).2 ⟨j,r,hr,hn,Ny _ _ _ _ (fun c hc e=>?_) hs hrun⟩;have:=yd.1 hk c hc;simp[e]at this
theorem aBF(l:bL)(m:ai):vG l m=some (decide (m∈l)):=by
 unfold vG;have main:∀(r:bL) (i:Nat),jZ l m (some false) r i=some (decide (m∈r)):=by
  intro r
  induction r with
  |nil=>intro i;simp[jZ]
  |cons x r ih=>
   intro i;rw[jZ,a8q,aA];by_cases e:x=m
   ·rw[au e,aG];simp[e]
   ·rw[ax e,aL,ih];simp[ru e]
 exact main l 0
theorem a8i(m:ai)(h:MOk m):uI m=some m:=by
 unfold uI;rw[wP _ h.1 h.2.1,aA,T9 _ h.2.2,aA]
theorem Xy(l old:bL)(h:∀m∈l,MOk m)(hl:l.length<=1000000000):l8 l old=some (l.filter fun m=> !decide (m∈old)):=by
 unfold l8;have main:∀(r:bL) (i:Nat) (w:bL),(∀m∈r,MOk m)->w.length+r.length<=1000000000->gK l old (fun q=>some q) r i w=some (w++r.filter fun m=> !decide (m∈old)):=by
  intro r
  induction r with
  |nil=>intro i w _ _;simp[gK]
  |cons x r ih=>
   intro i w hm hw;simp only[aR]at hw;rw[gK,aBF,aA];cases hd:decide (x∈old)with
   |false=>
    rw[bt,aG,a8i x (hm x (by simp)),aA,gG (by omega) (by decide),aG,ih _ _ (fun m hm'=>hm m (by simp[hm'])) (by simp;omega),hG (by simp[hd])];simp
   |true=>rw[bU,aL,ih _ _ (fun m hm'=>hm m (by simp[hm'])) (by omega),gz (by simp[hd])]
 have:=main l 0 [] h (by simpa using hl);simpa using this
theorem a4z{n:aF}(hb:Ge n=true)(hr:sD aN.wt n.rules<=1048576)(hf:sD aC.wt n.facts<=1048576):fc n=some (zK n.rules n.facts):=by
 have:=aB9 n hr hf;unfold xu at this;rw[TA n hr hf,aA,hb,a0l hb]at this;simpa using this
theorem a2p(code:bM)(h:code.length<=4096):∃n f b,pY code=some (n,f,b)/\BA n/\n.cP<=50/\f.wt<=1048576:=by
 unfold pY;obtain⟨c0,e0,h0⟩:=aCt code h;obtain⟨c1,n,f,e1,h1,q⟩:=a9O c0 h0;obtain⟨c2,b,e2,_⟩:=Qo c1 8 h1 (by decide) (by decide);rw[e0,aA,e1,aA];dsimp only;rw[Wt,aA,e2,aA];exact⟨n,f,_,rfl,q⟩
set_option maxRecDepth 100000
variable{Z:wW}{N:Nat->St->Prop}
def F3(aD:bM):Option Bool:=(some (decide ((((aD.map yx).length:Int):Int)>4096)))
theorem FX{aD:bM}{r:Bool}(h:F3 aD=some r):Good prog 7 [D.sl (aD.map yx)] (D.bool r):=by
 refine gd func7 [[none]] 6 fun hr Z hZ=>?_
 rw[F3]at h;cases h;exact aY.ret hZ
def jd(aD:bL)(aa:ai)(k1:Option Bool):bL->Nat->Option Bool
 | [],i1=>(k1)
 |bg::cj,i1=>((uQ bg aa).bind fun L7=>(bif L7 then(some true)else(jd aD aa k1 cj (i1+1))))
def gy(aD:bL)(aa:ai):Option Bool:=(jd aD aa (some false) aD 0)
def KH(aD:bL)(aa:ai)(dL:Int):St:=⟨[(0,D.sl (aD.map ai.c)),(3,D.ptr 0 0),(5,D.int .i64 dL)],[Ob.box (ai.c aa)]⟩
theorem J5(hZ:Z.nt=18){aD:bL}{aa:ai}{r:Bool}{k1:Option Bool}(eC:k1=some r->Ax Z N f31 (.q [[none]] (D.bool r)) [1,1] ⟨[],[]⟩)(hm1:aD.length<=maxLen):∀(rest:bL) (i1:Nat),aD.drop i1=rest->jd aD aa k1 rest i1=some r->Ar Z N f31 (.q [[none]] (D.bool r)) [1,0,1,0] (rest.length+1) (KH aD aa (i1:Int)):=by
 intro rest
 induction rest with
 |nil=>
  intro i1 bB h;rw[jd]at h;refine aV fun N1 cq cS=>?_
  exact((aY.ge ai.c bB).a [.hl 0 [] []]).ex hZ cq (eC h)
 |cons bg cj ih1=>
  intro i1 bB h;rw[jd]at h;refine aV fun N1 cq cS=>?_
  obtain⟨L7,h22,h⟩:=aH h;have fG:=((((aY.lt ai.c bB).a [.n 5]).l (bK ai.c 3 (dc bB) rfl)).g (GN h22))
  obtain⟨h23,h⟩|⟨h23,h⟩:=aK h
  ·have h:=aM h;subst h;exact(fG.b h23).ret hZ
  ·exact((fG.b h23).a [.cn [0,3,5] [0]]).ct hZ cS (iS bB hm1) (ih1 (i1+1) (dn bB) h)
theorem iU{aD:bL}{aa:ai}{r:Bool}(h:gy aD aa=some r):Good prog 31 [D.sl (aD.map ai.c),D.agg (ai.c aa)] (D.bool r):=by
 refine gd func31 [[none]] 18 fun hr Z hZ=>?_
 rw[gy]at h;refine(aY.a [.cn [0,3,5] [0]]).lp hZ (J5 hZ (fun h=>?_) (by have:=(gY.sl (hr _ (aE (i:=0) rfl))).1;simpa using this) aD 0 rfl h);have h:=aM h;subst h;exact aY.ret hZ
def rX(aD:aN)(k1:Option Bool):ay->Nat->Option Bool
 | [],i1=>(k1)
 |bg::cj,i1=>(bif (bg.kind:Int)==2 then(some true)else(rX aD k1 cj (i1+1)))
def gh(aD:aN):Option Bool:=(rX aD (some false) aD.conds 0)
def Pn(aD:aN)(dL:Int):St:=⟨[(1,D.ptr 0 0),(3,D.int .i64 dL)],[Ob.box (aN.c aD)]⟩
theorem Oh(hZ:Z.nt=18){aD:aN}{r:Bool}{k1:Option Bool}(eC:k1=some r->Ax Z N f32 (.q [[none]] (D.bool r)) [1,1] ⟨[],[]⟩)(hm1:aD.conds.length<=maxLen):∀(rest:ay) (i1:Nat),aD.conds.drop i1=rest->rX aD k1 rest i1=some r->Ar Z N f32 (.q [[none]] (D.bool r)) [1,0,1,0] (rest.length+1) (Pn aD (i1:Int)):=by
 intro rest
 induction rest with
 |nil=>
  intro i1 bB h;rw[rX]at h;refine aV fun N1 cq cS=>?_
  exact((aY.ge aS.c bB).a [.hl 0 [] []]).ex hZ cq (eC h)
 |cons bg cj ih1=>
  intro i1 bB h;rw[rX]at h;refine aV fun N1 cq cS=>?_
  have fG:=((aY.lt aS.c bB).l (bK aS.c 5 (dc bB) rfl))
  obtain⟨h13,h⟩|⟨h13,h⟩:=aK h
  ·have h:=aM h;subst h;exact(fG.b h13).ret hZ
  ·exact((fG.b h13).a [.cn [1,3] [0]]).ct hZ cS (iS bB hm1) (ih1 (i1+1) (dn bB) h)
theorem ei{aD:aN}{r:Bool}(h:gh aD=some r):Good prog 32 [D.agg (aN.c aD)] (D.bool r):=by
 refine gd func32 [[none]] 18 fun hr Z hZ=>?_
 rw[gh]at h;refine(aY.a [.cn [1,3] [0]]).lp hZ (Oh hZ (fun h=>?_) (by have:=(gY.sl (gY.agg (hr _ (aE (i:=0) rfl)) (.sl (aD.conds.map aS.c)) (by simp))).1;simpa using this) aD.conds 0 rfl h);have h:=aM h;subst h;exact aY.ret hZ
end Go.Cx

/- Reading numbers, and the orders of atoms, facts and tokens, in plain words: of the program and of the reference. No condition but bounds on sizes. -/
import Derived.Test.YtfankinmlfnncaaGreatDoorPFnRebuiltG6
import Derived.Lib.Atoi
import Derived.Test.YtfankinmlfnncaaGreatDoorPFnRebuiltG3
import Derived.ProofKit
set_option linter.unusedVariables false
set_option linter.unusedSimpArgs false
namespace Go.Cx
open Go.RowKit Go.Proofs Tryz
def wY(s:Bytes):Option Nat:=if 1<=s.length/\s.length<=4 then(match Lib.decFrom 0 s with|some n=>if Lib.decDigits n=s then some n else none|none=>none)else none
def pI(s:Bytes):Int×Bool:=match wY s with|some n=>((n:Int),true)|none=>(0,false)
theorem WA:∀(u:Nat),∀b∈Lib.decDigits u,48<=b.toNat/\b.toNat<=57:=by
 intro u
 induction u using Nat.strongRecOn with
 |_ u ih=>
  have hb:∀v:Nat,v<10->48<=(UInt8.ofNat (48+v)).toNat/\(UInt8.ofNat (48+v)).toNat<=57:=by
   intro v hv;have:(UInt8.ofNat (48+v)).toNat=48+v:=by simp;omega
   omega
  intro b hm;rw[Lib.decDigits]at hm;split at hm
  ·rename_i h10;simp only[cZ]at hm;subst hm;exact hb u h10
  ·rename_i h10;rcases aR.1 hm with hm|hm
   ·exact ih (u/10) (by omega) b hm
   ·simp only[cZ]at hm;subst hm;exact hb (u%10) (by omega)
theorem a0c(a:Bytes)(k:Int->Option (Int×Bool))(ha:a.length<=4):∀(rest pre:Bytes) (acc:Nat),a=pre++rest->acc<10^pre.length->∀n,rest.length<n->
 ic a k n (acc:Int) (pre.length:Int)=(match Lib.decFrom acc rest with|some m=>k (m:Int)|none=>some (0,false)):=by
 intro rest
 induction rest with
 |nil=>
  intro pre acc h _ n hn;obtain⟨m,rfl⟩:∃m,n=m+1:=⟨n-1,by simp at hn;omega⟩
  have e1:decide ((pre.length:Int)<(a.length:Int))=false:=by simp[h]
  rw[ic,e1];rfl
 |cons x xs ih=>
  intro pre acc h hacc n hn;obtain⟨m,rfl⟩:∃m,n=m+1:=⟨n-1,by simp at hn;omega⟩
  have hl:a.length=pre.length+(xs.length+1):=by rw[h];simp
  have e1:decide ((pre.length:Int)<(a.length:Int))=true:=by rw[hl];simp;omega
  have e4:IntKind.i64.wrap ((pre.length:Int)+1)=((pre++[x]).length:Int):=by rw[Jb (by omega)];simp
  have h10:acc<10000:=cu hacc (tT (by omega) (show pre.length<=4 by omega));have hx:=x.toNat_lt;rw[ic,e1,aI,wD h,aA,e4];by_cases c1:(x.toNat:Int)<48
  ·have:Lib.digitVal x=none:=by unfold Lib.digitVal;rw[b9 (by omega)]
   simp only[Lib.decFrom,this];rw[bG c1,aI]
  ·by_cases c2:(x.toNat:Int)>57
   ·have:Lib.digitVal x=none:=by unfold Lib.digitVal;rw[b9 (by omega)]
    simp only[Lib.decFrom,this];rw[bM c1,aS,bG c2,aI]
   ·have hd:Lib.digitVal x=some (x.toNat-48):=by unfold Lib.digitVal;rw[bN (by omega)]
    have e5:IntKind.i64.wrap ((IntKind.i64.wrap (10*(acc:Int)))+(IntKind.i64.wrap (IntKind.u8.wrap ((x.toNat:Int)-48))))=((acc*10+(x.toNat-48):Nat):Int):=by
     rw[dS (k:=.u8) (pL.u8.2 (by omega)),dS (n:=(10:Int)*(acc:Int)) (pL.i64.2 (by omega)),dS (n:=(x.toNat:Int)-48) (pL.i64.2 (by omega)),dS (pL.i64.2 (by omega))];omega
    simp only[Lib.decFrom,hd];rw[bM c1,aS,bM c2,aS,e5];refine ih (pre++[x]) _ (by simp[h]) ?_ m (by simp at hn;omega);rw[av,dU,w8];omega
theorem PO(s:Bytes):mQ s=some (pI s):=by
 unfold mQ;rw[J5,aA];by_cases hl:1<=s.length/\s.length<=4
 ·have e1:(decide ((s.length:Int)>=1)&&decide ((s.length:Int)<=4))=true:=by simp;omega
  have t:=a0c s (fun z=>((jH z).bind fun FF=>(bif !((FF:Bytes)==s)then(some (0,false))else(some (z,true))))) hl.2 s [] 0 rfl (by simp) fuel (by unfold fuel;omega);rw[e1,bW,aS];refine t.trans ?_;unfold pI wY;rw[bN hl];cases hd:Lib.decFrom 0 s with
  |none=>rfl
  |some m=>
   have hm:=Lib.decFrom_lt s 0 m hd;have h10:m<10000:=by
    have:=tT (n:=10) (by omega) hl.2;omega
   simp only;rw[a0a _ (pL.i64.2 (by omega)),aA];have e2:Lib.itoa (m:Int)=Lib.decDigits m:=by unfold Lib.itoa;rw[b9 (by omega)];simp
   rw[e2];by_cases he:Lib.decDigits m=s
   ·rw[bN he,he];simp
   ·rw[b9 he];have:(Lib.decDigits m==s)=false:=by simpa using he
    rw[this];rfl
 ·have e1:(decide ((s.length:Int)>=1)&&decide ((s.length:Int)<=4))=false:=by
   rw[Cy,qy,qy];omega
  rw[e1];unfold pI wY;rw[b9 hl];rfl
theorem Oo(s:Bytes):mO s=some (pI s):=by
 unfold mO pI wY;by_cases hl:1<=s.length/\s.length<=4
 ·have e1:decide ((s.length:Int)<1)=false:=by simp;omega
  have e2:decide ((s.length:Int)>4)=false:=by simp;omega
  rw[bN hl,e1,aS,e2,aS];unfold zy Ow;rw[bN (by omega)];cases s with
  |nil=>simp at hl
  |cons b t=>
   have fin:∀(m:Nat),Lib.decFrom 0 (b::t)=some m->(bif decide ((m:Int)<0)then some ((0:Int),false)else bif decide ((m:Int)>9999)then some (0,false)else(kT (m:Int)).bind fun y8=>bif !((y8:Bytes)==(b::t))then some (0,false)else some ((m:Int),true))=
    some (match(if Lib.decDigits m=b::t then some m else none)with|some n=>((n:Int),true)|none=>(0,false)):=by
    intro m hd;have hm:=Lib.decFrom_lt (b::t) 0 m hd;have h10:m<10000:=by
     have:=tT (n:=10) (by omega) hl.2;omega
    have e3:decide ((m:Int)<0)=false:=by simp
    have e4:decide ((m:Int)>9999)=false:=by simp;omega
    have e5:Lib.itoa (m:Int)=Lib.decDigits m:=by unfold Lib.itoa;rw[b9 (by omega)];simp
    rw[e3,aS,e4,aS,a3E,aA,e5];by_cases he:Lib.decDigits m=b::t
    ·rw[bN he,he];simp
    ·rw[b9 he];have:(Lib.decDigits m==(b::t))=false:=by simpa using he
     rw[this];rfl
   have sign:∀(n:Int),b.toNat<48->(bif decide (n<0)then some ((0:Int),false)else bif decide (n>9999)then some (0,false)else(kT n).bind fun y8=>bif !((y8:Bytes)==(b::t))then some (0,false)else some (n,true))=some (0,false):=by
    intro n hb;by_cases hn:n<0
    ·rw[bG hn];rfl
    rw[bM hn,aS,a3E,aA];cases decide (n>9999)with
    |true=>rfl
    |false=>
     have e5:Lib.itoa n=Lib.decDigits n.toNat:=by unfold Lib.itoa;rw[b9 hn]
     have:(Lib.itoa n==(b::t))=false:=by
      rw[e5,dK];intro h;have:=WA n.toNat b (by rw[h];simp);omega
     rw[this];rfl
   simp only[Lib.atoi];by_cases hb:b=45
   ·subst hb;have hd:Lib.decFrom 0 ((45:UInt8)::t)=none:=by simp[Lib.decFrom,Lib.digitVal]
    rw[bN (by decide),hd];cases Lib.decNat t with
    |none=>rfl
    |some m=>exact sign _ (by decide)
   ·rw[b9 (by simpa using hb)];by_cases Pf:b=43
    ·subst Pf;have hd:Lib.decFrom 0 ((43:UInt8)::t)=none:=by simp[Lib.decFrom,Lib.digitVal]
     rw[bN (by decide),hd];cases Lib.decNat t with
     |none=>rfl
     |some m=>exact sign (m:Int) (by decide)
    ·rw[b9 (by simpa using Pf)];have hdn:Lib.decNat (b::t)=Lib.decFrom 0 (b::t):=by simp[Lib.decNat]
     rw[hdn];cases hd:Lib.decFrom 0 (b::t)with
     |none=>rfl
     |some m=>exact fin m hd
 ·rw[b9 hl];by_cases h1:(s.length:Int)<1
  ·rw[bG h1];rfl
  ·have h2:(s.length:Int)>4:=by omega
   rw[bM h1,aS,bG h2];rfl
def vn(a b:Bytes):Int:=if Op.bytesLess a b=true then-1 else if a=b then 0 else 1
def FX(x y:Int):Int:=if x<y then-1 else if x>y then 1 else 0
def AM(a b:Bytes):Int:=match wY a,wY b with
 |some x,some y=>FX x y
 |some _,none=> -1
 |none,some _=>1
 |none,none=>vn a b
def tL{α:Type}(g:α->α->Int):List α->List α->Option Int
 |x::xs,y::ys=>if g x y≠0 then some (g x y)else tL g xs ys
 |_,_=>none
def cmpL{α:Type}(g:α->α->Int)(a b:List α):Int:=match tL g a b with|some z=>z|none=>FX a.length b.length
def oR(a b:aD):Int:=if a.rel≠b.rel then vn a.rel b.rel else cmpL AM a.args b.args
theorem OT{a b:Bytes}(h:a≠b):vn a b≠0:=by
 unfold vn;split
 ·omega
 ·first|omega| (rw[b9 h];omega)
theorem NZ(a:Bytes):vn a a=0:=by
 unfold vn;rw[vU];simp
theorem T7:∀(a b:Bytes),Lib.compareBytes a b=vn a b
 | [],[]=>by simp[Lib.compareBytes,vn,Op.bytesLess]
 | [],_::_=>by simp[Lib.compareBytes,vn,Op.bytesLess]
 |_::_,[]=>by simp[Lib.compareBytes,vn,Op.bytesLess]
 |a::xs,b::ys=>by
  have ih:=T7 xs ys;simp only[Lib.compareBytes,vn,Op.bytesLess];by_cases h1:a<b
  ·simp[h1]
  ·by_cases h2:b<a
   ·have hne:a≠b:=fun e=>by subst e;exact h1 h2
    simp[h1,h2,hne]
   ·have e:a=b:=by
     rw[D2]at h1 h2;exact UInt8.toNat_inj.1 (by omega)
    subst e;rw[b9 h1,b9 h1,ih];simp[vn,h1]
theorem OR{α:Type}{f:α->α->Option Int}{g:α->α->Int}{c:α->aL}{L:List α->Nat->Option Int}{k:Option Int}{b:List α}(uI:∀i,L [] i=k)
 (tu:∀x xs i,L (x::xs) i=bif decide (((i:Int):Int)<((b.map c).length:Int))then((iP b (i:Int)).bind fun y=>((f x y).bind fun z=>(bif (z:Int) != 0 then(some z)else(L xs (i+1)))))else k):
 ∀(l pre rest:List α),b=pre++rest->(∀x∈l,∀y∈rest,f x y=some (g x y))->L l pre.length=(match tL g l rest with|some z=>some z|none=>k):=by
 intro l
 induction l with
 |nil=>intro pre rest h _;rw[uI];cases rest<;>rfl
 |cons x xs ih=>
  intro pre rest h hf;rw[tu];cases rest with
  |nil=>
   have e1:decide ((pre.length:Int)<((b.map c).length:Int))=false:=by simp[h]
   rw[e1];rfl
  |cons y ys=>
   have e1:decide ((pre.length:Int)<((b.map c).length:Int))=true:=by simp[h];omega
   rw[e1,aI,wD h,aA,hf x (by simp) y (by simp),aA];simp only[tL];have t:=ih (pre++[y]) ys (by simp[h]) (fun x' hx y' hy=>hf x' (by simp[hx]) y' (by simp[hy]));rw[av,dU]at t;by_cases hz:g x y=0
   ·have e2:(g x y != 0)=false:=by simp[hz]
    rw[e2,aS,t,b9 (by simp[hz])]
   ·have e2:(g x y != 0)=true:=by simp[hz]
    rw[e2,aI,bN hz]
theorem OS(x y:Int):(bif decide (x<y)then some (-1:Int)else bif decide (x>y)then some 1 else some 0)=some (FX x y):=by
 unfold FX;by_cases h1:x<y
 ·simp[h1]
 ·by_cases h2:x>y
  ·simp[h1,h2]
  ·simp[h1,h2]
theorem a1p(a b:Bytes):s5 a b=some (vn a b):=by
 unfold s5 vn;cases h:Op.bytesLess a b with
 |true=>rfl
 |false=>
  by_cases e:a=b
  ·simp[e]
  ·have e':(a==b)=false:=by simpa using e
   simp[e,e']
theorem a1o(a b:Bytes):jV a b=some (AM a b):=by
 unfold jV AM;rw[PO,PO,aA,aA,a1p];unfold pI;cases wY a with
 |none=>cases wY b<;>rfl
 |some x=>
  cases wY b with
  |none=>rfl
  |some y=>
   simp only[aI,bW,aS];exact OS _ _
theorem X4(x y:Int):iU x y=some (FX x y):=by
 unfold iU;exact OS x y
theorem a1H(a b:Bytes):qT a b=some (vn a b):=by
 unfold qT;show some (Lib.compareBytes a b)=_;rw[T7]
theorem a5g(a b:Bytes):mB a b=some (AM a b):=by
 unfold mB AM;rw[Oo,Oo,aA,aA,a1H];unfold pI;cases wY a with
 |none=>cases wY b<;>rfl
 |some x=>
  cases wY b with
  |none=>rfl
  |some y=>
   simp only[aI,X4,aA]
theorem To(a b:aD):iB a b=some (oR a b):=by
 unfold iB oR;by_cases h:a.rel=b.rel
 ·have e:(a.rel==b.rel)=true:=by simpa using h
  rw[e,bW,aS,b9 (by simpa using h)];have t:=fun k=>OR (f:=jV) (g:=AM) (c:=tx) (L:=jG a b k) (b:=b.args) (k:=k) (fun _=>rfl) (fun _ _ _=>rfl) a.args [] b.args rfl (fun x _ y _=>a1o x y)
  refine(t _).trans ?_;unfold cmpL;cases tL AM a.args b.args with
  |some z=>rfl
  |none=>simp only[ax];exact OS _ _
 ·have e:(a.rel==b.rel)=false:=by simpa using h
  rw[e,cT,aI,bN h,a1p];rfl
theorem X3(a b:aD):fc a b=some (oR a b):=by
 unfold fc oR;rw[a1H,aA];by_cases h:a.rel=b.rel
 ·have e:(vn a.rel b.rel != 0)=false:=by rw[h,NZ];rfl
  rw[e,aS,b9 (by simpa using h)];have t:=fun k=>OR (f:=mB) (g:=AM) (c:=tx) (L:=jA a b k) (b:=b.args) (k:=k) (fun _=>rfl) (fun _ _ _=>rfl) a.args [] b.args rfl (fun x _ y _=>a5g x y)
  refine(t _).trans ?_;unfold cmpL;cases tL AM a.args b.args with
  |some z=>rfl
  |none=>simp only[ax,X4,aA]
 ·have e:(vn a.rel b.rel != 0)=true:=by simpa using OT h
  rw[e,aI,bN h]
theorem a5h(a b:aU):nY a b=some (cmpL oR a.facts b.facts):=by
 unfold nY o6;have t:=OR (f:=fc) (g:=oR) (c:=aD.c) (L:=eg a.facts b.facts ((iU ((a.facts.map aD.c).length:Int) ((b.facts.map aD.c).length:Int)).bind fun Ch=>(some Ch))) (b:=b.facts) (k:=_) (fun _=>rfl) (fun _ _ _=>rfl) a.facts [] b.facts rfl (fun x _ y _=>X3 x y);rw[show eg a.facts b.facts _ a.facts 0=_ from t];unfold cmpL;cases tL oR a.facts b.facts with
 |some z=>rfl
 |none=>simp only[ax,X4,aA]
def chainB:Option aD->aJ->Bool
 |_,[]=>true
 |p,x::xs=>rX x&&(match p with|some q=>decide (oR q x<0)|none=>true)&&chainB (some x) xs
def iK(l:aJ):Bool:=chainB none l&&decide (l.length<=24)
theorem NS{isF:aD->Option Bool}{cmp:aD->aD->Option Int}{a:aJ}{L:aJ->Nat->Option Bool}{k:Option Bool}(ha:a.length<=1099511627770)(hc:∀x y,cmp x y=some (oR x y))(uI:∀i,L [] i=k)
 (tu:∀x xs i,L (x::xs) i=((isF x).bind fun y=>(bif !(y)then(some false)else(bif decide (((i:Int):Int)>0)then((iP a (IntKind.i64.wrap ((i:Int)-1))).bind fun q=>((cmp q x).bind fun z=>(bif decide ((z:Int)>=0)then(some false)else(L xs (i+1)))))else(L xs (i+1)))))):
 ∀(l pre:aJ),a=pre++l->(∀x∈l,isF x=some (rX x))->L l pre.length=bif chainB pre.getLast? l then k else some false:=by
 intro l
 induction l with
 |nil=>intro pre _ _;rw[uI];rfl
 |cons x xs ih=>
  intro pre h hf;have hl:a.length=pre.length+(xs.length+1):=by rw[h];simp
  have t:=ih (pre++[x]) (by simp[h]) (fun y hy=>hf y (by simp[hy]));rw[av,dU,nV]at t;rw[tu,hf x (by simp),aA,t];simp only[chainB];cases rX x with
  |false=>rfl
  |true=>
   rw[bW,aS,gx];rcases wh pre with rfl|⟨p,z,Z4⟩
   ·simp
   ·rw[wg]at Z4;subst Z4;have e0:decide (((p++[z]).length:Int)>0)=true:=by simp<;>omega
    have e1:IntKind.i64.wrap (((p++[z]).length:Int)-1)=(p.length:Int):=by
     rw[dS (pL.i64.2 (by simp at hl⊢;omega))];simp
    have e2:iP a (p.length:Int)=some z:=wD (xs:=x::xs) (by rw[h];simp);rw[e0,aI,e1,e2,aA,hc,aA,nV];by_cases hz:oR z x<0
    ·have e3:decide (oR z x>=0)=false:=by simp;omega
     rw[e3,aS];show _=bif (decide (oR z x<0)&&chainB (some x) xs)then k else some false
     rw[bG hz,gx]
    ·have e3:decide (oR z x>=0)=true:=by simp;omega
     rw[e3,aI];show _=bif (decide (oR z x<0)&&chainB (some x) xs)then k else some false
     rw[bM hz];rfl
theorem a6T(l:aJ)(h:sw aD.wt l<=1048576):sN l=some (iK l):=by
 unfold sN iK;have hl:=tN aD.wt l;have t:=NS (isF:=qg) (cmp:=iB) (a:=l) (L:=kH l (some (decide ((((l.map aD.c).length:Int):Int)<=24)))) (k:=_) (by omega) To (fun _=>rfl) (fun _ _ _=>rfl) l [] rfl (fun x hx=>a1q x (by have:=tO (w:=aD.wt) hx;omega));refine t.trans ?_;have e:decide (((l.map aD.c).length:Int)<=24)=decide (l.length<=24):=by rw[ax];congr 1;rw[xB];omega
 rw[e];show(bif chainB none l then _ else _)=_;cases chainB none l<;>rfl
theorem Wy(l:aJ)(h:sw aD.wt l<=1048576):oH l=some (iK l):=by
 unfold oH iK;have hl:=tN aD.wt l;have t:=NS (isF:=ol) (cmp:=fc) (a:=l) (L:=iQ l (some true)) (k:=_) (by omega) X3 (fun _=>rfl) (fun _ _ _=>rfl) l [] rfl (fun x hx=>X8 x (by have:=tO (w:=aD.wt) hx;omega));rw[show iQ l (some true) l 0=_ from t];by_cases h24:l.length<=24
 ·have e:decide (((l.map aD.c).length:Int)>24)=false:=by rw[ax];simp;omega
  rw[e,aS,bG h24,xQ];show(bif chainB none l then _ else _)=_;cases chainB none l<;>rfl
 ·have e:decide (((l.map aD.c).length:Int)>24)=true:=by rw[ax];simp;omega
  rw[e,aI,bM h24,vu]
end Go.Cx
namespace Go.Cx
open Go.RowKit Go.Proofs Tryz
def PB(b:aT):Prop:=b.length<=1048576/\∀x∈b,x.var.length<=1048576/\x.value.length<=1048576
theorem PB.nil:PB []:=⟨by simp,by simp⟩
def C3:Option aX->aT->Bool
 |_,[]=>true
 |p,x::xs=>nu x.var&&(mN x.value&&((match p with|some q=>Op.bytesLess q.var x.var|none=>true)&&C3 (some x) xs))
def tW(b:aT):Bool:=C3 none b&&decide (b.length<=6)
theorem NQ{b:aT}(h:tW b=true):b.length<=6:=by
 unfold tW at h;simp only[aV,bI]at h;exact h.2
theorem Q3{isV isA:Bytes->Option Bool}{a:aT}{L:aT->Nat->Option Bool}{k:Option Bool}(ha:a.length<=1099511627770)(hV:∀x:Bytes,x.length<=1048576->isV x=some (nu x))(hA:∀x:Bytes,x.length<=1048576->isA x=some (mN x))(uI:∀i,L [] i=k)
 (tu:∀x xs i,L (x::xs) i=((isV x.var).bind fun y=>(bif !(y)then(some false)else((isA x.value).bind fun z=>(bif !(z)then(some false)else(bif decide (((i:Int):Int)>0)then((iP a (IntKind.i64.wrap ((i:Int)-1))).bind fun q=>(bif !(Op.bytesLess q.var x.var)then(some false)else(L xs (i+1))))else(L xs (i+1)))))))):
 ∀(l pre:aT),a=pre++l->(∀x∈l,x.var.length<=1048576/\x.value.length<=1048576)->L l pre.length=bif C3 pre.getLast? l then k else some false:=by
 intro l
 induction l with
 |nil=>intro pre _ _;rw[uI];rfl
 |cons x xs ih=>
  intro pre h hf;have hl:a.length=pre.length+(xs.length+1):=by rw[h];simp
  have t:=ih (pre++[x]) (by simp[h]) (fun y hy=>hf y (by simp[hy]));rw[av,dU,nV]at t;rw[tu,hV _ (hf x (by simp)).1,aA,hA _ (hf x (by simp)).2,aA,t];simp only[C3];cases nu x.var with
  |false=>rfl
  |true=>
   cases mN x.value with
   |false=>rfl
   |true=>
    simp only[bW,aS,gx];rcases wh pre with rfl|⟨p,z,Z4⟩
    ·simp
    ·rw[wg]at Z4;subst Z4;have e0:decide (((p++[z]).length:Int)>0)=true:=by simp<;>omega
     have e1:IntKind.i64.wrap (((p++[z]).length:Int)-1)=(p.length:Int):=by
      rw[dS (pL.i64.2 (by simp at hl⊢;omega))];simp
     have e2:iP a (p.length:Int)=some z:=wD (xs:=x::xs) (by rw[h];simp);rw[e0,aI,e1,e2,aA,nV];show _=bif (Op.bytesLess z.var x.var&&C3 (some x) xs)then k else some false
     cases Op.bytesLess z.var x.var<;>rfl
theorem Tn(b:aT)(h:PB b):ke b=some (tW b):=by
 unfold ke tW;have t:=fun k=>Q3 (isV:=ga) (isA:=fS) (a:=b) (L:=jX b k) (k:=k) (by have:=h.1;omega) PS Kw (fun _=>rfl) (fun _ _ _=>rfl) b [] rfl h.2
 refine(t _).trans ?_;have e:decide (((b.map aX.c).length:Int)<=6)=decide (b.length<=6):=by rw[ax];congr 1;rw[xB];omega
 rw[e];show(bif C3 none b then _ else _)=_;cases C3 none b<;>rfl
theorem TW(b:aT)(h:PB b):kU b=some (tW b):=by
 unfold kU tW;have t:=fun k=>Q3 (isV:=lK) (isA:=fP) (a:=b) (L:=iA b k) (k:=k) (by have:=h.1;omega) UX Kj (fun _=>rfl) (fun _ _ _=>rfl) b [] rfl h.2
 rw[show iA b (some true) b 0=_ from t _];by_cases h6:b.length<=6
 ·have e:decide (((b.map aX.c).length:Int)>6)=false:=by rw[ax];simp;omega
  rw[e,aS,bG h6,xQ];show(bif C3 none b then _ else _)=_;cases C3 none b<;>rfl
 ·have e:decide (((b.map aX.c).length:Int)>6)=true:=by rw[ax];simp;omega
  rw[e,aI,bM h6,vu]
def Ae(t:Bytes):aT->Option Bytes
 | []=>none
 |x::xs=>bif x.var==t then some x.value else Ae t xs
def zE(b:aT)(t:Bytes):Bytes×Bool:=bif mN t then(t,true)else bif nu t then(match Ae t b with|some v=>(v,true)|none=>([],false))else([],false)
theorem a4B(b:aT)(t:Bytes)(ht:t.length<=1048576):pO b t=some (zE b t):=by
 unfold pO zE;have key:∀(l:aT) (i:Nat),iL b t (some ([],false)) l i=some (bif nu t then(match Ae t l with|some v=>(v,true)|none=>([],false))else([],false)):=by
  intro l
  induction l with
  |nil=>intro i;rw[iL];cases nu t<;>rfl
  |cons x xs ih=>
   intro i;rw[iL,PS t ht,aA,ih];simp only[Ae];cases x.var==t<;>cases nu t<;>rfl
 rw[Kw t ht,aA,key];cases mN t<;>rfl
theorem a3O(b:aT)(t:Bytes)(ht:t.length<=1048576):pN b t=some (zE b t):=by
 unfold pN zE;have key:∀(l:aT) (i:Nat),lN b t (some ([],false)) l i=some (match Ae t l with|some v=>(v,true)|none=>([],false)):=by
  intro l
  induction l with
  |nil=>intro i;rfl
  |cons x xs ih=>
   intro i;rw[lN,ih];simp only[Ae];cases x.var==t<;>rfl
 rw[Kj t ht,aA,UX t ht,aA,key];cases mN t<;>cases nu t<;>rfl
theorem SR(b:aT)(h:b.length<=1099511627776):qk b=some b:=by
 unfold qk;rw[Qx h (by decide)];simp
theorem S3(b:aT)(h:b.length<=1099511627776):jF b=some b:=by
 unfold jF;rw[Qx h (by decide)];simp
def NH(v val:Bytes):aT->aT
 | []=>[⟨v,val⟩]
 |x::xs=>bif !(Op.bytesLess x.var v||x.var==v)then⟨v,val⟩::x::xs else x::NH v val xs
theorem YM(v val:Bytes)(b:aT):(NH v val b).length=b.length+1:=by
 induction b with
 |nil=>rfl
 |cons x xs ih=>simp only[NH];cases !(Op.bytesLess x.var v||x.var==v)<;>simp[ih]
theorem YN(v val:Bytes)(b:aT){x:aX}(h:x∈NH v val b):x=⟨v,val⟩\/x∈b:=by
 induction b with
 |nil=>simp[NH]at h;exact .inl h
 |cons y ys ih=>
  simp only[NH]at h;cases hc: !(Op.bytesLess y.var v||y.var==v)with
  |true=>
   rw[hc,aI]at h;rcases bL.1 h with h|h
   ·exact .inl h
   ·exact .inr h
  |false=>
   rw[hc,aS]at h;rcases bL.1 h with h|h
   ·exact .inr (by simp[h])
   ·rcases ih h with h|h
    ·exact .inl h
    ·exact .inr (by simp[h])
theorem Tp{γ:Type}{v val:Bytes}{L:aT->Nat->Bool->aT->Option γ}{k:Bool->aT->Option γ}{K:aT->Option γ}(hk1:∀w,k true w=K w)(hk2:∀w:aT,w.length<1099511627770->k false w=K (w++[⟨v,val⟩]))(uI:∀i d w,L [] i d w=k d w)
 (tu:∀x xs i d w,L (x::xs) i d w=(bif !(d)then(bif !(Op.bytesLess x.var v||(x.var:Bytes)==v)then(bif room ((w.map aX.c).length+([[D.str v,D.str val]]).length) 32 then(bif room (((w.map aX.c)++([[D.str v,D.str val]])).length+([[D.str x.var,D.str x.value]]).length) 32 then(L xs (i+1) true ((w++([(⟨v,val⟩:aX)]))++([x])))else none)else none)else(bif room ((w.map aX.c).length+([[D.str x.var,D.str x.value]]).length) 32 then(L xs (i+1) d (w++([x])))else none))else(bif room ((w.map aX.c).length+([[D.str x.var,D.str x.value]]).length) 32 then(L xs (i+1) d (w++([x])))else none))):
 ∀(l:aT) (i:Nat) (w:aT),w.length+l.length<1099511627760->L l i false w=K (w++NH v val l):=by
 have c1:∀(l:aT) (i:Nat) (w:aT),w.length+l.length<1099511627765->L l i true w=K (w++l):=by
  intro l
  induction l with
  |nil=>intro i w _;rw[uI,hk1,cz]
  |cons x xs ih=>
   intro i w hw;simp only[aP]at hw;rw[tu,bW,aS,fZ (by omega) (by decide),aI,ih (i+1) (w++[x]) (by simp;omega)];simp
 intro l
 induction l with
 |nil=>intro i w hw;simp only[bS]at hw;rw[uI,hk2 _ (by omega)];rfl
 |cons x xs ih=>
  intro i w hw;simp only[aP]at hw;have r1:∀y:aL,room ((w.map aX.c).length+([y]).length) 32=true:=fun y=>fZ (by omega) (by decide)
  have r2:room (((w.map aX.c)++([[D.str v,D.str val]])).length+([[D.str x.var,D.str x.value]]).length) 32=true:=Gk (by simp;omega) (by decide);have t1:=ih (i+1) (w++[x]) (by simp;omega);have t2:=c1 xs (i+1) ((w++[⟨v,val⟩])++[x]) (by simp;omega);rw[tu,cT,aI,r1,r1,r2];simp only[aI,NH];cases !(Op.bytesLess x.var v||x.var==v)with
  |true=>rw[aI,aI,t2];simp
  |false=>rw[aS,aS,t1];simp
theorem a6p(b:aT)(v val:Bytes)(h:b.length<1099511627700):wL b v val=some (NH v val b):=by
 unfold wL;exact Tp (v:=v) (val:=val) (K:=fun w=>some w) (L:=mR b v val (fun(z:Bool) (q:aT)=>(bif !(z)then(bif room ((q.map aX.c).length+([[D.str v,D.str val]]).length) 32 then(some (q++([(⟨v,val⟩:aX)])))else none)else(some q)))) (fun w=>rfl) (fun w hw=>by show(bif !false then _ else _)=_;rw[fZ (by omega) (by decide)];rfl) (fun _ _ _=>rfl) (fun _ _ _ _ _=>rfl) b 0 [] (by simp;omega)
def LB(b:aT)(v val:Bytes):aT×Bool:=bif tW b&&(nu v&&mN val)then(match Ae v b with|some o=>bif o==val then(b,true)else([],false)|none=>bif decide (b.length=6)then([],false)else(NH v val b,true))else([],false)
theorem TD{b:aT}{v val:Bytes}(h:PB b)(hv:v.length<=1048576)(hl:val.length<=1048576):PB (LB b v val).1:=by
 unfold LB;cases hb:tW b&&(nu v&&mN val)with
 |false=>exact PB.nil
 |true=>
  rw[aI];have h6:b.length<=6:=NQ (by simp only[aV]at hb;exact hb.1);cases Ae v b with
  |some o=>simp only;cases o==val<;>first|exact h|exact PB.nil
  |none=>
   simp only;cases decide (b.length=6)with
   |true=>exact PB.nil
   |false=>
    refine⟨by simp only[aS,YM];omega,fun x hx=>?_⟩;rcases YN _ _ _ hx with rfl|hx
    ·exact⟨hv,hl⟩
    ·exact h.2 x hx
theorem a9Y(b:aT)(v val:Bytes)(h:PB b)(hv:v.length<=1048576)(hl:val.length<=1048576):si b v val=some (LB b v val):=by
 unfold si LB;have hlen:=h.1;rw[Tn b h,aA,PS v hv,aA,Kw val hl,aA,a4B b v hv,aA,SR b (by omega),aA,a6p b v val (by omega),aA];have e6:((((b.map aX.c).length:Int):Int)==6)=decide (b.length=6):=by
  rw[ax,br];simp;omega
 rw[e6];cases hb:tW b with
 |false=>rfl
 |true=>
  cases hvv:nu v with
  |false=>rfl
  |true=>
   cases mN val with
   |false=>rfl
   |true=>
    have Mp:zE b v=(match Ae v b with|some o=>(o,true)|none=>([],false)):=by unfold zE;rw[Ja hvv,hvv];rfl
    rw[Mp];simp only[bW,aS,gx,xQ,aI];cases Ae v b with
    |some o=>simp only[aI];cases o==val<;>rfl
    |none=>simp only[aS];cases decide (b.length=6)<;>rfl
theorem a9C(b:aT)(v val:Bytes)(h:PB b)(hv:v.length<=1048576)(hl:val.length<=1048576):sZ b v val=some (LB b v val):=by
 unfold sZ LB;have hlen:=h.1;have t:=(Tp (v:=v) (val:=val) (K:=fun w=>some ((w,true):aT×Bool)) (L:=kR b v val (fun(z:Bool) (q:aT)=>(bif !(z)then(bif room ((q.map aX.c).length+([[D.str v,D.str val]]).length) 32 then(some (q++([(⟨v,val⟩:aX)]),true))else none)else(some (q,true))))) (fun w=>rfl) (fun w hw=>by show(bif !false then _ else _)=_;rw[fZ (by omega) (by decide)];rfl) (fun _ _ _=>rfl) (fun _ _ _ _ _=>rfl) b 0 [] (by simp;omega))
 rw[TW b h,aA,UX v hv,aA,Kj val hl,aA,a3O b v hv,aA,S3 b (by omega),aA,t];cases hb:tW b with
 |false=>rfl
 |true=>
  have h6:=NQ hb;have e6:decide ((((b.map aX.c).length:Int):Int)>=6)=decide (b.length=6):=by
   rw[ax];congr 1;rw[xB];omega
  rw[e6];cases hvv:nu v with
  |false=>rfl
  |true=>
   cases mN val with
   |false=>rfl
   |true=>
    have Mp:zE b v=(match Ae v b with|some o=>(o,true)|none=>([],false)):=by unfold zE;rw[Ja hvv,hvv];rfl
    rw[Mp];simp only[bW,aS,gx,xQ,aI];cases Ae v b with
    |some o=>simp only[aI];cases o==val<;>rfl
    |none=>simp only[aS];cases decide (b.length=6)<;>rfl
def Qh:aG->aG->aT->aT×Bool
 | [],_,w=>(w,true)
 |_::_,[],_=>([],false)
 |x::xs,y::ys,w=>bif mN x then(bif x==y then Qh xs ys w else([],false))else(bif (LB w x y).2 then Qh xs ys (LB w x y).1 else([],false))
def yR(p f:aD)(b:aT):aT×Bool:=bif Df p&&(rX f&&(tW b&&(p.rel==f.rel&&decide (p.args.length=f.args.length))))then Qh p.args f.args b else([],false)
theorem P0:∀(l r:aG) (w:aT),PB w->(∀x∈l,x.length<=1048576)->(∀x∈r,x.length<=1048576)->PB (Qh l r w).1
 | [],_,w,h,_,_=>h
 |_::_,[],_,_,_,_=>PB.nil
 |x::xs,y::ys,w,h,hl,hr=>by
  simp only[Qh];have i1:=P0 xs ys w h (fun z hz=>hl z (by simp[hz])) (fun z hz=>hr z (by simp[hz]));have i2:=P0 xs ys (LB w x y).1 (TD h (hl x (by simp)) (hr y (by simp))) (fun z hz=>hl z (by simp[hz])) (fun z hz=>hr z (by simp[hz]));cases mN x with
  |true=>cases x==y<;>first|exact i1|exact PB.nil
  |false=>cases(LB w x y).2<;>first|exact i2|exact PB.nil
theorem a0H{p f:aD}{b:aT}(hb:PB b)(hp:p.wt<=1048576)(hf:f.wt<=1048576):PB (yR p f b).1:=by
 unfold yR;cases Df p&&(rX f&&(tW b&&(p.rel==f.rel&&decide (p.args.length=f.args.length))))with
 |false=>exact PB.nil
 |true=>exact P0 _ _ _ hb (fun x hx=>aD.tA hp hx) (fun x hx=>aD.tA hf hx)
theorem Te{isA:Bytes->Option Bool}{ext:aT->Bytes->Bytes->Option (aT×Bool)}{fa:aG}{L:aG->Nat->aT->Option (aT×Bool)}(hA:∀x:Bytes,x.length<=1048576->isA x=some (mN x))(hE:∀w x y,PB w->x.length<=1048576->y.length<=1048576->ext w x y=some (LB w x y))(uI:∀i w,L [] i w=some (w,true))
 (tu:∀x xs i w,L (x::xs) i w=((isA x).bind fun y=>(bif y then((iP fa (i:Int)).bind fun z=>(bif !((x:Bytes)==z)then(some ([],false))else(L xs (i+1) w)))else((iP fa (i:Int)).bind fun z=>((ext w x z).bind fun q=>(bif !(q.2)then(some ([],false))else(L xs (i+1) q.1))))))):
 ∀(l pre rest:aG) (w:aT),fa=pre++rest->l.length=rest.length->(∀x∈l,x.length<=1048576)->(∀x∈rest,x.length<=1048576)->PB w->L l pre.length w=some (Qh l rest w):=by
 intro l
 induction l with
 |nil=>intro pre rest w _ _ _ _ _;rw[uI];simp[Qh]
 |cons x xs ih=>
  intro pre rest w h hl hx hr hw;cases rest with
  |nil=>simp at hl
  |cons y ys=>
   have t:=fun w' hw'=>ih (pre++[y]) ys w' (by simp[h]) (by simpa using hl) (fun z hz=>hx z (by simp[hz])) (fun z hz=>hr z (by simp[hz])) hw'
   simp only[av,dU]at t;rw[tu,hA x (hx x (by simp)),aA,wD h,aA,aA,hE w x y hw (hx x (by simp)) (hr y (by simp)),aA];simp only[Qh];cases mN x with
   |true=>
    simp only[aI];cases x==y with
    |true=>simp only[bW,aS,aI];exact t w hw
    |false=>rfl
   |false=>
    simp only[aS];cases hq:(LB w x y).2 with
    |true=>simp only[bW,aS,aI];exact t _ (TD hw (hx x (by simp)) (hr y (by simp)))
    |false=>rfl
theorem XQ(a b:aG):((((a.map tx).length:Int):Int) != ((b.map tx).length:Int))= !decide (a.length=b.length):=by
 rw[ax,ax];by_cases h:a.length=b.length
 ·simp[h]
 ·rw[bM h];simp;omega
theorem a6e(p f:aD)(b:aT)(hp:p.wt<=1048576)(hf:f.wt<=1048576)(hb:PB b):kj p f b=some (yR p f b):=by
 unfold kj yR;have hlen:=hb.1;rw[a3w p hp,aA,a1q f hf,aA,Tn b hb,aA,SR b (by omega),aA,XQ];cases Df p with
 |false=>rfl
 |true=>
  cases rX f with
  |false=>rfl
  |true=>
   cases tW b with
   |false=>rfl
   |true=>
    cases p.rel==f.rel with
    |false=>rfl
    |true=>
     by_cases h:p.args.length=f.args.length
     ·rw[bG h];have t:=Te (isA:=fS) (ext:=si) (fa:=f.args) (L:=ja p f (fun(q:aT)=>(some (q,true)))) Kw (fun w x y hw hx hy=>a9Y w x y hw hx hy) (fun _ _=>rfl) (fun _ _ _ _=>rfl) p.args [] f.args b rfl h (fun x hx=>aD.tA hp hx) (fun x hx=>aD.tA hf hx) hb;exact t
     ·rw[bM h];rfl
theorem a3F(p f:aD)(b:aT)(hp:p.wt<=1048576)(hf:f.wt<=1048576)(hb:PB b):jD p f b=some (yR p f b):=by
 unfold jD yR;have hlen:=hb.1;rw[a3H p hp,aA,X8 f hf,aA,TW b hb,aA,S3 b (by omega),aA,XQ];cases Df p with
 |false=>rfl
 |true=>
  cases rX f with
  |false=>rfl
  |true=>
   cases tW b with
   |false=>rfl
   |true=>
    cases p.rel==f.rel with
    |false=>rfl
    |true=>
     by_cases h:p.args.length=f.args.length
     ·rw[bG h];have t:=Te (isA:=fP) (ext:=sZ) (fa:=f.args) (L:=jQ p f (fun(q:aT)=>(some (q,true)))) Kj (fun w x y hw hx hy=>a9C w x y hw hx hy) (fun _ _=>rfl) (fun _ _ _ _=>rfl) p.args [] f.args b rfl h (fun x hx=>aD.tA hp hx) (fun x hx=>aD.tA hf hx) hb;exact t
     ·rw[bM h];rfl
def ltB(l r:Bytes):Bool:=match wY l,wY r with|some x,some y=>decide (x<y)|_,_=>false
def Wb(c:aO)(b:aT):Bool:=JY c&&(tW b&&((zE b c.left).2&&((zE b c.right).2&&(bif decide (c.kind=3)then(zE b c.left).1==(zE b c.right).1 else bif decide (c.kind=4)then !((zE b c.left).1==(zE b c.right).1)else ltB (zE b c.left).1 (zE b c.right).1))))
theorem xU(a b:Int):(a==b)=decide (a=b):=by rw[br];simp
theorem a6a(c:aO)(b:aT)(hc:c.wt<=1048576)(hb:PB b):rO c b=some (Wb c b):=by
 unfold rO Wb;rw[YK c hc,aA,Tn b hb,aA,a4B b c.left (aO.Ag hc),aA,a4B b c.right (aO.yD hc),aA,xU,xU];cases JY c with
 |false=>rfl
 |true=>
  cases tW b with
  |false=>rfl
  |true=>
   cases(zE b c.left).2 with
   |false=>rfl
   |true=>
    cases(zE b c.right).2 with
    |false=>rfl
    |true=>
     cases decide (c.kind=3)with
     |true=>rfl
     |false=>
      cases decide (c.kind=4)with
      |true=>rfl
      |false=>
       simp only[bW,aS,gx];unfold sR ltB;rw[PO,aA,aA,PO,aA,aA,a1o,aA];unfold pI AM;cases wY (zE b c.left).1 with
       |none=>rfl
       |some x=>
        cases wY (zE b c.right).1 with
        |none=>rfl
        |some y=>
         simp only[aI]
         congr 1
         unfold FX;by_cases h:x<y
         ·have h1:(x:Int)<y:=by omega
          simp[h1,h]
         ·have h1:¬(x:Int)<y:=by omega
          by_cases h2:(x:Int)>y
          ·simp[h1,h,h2]
          ·simp[h1,h,h2]
theorem a5o(c:aO)(b:aT)(hc:c.wt<=1048576)(hb:PB b):rD c b=some (Wb c b):=by
 unfold rD Wb;rw[a5y c hc,aA,TW b hb,aA,a3O b c.left (aO.Ag hc),aA,a3O b c.right (aO.yD hc),aA,xU,xU];cases JY c with
 |false=>rfl
 |true=>
  cases tW b with
  |false=>rfl
  |true=>
   cases(zE b c.left).2 with
   |false=>rfl
   |true=>
    cases(zE b c.right).2 with
    |false=>rfl
    |true=>
     cases decide (c.kind=3)with
     |true=>rfl
     |false=>
      cases decide (c.kind=4)with
      |true=>rfl
      |false=>
       simp only[bW,aS,gx];unfold ltB;rw[Oo,aA,Oo,aA];unfold pI;cases wY (zE b c.left).1 with
       |none=>rfl
       |some x=>
        cases wY (zE b c.right).1 with
        |none=>rfl
        |some y=>
         simp only[aI]
         congr 1
         by_cases h:x<y
         ·simp[h]
         ·simp[h]
def xw(p:aD)(b:aT)(fs:aJ):aJ:=fs.filter fun f=>(yR p f b).2
def FS(fs:aJ):Prop:=fs.length<=1048576/\∀f∈fs,f.wt<=1048576
theorem TH{γ:Type}{mf:aD->Option (aT×Bool)}{cp:aD->Option aD}{p:aD}{b:aT}{L:aJ->Nat->aJ->Option γ}{k:aJ->Option γ}(hm:∀f:aD,f.wt<=1048576->mf f=some (yR p f b))(hc:∀f:aD,f.wt<=1048576->cp f=some f)(uI:∀i w,L [] i w=k w)
 (tu:∀x xs i w,L (x::xs) i w=((mf x).bind fun y=>(bif y.2 then((cp x).bind fun z=>(bif room ((w.map aD.c).length+([[D.str z.rel,D.sl (z.args.map tx)]]).length) 40 then(L xs (i+1) (w++([z])))else none))else(L xs (i+1) w)))):
 ∀(l:aJ) (i:Nat) (w:aJ),(∀f∈l,f.wt<=1048576)->w.length+l.length<1099511627700->L l i w=k (w++xw p b l):=by
 intro l
 induction l with
 |nil=>intro i w _ _;rw[uI];simp[xw]
 |cons x xs ih=>
  intro i w hl hw;simp only[aP]at hw;have hx:=hl x (by simp);rw[tu,hm x hx,aA,hc x hx,aA,fZ (by omega) (by decide),aI];have e:xw p b (x::xs)=bif (yR p x b).2 then x::xw p b xs else xw p b xs:=by
   unfold xw;rw[List.filter_cons];cases(yR p x b).2<;>rfl
  rw[e];cases(yR p x b).2 with
  |true=>rw[aI,aI,ih _ _ (fun f hf=>hl f (by simp[hf])) (by simp;omega)];simp
  |false=>rw[aS,aS,ih _ _ (fun f hf=>hl f (by simp[hf])) (by omega)]
theorem a3q(p:aD)(b:aT)(fs:aJ)(hp:p.wt<=1048576)(hb:PB b)(hf:FS fs):gQ p b fs=some (xw p b fs):=by
 unfold gQ;have h1:=hf.1;refine(TH (mf:=fun f=>kj p f b) (cp:=eR) (p:=p) (b:=b) (L:=gC p b fs _) (k:=fun q=>some q) (fun f h=>a6e p f b hp h hb) (fun f h=>AE f (by have:=aD.dY h;omega)) (fun _ _=>rfl) (fun _ _ _ _=>rfl) fs 0 [] hf.2 (by simp;omega)).trans ?_;simp
theorem a5k(p:aD)(b:aT)(fs:aJ)(hp:p.wt<=1048576)(hb:PB b)(hf:FS fs):iR p b fs=some (xw p b fs):=by
 unfold iR;have h1:=hf.1;refine(TH (mf:=fun f=>jD p f b) (cp:=eD) (p:=p) (b:=b) (L:=fy p b fs _) (k:=fun q=>some q) (fun f h=>a3F p f b hp h hb) (fun f h=>KL f (by have:=aD.dY h;omega)) (fun _ _=>rfl) (fun _ _ _ _=>rfl) fs 0 [] hf.2 (by simp;omega)).trans ?_;simp
def MA(c:aO)(b:aT)(fs:aJ):Bool:=rB c&&(tW b&&(bif decide (c.kind=1)then decide (0<(xw c.pat b fs).length)else bif decide (c.kind=2)then decide ((xw c.pat b fs).length=0)else Wb c b))
theorem XP(l:aJ):decide ((((l.map aD.c).length:Int):Int)>0)=decide (0<l.length):=by rw[ax];congr 1;rw[xB];omega
theorem len_eq(l:aJ):((((l.map aD.c).length:Int):Int)==0)=decide (l.length=0):=by rw[ax,xU];congr 1;rw[xB];omega
theorem a6Z(c:aO)(b:aT)(fs:aJ)(hc:c.wt<=1048576)(hb:PB b)(hf:FS fs):rN c b fs=some (MA c b fs):=by
 unfold rN MA;rw[Xx c hc,aA,Tn b hb,aA,a3q c.pat b fs (aO.fU hc) hb hf,aA,aA,a6a c b hc hb,aA,xU,xU,XP,len_eq];cases rB c with
 |false=>rfl
 |true=>
  cases tW b with
  |false=>rfl
  |true=>cases decide (c.kind=1)<;>cases decide (c.kind=2)<;>rfl
theorem a5n(c:aO)(b:aT)(fs:aJ)(hc:c.wt<=1048576)(hb:PB b)(hf:FS fs):rC c b fs=some (MA c b fs):=by
 unfold rC MA;rw[X5 c hc,aA,TW b hb,aA,a5k c.pat b fs (aO.fU hc) hb hf,aA,aA,a5o c b hc hb,aA,xU,xU,XP,len_eq];cases rB c with
 |false=>rfl
 |true=>
  cases tW b with
  |false=>rfl
  |true=>cases decide (c.kind=1)<;>cases decide (c.kind=2)<;>rfl
end Go.Cx
namespace Go.Cx
open Go.RowKit Go.Proofs Tryz
theorem a0q{p:aD}(h:Df p=true):∀t∈p.args,tM t=true:=by
 unfold Df at h;rw[aV]at h;exact fun t ht=>aq.1 h.1 t ht
end Go.Cx
namespace Go.Cx
open Go.RowKit Go.Proofs Tryz
theorem F6(l:aJ)(h:l.length<=1048576)(hf:∀f∈l,f.args.length<=1048576):fo l=some l:=by
 unfold fo;refine(Dd (c:=aD.c) (b:=40) (f:=eR) (g:=fun x=>x) (L:=nI l _) (k:=fun q=>some q) (by decide) (fun _ _=>rfl) (fun _ _ _ _=>rfl) l 0 [] (fun f h=>AE f (by have:=hf f h;omega)) (by simp;omega)).trans ?_;simp
theorem Bh(l:aJ)(h:l.length<=1048576)(hf:∀f∈l,f.args.length<=1048576):cq l=some l:=by
 unfold cq;refine(Dd (c:=aD.c) (b:=40) (f:=eD) (g:=fun x=>x) (L:=mG l _) (k:=fun q=>some q) (by decide) (fun _ _=>rfl) (fun _ _ _ _=>rfl) l 0 [] (fun f h=>KL f (by have:=hf f h;omega)) (by simp;omega)).trans ?_;simp
def TK(n:Nat)(t:aU):Prop:=t.facts.length<=n/\(∀f∈t.facts,f.wt<=1048576)/\PB t.bind
theorem TK.le{n m:Nat}{t:aU}(h:TK n t)(hm:n<=m):TK m t:=⟨by have:=h.1;omega,h.2⟩
theorem Xy(t:aU)(h:TK 1048576 t):qm t=some t:=by
 unfold qm;rw[F6 t.facts h.1 (fun f hf=>by have:=aD.dY (h.2.1 f hf);omega),aA,SR t.bind (by have:=h.2.2.1;omega),aA]
def ext1(c:aO)(t:aU)(f:aD):ay:=bif (yR c.pat f t.bind).2 then [⟨t.facts++[f],(yR c.pat f t.bind).1⟩]else []
def KN(c:aO)(fs:aJ)(t:aU):ay:=bif decide (c.kind=1)then fs.flatMap (ext1 c t)else bif MA c t.bind fs then [t]else []
def yB(fs:aJ)(l:ay)(c:aO):ay:=l.flatMap (KN c fs)
def B3(cs:ai)(fs:aJ):ay:=cs.foldl (yB fs) [⟨[],[]⟩]
theorem WG(c:aO)(t:aU)(f:aD):(ext1 c t f).length<=1:=by unfold ext1;cases(yR c.pat f t.bind).2<;>simp
theorem M0(c:aO)(t:aU)(fs:aJ):(fs.flatMap (ext1 c t)).length<=fs.length:=by
 induction fs with
 |nil=>simp
 |cons f fs ih=>rw[fI,av];have:=WG c t f;simp only[aP];omega
theorem MW(c:aO)(fs:aJ)(t:aU):(KN c fs t).length<=fs.length+1:=by
 unfold KN;cases decide (c.kind=1)with
 |true=>have:=M0 c t fs;rw[aI];omega
 |false=>cases MA c t.bind fs<;>simp
theorem MX(fs:aJ)(l:ay)(c:aO):(yB fs l c).length<=l.length*(fs.length+1):=by
 unfold yB
 induction l with
 |nil=>simp
 |cons t l ih=>rw[fI,av,aP,I1];have:=MW c fs t;omega
theorem a0M{c:aO}{fs:aJ}{t:aU}{n:Nat}(h:TK n t)(hc:c.wt<=1048576)(hf:FS fs):∀u∈KN c fs t,TK (n+1) u:=by
 intro u hu;unfold KN at hu;cases hk:decide (c.kind=1)with
 |false=>
  rw[hk,aS]at hu;cases hh:MA c t.bind fs with
  |false=>rw[hh]at hu;cases hu
  |true=>
   rw[hh,aI,cZ]at hu;subst hu;exact h.le (by omega)
 |true=>
  rw[hk,aI]at hu;obtain⟨f,hf1,hu⟩:=cA.1 hu;unfold ext1 at hu;cases hm:(yR c.pat f t.bind).2 with
  |false=>rw[hm]at hu;cases hu
  |true=>
   rw[hm,aI,cZ]at hu;subst hu;refine⟨by have:=h.1;simp;omega,?_,a0H h.2.2 (aO.fU hc) (hf.2 f hf1)⟩;intro g hg;rcases aR.1 hg with hg|hg
   ·exact h.2.1 g hg
   ·rw[cZ]at hg;rw[hg];exact hf.2 f hf1
theorem P6{c:aO}{fs:aJ}{l:ay}{n:Nat}(h:∀t∈l,TK n t)(hc:c.wt<=1048576)(hf:FS fs):∀u∈yB fs l c,TK (n+1) u:=by
 intro u hu;obtain⟨t,ht,hu⟩:=cA.1 hu;exact a0M (h t ht) hc hf u hu
theorem TE{γ:Type}{mf:aD->Option (aT×Bool)}{cps:Option aJ}{cp:aD->Option aD}{c:aO}{t:aU}{L:aJ->Nat->ay->Option γ}{k:ay->Option γ}(hm:∀f:aD,f.wt<=1048576->mf f=some (yR c.pat f t.bind))(hcs:cps=some t.facts)(hc:∀f:aD,f.wt<=1048576->cp f=some f)(ht:t.facts.length<=1048576)(uI:∀i w,L [] i w=k w)
 (tu:∀x xs i w,L (x::xs) i w=((mf x).bind fun y=>(bif y.2 then(cps.bind fun q=>((cp x).bind fun z=>(bif room ((q.map aD.c).length+([[D.str z.rel,D.sl (z.args.map tx)]]).length) 40 then(bif room ((w.map aU.c).length+([[D.sl ((q.map aD.c)++([[D.str z.rel,D.sl (z.args.map tx)]])),D.sl (y.1.map aX.c)]]).length) 48 then(L xs (i+1) (w++([(⟨q++([z]),y.1⟩:aU)])))else none)else none)))else(L xs (i+1) w)))):
 ∀(l:aJ) (i:Nat) (w:ay),(∀f∈l,f.wt<=1048576)->w.length+l.length<1099511627770->L l i w=k (w++l.flatMap (ext1 c t)):=by
 intro l
 induction l with
 |nil=>intro i w _ _;rw[uI];simp
 |cons x xs ih=>
  intro i w hl hw;simp only[aP]at hw;have hx:=hl x (by simp);rw[tu,hm x hx,aA,hcs,aA,hc x hx,aA,fZ (by omega) (by decide),aI,fZ (by omega) (by decide),aI,fI];rw[show ext1 c t x=bif (yR c.pat x t.bind).2 then [⟨t.facts++[x],(yR c.pat x t.bind).1⟩]else []from rfl];cases(yR c.pat x t.bind).2 with
  |true=>rw[aI,aI,ih _ _ (fun f hf=>hl f (by simp[hf])) (by simp;omega)];simp
  |false=>rw[aS,aS,ih _ _ (fun f hf=>hl f (by simp[hf])) (by omega)];simp
theorem Tc(c:aO):((c.kind:Int) != 1)= !decide (c.kind=1):=by
 show(!((c.kind:Int)==1))=_;rw[xU]
theorem a3v(l0:ay)(c:aO)(fs:aJ)(k:ay->Option ay)(hc:c.wt<=1048576)(hf:FS fs):∀(l:ay) (i:Nat) (w:ay),(∀t∈l,TK 1048576 t)->w.length+l.length*(fs.length+1)<1099511627700->hG l0 c fs k l i w=k (w++yB fs l c):=by
 intro l;have h1:=hf.1
 induction l with
 |nil=>intro i w _ _;rw[hG];simp[yB]
 |cons t l ih=>
  intro i w hl hw;rw[aP,I1]at hw;have ht:=hl t (by simp);have e:yB fs (t::l) c=KN c fs t++yB fs l c:=by simp[yB]
  have hn:=MW c fs t;have he:=M0 c t fs;rw[hG,Tc,a6Z c t.bind fs hc ht.2.2 hf,aA,Xy t ht,aA,fZ (by omega) (by decide),aI,uV (by omega),aI,e];rw[TE (mf:=fun f=>kj c.pat f t.bind) (cps:=fo t.facts) (cp:=eR) (c:=c) (t:=t) (L:=nN l0 c fs i t _) (k:=_) (fun f h=>a6e c.pat f t.bind (aO.fU hc) h ht.2.2) (F6 t.facts ht.1 (fun f hf=>by have:=aD.dY (ht.2.1 f hf);omega)) (fun f h=>AE f (by have:=aD.dY h;omega)) ht.1 (fun _ _=>rfl) (fun _ _ _ _=>rfl) fs 0 w hf.2 (by omega)];unfold KN;cases decide (c.kind=1)with
  |true=>simp only[bW,aS,aI];rw[ih _ _ (fun u hu=>hl u (by simp[hu])) (by rw[av];omega)];simp
  |false=>
   simp only[cT,aI,aS];cases MA c t.bind fs with
   |true=>simp only[aI];rw[ih _ _ (fun u hu=>hl u (by simp[hu])) (by rw[av];simp;omega)];simp
   |false=>simp only[aS];rw[ih _ _ (fun u hu=>hl u (by simp[hu])) (by omega)];simp
theorem a6g(l:ay)(c:aO)(fs:aJ)(hc:c.wt<=1048576)(hf:FS fs)(hl:∀t∈l,TK 1048576 t)(hn:l.length*(fs.length+1)<1099511627700):ux l c fs=some (yB fs l c):=by
 unfold ux;rw[a3v l c fs _ hc hf l 0 [] hl (by simpa using hn)];simp
theorem SE:∀t∈[(⟨[],[]⟩:aU)],TK 0 t:=by
 intro t ht;rw[cZ]at ht;subst ht;exact⟨by simp,by simp,PB.nil⟩
theorem Xi{n:Nat}(h:n<=4):[(⟨[],[]⟩:aU)].length*25^n<=390625:=by
 have:=tT (n:=25) (by decide) h;simp only[dU,nW];exact this
theorem a4A(c0:ai)(fs:aJ)(k:ay->Option ay)(hf:FS fs)(h24:fs.length<=24):∀(cs:ai) (i:Nat) (w:ay) (n:Nat),(∀c∈cs,c.wt<=1048576)->(∀t∈w,TK n t)->n+cs.length<=1048576->w.length*25^cs.length<=390625->kN c0 fs k cs i w=k (cs.foldl (yB fs) w):=by
 intro cs
 induction cs with
 |nil=>intro i w n _ _ _ _;rfl
 |cons c cs ih=>
  intro i w n hc hw hn hl;simp only[aP]at hn;rw[aP,w8,Bw (25^cs.length) 25,<-GW]at hl;have hp:1<=25^cs.length:=Nat.one_le_pow _ _ (by decide);have Bf:w.length*25<=390625:=dX (BC _ hp) hl;have h25:w.length*(fs.length+1)<=w.length*25:=cv _ (by omega);rw[kN,a6g w c fs (hc c (by simp)) hf (fun t ht=>(hw t ht).le (by omega)) (by omega),aA];refine ih _ _ (n+1) (fun x hx=>hc x (by simp[hx])) (P6 hw (hc c (by simp)) hf) (by omega) ?_;exact dX (dw _ (dX (MX fs w c) h25)) hl
theorem a22(cs:ai)(fs:aJ)(hc:∀c∈cs,c.wt<=1048576)(h4:cs.length<=4)(hf:FS fs)(h24:fs.length<=24):oM cs fs=some (B3 cs fs):=by
 unfold oM;exact a4A cs fs _ hf h24 cs 0 _ 0 hc SE (by omega) (Xi h4)
theorem a05(c0:ai)(fs:aJ)(w0:ay)(i1:Nat)(c:aO)(k:ay->Option ay)(hc:c.wt<=1048576)(hf:FS fs):∀(l:ay) (i:Nat) (w:ay),(∀t∈l,TK 1048576 t)->w.length+l.length*(fs.length+1)<1099511627700->fR c0 fs w0 i1 c k l i w=k (w++yB fs l c):=by
 intro l;have h1:=hf.1
 induction l with
 |nil=>intro i w _ _;rw[fR];simp[yB]
 |cons t l ih=>
  intro i w hl hw;rw[aP,I1]at hw;have ht:=hl t (by simp);have e:yB fs (t::l) c=KN c fs t++yB fs l c:=by simp[yB]
  have hn:=MW c fs t;have he:=M0 c t fs;rw[fR,Tc,a5n c t.bind fs hc ht.2.2 hf,aA,fZ (by omega) (by decide),aI,uV (by omega),aI,e];rw[TE (mf:=fun f=>jD c.pat f t.bind) (cps:=cq t.facts) (cp:=eD) (c:=c) (t:=t) (L:=kG c0 fs i w0 t i1 c _) (k:=_) (fun f h=>a3F c.pat f t.bind (aO.fU hc) h ht.2.2) (Bh t.facts ht.1 (fun f hf=>by have:=aD.dY (ht.2.1 f hf);omega)) (fun f h=>KL f (by have:=aD.dY h;omega)) ht.1 (fun _ _=>rfl) (fun _ _ _ _=>rfl) fs 0 w hf.2 (by omega)];unfold KN;cases decide (c.kind=1)with
  |true=>simp only[bW,aS,aI];rw[ih _ _ (fun u hu=>hl u (by simp[hu])) (by rw[av];omega)];simp
  |false=>
   simp only[cT,aI,aS];cases MA c t.bind fs with
   |true=>simp only[aI];rw[ih _ _ (fun u hu=>hl u (by simp[hu])) (by rw[av];simp;omega)];simp
   |false=>simp only[aS];rw[ih _ _ (fun u hu=>hl u (by simp[hu])) (by omega)];simp
theorem a3N(c0:ai)(fs:aJ)(k:ay->Option ay)(hf:FS fs)(h24:fs.length<=24):∀(cs:ai) (i:Nat) (w:ay) (n:Nat),(∀c∈cs,c.wt<=1048576)->(∀t∈w,TK n t)->n+cs.length<=1048576->w.length*25^cs.length<=390625->kF c0 fs k cs i w=k (cs.foldl (yB fs) w):=by
 intro cs
 induction cs with
 |nil=>intro i w n _ _ _ _;rfl
 |cons c cs ih=>
  intro i w n hc hw hn hl;simp only[aP]at hn;rw[aP,w8,Bw (25^cs.length) 25,<-GW]at hl;have hp:1<=25^cs.length:=Nat.one_le_pow _ _ (by decide);have Bf:w.length*25<=390625:=dX (BC _ hp) hl;have h25:w.length*(fs.length+1)<=w.length*25:=cv _ (by omega);rw[kF,uV (by omega),aI,a05 c0 fs w i c _ (hc c (by simp)) hf w 0 [] (fun t ht=>(hw t ht).le (by omega)) (by simp only[bS];omega),ck];refine ih _ _ (n+1) (fun x hx=>hc x (by simp[hx])) (P6 hw (hc c (by simp)) hf) (by omega) ?_;exact dX (dw _ (dX (MX fs w c) h25)) hl
theorem a5z(cs:ai)(fs:aJ)(hc:∀c∈cs,c.wt<=1048576)(h4:cs.length<=4)(hf:FS fs)(h24:fs.length<=24):sM cs fs=some (B3 cs fs):=by
 unfold sM;exact a3N cs fs _ hf h24 cs 0 _ 0 hc SE (by omega) (Xi h4)
theorem Ux{r:aK}(h:j7 r=true):r.conds.length<=4:=by
 unfold j7 at h;simp only[aV,bI]at h;omega
theorem Lu{r:aK}:∀ {l:ai} {i:Nat},rj r l i=true->∀c∈l,rB c=true
 | [],_,_,c,hc=>by cases hc
 |x::xs,i,h,c,hc=>by
  simp only[rj,aV]at h;rcases bL.1 hc with rfl|hc
  ·exact h.1.1.1
  ·exact Lu h.2 c hc
theorem Kv{r:aK}(h:j7 r=true):∀c∈r.conds,rB c=true:=by
 unfold j7 at h;simp only[aV]at h;exact Lu h.2.1
theorem sY{l:aJ}(h:iK l=true):l.length<=24:=by
 unfold iK at h;simp only[aV,bI]at h;exact h.2
theorem Yg{cs:ai}{fs:aJ}(h4:cs.length<=4)(h24:fs.length<=24):(B3 cs fs).length<=390625:=by
 have key:∀(cs:ai) (w:ay),w.length*25^cs.length<=390625->(cs.foldl (yB fs) w).length<=390625:=by
  intro cs
  induction cs with
  |nil=>intro w h;simpa using h
  |cons c cs ih=>
   intro w h;rw[aP,w8,Bw (25^cs.length) 25,<-GW]at h;refine ih _ ?_;have h25:w.length*(fs.length+1)<=w.length*25:=cv _ (by omega);exact dX (dw _ (dX (MX fs w c) h25)) h
 exact key cs _ (Xi h4)
theorem Px{all:aj}:∀ {l:aj} {i:Nat},L5 all l i=true->∀r∈l,j7 r=true
 | [],_,_,r,hr=>by cases hr
 |x::xs,i,h,r,hr=>by
  simp only[L5,aV]at h;rcases bL.1 hr with rfl|hr
  ·exact h.1.1
  ·exact Px h.2 r hr
theorem rA{l:aj}(h:r9 l=true):∀r∈l,j7 r=true:=by
 unfold r9 at h;simp only[aV]at h;exact Px h.1
end Go.Cx
namespace Go.Cx
open Go.RowKit Go.Proofs Tryz
theorem Nr:∀(a b:aG),a.Nodup->(∀x∈a,x∈b)->a.length<=b.length
 | [],b,_,_=>Dq _
 |x::xs,b,hn,hs=>by
  rw[eV]at hn;have h1:=Nr xs (b.erase x) hn.2 fun y hy=>(List.mem_erase_of_ne (fun e=>hn.1 (by rw[<-e];exact hy))).2 (hs y (by simp[hy]))
  have h2:=qX (hs x (by simp));have h3:0<b.length:=Bv (hs x (by simp));simp only[aP];omega
theorem Uy{r:aK}(h:j7 r=true):(fE (D3 r.conds)).length<=6:=by
 unfold j7 at h;simp only[aV,bI]at h;omega
theorem UD{c:aO}(hc:rB c=true)(hk:c.kind=1\/c.kind=2):Df c.pat=true/\c.left=[]/\c.right=[]:=by
 unfold rB at hc;have:(decide (c.kind=1)||decide (c.kind=2))=true:=by simpa using hk
 rw[this,aI]at hc;simp only[aV,cc]at hc;exact⟨hc.1,hc.2.1,hc.2.2⟩
theorem RU{c:aO}(hc:rB c=true)(h1:c.kind≠1)(h2:c.kind≠2):(decide (c.kind=3)||decide (c.kind=4)||decide (c.kind=5))=true/\FH c.pat=true/\tM c.left=true/\tM c.right=true:=by
 unfold rB at hc;rw[bM h1,bM h2,ug,aS]at hc;cases h:(decide (c.kind=3)||decide (c.kind=4)||decide (c.kind=5))with
 |false=>rw[h]at hc;cases hc
 |true=>
  rw[h,aI]at hc;simp only[aV]at hc;exact⟨rfl,hc.1,hc.2.1,hc.2.2⟩
structure WB(U:List Bytes)(b:List aX):Prop where
 ok:tW b=true
 sub:∀p∈b,p.var∈U
theorem Lt{r:aK}:∀ {pre rest:ai} {c:aO} {i:Nat},rj r (pre++c::rest) i=true->rB c=true/\(i+pre.length=0->c.kind=1)/\∀v∈qD c,LD r (i+pre.length) c v=true
 | [],rest,c,i,h=>by
  rw[ck]at h;unfold rj at h;rw[NP]at h;simp only[aV,oD,pz,qy,bI]at h;refine⟨h.1.1.1,fun e=>?_,fun v hv=>aq.1 h.1.2 v hv⟩;rcases h.1.1.2 with q|q
  ·exact absurd (by simpa using e) q
  ·exact q
 |x::pre,rest,c,i,h=>by
  rw[qw]at h;unfold rj at h;rw[aV]at h;have:=Lt h.2;rw[aP,show i+(pre.length+1)=i+1+pre.length by omega];exact this
theorem PJ{r:aK}(h:j7 r=true):rj r r.conds 0=true:=by
 unfold j7 at h;simp only[aV]at h;exact h.2.1
end Go.Cx
namespace Go.Cx
open Go.RowKit Go.Proofs Tryz
def UA(sh:aD):bK->Nat->Option Nat
 | [],_=>none
 |x::xs,i=>if x.shape=sh then some i else UA sh xs (i+1)
def Sv(al:bK)(sh:aD):bK×Int:=match UA sh al 0 with
 |some i=>(al,dZ i)
 |none=>(al++[⟨sh,[]⟩],dZ al.length)
theorem Kz{n:Nat}(h:n<=1099511627776):IntKind.i64.wrap (((n+1:Nat):Int)-1)=dZ n:=by
 unfold dZ;rw[dS (pL.i64.2 (by omega))];omega
theorem a9U(n:aH)(sh:aD)(k:Option (aH×Int)):∀(l:bK) (i:Nat),lY n sh k l i=match UA sh l i with|some j=>some (n,dZ j)|none=>k:=by
 intro l
 induction l with
 |nil=>intro i;rfl
 |cons x l ih=>
  intro i;rw[lY,SV,aA,ih,UA];by_cases h:x.shape=sh
  ·rw[bG h,aI,bN h];rfl
  ·rw[bM h,aS,b9 h]
theorem sAl(n:aH)(sh:aD)(h:n.au.length<=1048576):rT n sh=some (⟨n.rules,n.ends,(Sv n.au sh).1,n.nodes,n.facts,n.bp⟩,(Sv n.au sh).2):=by
 unfold rT;rw[uV (by omega),aI,a9U,fZ (by omega) (by decide),aI];unfold Sv;cases UA sh n.au 0 with
 |some j=>rfl
 |none=>
  dsimp only;rw[show((n.au.map aZ.c)++[[D.str sh.rel,D.sl (sh.args.map tx),D.sl []]]).length=n.au.length+1 by simp,Kz (by omega)]
theorem a98(n:aH)(sh:aD)(k:Option (aH×Int)):∀(l:bK) (i:Nat),eb n sh k l i=match UA sh l i with|some j=>some (n,dZ j)|none=>k:=by
 intro l
 induction l with
 |nil=>intro i;rfl
 |cons x l ih=>
  intro i;rw[eb,MD,aA,ih,UA];by_cases h:x.shape=sh
  ·rw[bG h,aI,bN h];rfl
  ·rw[bM h,aS,b9 h]
theorem iAl(n:aH)(sh:aD)(h:n.au.length<=1048576):iN n sh=some (⟨n.rules,n.ends,(Sv n.au sh).1,n.nodes,n.facts,n.bp⟩,(Sv n.au sh).2):=by
 unfold iN;rw[uV (by omega),aI,a98,fZ (by omega) (by decide),aI];unfold Sv;cases UA sh n.au 0 with
 |some j=>rfl
 |none=>
  dsimp only;rw[show((n.au.map aZ.c)++[[D.str sh.rel,D.sl (sh.args.map tx),D.sl []]]).length=n.au.length+1 by simp,Kz (by omega)]
def My(p:Int)(c:aO):bE->Nat->Option Nat
 | [],_=>none
 |x::xs,i=>if 0<i/\x.parent=p/\x.cond=c then some i else My p c xs (i+1)
def NR(al:bK)(c:aO):bK×Int:=if c.kind=1\/c.kind=2 then Sv al (B2 c.pat)else(al, -1)
def Jl(al:bK)(ns:bE)(p:Int)(c:aO):(bK×bE)×Int:=match My p c ns 0 with
 |some i=>((al,ns),dZ i)
 |none=>(((NR al c).1,ns++[⟨p,c,(NR al c).2,[]⟩]),dZ ns.length)
theorem Q8(p:Int)(c:aO)(ns:bE):My p c ns 0=My p c (ns.drop 1) 1:=by
 cases ns with
 |nil=>rfl
 |cons x ns=>rw[My,b9 (fun h=>by omega)];rfl
def Ul(n:aH)(z:(bK×bE)×Int):aH×Int:=(⟨n.rules,n.ends,z.1.1,z.1.2,n.facts,n.bp⟩,z.2)
theorem a9W(n:aH)(p:Int)(c:aO)(k:Option (aH×Int))(hn:n.nodes.length<=1048576):∀(d v fu:Nat),v+d=n.nodes.length+1->1<=v->d<fu->gK n p c k fu (v:Int)=match My p c (n.nodes.drop v) v with|some j=>some (n,dZ j)|none=>k:=by
 intro d
 induction d with
 |zero=>
  intro v fu hv h1 hf;obtain⟨fu,rfl⟩:∃m,fu=m+1:=⟨fu-1,by omega⟩
  rw[gK,ax,bM (by omega),aS,vv (by omega)];rfl
 |succ d ih=>
  intro v fu hv h1 hf;obtain⟨fu,rfl⟩:∃m,fu=m+1:=⟨fu-1,by omega⟩
  by_cases hl:v<n.nodes.length
  ·have hx:n.nodes[v]?=some n.nodes[v]:=af hl;have e3:iP n.nodes (v:Int)=some n.nodes[v]:=by unfold iP;rw[bG (by omega),aI];exact hx
   rw[uQ hl,My,gK,ax,bG (by omega),aI,e3,aA,Jb (by omega),ih (v+1) fu (by omega) (by omega) (by omega),YH,aA];generalize n.nodes[v]=x;by_cases hp:x.parent=p
   ·rw[show((x.parent:Int)==p)=true by simp[hp],aI];by_cases hc:x.cond=c
    ·rw[bG hc,aI,bN ⟨by omega,hp,hc⟩];rfl
    ·rw[bM hc,aS,b9 (fun h=>hc h.2.2)]
   ·rw[show((x.parent:Int)==p)=false by simp[hp],aS,b9 (fun h=>hp h.2.1)]
  ·rw[gK,ax,bM (by omega),aS,vv (by omega)];rfl
theorem sCh(n:aH)(p:Int)(c:aO)(hn:n.nodes.length<=1048576)(ha:n.au.length<=1048576)(hc:c.wt<=1048576):tq n p c=some (Ul n (Jl n.au n.nodes p c)):=by
 have hp:=aO.fU hc;have hargs:=aD.dY hp;unfold tq;have e:=a9W n p c;rw[show(1:Int)=((1:Nat):Int)from rfl,e _ hn n.nodes.length 1 fuel (by omega) (bO _) (by unfold fuel;omega),<-Q8,PL c (by omega),aA,a47 c.pat hp,aA,sAl n _ ha,aA];unfold Jl NR Ul;cases My p c n.nodes 0 with
 |some j=>rfl
 |none=>
  dsimp only;rw[fZ (by omega) (by decide),aI];by_cases h1:c.kind=1
  ·rw[show((c.kind:Int)==((1:Nat):Int))=true by simp[h1],aI,bN (.inl h1)];simp[Kz,hn,show n.nodes.length<=1099511627776 by omega]
   first|done| (unfold dZ;rw[dS (pL.i64.2 (by omega))])
  ·rw[show((c.kind:Int)==((1:Nat):Int))=false by simp[h1],aS];by_cases h2:c.kind=2
   ·rw[show((c.kind:Int)==(2:Int))=true by simp[h2],aI,bN (.inr h2)];simp[Kz,hn,show n.nodes.length<=1099511627776 by omega]
    first|done| (unfold dZ;rw[dS (pL.i64.2 (by omega))])
   ·rw[show((c.kind:Int)==(2:Int))=false by simp[h2],aS,b9 (by omega)]
    first|rw[fZ (by omega) (by decide),aI]|rw[aA,fZ (by omega) (by decide),aI]|skip
    simp[Kz,hn,show n.nodes.length<=1099511627776 by omega]
    first|done| (unfold dZ;rw[dS (pL.i64.2 (by omega))])
theorem a99(n:aH)(p:Int)(c:aO)(k:Option (aH×Int)):∀(l:bE) (i:Nat),dD n p c k l i=match My p c l i with|some j=>some (n,dZ j)|none=>k:=by
 intro l
 induction l with
 |nil=>intro i;rfl
 |cons x l ih=>
  intro i;rw[dD,My,ih,Oq,aA];by_cases hi:0<i
  ·rw[bG (by omega),aI];by_cases hp:x.parent=p
   ·rw[show((x.parent:Int)==p)=true by simp[hp],aI];by_cases hc:x.cond=c
    ·rw[bG hc,aI,bN ⟨hi,hp,hc⟩];rfl
    ·rw[bM hc,aS,b9 (fun h=>hc h.2.2)]
   ·rw[show((x.parent:Int)==p)=false by simp[hp],aS,b9 (fun h=>hp h.2.1)]
  ·rw[bM (by omega),aS,b9 (fun h=>hi h.1)]
theorem iCh(n:aH)(p:Int)(c:aO)(hn:n.nodes.length<=1048576)(ha:n.au.length<=1048576)(hc:c.wt<=1048576):kQ n p c=some (Ul n (Jl n.au n.nodes p c)):=by
 have hp:=aO.fU hc;have hargs:=aD.dY hp;unfold kQ;rw[uV (by omega),aI,a99,Ol c (by omega),a3M c.pat hp,aA,iAl n _ ha,aA,aA];unfold Jl NR Ul;cases My p c n.nodes 0 with
 |some j=>rfl
 |none=>
  dsimp only;rw[fZ (by omega) (by decide),aI];by_cases h1:c.kind=1
  ·rw[show((c.kind:Int)==(1:Int))=true by simp[h1],aI,bN (.inl h1)];simp[Kz,hn,show n.nodes.length<=1099511627776 by omega]
   first|done| (unfold dZ;rw[dS (pL.i64.2 (by omega))])
  ·rw[show((c.kind:Int)==(1:Int))=false by simp[h1],aS];by_cases h2:c.kind=2
   ·rw[show((c.kind:Int)==(2:Int))=true by simp[h2],aI,bN (.inr h2)];simp[Kz,hn,show n.nodes.length<=1099511627776 by omega]
    first|done| (unfold dZ;rw[dS (pL.i64.2 (by omega))])
   ·rw[show((c.kind:Int)==(2:Int))=false by simp[h2],aS,b9 (by omega)]
    first|rw[fZ (by omega) (by decide),aI]|rw[aA,fZ (by omega) (by decide),aI]|skip
    simp[Kz,hn,show n.nodes.length<=1099511627776 by omega]
    first|done| (unfold dZ;rw[dS (pL.i64.2 (by omega))])
def FP(s:(bK×bE)×Int)(c:aO):(bK×bE)×Int:=Jl s.1.1 s.1.2 s.2 c
def Gm(z:(bK×bE)×bC)(r:aK):(bK×bE)×bC:=(((gm r).foldl FP (z.1,0)).1,z.2++[((gm r).foldl FP (z.1,0)).2])
def root(tk:ay):Node:=⟨-1,⟨0,⟨[],[]⟩,[],[]⟩, -1,tk⟩
def cr(tk:ay)(rs:aj):(bK×bE)×bC:=rs.foldl Gm (([],[root tk]),[])
theorem ZR(al:bK)(sh:aD):(Sv al sh).1.length<=al.length+1:=by
 unfold Sv;cases UA sh al 0<;>simp
theorem ZX(al:bK)(c:aO):(NR al c).1.length<=al.length+1:=by
 unfold NR;by_cases h:c.kind=1\/c.kind=2
 ·rw[bN h];exact ZR _ _
 ·rw[b9 h];exact Nat.le_succ _
theorem OQ(al:bK)(ns:bE)(p:Int)(c:aO):(Jl al ns p c).1.1.length<=al.length+1/\(Jl al ns p c).1.2.length<=ns.length+1:=by
 unfold Jl;cases My p c ns 0 with
 |some i=>exact⟨Nat.le_succ _,Nat.le_succ _⟩
 |none=>exact⟨ZX _ _,by simp⟩
theorem FQ:∀(cs:ai) (s:(bK×bE)×Int),(cs.foldl FP s).1.1.length<=s.1.1.length+cs.length/\(cs.foldl FP s).1.2.length<=s.1.2.length+cs.length
 | [],s=>⟨bO _,bO _⟩
 |c::cs,s=>by
  have h1:=OQ s.1.1 s.1.2 s.2 c;have h2:=FQ cs (FP s c);have h3:(FP s c).1.1.length<=s.1.1.length+1/\(FP s c).1.2.length<=s.1.2.length+1:=h1;rw[dM,aP];omega
theorem a6s(a:aj)(i:Nat)(y:ai)(k:Int->Int->aj->bC->bK->bE->aJ->Option (aH×Bool)):∀(cs:ai) (j:Nat) (v u:Int) (w3:aj) (w4:bC) (al:bK) (ns:bE) (w7:aJ),(∀c∈cs,c.wt<=1048576)->al.length+cs.length<=1048576->ns.length+cs.length<=1048576->
 gY a i y k cs j v u w3 w4 al ns w7=k (cs.foldl FP ((al,ns),v)).2 u w3 w4 (cs.foldl FP ((al,ns),v)).1.1 (cs.foldl FP ((al,ns),v)).1.2 w7:=by
 intro cs
 induction cs with
 |nil=>intros;rfl
 |cons c cs ih=>
  intro j v u w3 w4 al ns w7 hc ha hn;simp only[aP]at ha hn;have h1:=OQ al ns v c;rw[gY,sCh _ v c (show ns.length<=1048576 by omega) (show al.length<=1048576 by omega) (hc c (by simp)),aA];unfold Ul;dsimp only;rw[ih _ _ _ _ _ _ _ _ (fun x hx=>hc x (by simp[hx])) (by omega) (by omega)];rfl
theorem a5x(a:aj)(i:Nat)(y:ai)(k:Int->Int->aj->bC->bK->bE->aJ->Option aH):∀(cs:ai) (j:Nat) (v u:Int) (w3:aj) (w4:bC) (al:bK) (ns:bE) (w7:aJ),(∀c∈cs,c.wt<=1048576)->al.length+cs.length<=1048576->ns.length+cs.length<=1048576->
 jT a i y k cs j v u w3 w4 al ns w7=k (cs.foldl FP ((al,ns),v)).2 u w3 w4 (cs.foldl FP ((al,ns),v)).1.1 (cs.foldl FP ((al,ns),v)).1.2 w7:=by
 intro cs
 induction cs with
 |nil=>intros;rfl
 |cons c cs ih=>
  intro j v u w3 w4 al ns w7 hc ha hn;simp only[aP]at ha hn;have h1:=OQ al ns v c;rw[jT,iCh _ v c (show ns.length<=1048576 by omega) (show al.length<=1048576 by omega) (hc c (by simp)),aA];unfold Ul;dsimp only;rw[ih _ _ _ _ _ _ _ _ (fun x hx=>hc x (by simp[hx])) (by omega) (by omega)];rfl
theorem Nh:∀(ts:aG) (N:aT) {p:aX},p∈ts.foldl lf N->p∈N\/(p.var∈ts/\nu p.var=true)
 | [],_,_,h=>.inl h
 |t::ts,N,p,h=>by
  rcases Nh ts (lf N t) h with h1|h1
  ·unfold lf at h1;cases hv:nu t&& !Em N t with
   |false=>rw[hv]at h1;exact .inl h1
   |true=>
    rw[hv,aI]at h1;simp only[aV]at hv;rcases aR.1 h1 with h2|h2
    ·exact .inl h2
    ·rw[cZ.1 h2];exact .inr ⟨by simp,hv.1⟩
  ·exact .inr ⟨by simp[h1.1],h1.2⟩
theorem JD{l:ai}{v:Bytes}:v∈D3 l↔v∈yU l/\nu v=true:=by
 unfold D3 yU qD jO;simp only[cA,gr];constructor
 ·rintro⟨c,hc,hm,hv⟩;exact⟨⟨c,hc,hm⟩,hv⟩
 ·rintro⟨⟨c,hc,hm⟩,hv⟩;exact⟨c,hc,hm,hv⟩
theorem Uj{r:aK}(h:j7 r=true):(pR r).length<=6:=by
 have h1:((pR r).map aX.var).length<=(fE (D3 r.conds)).length:=by
  refine Nr _ _ (JF _ Sq.nil) fun x hx=>?_
  obtain⟨p,hp,rfl⟩:=cE.1 hx;rcases Nh _ _ hp with h1|h1
  ·cases h1
  ·exact uJ.2 (JD.2 h1)
 rw[ax]at h1;exact dX h1 (Uy h)
theorem XW{r:aK}(h:j7 r=true){v:Bytes}(hv:v∈D3 r.conds):∃i p,i<6/\(pR r)[i]?=some p/\p.var=v/\FN (pR r) v=nmB i:=by
 obtain⟨ht,Mp⟩:=JD.1 hv;obtain⟨p,hp,he⟩:=QJ _ [] ht Mp;have hp':p∈pR r:=hp;obtain⟨i,hi,OZ,hval,_⟩:=Sf (LY _ Yz.nil) hp';refine⟨i,p,by have:=Uj h;unfold pR at this;omega,OZ,he,?_⟩;rw[<-he];exact(PI (N:=pR r) (JF (yU r.conds) Sq.nil) hp').trans hval
theorem JS{r:aK}(h:j7 r=true){x:Bytes}(hx:x.length<=16)(hV:nu x=true->x∈D3 r.conds):(FN (pR r) x).length<=16:=by
 cases hv:nu x with
 |false=>rw[show FN (pR r) x=x from Xe hv];exact hx
 |true=>
  obtain⟨i,p,hi,_,_,e⟩:=XW h (hV hv);rw[e];exact Tg i hi
theorem LZ:∀(l:aG),(∀x∈l,x.length<=16)->sw tw l<=17*l.length
 | [],_=>by simp[sw]
 |x::l,h=>by
  have h1:=LZ l fun y hy=>h y (by simp[hy])
  have h2:=h x (by simp);rw[nq,aP];unfold tw at*;omega
theorem Mj{t:Bytes}(h:tM t=true):t.length<=16:=by have:=V3 h;omega
theorem Ls{c:aO}(h:rB c=true):c.pat.rel.length<=8/\c.pat.args.length<=3/\(∀x∈c.pat.args,x.length<=16)/\c.left.length<=16/\c.right.length<=16:=by
 by_cases hk:c.kind=1\/c.kind=2
 ·obtain⟨hp,hl,hr⟩:=UD h hk;have ht:=a0q hp;unfold Df at hp;simp only[aV,bI]at hp;have:=Np hp.2.1;rw[hl,hr];exact⟨by omega,by omega,fun x hx=>Mj (ht x hx),by simp,by simp⟩
 ·obtain⟨_,hz,hl,hr⟩:=RU h (fun e=>hk (.inl e)) (fun e=>hk (.inr e));unfold FH at hz;simp only[aV,cc,bI]at hz;have h0:c.pat.args=[]:=cL (by omega);rw[hz.1,h0];exact⟨by simp,by simp,fun x hx=>(by cases hx),Mj hl,Mj hr⟩
theorem JQ{r:aK}(h:j7 r=true):∀c∈gm r,c.wt<=1048576:=by
 intro c' WR;obtain⟨c,hc,rfl⟩:=cE.1 WR;obtain⟨h1,h2,h3,h4,h5⟩:=Ls (Kv h c hc);have hV:∀x∈c.pat.args++[c.left,c.right],nu x=true->x∈D3 r.conds:=fun x hx hv=>JD.2 ⟨cA.2 ⟨c,hc,hx⟩,hv⟩
 have a1:(FN (pR r) c.left).length<=16:=JS h h4 (hV _ (by simp));have a2:(FN (pR r) c.right).length<=16:=JS h h5 (hV _ (by simp));have a3:=LZ (c.pat.args.map (FN (pR r))) (fun x hx=>by
  obtain⟨y,hy,rfl⟩:=cE.1 hx;exact JS h (h3 y hy) (hV y (by simp[hy])))
 rw[ax]at a3;unfold Mc aO.wt;dsimp only;unfold tw at*;omega
theorem zK{r:aK}(h:j7 r=true):(gm r).length<=4:=by unfold gm;rw[ax];exact Ux h
theorem Su{r:aK}{n:Nat}(h:r.wt<=n){a:Action}(ha:a∈r.cK):a.pat.args.length<=n:=by
 have h1:=aK.I6 h;have h2:=tO (w:=Action.wt) ha;have h3:=tN tw a.pat.args;simp only[Action.wt]at h2;omega
theorem Xz(p:aD)(h:p.args.length<=1099511627770):eS p=some p:=by
 unfold eS;rw[YL p.args (by omega)];rfl
theorem X7(p:aD)(h:p.args.length<=1099511627770):eE p=some p:=by
 unfold eE;rw[Ou p.args (by omega)];rfl
theorem a3n(r:aK)(h:r.wt<=1048576):sr r=some r:=by
 have h1:=aK.sD h;have h2:=aK.I6 h;have h3:=tN aO.wt r.conds;have h4:=tN Action.wt r.cK;unfold sr;rw[Dd (c:=aO.c) (b:=80) (f:=ju) (g:=fun x=>x) (L:=pG r _) (k:=_) (by decide) (fun _ _=>rfl) (fun _ _ _ _=>rfl) _ _ _ (fun c hc=>PL c (by have:=aD.dY (aO.fU (aK.qp h hc));omega)) (by simp;omega)];rw[Dd (c:=Action.c) (b:=48) (f:=fun a:Action=>(eS a.pat).bind fun y=>some (⟨a.kind,y⟩:Action)) (g:=fun x=>x) (L:=nL r _ _) (k:=_) (by decide) (fun _ _=>rfl) (fun x xs i w=>by rw[nL];cases eS x.pat<;>rfl) _ _ _ (fun a ha=>by rw[Xz a.pat (by have:=Su h ha;omega)];rfl) (by simp;omega)];simp
theorem Qy(l:aj)(h:sw aK.wt l<=1048576):pu l=some l:=by
 have h3:=tN aK.wt l;unfold pu;rw[Dd (c:=aK.c) (b:=72) (f:=sr) (g:=fun x=>x) (L:=nK l _) (k:=_) (by decide) (fun _ _=>rfl) (fun _ _ _ _=>rfl) _ _ _ (fun r hr=>a3n r (by have:=tO (w:=aK.wt) hr;omega)) (by simp;omega)];simp
theorem X6(l:ai)(h:l.length<=1048576)(hw:∀c∈l,c.wt<=1048576):rH l=some l:=by
 unfold rH;rw[Dd (c:=aO.c) (b:=80) (f:=fH) (g:=fun x=>x) (L:=mF l _) (k:=_) (by decide) (fun _ _=>rfl) (fun _ _ _ _=>rfl) _ _ _ (fun c hc=>Ol c (by have:=aD.dY (aO.fU (hw c hc));omega)) (by simp;omega)];simp
theorem a3A(r:aK)(h:r.wt<=1048576):pg r=some r:=by
 have h1:=aK.sD h;have h2:=aK.I6 h;have h3:=tN aO.wt r.conds;have h4:=tN Action.wt r.cK;unfold pg;rw[X6 r.conds (by omega) (fun c hc=>aK.qp h hc),aA];rw[Dd (c:=Action.c) (b:=48) (f:=fun a:Action=>(eE a.pat).bind fun y=>some (⟨a.kind,y⟩:Action)) (g:=fun x=>x) (L:=kD r _ _) (k:=_) (by decide) (fun _ _=>rfl) (fun x xs i w=>by rw[kD];cases eE x.pat<;>rfl) _ _ _ (fun a ha=>by rw[X7 a.pat (by have:=Su h ha;omega)];rfl) (by simp;omega)];simp
theorem QW(l:aj)(h:sw aK.wt l<=1048576):p6 l=some l:=by
 have h3:=tN aK.wt l;unfold p6;rw[Dd (c:=aK.c) (b:=72) (f:=pg) (g:=fun x=>x) (L:=mH l _) (k:=_) (by decide) (fun _ _=>rfl) (fun _ _ _ _=>rfl) _ _ _ (fun r hr=>a3A r (by have:=tO (w:=aK.wt) hr;omega)) (by simp;omega)];simp
theorem a6r(a:aj)(k:Int->aj->bC->bK->bE->aJ->Option (aH×Bool)):∀(l:aj) (i:Nat) (u:Int) (w2:aj) (es:bC) (al:bK) (ns:bE) (w6:aJ),(∀r∈l,r.wt<=1048576/\j7 r=true)->es.length+l.length<=1000->al.length+4*l.length<=1000->ns.length+4*l.length<=1000->
 gX a k l i u w2 es al ns w6=k u w2 (l.foldl Gm ((al,ns),es)).2 (l.foldl Gm ((al,ns),es)).1.1 (l.foldl Gm ((al,ns),es)).1.2 w6:=by
 intro l
 induction l with
 |nil=>intros;rfl
 |cons r l ih=>
  intro i u w2 es al ns w6 hr he ha hn;simp only[aP]at he ha hn;obtain⟨hw,hb⟩:=hr r (by simp);have h4:=zK hb;have hl:=FQ (gm r) ((al,ns),0);dsimp only at hl;rw[gX,a3m r hw,aA,uV (by omega),aI,a6s _ _ _ _ _ _ _ _ _ _ _ _ _ (JQ hb) (by omega) (by omega),fZ (by omega) (by decide),aI,ih _ _ _ _ _ _ _ (fun x hx=>hr x (by simp[hx])) (by simp;omega) (by omega) (by omega)];rfl
theorem Y5(rs:aj)(h:sw aK.wt rs<=1048576):jW rs=some (bif r9 rs then(⟨rs,(cr [⟨[],[]⟩] rs).2,(cr [⟨[],[]⟩] rs).1.1,(cr [⟨[],[]⟩] rs).1.2,[],0⟩,true)else(⟨[],[],[],[],[],0⟩,false)):=by
 unfold jW;rw[a9V rs h,aA];cases hb:r9 rs with
 |false=>rfl
 |true=>
  have h6:rs.length<=6:=by unfold r9 at hb;simp only[aV,bI]at hb;omega
  rw[bW,aS,aI,Qy rs h,aA,a6r _ _ _ _ _ _ _ _ _ _ (fun r hr=>⟨by have:=tO (w:=aK.wt) hr;omega,rA hb r hr⟩) (by simp;omega) (by simp;omega) (by simp;omega)];rfl
theorem a5w(a:aj)(k:Int->aj->bC->bK->bE->aJ->Option aH):∀(l:aj) (i:Nat) (u:Int) (w2:aj) (es:bC) (al:bK) (ns:bE) (w6:aJ),(∀r∈l,r.wt<=1048576/\j7 r=true)->es.length+l.length<=1000->al.length+4*l.length<=1000->ns.length+4*l.length<=1000->
 jS a k l i u w2 es al ns w6=k u w2 (l.foldl Gm ((al,ns),es)).2 (l.foldl Gm ((al,ns),es)).1.1 (l.foldl Gm ((al,ns),es)).1.2 w6:=by
 intro l
 induction l with
 |nil=>intros;rfl
 |cons r l ih=>
  intro i u w2 es al ns w6 hr he ha hn;simp only[aP]at he ha hn;obtain⟨hw,hb⟩:=hr r (by simp);have h4:=zK hb;have hl:=FQ (gm r) ((al,ns),0);dsimp only at hl;rw[jS,a39 r hw,aA,uV (by omega),aI,a5x _ _ _ _ _ _ _ _ _ _ _ _ _ (JQ hb) (by omega) (by omega),fZ (by omega) (by decide),aI,ih _ _ _ _ _ _ _ (fun x hx=>hr x (by simp[hx])) (by simp;omega) (by omega) (by omega)];rfl
theorem a9F(rs:aj)(h:sw aK.wt rs<=1048576)(hb:r9 rs=true):rL rs=some ⟨rs,(cr [] rs).2,(cr [] rs).1.1,(cr [] rs).1.2,[],0⟩:=by
 unfold rL;have h6:rs.length<=6:=by unfold r9 at hb;simp only[aV,bI]at hb;omega
 rw[QW rs h,aA,a5w _ _ _ _ _ _ _ _ _ _ (fun r hr=>⟨by have:=tO (w:=aK.wt) hr;omega,rA hb r hr⟩) (by simp;omega) (by simp;omega) (by simp;omega)];rfl
def chR(al:bK)(ns:bE)(p:Int)(c:aO):(bK×bE)×Int:=match My p c ns 1 with
 |some i=>((al,ns),dZ i)
 |none=>(((NR al c).1,ns++[⟨p,c,(NR al c).2,[]⟩]),dZ (ns.length+1))
theorem Vz(tk:ay)(al:bK)(ns:bE)(p:Int)(c:aO):Jl al (root tk::ns) p c=(((chR al ns p c).1.1,root tk::(chR al ns p c).1.2),(chR al ns p c).2):=by
 unfold Jl chR;rw[Q8,List.drop_succ_cons,Dn];cases My p c ns 1<;>rfl
def rtC(s:(bK×bE)×Int)(c:aO):(bK×bE)×Int:=chR s.1.1 s.1.2 s.2 c
def Z9(z:(bK×bE)×bC)(r:aK):(bK×bE)×bC:=(((gm r).foldl rtC (z.1,0)).1,z.2++[((gm r).foldl rtC (z.1,0)).2])
def rtB(rs:aj):(bK×bE)×bC:=rs.foldl Z9 (([],[]),[])
theorem R3(tk:ay):∀(cs:ai) (al:bK) (ns:bE) (v:Int),cs.foldl FP ((al,root tk::ns),v)=(((cs.foldl rtC ((al,ns),v)).1.1,root tk::(cs.foldl rtC ((al,ns),v)).1.2),(cs.foldl rtC ((al,ns),v)).2)
 | [],_,_,_=>rfl
 |c::cs,al,ns,v=>by
  rw[dM,dM];show cs.foldl FP (Jl al (root tk::ns) v c)=_;rw[Vz,R3 tk cs];rfl
theorem R5(tk:ay):∀(rs:aj) (al:bK) (ns:bE) (es:bC),rs.foldl Gm ((al,root tk::ns),es)=(((rs.foldl Z9 ((al,ns),es)).1.1,root tk::(rs.foldl Z9 ((al,ns),es)).1.2),(rs.foldl Z9 ((al,ns),es)).2)
 | [],_,_,_=>rfl
 |r::rs,al,ns,es=>by
  rw[dM,dM];have e:Gm ((al,root tk::ns),es) r=(((Z9 ((al,ns),es) r).1.1,root tk::(Z9 ((al,ns),es) r).1.2),(Z9 ((al,ns),es) r).2):=by
   unfold Gm Z9;dsimp only;rw[R3]
  rw[e,R5 tk rs]
theorem gT(tk:ay)(rs:aj):cr tk rs=(((rtB rs).1.1,root tk::(rtB rs).1.2),(rtB rs).2):=R5 tk rs [] [] []
theorem F7(tk:ay){rs:aj}(h:∀r∈rs,j7 r=true)(h6:rs.length<=6):(cr tk rs).1.2.length<=25:=by
 have main:∀(l:aj) (z:(bK×bE)×bC),(∀r∈l,j7 r=true)->(l.foldl Gm z).1.2.length<=z.1.2.length+4*l.length:=by
  intro l
  induction l with
  |nil=>intro z _;exact bO _
  |cons r l ih=>
   intro z hl;have h1:=ih (Gm z r) (fun x hx=>hl x (by simp[hx]));have h2:=(FQ (gm r) (z.1,0)).2;have h3:=zK (hl r (by simp));have h4:(Gm z r).1.2.length=((gm r).foldl FP (z.1,0)).1.2.length:=rfl;rw[dM,aP];dsimp only at h2;omega
 have:=main rs (([],[root tk]),[]) h;unfold cr;simp only[aP,bS]at this;omega
end Go.Cx
namespace Go.Cx
open Go.RowKit Go.Proofs Tryz
def pV(x:Node):Int×aO:=(x.parent,x.cond)
theorem O2{a b:bE}(h:a.map pV=b.map pV):∀(k v:Nat),NJ a k v=NJ b k v
 |0,_=>rfl
 |k+1,v=>by
  have e:(a[v]?).map pV=(b[v]?).map pV:=by rw[<-bt,<-bt,h]
  unfold NJ;cases ha:a[v]? with
  |none=>
   cases hb:b[v]? with
   |none=>rfl
   |some y=>rw[ha,hb]at e;cases e
  |some x=>
   cases hb:b[v]? with
   |none=>rw[ha,hb]at e;cases e
   |some y=>
    rw[ha,hb]at e;have e1:x.parent=y.parent:=(jf (oF e)).1;dsimp only;rw[e1,O2 h k]
theorem OU{a b:bE}(h:a.map pV=b.map pV):Am a=Am b:=by
 funext i
 have e:(a[i]?).map pV=(b[i]?).map pV:=by rw[<-bt,<-bt,h]
 unfold Am;cases ha:a[i]? with
 |none=>
  cases hb:b[i]? with
  |none=>rfl
  |some y=>rw[ha,hb]at e;cases e
 |some x=>
  cases hb:b[i]? with
  |none=>rw[ha,hb]at e;cases e
  |some y=>
   rw[ha,hb]at e;have e2:x.cond=y.cond:=(jf (oF e)).2;show some x.cond=some y.cond;rw[e2]
theorem tv{a b:bE}(h:a.map pV=b.map pV)(v:Int):fY a v=fY b v:=by
 have hl:a.length=b.length:=by have:=congrArg List.length h;simpa using this
 unfold fY Gh;rw[hl,O2 h,OU h]
def lZ(al:bK)(fs:aJ):bK:=al.map fun a=>⟨a.shape,xw a.shape [] fs⟩
def oB(ns:bE)(fs:aJ):bE->Nat->bE
 | [],_=>[]
 |x::xs,i=>⟨x.parent,x.cond,x.cj,B3 (fY ns (dZ i)) fs⟩::oB ns fs xs (i+1)
def ld(ns:bE)(fs:aJ):bE:=oB ns fs ns 0
theorem Hj(ns:bE)(fs:aJ):∀(l:bE) (i:Nat),(oB ns fs l i).map pV=l.map pV
 | [],_=>rfl
 |x::l,i=>by rw[oB,bB,Hj ns fs l];rfl
theorem UM(ns:bE)(fs:aJ)(l:bE)(i:Nat):(oB ns fs l i).length=l.length:=by
 have:=congrArg List.length (Hj ns fs l i);simpa using this
theorem setAt{α:Type}(pre l:List α)(x y:α):(pre++x::l).set pre.length y=pre++y::l:=by
 rw[mX _ _ (bO _),qB];rfl
structure AY(ns:List Node):Prop where
 len:ns.length<=1048576
 wt:∀x∈ns,x.cond.wt<=1048576
 path:∀i:Nat,(fY ns (dZ i)).length<=4
theorem JP{ns:bE}{v:Int}{c:aO}(h:c∈fY ns v):∃x∈ns,x.cond=c:=by
 unfold fY at h;split at h
 ·unfold Gh at h;obtain⟨i,_,hc⟩:=cD.1 h;unfold Am at hc;cases hx:ns[i]? with
  |none=>rw[hx]at hc;cases hc
  |some x=>rw[hx]at hc;exact⟨x,aE hx,oF hc⟩
 ·cases h
theorem WI(n:aH)(fs y:aJ)(k:bK->Option (aH×Unit))(hf:FS fs):∀(l pre:bK),(∀x∈l,x.shape.wt<=1048576)->fC n fs y k l pre.length (pre++l)=k (pre++lZ l fs):=by
 intro l
 induction l with
 |nil=>intro pre _;rfl
 |cons x l ih=>
  intro pre hw;have hx:(pre++x::l)[pre.length]?=some x:=by simp
  have hlt:decide (pre.length<((pre++x::l).map aZ.c).length)=true:=by simp
  rw[fC,hlt,aI,hx,aA,a5k x.shape [] fs (hw x (by simp)) PB.nil hf,aA,aI,setAt];have:=ih (pre++[⟨x.shape,xw x.shape [] fs⟩]) (fun z hz=>hw z (by simp[hz]));rw[av,dU,cm]at this;rw[show pre++(⟨x.shape,xw x.shape [] fs⟩:aZ)::l=pre++([⟨x.shape,xw x.shape [] fs⟩]++l)from rfl,this];simp[lZ]
theorem a2Z(n:aH)(fs y:aJ)(q:bK)(k:Option (aH×Unit))(hf:FS fs)(h24:fs.length<=24)(ns:bE)(hp:AY ns):∀(l pre:bE),(pre++l).map pV=ns.map pV->
 eG n fs y q k l pre.length (pre++l)=some (⟨n.rules,n.ends,q,pre++oB ns fs l pre.length,y,n.bp⟩,()):=by
 intro l
 induction l with
 |nil=>intro pre _;rfl
 |cons x l ih=>
  intro pre he;have hx:(pre++x::l)[pre.length]?=some x:=by simp
  have hlt:decide (pre.length<((pre++x::l).map Node.c).length)=true:=by simp
  have hlen:(pre++x::l).length=ns.length:=by have:=congrArg List.length he;simpa using this
  have hok:NOk ⟨n.rules,n.ends,q,pre++x::l,y,n.bp⟩:=by
   refine⟨by show(pre++x::l).length<=1048576;rw[hlen];exact hp.len,fun z hz=>?_⟩;have hm:pV z∈ns.map pV:=by rw[<-he];exact cE.2 ⟨z,hz,rfl⟩
   obtain⟨w,hw,e⟩:=cE.1 hm;have:w.cond=z.cond:=(jf e).2;rw[<-this];exact hp.wt w hw
  have Wl:fY (pre++x::l) ((pre.length:Nat):Int)=fY ns (dZ pre.length):=tv he _;have QO:∀c∈fY ns (dZ pre.length),c.wt<=1048576:=by
   intro c hc;obtain⟨z,hz,e⟩:=JP hc;rw[<-e];exact hp.wt z hz
  rw[eG,a3I _ _ hok,aA,Wl,a5z _ fs QO (hp.path _) hf h24,aA,hlt,aI,hx,aA,setAt];have:=ih (pre++[⟨x.parent,x.cond,x.cj,B3 (fY ns (dZ pre.length)) fs⟩]) (by
   rw[<-he];simp[pV])
  rw[av,dU,cm]at this;rw[show pre++(⟨x.parent,x.cond,x.cj,B3 (fY ns (dZ pre.length)) fs⟩:Node)::l=pre++([⟨x.parent,x.cond,x.cj,B3 (fY ns (dZ pre.length)) fs⟩]++l)from rfl,this,oB];simp
theorem a1J(n:aH)(fs:aJ)(hf:FS fs)(h24:fs.length<=24)(ha:n.au.length<=1048576)(hs:∀x∈n.au,x.shape.wt<=1048576)(hp:AY n.nodes):j9 n fs=some (⟨n.rules,n.ends,lZ n.au fs,ld n.nodes fs,fs,n.bp⟩,()):=by
 unfold j9;have h1:=WI n fs fs;have hl:=hp.len;rw[Bh fs hf.1 (fun f WW=>by have:=aD.dY (hf.2 f WW);omega),aA,uV (by omega),aI];have e1:=WI n fs fs (fun(eM:bK)=>(bif decide (n.nodes.length<=maxLen)then(eG n fs fs eM none n.nodes 0 n.nodes)else none)) hf n.au [] hs;refine e1.trans ?_;rw[ck,uV (by omega),aI];exact a2Z n fs fs _ none hf h24 n.nodes hp n.nodes [] rfl
end Go.Cx
namespace Go.Cx
open Go.RowKit Go.Proofs Tryz
theorem R7(ns:bE):∀(k k' v:Nat),1<=v->v<=k->v<=k'->NJ ns k v=NJ ns k' v
 |0,_,v,h1,h2,_=>by omega
 |k+1,0,v,h1,_,h3=>by omega
 |k+1,k'+1,v,h1,h2,h3=>by
  unfold NJ;cases hx:ns[v]? with
  |none=>rfl
  |some x=>
   dsimp only;by_cases hp:1<=x.parent/\x.parent<(v:Int)
   ·rw[bN hp,bN hp,R7 ns k k' x.parent.toNat (by omega) (by omega) (by omega)]
   ·rw[b9 hp,b9 hp]
theorem u7(ns:bE):fY ns (dZ 0)=[]:=by unfold fY dZ;rw[b9 (by omega)]
theorem xH{ns:bE}{i:Nat}{x:Node}(hx:ns[i]?=some x)(h1:1<=i){p:Nat}(hp:x.parent=dZ p)(hpi:p<i):fY ns (dZ i)=fY ns (dZ p)++[x.cond]:=by
 have hl:=(aF.1 hx).1;unfold dZ at hp;have e1:fY ns (dZ i)=Gh ns i i:=by unfold fY dZ;rw[bN (by omega)];rfl
 obtain⟨k,rfl⟩:∃k,i=k+1:=⟨i-1,by omega⟩
 rw[e1,Ma hx];by_cases h0:1<=p
 ·rw[bN (by omega)];have e2:fY ns (dZ p)=Gh ns p p:=by unfold fY dZ;rw[bN (by omega)];rfl
  rw[e2,hp,qA];unfold Gh;rw[R7 ns k p p h0 (by omega) (bO _)]
 ·rw[b9 (by omega),show p=0 by omega,u7]
def RI(ns:bE):Prop:=∀(i:Nat) x,1<=i->ns[i]?=some x->∃p:Nat,x.parent=dZ p/\p<i
theorem KO{ns:bE}(hb:RI ns)(m:bE):∀(n i:Nat),i<=n->i<ns.length->fY (ns++m) (dZ i)=fY ns (dZ i):=by
 intro n
 induction n with
 |zero=>
  intro i h1 _;rw[show i=0 by omega,u7,u7]
 |succ n ih=>
  intro i h1 h2;by_cases h0:i=0
  ·rw[h0,u7,u7]
  ·have hx:ns[i]?=some ns[i]:=af h2;have hx':(ns++m)[i]?=some ns[i]:=by rw[ar h2];exact hx
   obtain⟨p,hp,hpi⟩:=hb i _ (by omega) hx;rw[xH hx (by omega) hp hpi,xH hx' (by omega) hp hpi,ih p (by omega) (by omega)]
structure Cm(R:List aO->Prop)(ns:List Node):Prop where
 pos:1<=ns.length
 below:RI ns
 path:∀i:Nat,1<=i->i<ns.length->R (fY ns (dZ i))
theorem Q9{p:Int}{c:aO}:∀ {l:bE} {i j:Nat},My p c l i=some j->∃x,l[j-i]?=some x/\i<=j/\0<j/\x.parent=p/\x.cond=c
 |x::l,i,j,h=>by
  unfold My at h;split at h
  ·rename_i hc;cases h;exact⟨x,by simp,bO _,hc.1,hc.2.1,hc.2.2⟩
  ·obtain⟨y,h1,h2,h3,h4,h5⟩:=Q9 h;refine⟨y,?_,by omega,h3,h4,h5⟩;rw[show j-i=(j-(i+1))+1 by omega];exact h1
theorem Cm.step{R:ai->Prop}{al:bK}{ns:bE}(h:Cm R ns){a:Nat}(ha:a<ns.length){c:aO}(hR:R (fY ns (dZ a)++[c])):
 Cm R (Jl al ns (dZ a) c).1.2/\∃b:Nat,(Jl al ns (dZ a) c).2=dZ b/\b<(Jl al ns (dZ a) c).1.2.length/\fY (Jl al ns (dZ a) c).1.2 (dZ b)=fY ns (dZ a)++[c]:=by
 unfold Jl;cases hc:My (dZ a) c ns 0 with
 |some j=>
  obtain⟨x,h1,h2,h3,h4,h5⟩:=Q9 hc;rw[w9]at h1;have hj:=(aF.1 h1).1;obtain⟨p,hp,Zo⟩:=h.below j x (by omega) h1;have:p=a:=by rw[hp]at h4;unfold dZ at h4;omega
  subst this;exact⟨h,j,rfl,hj,by rw[xH h1 (by omega) hp Zo,h5]⟩
 |none=>
  dsimp only;have hbel:RI (ns++[⟨dZ a,c,(NR al c).2,[]⟩]):=by
   intro i x h1 hx;by_cases hi:i<ns.length
   ·rw[ar hi]at hx;exact h.below i x h1 hx
   ·rw[b8 (by omega)]at hx;have hi2:i=ns.length:=by
     have:=(aF.1 hx).1;simp at this;omega
    rw[hi2,qB]at hx;cases hx;exact⟨a,rfl,by omega⟩
  have hnew:fY (ns++[⟨dZ a,c,(NR al c).2,[]⟩]) (dZ ns.length)=fY ns (dZ a)++[c]:=by
   have hx:(ns++[(⟨dZ a,c,(NR al c).2,[]⟩:Node)])[ns.length]?=some ⟨dZ a,c,(NR al c).2,[]⟩:=by simp
   have h1:=h.pos;rw[xH hx (by omega) (p:=a) rfl ha,KO h.below _ a a (bO _) ha]
  refine⟨⟨by simp,hbel,fun i h1 h2=>?_⟩,ns.length,rfl,by simp,hnew⟩;by_cases hi:i<ns.length
  ·rw[KO h.below _ i i (bO _) hi];exact h.path i h1 hi
  ·have:i=ns.length:=by simp at h2;omega
   rw[this,hnew];exact hR
theorem Cm.rule{R:ai->Prop}:∀(cs:ai) {al:bK} {ns:bE} {a:Nat},Cm R ns->a<ns.length->(∀j:Nat,1<=j->j<=cs.length->R (fY ns (dZ a)++cs.take j))->
 Cm R (cs.foldl FP ((al,ns),dZ a)).1.2/\∃b:Nat,(cs.foldl FP ((al,ns),dZ a)).2=dZ b/\b<(cs.foldl FP ((al,ns),dZ a)).1.2.length/\fY (cs.foldl FP ((al,ns),dZ a)).1.2 (dZ b)=fY ns (dZ a)++cs
 | [],al,ns,a,h,ha,_=>⟨h,a,rfl,ha,by simp⟩
 |c::cs,al,ns,a,h,ha,hR=>by
  obtain⟨h1,b,h2,h3,h4⟩:=h.step (al:=al) ha (c:=c) (by have:=hR 1 (bO _) (by simp);simpa using this);have e:FP ((al,ns),dZ a) c=(((Jl al ns (dZ a) c).1.1,(Jl al ns (dZ a) c).1.2),dZ b):=by
   show Jl al ns (dZ a) c=_;rw[<-h2]
  rw[dM,e];obtain⟨k1,d,k2,k3,k4⟩:=Cm.rule cs (al:=(Jl al ns (dZ a) c).1.1) h1 h3 (fun j Gg hj2=>by
   rw[h4,cm];have:=hR (j+1) (by omega) (by simp;omega);simpa using this)
  exact⟨k1,d,k2,k3,by rw[k4,h4];simp⟩
theorem ZY(al:bK)(ns:bE)(p:Int)(c:aO):∃m,(Jl al ns p c).1.2=ns++m:=by
 unfold Jl;cases My p c ns 0 with
 |some i=>exact⟨[],by simp⟩
 |none=>exact⟨[⟨p,c,(NR al c).2,[]⟩],rfl⟩
theorem Tr:∀(cs:ai) (s:(bK×bE)×Int),∃m,(cs.foldl FP s).1.2=s.1.2++m
 | [],s=>⟨[],by simp⟩
 |c::cs,s=>by
  obtain⟨m,h⟩:=ZY s.1.1 s.1.2 s.2 c;obtain⟨m2,h2⟩:=Tr cs (FP s c);refine⟨m++m2,?_⟩;rw[dM,h2];show(Jl s.1.1 s.1.2 s.2 c).1.2++m2=_;rw[h,cm]
def Ss(rs:aj)(p:ai):Prop:=∃r∈rs,∃j:Nat,1<=j/\j<=(gm r).length/\p=(gm r).take j
theorem R4(all:aj):∀(l:aj) (al:bK) (ns:bE) (es:bC),(∀r∈l,r∈all)->Cm (Ss all) ns->
 Cm (Ss all) (l.foldl Gm ((al,ns),es)).1.2/\(∃m,(l.foldl Gm ((al,ns),es)).1.2=ns++m)/\∃fs,(l.foldl Gm ((al,ns),es)).2=es++fs/\fs.length=l.length/\
  ∀(i:Nat) r,l[i]?=some r->∃b:Nat,fs[i]?=some (dZ b)/\b<(l.foldl Gm ((al,ns),es)).1.2.length/\fY (l.foldl Gm ((al,ns),es)).1.2 (dZ b)=gm r
 | [],al,ns,es,_,h=>⟨h,⟨[],by simp⟩,[],by simp,rfl,fun i r hr=>by simp at hr⟩
 |r::l,al,ns,es,hm,h=>by
  obtain⟨h1,b,h2,h3,h4⟩:=Cm.rule (gm r) (al:=al) h (a:=0) (by have:=h.pos;omega) (fun j Gg hj2=>by
   rw[u7,ck];exact⟨r,hm r (by simp),j,Gg,hj2,rfl⟩)
  obtain⟨m1,hm1⟩:=Tr (gm r) ((al,ns),dZ 0);obtain⟨k1,⟨m2,hm2⟩,fs,k2,k3,k4⟩:=R4 all l ((gm r).foldl FP ((al,ns),dZ 0)).1.1 ((gm r).foldl FP ((al,ns),dZ 0)).1.2 (es++[dZ b]) (fun x hx=>hm x (by simp[hx])) h1;have e:Gm ((al,ns),es) r=((((gm r).foldl FP ((al,ns),dZ 0)).1.1,((gm r).foldl FP ((al,ns),dZ 0)).1.2),es++[dZ b]):=by
   rw[<-h2];rfl
  rw[dM,e];refine⟨k1,⟨m1++m2,by rw[hm2,hm1,cm]⟩,dZ b::fs,by rw[k2];simp,by simp[k3],?_⟩;intro i x hx;cases i with
  |zero=>
   have:r=x:=by simpa using hx
   subst this;refine⟨b,rfl,by rw[hm2];simp;omega,?_⟩;rw[hm2,KO h1.below _ b b (bO _) h3,h4,u7];rfl
  |succ i=>exact k4 i x (by simpa using hx)
theorem Uw(R:ai->Prop)(tk:ay):Cm R [root tk]:=
 ⟨bO _,fun i x h1 hx=>by
  have:=(aF.1 hx).1;simp at this;omega,fun i h1 h2=>by simp at h2;omega⟩
theorem xJ(tk:ay)(rs:aj):Cm (Ss rs) (cr tk rs).1.2/\(cr tk rs).2.length=rs.length/\∀(i:Nat) r,rs[i]?=some r->∃b:Nat,(cr tk rs).2[i]?=some (dZ b)/\b<(cr tk rs).1.2.length/\fY (cr tk rs).1.2 (dZ b)=gm r:=by
 obtain⟨h1,_,fs,h2,h3,h4⟩:=R4 rs rs [] [root tk] [] (fun r hr=>hr) (Uw _ tk);rw[ck]at h2;refine⟨h1,?_,?_⟩
 ·show(rs.foldl Gm (([],[root tk]),[])).2.length=_;rw[h2,h3]
 ·intro i r hr;obtain⟨b,k1,k2,k3⟩:=h4 i r hr;refine⟨b,?_,k2,k3⟩;show(rs.foldl Gm (([],[root tk]),[])).2[i]?=_;rw[h2];exact k1
theorem Qu{r:aK}(h:j7 r=true):∃c cs,gm r=c::cs/\c.kind=1:=by
 have hb:=PJ h;cases hc:r.conds with
 |nil=>
  unfold j7 at h;rw[hc]at h;simp at h
 |cons c cs=>
  refine⟨Mc (pR r) c,cs.map (Mc (pR r)),by unfold gm;rw[hc];rfl,?_⟩;exact(Lt (pre:=[]) (i:=0) (c:=c) (rest:=cs) (by rw[ck,<-hc];exact hb)).2.1 rfl
theorem Nu{rs:aj}(h:∀r∈rs,j7 r=true){p:ai}(hp:Ss rs p):p.length<=4/\∃c cs,p=c::cs/\c.kind=1:=by
 obtain⟨r,hr,j,h1,h2,rfl⟩:=hp;have:=zK (h r hr);refine⟨by rw[bz];omega,?_⟩;obtain⟨c,cs,e,hk⟩:=Qu (h r hr);obtain⟨j,rfl⟩:∃k,j=k+1:=⟨j-1,by omega⟩
 exact⟨c,cs.take j,by rw[e];rfl,hk⟩
theorem V7{c:aO}{cs:ai}(hk:c.kind=1):B3 (c::cs) []=[]:=by
 have h0:∀(l:ai),l.foldl (yB []) []=[]:=by
  intro l
  induction l with
  |nil=>rfl
  |cons x l ih=>rw[dM];exact ih
 unfold B3;rw[dM];have:yB [] [⟨[],[]⟩] c=[]:=by
  unfold yB KN;rw[bG hk];rfl
 rw[this,h0]
theorem Kp{r:aK}(h:j7 r=true):∀c∈gm r,c.pat.rel.length<=8/\c.pat.args.length<=3/\∀x∈c.pat.args,x.length<=16:=by
 intro c' WR;obtain⟨c,hc,rfl⟩:=cE.1 WR;obtain⟨h1,h2,h3,h4,h5⟩:=Ls (Kv h c hc);have hV:∀x∈c.pat.args++[c.left,c.right],nu x=true->x∈D3 r.conds:=fun x hx hv=>JD.2 ⟨cA.2 ⟨c,hc,hx⟩,hv⟩
 refine⟨h1,by show(c.pat.args.map _).length<=3;rw[ax];exact h2,fun x hx=>?_⟩;obtain⟨y,hy,rfl⟩:=cE.1 hx;exact JS h (h3 y hy) (hV y (by simp[hy]))
theorem YO{p:aD}(h1:p.rel.length<=8)(h2:p.args.length<=3)(h3:∀x∈p.args,x.length<=16):(B2 p).wt<=1048576:=by
 have a3:=LZ (p.args.map (FN (p.args.foldl lf []))) (fun x hx=>by
  obtain⟨y,hy,rfl⟩:=cE.1 hx;exact a3g (by omega) (h3 y hy))
 rw[ax]at a3;show aD.wt ⟨p.rel,p.args.map (FN (p.args.foldl lf []))⟩<=1048576;unfold aD.wt;dsimp only;unfold tw at*;omega
def wB(al:bK):Prop:=∀x∈al,x.shape.wt<=1048576/\x.facts=[]
theorem RR{al:bK}{ns:bE}{p:Int}{c:aO}(h:wB al)(hc:(B2 c.pat).wt<=1048576):wB (Jl al ns p c).1.1:=by
 unfold Jl;cases My p c ns 0 with
 |some i=>exact h
 |none=>
  show wB (NR al c).1;unfold NR;by_cases hk:c.kind=1\/c.kind=2
  ·rw[bN hk];unfold Sv;cases UA (B2 c.pat) al 0 with
   |some i=>exact h
   |none=>
    intro x hx;rcases aR.1 hx with hx|hx
    ·exact h x hx
    ·rw[cZ.1 hx];exact⟨hc,rfl⟩
  ·rw[b9 hk];exact h
theorem Mh:∀(cs:ai) (s:(bK×bE)×Int),wB s.1.1->(∀c∈cs,(B2 c.pat).wt<=1048576)->wB (cs.foldl FP s).1.1
 | [],_,h,_=>h
 |c::cs,s,h,hc=>Mh cs (FP s c) (RR h (hc c (by simp))) (fun x hx=>hc x (by simp[hx]))
theorem vi(tk:ay){rs:aj}(h:∀r∈rs,j7 r=true):wB (cr tk rs).1.1:=by
 have main:∀(l:aj) (z:(bK×bE)×bC),(∀r∈l,j7 r=true)->wB z.1.1->wB (l.foldl Gm z).1.1:=by
  intro l
  induction l with
  |nil=>intro z _ hz;exact hz
  |cons r l ih=>
   intro z hl hz;refine ih (Gm z r) (fun x hx=>hl x (by simp[hx])) ?_;exact Mh (gm r) (z.1,0) hz (fun c hc=>by
    obtain⟨p1,p2,p3⟩:=Kp (hl r (by simp)) c hc;exact YO p1 p2 p3)
 exact main rs _ h (fun x hx=>by cases hx)
theorem JX(tk:ay){rs:aj}(h:∀r∈rs,j7 r=true)(h6:rs.length<=6):AY (cr tk rs).1.2:=by
 have hp:=(xJ tk rs).1;have hl:=F7 tk h h6;refine⟨by omega,?_,?_⟩
 ·intro x hx;obtain⟨i,hi⟩:=dN hx;have RE:=(aF.1 hi).1;by_cases h0:i=0
  ·subst h0;rw[gT]at hi;cases hi;unfold root aO.wt;simp[sw,tw]
  ·obtain⟨p,hpp,hpi⟩:=hp.below i x (by omega) hi;obtain⟨r,hr,j,j1,j2,e⟩:=hp.path i (by omega) RE;rw[xH hi (by omega) hpp hpi]at e;have hm:x.cond∈gm r:=bu (by rw[<-e];simp:x.cond∈(gm r).take j);exact JQ (h r hr) _ hm
 ·intro i;by_cases hi:1<=i/\i<(cr tk rs).1.2.length
  ·exact(Nu h (hp.path i hi.1 hi.2)).1
  ·unfold fY dZ;rw[b9 (by omega)];simp
theorem X0(rs:aj)(fs:aJ)(t:Int)(hr:sw aK.wt rs<=1048576)(hb:r9 rs=true)(hf:FS fs)(h24:fs.length<=24):qI rs fs t=some ⟨rs,(cr [] rs).2,lZ (cr [] rs).1.1 fs,ld (cr [] rs).1.2 fs,fs,t⟩:=by
 have h6:rs.length<=6:=by unfold r9 at hb;simp only[aV,bI]at hb;omega
 have hv:=rA hb;have hsh:=vi [] hv;have hal:(cr [] rs).1.1.length<=1048576:=by
  have main:∀(l:aj) (z:(bK×bE)×bC),(∀r∈l,j7 r=true)->(l.foldl Gm z).1.1.length<=z.1.1.length+4*l.length:=by
   intro l
   induction l with
   |nil=>intro z _;exact bO _
   |cons r l ih=>
    intro z hl;have h1:=ih (Gm z r) (fun x hx=>hl x (by simp[hx]));have h2:=(FQ (gm r) (z.1,0)).1;have h3:=zK (hl r (by simp));have h4:(Gm z r).1.1.length=((gm r).foldl FP (z.1,0)).1.1.length:=rfl;rw[dM,aP];dsimp only at h2;omega
  have:=main rs (([],[root []]),[]) hv;unfold cr;simp only[bS]at this;omega
 unfold qI;rw[a9F rs hr hb,aA,a1J _ fs hf h24 hal (fun x hx=>(hsh x hx).1) (JX [] hv h6)];rfl
theorem UI{al:bK}(h:wB al):lZ al []=al:=by
 unfold lZ;have:∀l:bK,(∀x∈l,x.facts=[])->l.map (fun a=>(⟨a.shape,xw a.shape [] []⟩:aZ))=l:=by
  intro l
  induction l with
  |nil=>intro _;rfl
  |cons x l ih=>
   intro hl;rw[bB,ih (fun y hy=>hl y (by simp[hy]))];have:=hl x (by simp);cases x;simp only at this;subst this;rfl
 exact this al fun x hx=>(h x hx).2
theorem ZZ{al:bK}{ns:bE}{p:Int}{c:aO}(h:∀x∈ns,x.tokens=[]):∀x∈(chR al ns p c).1.2,x.tokens=[]:=by
 unfold chR;cases My p c ns 1 with
 |some i=>exact h
 |none=>
  intro x hx;rcases aR.1 hx with hx|hx
  ·exact h x hx
  ·rw[cZ.1 hx]
theorem Tm:∀(cs:ai) (s:(bK×bE)×Int),(∀x∈s.1.2,x.tokens=[])->∀x∈(cs.foldl rtC s).1.2,x.tokens=[]
 | [],_,h=>h
 |c::cs,s,h=>Tm cs (rtC s c) (ZZ h)
theorem a0T(rs:aj):∀x∈(rtB rs).1.2,x.tokens=[]:=by
 have main:∀(l:aj) (z:(bK×bE)×bC),(∀x∈z.1.2,x.tokens=[])->∀x∈(l.foldl Z9 z).1.2,x.tokens=[]:=by
  intro l
  induction l with
  |nil=>intro z hz;exact hz
  |cons r l ih=>intro z hz;exact ih (Z9 z r) (Tm (gm r) (z.1,0) hz)
 exact main rs _ (fun x hx=>by cases hx)
theorem M2(ns:bE):∀(l:bE) (i:Nat),(∀x∈l,x.tokens=[])->(∀j:Nat,i<=j->j<i+l.length->B3 (fY ns (dZ j)) []=[])->oB ns [] l i=l
 | [],_,_,_=>rfl
 |x::l,i,ht,hp=>by
  rw[oB,hp i (bO _) (by simp),M2 ns l (i+1) (fun y hy=>ht y (by simp[hy])) (fun j h1 h2=>hp j (by omega) (by simp only[aP];omega))];have:=ht x (by simp);cases x;simp only at this;subst this;rfl
theorem UK{rs:aj}(h:∀r∈rs,j7 r=true):ld (cr [] rs).1.2 []=(cr [⟨[],[]⟩] rs).1.2:=by
 have hp:=(xJ [] rs).1;have e:(cr [] rs).1.2=root []::(rtB rs).1.2:=by rw[gT]
 have e2:(cr [⟨[],[]⟩] rs).1.2=root [⟨[],[]⟩]::(rtB rs).1.2:=by rw[gT]
 have hlen:(cr [] rs).1.2.length=(rtB rs).1.2.length+1:=by rw[e];rfl
 unfold ld;rw[e2];have h1:=M2 (cr [] rs).1.2 (rtB rs).1.2 1 (a0T rs) (fun j j1 j2=>by
  obtain⟨_,c,cs,ec,hk⟩:=Nu h (hp.path j j1 (by rw[hlen];omega));rw[ec];exact V7 hk)
 have h2:oB (cr [] rs).1.2 [] (cr [] rs).1.2 0=oB (cr [] rs).1.2 [] (root []::(rtB rs).1.2) 0:=by rw[<-e]
 rw[h2,oB,h1,u7];rfl
end Go.Cx
namespace Go.Cx
open Go.RowKit Go.Proofs Tryz
def ni(rs:aj)(fs:aJ)(t:Int):aH:=⟨rs,(cr [] rs).2,lZ (cr [] rs).1.1 fs,ld (cr [] rs).1.2 fs,fs,t⟩
def NF(n:aH):Bool:=r9 n.rules&&(iK n.facts&&(decide (0<=n.bp)&&JC n (ni n.rules n.facts 0)))
theorem FS.F0{fs:aJ}(h:sw aD.wt fs<=1048576):FS fs:=⟨by have:=tN aD.wt fs;omega,fun f hf=>by have:=tO (w:=aD.wt) hf;omega⟩
theorem S4(n:aH)(hr:sw aK.wt n.rules<=1048576)(hf:sw aD.wt n.facts<=1048576):mr n=some (NF n):=by
 unfold mr NF;rw[a5f _ hr,Wy _ hf,aA,aA];cases h1:r9 n.rules with
 |false=>rfl
 |true=>
  cases h2:iK n.facts with
  |false=>rfl
  |true=>
   rw[X0 _ _ _ hr h1 (FS.F0 hf) (sY h2),aA,a5s,aA];simp only[aI,gx];by_cases h3:0<=n.bp
   ·rw[bG h3];rfl
   ·rw[bM h3];rfl
def uf(x:Node):Int×Int×aO:=(x.parent,x.cj,x.cond)
theorem Xc{a b:bE}(h:a.map uf=b.map uf):a.map pV=b.map pV:=by
 have:=congrArg (List.map fun t:Int×Int×aO=>(t.1,t.2.2)) h;rw[yt,yt]at this;exact this
def V8(ns:bE)(fs:aJ):bE->Nat->Bool
 | [],_=>true
 |x::xs,i=>decide (x.tokens=B3 (fY ns (dZ i)) fs)&&V8 ns fs xs (i+1)
theorem Nc(fs:aJ):∀(a b:bK),a.map aZ.shape=b.map aZ.shape->((a.all fun x=>decide (x.facts=xw x.shape [] fs))=true↔a=lZ b fs)
 | [],[],_=>⟨fun _=>rfl,fun _=>rfl⟩
 | [],_::_,h=>by simp at h
 |_::_,[],h=>by simp at h
 |x::a,y::b,h=>by
  rw[bB,bB]at h;obtain⟨h1,h2⟩:=xS h;have ih:=Nc fs a b h2;rw[dA,aV,bI,ih];show _↔x::a=⟨y.shape,xw y.shape [] fs⟩::lZ b fs;constructor
  ·rintro⟨q1,q2⟩;rw[<-h1,<-q1,<-q2]
  ·intro q;obtain⟨q1,q2⟩:=xS q;exact⟨by rw[q1],q2⟩
theorem Nf(ns:bE)(fs:aJ):∀(a b:bE) (i:Nat),a.map uf=b.map uf->(V8 ns fs a i=true↔a=oB ns fs b i)
 | [],[],_,_=>⟨fun _=>rfl,fun _=>rfl⟩
 | [],_::_,_,h=>by simp at h
 |_::_,[],_,h=>by simp at h
 |x::a,y::b,i,h=>by
  rw[bB,bB]at h;obtain⟨h1,h2⟩:=xS h;have ih:=Nf ns fs a b (i+1) h2;have e1:x.parent=y.parent:=(jf h1).1;have e2:x.cj=y.cj:=(jf (jf h1).2).1;have e3:x.cond=y.cond:=(jf (jf h1).2).2;unfold V8 oB;rw[aV,bI,ih];constructor
  ·rintro⟨q1,q2⟩;rw[<-e1,<-e2,<-e3,<-q1,<-q2]
  ·intro q;obtain⟨q1,q2⟩:=xS q;exact⟨by rw[q1],q2⟩
theorem a1u(n:aH)(k:Option Bool)(hf:FS n.facts):∀(l:bK) (i:Nat),(∀x∈l,x.shape.wt<=1048576)->jY n k l i=bif l.all (fun x=>decide (x.facts=xw x.shape [] n.facts))then k else some false
 | [],_,_=>rfl
 |x::l,i,h=>by
  rw[jY,a3q x.shape [] n.facts (h x (by simp)) PB.nil hf,aA,PR,aA,a1u n k hf l _ (fun y hy=>h y (by simp[hy])),dA];cases decide (x.facts=xw x.shape [] n.facts)<;>rfl
theorem a1v(n:aH)(k:Option Bool)(hf:FS n.facts)(h24:n.facts.length<=24)(hp:AY n.nodes):∀(l:bE) (i:Nat),jZ n k l i=bif V8 n.nodes n.facts l i then k else some false
 | [],_=>rfl
 |x::l,i=>by
  have QO:∀c∈fY n.nodes ((i:Nat):Int),c.wt<=1048576:=by
   intro c hc;obtain⟨z,hz,e⟩:=JP hc;rw[<-e];exact hp.wt z hz
  rw[jZ,YC n _ ⟨hp.len,hp.wt⟩,aA,a22 _ n.facts QO (hp.path i) hf h24,aA,a0k,aA,a1v n k hf h24 hp l,V8];show(bif !decide (x.tokens=B3 (fY n.nodes (dZ i)) n.facts)then some false else _)=_;cases decide (x.tokens=B3 (fY n.nodes (dZ i)) n.facts)<;>rfl
theorem a3r(n:aH)(hr:sw aK.wt n.rules<=1048576)(hf:sw aD.wt n.facts<=1048576):rP n=some (NF n):=by
 unfold rP NF;rw[Y5 _ hr,a6T _ hf,aA,aA];cases h1:r9 n.rules with
 |false=>rfl
 |true=>
  cases h2:iK n.facts with
  |false=>rfl
  |true=>
   have h6:n.rules.length<=6:=by unfold r9 at h1;simp only[aV,bI]at h1;omega
   have hv:=rA h1;simp only[aI,bW,aS,gx];rw[a6Y,aA];have hroot:(cr [⟨[],[]⟩] n.rules).1.2.map uf=(cr [] n.rules).1.2.map uf:=by rw[gT,gT];rfl
   have hA:(cr [⟨[],[]⟩] n.rules).1.1=(cr [] n.rules).1.1:=by rw[gT,gT]
   have hE:(cr [⟨[],[]⟩] n.rules).2=(cr [] n.rules).2:=by rw[gT,gT]
   have hmem:JC n (ni n.rules n.facts 0)=(decide (n.ends=(cr [] n.rules).2)&&(decide (n.au=lZ (cr [] n.rules).1.1 n.facts)&&decide (n.nodes=ld (cr [] n.rules).1.2 n.facts))):=by
    unfold JC ni;simp
   by_cases hform:M4 n ⟨n.rules,(cr [⟨[],[]⟩] n.rules).2,(cr [⟨[],[]⟩] n.rules).1.1,(cr [⟨[],[]⟩] n.rules).1.2,[],0⟩=true
   ·rw[hform];unfold M4 at hform;simp only[aV,bI]at hform;obtain⟨f1,f2,f3⟩:=hform;have f2':n.nodes.map uf=(cr [] n.rules).1.2.map uf:=by rw[<-hroot];exact f2
    have f1':n.au.map aZ.shape=(cr [] n.rules).1.1.map aZ.shape:=by rw[<-hA];exact f1
    have f3':n.ends=(cr [] n.rules).2:=by rw[<-hE];exact f3
    have a2s:=JX [] hv h6;have hfn:=Xc f2';have hok:AY n.nodes:=by
     refine⟨by have:=congrArg List.length f2';rw[ax,ax]at this;rw[this];exact a2s.len,fun x hx=>?_,fun i=>by rw[tv hfn];exact a2s.path i⟩;have hm:pV x∈(cr [] n.rules).1.2.map pV:=by rw[<-hfn];exact cE.2 ⟨x,hx,rfl⟩
     obtain⟨w,hw,e⟩:=cE.1 hm;have:w.cond=x.cond:=(jf e).2;rw[<-this];exact a2s.wt w hw
    have hsh:∀x∈n.au,x.shape.wt<=1048576:=by
     intro x hx;have hm:x.shape∈(cr [] n.rules).1.1.map aZ.shape:=by rw[<-f1'];exact cE.2 ⟨x,hx,rfl⟩
     obtain⟨w,hw,e⟩:=cE.1 hm;rw[<-e];exact(vi [] hv w hw).1
    have g1:=Nc n.facts n.au _ f1';have g2:=Nf n.nodes n.facts n.nodes _ 0 f2';have g3:oB n.nodes n.facts (cr [] n.rules).1.2 0=ld (cr [] n.rules).1.2 n.facts:=by
     unfold ld;have:∀(l:bE) (i:Nat),oB n.nodes n.facts l i=oB (cr [] n.rules).1.2 n.facts l i:=by
      intro l
      induction l with
      |nil=>intro i;rfl
      |cons x l ih=>intro i;rw[oB,oB,ih,tv hfn]
     exact this _ _
    rw[g3]at g2;rw[hmem,bG f3',gx,a1u n _ (FS.F0 hf) _ _ hsh,a1v n _ (FS.F0 hf) (sY h2) hok];have k1:(n.au.all fun x=>decide (x.facts=xw x.shape [] n.facts))=decide (n.au=lZ (cr [] n.rules).1.1 n.facts):=by rw[br,g1,bI]
    have k2:V8 n.nodes n.facts n.nodes 0=decide (n.nodes=ld (cr [] n.rules).1.2 n.facts):=by rw[br,g2,bI]
    rw[k1,k2];by_cases h3:0<=n.bp
    ·rw[bG h3,bM (by omega)];cases decide (n.au=lZ (cr [] n.rules).1.1 n.facts)<;>cases decide (n.nodes=ld (cr [] n.rules).1.2 n.facts)<;>rfl
    ·rw[bM h3,bG (by omega)];rfl
   ·have hfalse:M4 n ⟨n.rules,(cr [⟨[],[]⟩] n.rules).2,(cr [⟨[],[]⟩] n.rules).1.1,(cr [⟨[],[]⟩] n.rules).1.2,[],0⟩=false:=by
     cases hq:M4 n ⟨n.rules,(cr [⟨[],[]⟩] n.rules).2,(cr [⟨[],[]⟩] n.rules).1.1,(cr [⟨[],[]⟩] n.rules).1.2,[],0⟩with
     |true=>exact absurd hq hform
     |false=>rfl
    rw[hfalse];have hm:JC n (ni n.rules n.facts 0)=false:=by
     cases hq:JC n (ni n.rules n.facts 0)with
     |false=>rfl
     |true=>
      exfalso;rw[hmem]at hq;simp only[aV,bI]at hq;obtain⟨q1,q2,q3⟩:=hq;apply hform;unfold M4;simp only[aV,bI];have r1:n.au.map aZ.shape=(cr [⟨[],[]⟩] n.rules).1.1.map aZ.shape:=by rw[hA,q2];unfold lZ;rw[yt];rfl
      have r2:n.nodes.map uf=(cr [⟨[],[]⟩] n.rules).1.2.map uf:=by
       rw[hroot,q3];have:∀(ns l:bE) (i:Nat),(oB ns n.facts l i).map uf=l.map uf:=by
        intro ns l
        induction l with
        |nil=>intro i;rfl
        |cons x l ih=>intro i;rw[oB,bB,ih];rfl
       exact this _ _ _
      exact⟨r1,r2,by rw[hE];exact q1⟩
    rw[hm,vu];rfl
end Go.Cx
namespace Go.Cx
open Go.RowKit Go.Proofs Tryz
theorem Ts{fs:aJ}(hf:FS fs):∀(cs:ai) (l:ay) (n:Nat),(∀c∈cs,c.wt<=1048576)->(∀t∈l,TK n t)->∀t∈cs.foldl (yB fs) l,TK (n+cs.length) t
 | [],l,n,_,hl=>hl
 |c::cs,l,n,hc,hl=>by
  have:=Ts hf cs (yB fs l c) (n+1) (fun x hx=>hc x (by simp[hx])) (P6 hl (hc c (by simp)) hf);rw[aP,show n+(cs.length+1)=n+1+cs.length from by omega];exact this
end Go.Cx
namespace Go.Cx
open Go.RowKit Go.Proofs Tryz
theorem Nd(ns:bE)(fs:aJ):∀(l:bE) (i j:Nat),(oB ns fs l i)[j]?=(l[j]?).map fun x=>⟨x.parent,x.cond,x.cj,B3 (fY ns (dZ (i+j))) fs⟩
 | [],_,_=>by simp[oB]
 |x::l,i,0=>by simp[oB]
 |x::l,i,j+1=>by
  rw[oB,fq,fq,Nd ns fs l (i+1) j,show i+1+j=i+(j+1)by omega]
end Go.Cx
namespace Go.Cx
open Go.RowKit Go.Proofs Tryz
def findF(f:aD):aJ->Nat->Int
 | [],_=> -1
 |x::xs,i=>if x=f then(i:Int)else findF f xs (i+1)
theorem Ng(f:aD):∀(l:aJ) (i:Nat),decide (findF f l i>=0)=decide (f∈l)
 | [],i=>by simp[findF]
 |x::xs,i=>by
  rw[findF];by_cases h:x=f
  ·rw[bN h];subst h;simp
  ·rw[b9 h,Ng f xs (i+1)];have:f≠x:=fun e=>h e.symm
   simp[this]
theorem a3C(l:aJ)(f:aD):sF l f=some (findF f l 0):=by
 unfold sF;have:∀(r:aJ) (i:Nat),k7 l f (some (-1)) r i=some (findF f r i):=by
  intro r
  induction r with
  |nil=>intro i;rfl
  |cons x xs ih=>
   intro i;rw[k7,XA,aA,ih,findF];by_cases h:x=f
   ·rw[bG h,bN h,aI]
   ·rw[bM h,b9 h,aS]
 exact this l 0
theorem NY{a b:Bytes}(h:vn a b>0):vn b a<0:=by
 unfold vn at h⊢;by_cases h1:Op.bytesLess a b=true
 ·rw[bN h1]at h;omega
 ·rw[b9 h1]at h;by_cases h2:a=b
  ·rw[bN h2]at h;omega
  ·have h3:Op.bytesLess b a=true:=by
    cases hb:Op.bytesLess b a with
    |true=>rfl
    |false=>exact absurd (Jr (by simpa using h1) hb) h2
   rw[bN h3];omega
theorem Na{a b:Bytes}(h:vn a b=0):a=b:=dQ fun hne=>OT hne h
theorem Lp{a b:Bytes}(h:vn a b<0):vn b a>0:=by
 unfold vn at h⊢;by_cases h1:Op.bytesLess a b=true
 ·have h3:=I9 h1;have h4:¬(Op.bytesLess b a=true):=by rw[h3];simp
  have h5:¬b=a:=fun e=>by subst e;rw[vU]at h1;cases h1
  rw[b9 h4,b9 h5];omega
 ·rw[b9 h1]at h;by_cases h2:a=b
  ·rw[bN h2]at h;omega
  ·rw[b9 h2]at h;omega
theorem NU(a b:Bytes):(AM a b>0->AM b a<0)/\(AM a b=0->a=b)/\(AM a b<0->AM b a>0):=by
 have num:∀ {s:Bytes} {n:Nat},wY s=some n->Lib.decDigits n=s:=by
  intro s n h;unfold wY at h;split at h
  ·split at h
   ·split at h
    ·rename_i h2;cases h;exact h2
    ·cases h
   ·cases h
  ·cases h
 unfold AM;cases ha:wY a with
 |none=>
  cases hb:wY b with
  |none=>exact⟨NY,Na,Lp⟩
  |some y=>simp
 |some x=>
  cases hb:wY b with
  |none=>simp
  |some y=>
   simp only[FX];refine⟨fun h=>?_,fun h=>?_,fun h=>?_⟩
   ·split at h
    ·omega
    ·split at h
     ·rw[bN (by omega)];omega
     ·omega
   ·split at h
    ·omega
    ·split at h
     ·omega
     ·have:x=y:=by omega
      rw[<-num ha,<-num hb,this]
   ·split at h
    ·rw[b9 (by omega),bN (by omega)];omega
    ·split at h<;>omega
theorem Lv{α:Type}{g:α->α->Int}(hg:∀a b,(g a b>0->g b a<0)/\(g a b=0->a=b)/\(g a b<0->g b a>0)):∀(a b:List α),
 (∀z,tL g a b=some z->z≠0/\∃y,tL g b a=some y/\(z>0->y<0)/\(z<0->y>0))/\(tL g a b=none->tL g b a=none/\(a.length=b.length->a=b))
 | [],[]=>⟨fun z h=>(by simp[tL]at h),fun _=>⟨rfl,fun _=>rfl⟩⟩
 | [],y::ys=>⟨fun z h=>(by simp[tL]at h),fun _=>⟨by simp[tL],fun h=>by simp at h⟩⟩
 |x::xs,[]=>⟨fun z h=>(by simp[tL]at h),fun _=>⟨by simp[tL],fun h=>by simp at h⟩⟩
 |x::xs,y::ys=>by
  obtain⟨i1,i2⟩:=Lv hg xs ys;obtain⟨g1,g2,g3⟩:=hg x y;by_cases h0:g x y=0
  ·have e:=g2 h0;subst e;simp only[tL,h0,ne_eq,not_true_eq_false,xW];exact⟨i1,fun h=>⟨(i2 h).1,fun hl=>by rw[(i2 h).2 (by simpa using hl)]⟩⟩
  ·have h1:g y x≠0:=by
    intro e;by_cases hp:g x y>0
    ·have:=g1 hp;omega
    ·have:=g3 (by omega);omega
   simp only[tL,ne_eq,h0,h1,not_false_eq_true,pT];refine⟨fun z h=>?_,fun h=>by cases h⟩;cases h;exact⟨h0,_,rfl,g1,g3⟩
theorem NX{α:Type}{g:α->α->Int}(hg:∀a b,(g a b>0->g b a<0)/\(g a b=0->a=b)/\(g a b<0->g b a>0))(a b:List α):(cmpL g a b>0->cmpL g b a<0)/\(cmpL g a b=0->a=b)/\(cmpL g a b<0->cmpL g b a>0):=by
 obtain⟨h1,h2⟩:=Lv hg a b;unfold cmpL;cases hd:tL g a b with
 |some z=>
  obtain⟨hz,y,hy,p,q⟩:=h1 z hd;rw[hy];exact⟨p,fun e=>absurd e hz,q⟩
 |none=>
  obtain⟨h3,h4⟩:=h2 hd;rw[h3];simp only[FX];refine⟨fun h=>?_,fun h=>?_,fun h=>?_⟩
  ·split at h
   ·omega
   ·split at h
    ·rw[bN (by omega)];omega
    ·omega
  ·split at h
   ·omega
   ·split at h
    ·omega
    ·exact h4 (by omega)
  ·split at h
   ·rw[b9 (by omega),bN (by omega)];omega
   ·split at h<;>omega
theorem zH(a b:aD):(oR a b>0->oR b a<0)/\(oR a b=0->a=b)/\(oR a b<0->oR b a>0):=by
 obtain⟨h1,h2,h3⟩:=NX NU a.args b.args;unfold oR;by_cases hr:a.rel=b.rel
 ·rw[b9 (by simpa using hr),b9 (by simpa using hr.symm)];refine⟨h1,fun h=>?_,h3⟩;cases a;cases b;simp only at hr h2 h;rw[hr,h2 h]
 ·have Zp:b.rel≠a.rel:=fun e=>hr e.symm
  rw[bN hr,bN Zp];exact⟨NY,fun h=>absurd (Na h) hr,Lp⟩
def vp(f:aD):aJ->aJ
 | []=>[f]
 |x::xs=>if oR x f>0 then f::x::xs else x::vp f xs
theorem J8(f:aD):∀(l:aJ) (x:aD),x∈vp f l↔x=f\/x∈l
 | [],x=>by simp[vp]
 |y::ys,x=>by
  rw[vp];split
  ·simp
  ·simp only[bL,J8 f ys x];constructor
   ·rintro(h|h|h)<;>simp[h]
   ·rintro(h|h|h)<;>simp[h]
theorem J7(f:aD):∀(l:aJ),(vp f l).length=l.length+1
 | []=>rfl
 |y::ys=>by rw[vp];split<;>simp[J7 f ys]
theorem NT{f:aD}(hf:rX f=true):∀(l:aJ) (p:Option aD),chainB p l=true->f∉l->(∀q,p=some q->oR q f<0)->chainB p (vp f l)=true
 | [],p,_,_,hp=>by
  cases p with
  |none=>simp[vp,chainB,hf]
  |some q=>simp[vp,chainB,hf,hp q rfl]
 |x::xs,p,h,hn,hp=>by
  simp only[bL,Ds]at hn;have hx:chainB (some x) xs=true/\rX x=true/\(∀q,p=some q->oR q x<0):=by
   cases p with
   |none=>simp[chainB]at h;exact⟨h.2,h.1,by simp⟩
   |some q=>
    simp only[chainB,aV,bI]at h;exact⟨by first|exact h.2.2|exact h.2,by first|exact h.1.1|exact h.1,fun q' e=>by cases e;first|exact h.1.2|exact h.2.1⟩
  rw[vp];split
  ·rename_i hgt;have h1:=(zH x f).1 hgt;cases p with
   |none=>simp[chainB,hf,hx.2.1,h1,hx.1]
   |some q=>simp[chainB,hf,hx.2.1,h1,hx.1,hp q rfl]
  ·rename_i hle;have hlt:oR x f<0:=by
    have:oR x f≠0:=fun e=>hn.1 ((zH x f).2.1 e).symm
    omega
   have ih:=NT hf xs (some x) hx.1 hn.2 (fun q e=>by cases e;exact hlt);cases p with
   |none=>simp[chainB,hx.2.1,ih]
   |some q=>simp[chainB,hx.2.1,ih,hx.2.2 q rfl]
theorem OM{f:aD}{l:aJ}(hf:rX f=true)(hl:iK l=true)(hn:f∉l)(h24:l.length≠24):iK (vp f l)=true:=by
 unfold iK at hl⊢;simp only[aV,bI]at hl⊢;exact⟨NT hf l none hl.1 hn (by simp),by rw[J7];omega⟩
theorem a6c(a:aJ)(f:aD)(K:Bool->aJ->Option aJ)(hf:f.args.length<=1099511627776):∀(rest:aJ) (i:Nat) (v:Bool) (w:aJ),(∀x∈rest,x.args.length<=1099511627776)->w.length+2*rest.length<=1048576->f∉rest->
 (v=true->cV a f K rest i v w=K true (w++rest))/\
 (v=false->(cV a f K rest i v w=K true (w++vp f rest))\/(cV a f K rest i v w=K false (w++rest)/\vp f rest=rest++[f])):=by
 intro rest
 induction rest with
 |nil=>intro i v w _ _ _;exact⟨fun h=>by subst h;simp[cV],fun h=>by subst h;exact .inr ⟨by simp[cV],rfl⟩⟩
 |cons x xs ih=>
  intro i v w hs hl hn;simp only[aP]at hl;simp only[bL,Ds]at hn;have hx:=hs x (by simp);have hs':∀y∈xs,y.args.length<=1099511627776:=fun y hy=>hs y (by simp[hy])
  have cx:=AE x hx;have cf:=AE f hf;have nx:=fun w':aJ=>fun h:w'.length<1099511627776=>fZ (w:=w') (c:=aD.c) (y:=[D.str x.rel,D.sl (x.args.map tx)]) (b:=40) h (by decide)
  have nf:=fun w':aJ=>fun h:w'.length<1099511627776=>fZ (w:=w') (c:=aD.c) (y:=[D.str f.rel,D.sl (f.args.map tx)]) (b:=40) h (by decide)
  constructor
  ·intro h;subst h;rw[cV,bW,aS,cx,aA,nx w (by omega),aI,(ih (i+1) true (w++[x]) hs' (by simp;omega) hn.2).1 rfl];simp
  ·intro h;subst h;rw[cV,cT,aI,To,aA];by_cases hgt:oR x f>0
   ·left
    have e2:room (((w.map aD.c)++[[D.str f.rel,D.sl (f.args.map tx)]]).length+[[D.str x.rel,D.sl (x.args.map tx)]].length) 40=true:=by
     have:=nx (w++[f]) (by simp;omega);rw[bA]at this;exact this
    rw[bG (by omega:oR x f>=0),aI,aA,bG hgt,aI,cf,aA,nf w (by omega),aI,cx,aA,e2,aI];rw[(ih (i+1) true (w++[f]++[x]) hs' (by simp;omega) hn.2).1 rfl,vp,bN hgt];simp
   ·have hlt:¬oR x f>=0:=by
     have:oR x f≠0:=fun e=>hn.1 ((zH x f).2.1 e).symm
     omega
    rw[bM hlt,aS,cx,aA,nx w (by omega),aI];rw[vp,b9 hgt];rcases(ih (i+1) false (w++[x]) hs' (by simp;omega) hn.2).2 rfl with q|⟨q1,q2⟩
    ·left;rw[q];simp
    ·right;rw[q1,q2];simp
theorem a6b(l:aJ)(f:aD)(hf:f.args.length<=1099511627776)(hl:∀x∈l,x.args.length<=1099511627776)(hn:l.length<=1000)(hm:f∉l):lX l f=some (vp f l):=by
 unfold lX;rcases(a6c l f _ hf l 0 false [] hl (by simp;omega) hm).2 rfl with q|⟨q1,q2⟩
 ·rw[q];rfl
 ·rw[q1,q2];show(bif !false then _ else _)=_;rw[cT,aI,AE f hf,aA,ck,fZ (w:=l) (c:=aD.c) (y:=[D.str f.rel,D.sl (f.args.map tx)]) (by omega) (by decide),aI]
def Lj(l:aJ)(f:aD):aJ×Bool:=if iK l=true/\rX f=true/\f∉l/\l.length≠24 then(vp f l,true)else(l,false)
theorem Lr{a b c:Bytes}(h1:vn a b<0)(h2:vn b c<0):vn a c<0:=by
 have lt:∀ {x y:Bytes},vn x y<0->Op.bytesLess x y=true:=by
  intro x y h;unfold vn at h;split at h
  ·assumption
  ·split at h<;>omega
 have:=BE (lt h1) (lt h2);unfold vn;rw[bN this];omega
theorem Zd{x y:Int}:FX x y<0↔x<y:=by
 unfold FX;split
 ·omega
 ·split<;>omega
theorem RS{a b c:Bytes}(h1:AM a b<0)(h2:AM b c<0):AM a c<0:=by
 unfold AM at*;cases ha:wY a<;>cases hb:wY b<;>cases hc:wY c<;>simp only[ha,hb,hc]at h1 h2⊢ <;>first|omega|exact Lr h1 h2| (rw[Zd]at*;omega)
theorem Zc{α:Type}(g:α->α->Int):cmpL g [] []=0:=rfl
theorem Zb{α:Type}(g:α->α->Int)(y:α)(ys:List α):cmpL g [] (y::ys)= -1:=by
 unfold cmpL tL FX;simp<;>omega
theorem TA{α:Type}(g:α->α->Int)(x:α)(xs:List α):cmpL g (x::xs) []=1:=by
 unfold cmpL tL FX;simp<;>omega
theorem T9{α:Type}(g:α->α->Int)(x y:α)(xs ys:List α):cmpL g (x::xs) (y::ys)=if g x y≠0 then g x y else cmpL g xs ys:=by
 unfold cmpL;rw[tL];by_cases h:g x y≠0
 ·rw[bN h,bN h]
 ·rw[b9 h,b9 h,aP,aP];cases tL g xs ys with
  |some z=>rfl
  |none=>
   show FX _ _=FX _ _;unfold FX
   congr 1
   ·rw[xB];omega
   ·congr 1
    rw[xB];omega
theorem Lo{α:Type}{g:α->α->Int}(h0:∀a b,g a b=0->a=b)(ht:∀a b c,g a b<0->g b c<0->g a c<0):∀(a b c:List α),cmpL g a b<0->cmpL g b c<0->cmpL g a c<0
 | [],[],c,h1,_=>by rw[Zc]at h1;omega
 |_::_,[],c,h1,_=>by rw[TA]at h1;omega
 |_,y::ys,[],_,h2=>by rw[TA]at h2;omega
 | [],y::ys,z::zs,_,_=>by rw[Zb];omega
 |x::xs,y::ys,z::zs,h1,h2=>by
  rw[T9]at*;by_cases e1:g x y=0
  ·have:=h0 _ _ e1;subst this;rw[b9 (by omega)]at h1;by_cases e2:g x z=0
   ·rw[b9 (by omega)]at h2⊢;exact Lo h0 ht xs ys zs h1 h2
   ·rw[bN e2]at h2⊢;exact h2
  ·rw[bN e1]at h1;by_cases e2:g y z=0
   ·have:=h0 _ _ e2;subst this;rw[bN e1];exact h1
   ·rw[bN e2]at h2;have:=ht x y z h1 h2;rw[bN (by omega)];exact this
theorem Ln{a b c:aD}(h1:oR a b<0)(h2:oR b c<0):oR a c<0:=by
 unfold oR at*;by_cases e1:a.rel=b.rel
 ·by_cases e2:b.rel=c.rel
  ·rw[b9 (by simpa using e1)]at h1;rw[b9 (by simpa using e2)]at h2;rw[b9 (by simpa using e1.trans e2)];exact Lo (fun a b=>(NU a b).2.1) (fun _ _ _=>RS) _ _ _ h1 h2
  ·rw[bN e2]at h2;rw[e1,bN e2];exact h2
 ·rw[bN e1]at h1;by_cases e2:b.rel=c.rel
  ·rw[<-e2,bN e1];exact h1
  ·rw[bN e2]at h2;have:=Lr h1 h2;have hne:a.rel≠c.rel:=fun e=>by rw[e,NZ]at this;omega
   rw[bN hne];exact this
theorem BH(a:aD):¬oR a a<0:=by
 intro h;have:=(zH a a).2.2 h;omega
theorem NV(a:aD):oR a a=0:=by
 have h1:=BH a;have h2:=(zH a a).1;omega
theorem NW{a b:aJ}:cmpL oR a b=0↔a=b:=by
 constructor
 ·exact(NX zH a b).2.1
 ·rintro rfl
  induction a with
  |nil=>rfl
  |cons x xs ih=>rw[T9,b9 (by simp[NV]),ih]
theorem vV{p:Option aD}{x:aD}{xs:aJ}(h:chainB p (x::xs)=true):rX x=true/\(∀q,p=some q->oR q x<0)/\chainB (some x) xs=true:=by
 cases p with
 |none=>simp[chainB]at h;exact⟨h.1,by simp,h.2⟩
 |some q=>
  simp only[chainB,aV,bI]at h;exact⟨h.1.1,fun q' e=>by cases e;exact h.1.2,h.2⟩
theorem xC:∀ {l:aJ} {p:aD},chainB (some p) l=true->∀x∈l,oR p x<0
 | [],_,_,_,h=>by cases h
 |y::ys,p,h,x,hx=>by
  obtain⟨_,h2,h3⟩:=vV h;have hp:=h2 p rfl;rcases bL.1 hx with rfl|hx
  ·exact hp
  ·exact Ln hp (xC h3 x hx)
theorem IA:∀ {l:aJ} {p:Option aD},chainB p l=true->l.Nodup
 | [],_,_=>List.nodup_nil
 |x::xs,p,h=>by
  obtain⟨_,_,h3⟩:=vV h;rw[eV];exact⟨fun hx=>BH x (xC h3 x hx),IA h3⟩
theorem KZ{l:aJ}(h:iK l=true):l.Nodup:=by
 unfold iK at h;simp only[aV]at h;exact IA h.1
theorem Kb:∀ {l:aJ} {p:Option aD},chainB p l=true->∀x∈l,rX x=true
 | [],_,_,_,h=>by cases h
 |y::ys,p,h,x,hx=>by
  obtain⟨h1,_,h3⟩:=vV h;rcases bL.1 hx with rfl|hx
  ·exact h1
  ·exact Kb h3 x hx
theorem Sx{l:aJ}{f:aD}(h:(Lj l f).2=true):iK (Lj l f).1=true:=by
 unfold Lj at h⊢;split at h
 ·rename_i hc;rw[bN hc];exact OM hc.2.1 hc.1 hc.2.2.1 hc.2.2.2
 ·cases h
end Go.Cx
namespace Go.Cx
open Go.RowKit Go.Proofs Tryz
def KD(A:ay):Prop:=A.Pairwise fun t u=>t.facts≠u.facts
theorem Hi{c:aO}{t u:aU}{f:aD}(h:u∈ext1 c t f):u.facts=t.facts++[f]:=by
 unfold ext1 at h;cases hm:(yR c.pat f t.bind).2 with
 |false=>rw[hm]at h;cases h
 |true=>rw[hm,aI]at h;rw[cZ.1 h]
theorem MV{c:aO}{fs:aJ}{t u:aU}(h:u∈KN c fs t):(c.kind=1/\∃f∈fs,u.facts=t.facts++[f])\/(c.kind≠1/\u=t):=by
 unfold KN at h;by_cases hk:c.kind=1
 ·rw[bG hk,aI]at h;obtain⟨f,hf,hu⟩:=cA.1 h;exact .inl ⟨hk,f,hf,Hi hu⟩
 ·rw[bM hk,aS]at h;cases hh:MA c t.bind fs with
  |false=>rw[hh]at h;cases h
  |true=>rw[hh,aI]at h;exact .inr ⟨hk,cZ.1 h⟩
theorem a0N{c:aO}{fs:aJ}{A:ay}(hf:fs.Nodup)(hA:KD A):KD (yB fs A c):=by
 unfold KD yB;rw[D0];refine⟨fun t _=>?_,?_⟩
 ·unfold KN;cases decide (c.kind=1)with
  |true=>
   rw[aI,D0];refine⟨fun f _=>?_,?_⟩
   ·unfold ext1;cases(yR c.pat f t.bind).2<;>simp
   ·exact List.Pairwise.imp (fun {f g} hne x hx y hy e=>by
     rw[Hi hx,Hi hy]at e;exact hne (by simpa using e)) hf
  |false=>cases MA c t.bind fs<;>simp
 ·exact List.Pairwise.imp (fun {t u} hne x hx y hy e=>by
   rcases MV hx with⟨k,f,_,e1⟩|⟨k,e1⟩<;>rcases MV hy with⟨k',g,_,e2⟩|⟨k',e2⟩
   ·rw[e1,e2]at e;exact hne (List.append_inj' e rfl).1
   ·exact k' k
   ·exact k k'
   ·rw[e1,e2]at e;exact hne e) hA
theorem KD.one(t:aU):KD [t]:=List.pairwise_singleton _ _
theorem TI{fs:aJ}(hf:fs.Nodup):∀(cs:ai) {A:ay},KD A->KD (cs.foldl (yB fs) A)
 | [],_,h=>h
 |c::cs,_,h=>TI hf cs (a0N hf h)
theorem a0s{cs:ai}{fs:aJ}(hf:fs.Nodup):KD (B3 cs fs):=TI hf cs (KD.one _)
def Rh(l:ay)(t:aU):Bool:=l.any fun u=>decide (u.facts=t.facts)
def MG(now old:ay):Nat:=(now.filter fun t=>Rh old t).length
def L3(al:bK)(x:Node):Prop:=(x.cond.kind=1\/x.cond.kind=2->∃a:Nat,x.cj=dZ a/\∃y,al[a]?=some y/\y.shape=B2 x.cond.pat)/\(¬(x.cond.kind=1\/x.cond.kind=2)->x.cj= -1)
theorem L3.mono{al:bK}{x:Node}(h:L3 al x)(m:bK):L3 (al++m) x:=⟨fun hk=>by
 obtain⟨a,h1,y,h2,h3⟩:=h.1 hk;exact⟨a,h1,y,by rw[ar (aF.1 h2).1];exact h2,h3⟩,h.2⟩
theorem Pv{sh:aD}:∀ {l:bK} {i j:Nat},UA sh l i=some j->∃x,l[j-i]?=some x/\i<=j/\x.shape=sh
 |x::l,i,j,h=>by
  unfold UA at h;split at h
  ·rename_i hc;cases h;exact⟨x,by simp,bO _,hc⟩
  ·obtain⟨y,h1,h2,h3⟩:=Pv h;refine⟨y,?_,by omega,h3⟩;rw[show j-i=(j-(i+1))+1 by omega];exact h1
theorem a2P(al:bK)(sh:aD):(∃m,(Sv al sh).1=al++m)/\∃a:Nat,(Sv al sh).2=dZ a/\∃y,(Sv al sh).1[a]?=some y/\y.shape=sh:=by
 unfold Sv;cases h:UA sh al 0 with
 |some i=>
  obtain⟨x,h1,_,h3⟩:=Pv h;exact⟨⟨[],by simp⟩,i,rfl,x,by simpa using h1,h3⟩
 |none=>exact⟨⟨_,rfl⟩,al.length,rfl,⟨sh,[]⟩,by simp,rfl⟩
theorem a2S(al:bK)(c:aO)(p:Int)(tk:ay):(∃m,(NR al c).1=al++m)/\L3 (NR al c).1 ⟨p,c,(NR al c).2,tk⟩:=by
 unfold NR;by_cases hk:c.kind=1\/c.kind=2
 ·rw[bN hk];obtain⟨h1,h2⟩:=a2P al (B2 c.pat);exact⟨h1,fun _=>h2,fun h=>absurd hk h⟩
 ·rw[b9 hk];exact⟨⟨[],by simp⟩,fun h=>absurd h hk,fun _=>rfl⟩
theorem a2T{al:bK}{ns:bE}{p:Int}{c:aO}(h:∀x∈ns,L3 al x):∀x∈(Jl al ns p c).1.2,L3 (Jl al ns p c).1.1 x:=by
 unfold Jl;cases My p c ns 0 with
 |some i=>exact h
 |none=>
  obtain⟨⟨m,hm⟩,h2⟩:=a2S al c p [];intro x hx;rcases aR.1 hx with hx|hx
  ·show L3 (NR al c).1 x;rw[hm];exact(h x hx).mono m
  ·rw[cZ.1 hx];exact h2
theorem YU:∀(cs:ai) (s:(bK×bE)×Int),(∀x∈s.1.2,L3 s.1.1 x)->∀x∈(cs.foldl FP s).1.2,L3 (cs.foldl FP s).1.1 x
 | [],_,h=>h
 |c::cs,s,h=>YU cs (FP s c) (a2T h)
theorem YV:∀(l:aj) (z:(bK×bE)×bC),(∀x∈z.1.2,L3 z.1.1 x)->∀x∈(l.foldl Gm z).1.2,L3 (l.foldl Gm z).1.1 x
 | [],_,h=>h
 |r::l,z,h=>YV l (Gm z r) (YU (gm r) (z.1,0) h)
theorem a0o(tk:ay)(rs:aj):∀x∈(cr tk rs).1.2,L3 (cr tk rs).1.1 x:=
 YV rs (([],[root tk]),[]) (fun x hx=>by
  rw[cZ.1 hx];exact⟨fun h=>by simp[root]at h,fun _=>rfl⟩)
theorem Yb{tk:ay}{rs:aj}{i:Nat}{x:Node}(h1:1<=i)(hx:(cr tk rs).1.2[i]?=some x):∃r∈rs,x.cond∈gm r:=by
 have hp:=(xJ tk rs).1;obtain⟨p,hpp,hpi⟩:=hp.below i x h1 hx;obtain⟨r,hr,j,j1,j2,e⟩:=hp.path i h1 (aF.1 hx).1;rw[xH hx h1 hpp hpi]at e;exact⟨r,hr,bu (by rw[<-e];simp:x.cond∈(gm r).take j)⟩
end Go.Cx
namespace Go.Cx
open Go.RowKit Go.Proofs Tryz
theorem a5q(a:aJ)(f:aD)(K:Bool->aJ->Option aJ)(hf:f.args.length<=1099511627776):∀(rest:aJ) (i:Nat) (v:Bool) (w:aJ),(∀x∈rest,x.args.length<=1099511627776)->w.length+2*rest.length<=1048576->
 (v=true->dV a f K rest i v w=K true (w++rest))/\
 (v=false->(dV a f K rest i v w=K true (w++vp f rest))\/(dV a f K rest i v w=K false (w++rest)/\vp f rest=rest++[f])):=by
 intro rest
 induction rest with
 |nil=>intro i v w _ _;exact⟨fun h=>by subst h;simp[dV],fun h=>by subst h;exact .inr ⟨by simp[dV],rfl⟩⟩
 |cons x xs ih=>
  intro i v w hs hl;simp only[aP]at hl;have hx:=hs x (by simp);have hs':∀y∈xs,y.args.length<=1099511627776:=fun y hy=>hs y (by simp[hy])
  have cx:=KL x hx;have cf:=KL f hf;have nx:=fun w':aJ=>fun h:w'.length<1099511627776=>fZ (w:=w') (c:=aD.c) (y:=[D.str x.rel,D.sl (x.args.map tx)]) (b:=40) h (by decide)
  have nf:=fun w':aJ=>fun h:w'.length<1099511627776=>fZ (w:=w') (c:=aD.c) (y:=[D.str f.rel,D.sl (f.args.map tx)]) (b:=40) h (by decide)
  constructor
  ·intro h;subst h;rw[dV,bW,aS,cx,aA,nx w (by omega),aI,(ih (i+1) true (w++[x]) hs' (by simp;omega)).1 rfl];simp
  ·intro h;subst h;rw[dV,cT,aI,X3,aA];by_cases hgt:oR x f>0
   ·left
    have e2:room (((w.map aD.c)++[[D.str f.rel,D.sl (f.args.map tx)]]).length+[[D.str x.rel,D.sl (x.args.map tx)]].length) 40=true:=by
     have:=nx (w++[f]) (by simp;omega);rw[bA]at this;exact this
    rw[bG hgt,aI,cf,aA,nf w (by omega),aI,cx,aA,e2,aI];rw[(ih (i+1) true (w++[f]++[x]) hs' (by simp;omega)).1 rfl,vp,bN hgt];simp
   ·rw[bM hgt,aS,cx,aA,nx w (by omega),aI];rw[vp,b9 hgt];rcases(ih (i+1) false (w++[x]) hs' (by simp;omega)).2 rfl with q|⟨q1,q2⟩
    ·left;rw[q];simp
    ·right;rw[q1,q2];simp
theorem a5p(l:aJ)(f:aD)(hf:f.args.length<=1099511627776)(hl:∀x∈l,x.args.length<=1099511627776)(hn:l.length<=1000):th l f=some (vp f l):=by
 unfold th;rcases(a5q l f _ hf l 0 false [] hl (by simp;omega)).2 rfl with q|⟨q1,q2⟩
 ·rw[q];rfl
 ·rw[q1,q2];show(bif !false then _ else _)=_;rw[cT,aI,KL f hf,aA,ck,fZ (w:=l) (c:=aD.c) (y:=[D.str f.rel,D.sl (f.args.map tx)]) (by omega) (by decide),aI]
theorem a5e(l:aJ)(f:aD)(hl:sw aD.wt l<=1048576)(hf:f.wt<=1048576):tX l f=some (Lj l f):=by
 have hm:∀x∈l,x.args.length<=1048576:=fun x hx=>by have:=aD.dY (n:=1048576) (p:=x) (by have:=tO (w:=aD.wt) hx;omega);omega
 have hlen:=tN aD.wt l;have cp:=Bh l (by omega) hm;unfold tX Lj;rw[Wy l hl,aA];cases h1:iK l with
 |false=>rw[cT,aI,cp,aA,b9 (by simp)]
 |true=>
  have h24:=sY h1;rw[bW,aS,X8 f hf,aA];cases h2:rX f with
  |false=>rw[cT,aI,cp,aA,b9 (by simp)]
  |true=>
   rw[bW,aS,a3C,aA,Ng];by_cases h3:f∈l
   ·rw[bG h3,aI,cp,aA,b9 (by simp[h3])]
   ·rw[bM h3,aS,ax];by_cases h4:l.length=24
    ·rw[bG (by omega),aI,cp,aA,b9 (by simp[h4])]
    ·rw[bM (by omega),aS,a5p l f (by have:=aD.dY hf;omega) (fun x hx=>by have:=hm x hx;omega) (by omega),aA,bN ⟨rfl,rfl,h3,h4⟩]
end Go.Cx
namespace Go.Cx
open Go.RowKit Go.Proofs Tryz
structure BD(n:aH):Prop where
 rules:sw aK.wt n.rules<=1048576
 facts:sw aD.wt n.facts<=1048576
 ends:n.ends.length<=1048576
 au:n.au.length<=1048576
 cj:∀a∈n.au,a.shape.wt<=1048576/\FS a.facts
 nodes:n.nodes.length<=1048576
 node:∀x∈n.nodes,x.cond.wt<=1048576/\x.tokens.length<=1048576/\∀t∈x.tokens,TK 1048576 t
theorem FS.args{fs:aJ}(h:FS fs):∀f∈fs,f.args.length<=1048576:=fun f hf=>aD.dY (h.2 f hf)
theorem a0V(l:ay)(hl:l.length<=1048576)(h:∀t∈l,TK 1048576 t):oT l=some l:=by
 unfold oT;rw[Dd (c:=aU.c) (b:=48) (f:=qm) (g:=fun x=>x) (L:=s7 l _) (k:=_) (by decide) (fun _ _=>rfl) (fun _ _ _ _=>rfl) _ _ _ (fun t ht=>Xy t (h t ht)) (by simp;omega)];simp
theorem Zw(l:ay)(hl:l.length<=1048576)(h:∀t∈l,TK 1048576 t):lP l=some l:=by
 unfold lP;rw[Dd (c:=aU.c) (b:=48) (f:=fun t:aU=>(cq t.facts).bind fun y=>(jF t.bind).bind fun z=>some (⟨y,z⟩:aU)) (g:=fun x=>x) (L:=iW l _) (k:=_) (by decide) (fun _ _=>rfl) (fun x xs i w=>by
  rw[iW];cases cq x.facts with
  |none=>rfl
  |some a=>cases jF x.bind<;>rfl) _ _ _ (fun t ht=>by
  have hk:=h t ht;rw[Bh t.facts hk.1 (fun f hf=>aD.dY (hk.2.1 f hf)),aA,S3 t.bind (by have:=hk.2.2.1;omega)];rfl) (by simp;omega)]
 simp
theorem a6d(l:bC)(h:l.length<=1048576):As l=some l:=by
 unfold As;rw[Gk (by simp;omega) (by decide),aI,ck]
theorem a5r(l:bC)(h:l.length<=1048576):sJ l=some l:=by
 unfold sJ;rw[Gk (by simp;omega) (by decide),aI,ck]
theorem a9X(n:aH)(h:BD n):Gd n=some n:=by
 have hF:=FS.F0 h.facts;have h1:=h.au;have h2:=h.nodes;unfold Gd;rw[Qy n.rules h.rules,aA,a6d n.ends h.ends,aA,F6 n.facts hF.1 hF.args,aA];rw[Dd (c:=aZ.c) (b:=64) (f:=fun a:aZ=>(eS a.shape).bind fun y=>(fo a.facts).bind fun z=>some (⟨y,z⟩:aZ)) (g:=fun x=>x) (L:=uG n _ _ _ _) (k:=_) (by decide) (fun _ _=>rfl) (fun x xs i w=>by
  rw[uG];cases eS x.shape with
  |none=>rfl
  |some a=>cases fo x.facts<;>rfl) _ _ _ (fun a ha=>by
  obtain⟨g1,g2⟩:=h.cj a ha;rw[Xz a.shape (by have:=aD.dY g1;omega),aA,F6 a.facts g2.1 g2.args];rfl) (by simp;omega)]
 rw[Dd (c:=Node.c) (b:=120) (f:=fun x:Node=>(ju x.cond).bind fun y=>(oT x.tokens).bind fun z=>some (⟨x.parent,y,x.cj,z⟩:Node)) (g:=fun x=>x) (L:=uH n _ _ _ _ _) (k:=_) (by decide) (fun _ _=>rfl) (fun x xs i w=>by
  rw[uH];cases ju x.cond with
  |none=>rfl
  |some a=>cases oT x.tokens<;>rfl) _ _ _ (fun x hx=>by
  obtain⟨g1,g2,g3⟩:=h.node x hx;rw[PL x.cond (by have:=aD.dY (aO.fU g1);omega),aA,a0V x.tokens g2 g3];rfl) (by simp;omega)]
 simp
theorem Om(n:aH)(h:BD n):iV n=some n:=by
 have hF:=FS.F0 h.facts;have h1:=h.au;have h2:=h.nodes;unfold iV;rw[QW n.rules h.rules,aA,a5r n.ends h.ends,aA,Bh n.facts hF.1 hF.args,aA];rw[Dd (c:=aZ.c) (b:=64) (f:=fun a:aZ=>(eE a.shape).bind fun y=>(cq a.facts).bind fun z=>some (⟨y,z⟩:aZ)) (g:=fun x=>x) (L:=iE n _ _ _ _) (k:=_) (by decide) (fun _ _=>rfl) (fun x xs i w=>by
  rw[iE];cases eE x.shape with
  |none=>rfl
  |some a=>cases cq x.facts<;>rfl) _ _ _ (fun a ha=>by
  obtain⟨g1,g2⟩:=h.cj a ha;rw[X7 a.shape (by have:=aD.dY g1;omega),aA,Bh a.facts g2.1 g2.args];rfl) (by simp;omega)]
 rw[Dd (c:=Node.c) (b:=120) (f:=fun x:Node=>(fH x.cond).bind fun y=>(lP x.tokens).bind fun z=>some (⟨x.parent,y,x.cj,z⟩:Node)) (g:=fun x=>x) (L:=iF n _ _ _ _ _) (k:=_) (by decide) (fun _ _=>rfl) (fun x xs i w=>by
  rw[iF];cases fH x.cond with
  |none=>rfl
  |some a=>cases lP x.tokens<;>rfl) _ _ _ (fun x hx=>by
  obtain⟨g1,g2,g3⟩:=h.node x hx;rw[Ol x.cond (by have:=aD.dY (aO.fU g1);omega),aA,Zw x.tokens g2 g3];rfl) (by simp;omega)]
 simp
theorem CZ{n:aH}(h:NF n=true):r9 n.rules=true/\iK n.facts=true/\0<=n.bp/\n=ni n.rules n.facts n.bp:=by
 unfold NF JC ni at h;simp only[aV,bI]at h;obtain⟨b1,b2,b0,_,b3,_,b5,b4⟩:=h;refine⟨b1,b2,b0,?_⟩;unfold ni;cases n;simp only at b3 b4 b5⊢;rw[<-b3,<-b4,<-b5]
theorem Ov{rs:aj}{fs:aJ}{t:Int}(h1:r9 rs=true)(h2:iK fs=true):NF (ni rs fs t)=decide (0<=t):=by
 unfold NF JC ni;simp[h1,h2]
theorem Ix{f:aD}(h:rX f=true):f.wt<=100:=by
 unfold rX at h;simp only[aV,bI,aq]at h;obtain⟨h1,h2,h3⟩:=h;have a1:=Np h2;have a2:=LZ f.args (fun x hx=>by have:=FJ (h1 x hx);omega);unfold aD.wt tw;unfold tw at a2;omega
theorem C1{fs:aJ}(h:iK fs=true):∀f∈fs,rX f=true:=by
 unfold iK at h;simp only[aV]at h;exact Kb h.1
theorem O5{α:Type}{w:α->Nat}{B:Nat}:∀(l:List α),(∀x∈l,w x<=B)->sw w l<=(B+1)*l.length
 | [],_=>by simp[sw]
 |x::l,h=>by
  have h1:=O5 l fun y hy=>h y (by simp[hy])
  have h2:=h x (by simp);rw[nq,aP,Nat.mul_add];omega
theorem I8{fs:aJ}(h:iK fs=true):sw aD.wt fs<=2424:=by
 have h1:=O5 (w:=aD.wt) (B:=100) fs fun f hf=>Ix (C1 h f hf)
 have h2:=sY h;have:(100+1)*fs.length<=(100+1)*24:=cv _ h2;omega
theorem zI(ns:bE)(fs:aJ)(i:Nat):(ld ns fs)[i]?=(ns[i]?).map fun x=>⟨x.parent,x.cond,x.cj,B3 (fY ns (dZ i)) fs⟩:=by
 unfold ld;rw[Nd,cW]
theorem Bc(ns:bE)(fs:aJ):(ld ns fs).length=ns.length:=UM ns fs ns 0
theorem xY{rs:aj}(h:r9 rs=true):rs.length<=6:=by unfold r9 at h;simp only[aV,bI]at h;omega
theorem Mi{rs:aj}(tk:ay)(h:r9 rs=true):(cr tk rs).1.1.length<=24:=by
 have h6:=xY h;have main:∀(l:aj) (z:(bK×bE)×bC),(∀r∈l,j7 r=true)->(l.foldl Gm z).1.1.length<=z.1.1.length+4*l.length:=by
  intro l
  induction l with
  |nil=>intro z _;exact bO _
  |cons r l ih=>
   intro z hl;have h1:=ih (Gm z r) (fun x hx=>hl x (by simp[hx]));have h2:=(FQ (gm r) (z.1,0)).1;have h3:=zK (hl r (by simp));have h4:(Gm z r).1.1.length=((gm r).foldl FP (z.1,0)).1.1.length:=rfl;rw[dM,aP];dsimp only at h2;omega
 have:=main rs (([],[root tk]),[]) (rA h);unfold cr;simp only[bS]at this;omega
theorem JG{rs:aj}{fs:aJ}(h1:r9 rs=true)(h2:iK fs=true){i:Nat}{x:Node}(hx:(ld (cr [] rs).1.2 fs)[i]?=some x):x.cond.wt<=1048576/\x.tokens.length<=390625/\(∀t∈x.tokens,TK 4 t)/\KD x.tokens:=by
 have hv:=rA h1;have hok:=JX [] hv (xY h1);rw[zI]at hx;obtain⟨y,hy,rfl⟩:=Bx.1 hx;have hFS:=FS.F0 (by have:=I8 h2;omega:sw aD.wt fs<=1048576);have QO:∀c∈fY (cr [] rs).1.2 (dZ i),c.wt<=1048576:=by
  intro c hc;obtain⟨z,hz,e⟩:=JP hc;rw[<-e];exact hok.wt z hz
 refine⟨hok.wt y (aE hy),Yg (hok.path i) (sY h2),fun t ht=>?_,a0s (KZ h2)⟩;exact(Ts hFS _ [⟨[],[]⟩] 0 QO SE t ht).le (by have:=hok.path i;omega)
theorem MU{rs:aj}{fs:aJ}(t:Int)(h1:r9 rs=true)(h2:iK fs=true)(hr:sw aK.wt rs<=1048576):BD (ni rs fs t):=by
 have hv:=rA h1;have h6:=xY h1;have hw:=I8 h2;have hl:=F7 [] hv h6;refine⟨hr,by show sw aD.wt fs<=1048576;omega,?_,?_,?_,?_,?_⟩
 ·show(cr [] rs).2.length<=1048576;rw[(xJ [] rs).2.1];omega
 ·show(lZ (cr [] rs).1.1 fs).length<=1048576;unfold lZ;rw[ax];have:=Mi [] h1;omega
 ·intro a ha;obtain⟨y,hy,rfl⟩:=cE.1 (show a∈(cr [] rs).1.1.map _ from ha);refine⟨(vi [] hv y hy).1,?_,fun f hf=>?_⟩
  ·have:=sx (fun f=>(yR y.shape f []).2) fs;have:=sY h2;show(xw y.shape [] fs).length<=1048576;unfold xw;omega
  ·have:=Ix (C1 h2 f (gr.1 hf).1);omega
 ·show(ld (cr [] rs).1.2 fs).length<=1048576;rw[Bc];omega
 ·intro x hx;obtain⟨i,hi⟩:=dN (show x∈ld (cr [] rs).1.2 fs from hx);obtain⟨g1,g2,g3,_⟩:=JG h1 h2 hi;exact⟨g1,by omega,fun t ht=>(g3 t ht).le (by omega)⟩
def VK(now old:ay):Nat:=now.length-MG now old
theorem QZ(now old:ay):MG now old<=now.length:=sx _ _
theorem S7(t:aU)(l old:ay):MG (t::l) old=(bif Rh old t then 1 else 0)+MG l old:=by
 unfold MG;cases h:Rh old t with
 |true=>rw[List.filter_cons_of_pos (by rw[h]),aP,aI];omega
 |false=>rw[List.filter_cons_of_neg (by simp[h]),aS];omega
def stepT(al:bK)(f:aD)(x:Node)(now old:ay)(t:Int):Int:=
 if x.cj<0 then IntKind.i64.wrap (t+((VK now old:Nat):Int))else match iP al x.cj with
  |none=>t
  |some y=>bif (yR y.shape f []).2 then IntKind.i64.wrap (IntKind.i64.wrap (t+IntKind.i64.wrap (((VK now old:Nat):Int)*((y.facts.length:Nat):Int)))+((MG now old:Nat):Int))else IntKind.i64.wrap (t+IntKind.i64.wrap (((VK now old:Nat):Int)*((y.facts.length:Nat):Int)))
def F9(ns:bE)(p:Int):ay:=match iP ns p with|some x=>x.tokens|none=>[]
def trN(N0 N1:bE)(al:bK)(f:aD):bE->Int->Int
 | [],t=>t
 |x::xs,t=>trN N0 N1 al f xs (stepT al f x (F9 N1 x.parent) (F9 N0 x.parent) t)
theorem a5m(l:ay)(t:aU):sK l t=some (Rh l t):=by
 unfold sK;have:∀(r:ay) (i:Nat),kE l t (some false) r i=some (Rh r t):=by
  intro r
  induction r with
  |nil=>intro i;rfl
  |cons x r ih=>
   intro i;rw[kE,a5h,aA,ih];unfold Rh;rw[xR];by_cases e:x.facts=t.facts
   ·rw[show((cmpL oR x.facts t.facts:Int)==0)=true by simp[NW.2 e],aI,bG e,Bool.true_or]
   ·rw[show((cmpL oR x.facts t.facts:Int)==0)=false by
     have:cmpL oR x.facts t.facts≠0:=fun h=>e (NW.1 h)
     simp[this],aS,bM e,qW]
 exact this l 0
theorem X2(n:aH)(f:aD)(y3:aH×Unit)(u:Int)(i1:Nat)(x xx y:Node)(k:Int->Int->Option aH)(hy:iP n.nodes x.parent=some y):∀(l:ay) (i a b:Nat),a+l.length<=1099511627000->b+l.length<=1099511627000->
 jg n f y3 u i1 x xx k l i (a:Int) (b:Int)=k ((a+MG l y.tokens:Nat):Int) ((b+VK l y.tokens:Nat):Int)
 | [],i,a,b,_,_=>rfl
 |t::l,i,a,b,h1,h2=>by
  simp only[aP]at h1 h2;have ih:=X2 n f y3 u i1 x xx y k hy l (i+1);have hle:=QZ l y.tokens;rw[jg,hy,aA,a5m,aA];unfold VK at*;rw[S7,aP];cases Rh y.tokens t with
  |true=>
   rw[aI,aI,Jb (by omega),ih (a+1) b (by omega) (by omega)]
   congr 2<;>omega
  |false=>
   rw[aS,aS,Jb (by omega),ih a (b+1) (by omega) (by omega)]
   congr 2<;>omega
def a7l(N0 N1:bE)(al:bK)(x:Node):Prop:=(∃p0 p1,iP N0 x.parent=some p0/\iP N1 x.parent=some p1/\p1.tokens.length<=1048576)/\(x.cj<0\/∃y,iP al x.cj=some y/\y.shape.wt<=1048576)
theorem X1(n:aH)(f:aD)(y3:aH×Unit)(k:Int->Option aH)(hf:f.wt<=1048576):∀(l:bE) (i:Nat) (u:Int),1<=i->(∀x∈l,a7l n.nodes y3.1.nodes y3.1.au x)->fL n f y3 k l i u=k (trN n.nodes y3.1.nodes y3.1.au f l u)
 | [],_,_,_,_=>rfl
 |x::l,i,u,hi,hU=>by
  have ih:=X1 n f y3 k hf l (i+1);have hU':=fun z (hz:z∈l)=>hU z (by simp[hz])
  obtain⟨⟨p0,p1,e0,e1,hl⟩,ha⟩:=hU x (by simp);rw[fL,show(((i:Nat):Int)==0)=false by simp;omega,aS,e1,aA,uV (by omega),aI];rw[show(0:Int)=((0:Nat):Int)from rfl,X2 n f y3 u i x p1 p0 _ e0 p1.tokens 0 0 0 (by omega) (by omega),cW,cW,trN];unfold stepT;rw[show F9 y3.1.nodes x.parent=p1.tokens by unfold F9;rw[e1],show F9 n.nodes x.parent=p0.tokens by unfold F9;rw[e0]];by_cases hal:x.cj<0
  ·rw[bG (by simpa using hal),aI,bN hal,ih _ (by omega) hU']
  ·rw[bM (by simpa using hal),aS,b9 hal];rcases ha with ha|⟨y,hy,hyw⟩
   ·exact absurd ha hal
   ·rw[hy,aA,a3F y.shape f [] hyw hf PB.nil,aA,ax];dsimp only;cases(yR y.shape f []).2 with
    |true=>rw[aI,aI,ih _ (by omega) hU']
    |false=>rw[aS,aS,ih _ (by omega) hU']
theorem ON{α:Type}(l:List α)(i:Nat):iP l (dZ i)=l[i]?:=by
 unfold iP dZ;rw[bG (by omega),aI];rfl
theorem a3X{rs:aj}{fs0 fs:aJ}(h1:r9 rs=true)(h0:iK fs0=true)(h2:iK fs=true){i:Nat}(hi:1<=i){x:Node}(hx:(cr [] rs).1.2[i]?=some x):
 ∃(p:Nat) (q:Node),p<i/\x.parent=dZ p/\(cr [] rs).1.2[p]?=some q/\(ld (cr [] rs).1.2 fs0)[p]?=some ⟨q.parent,q.cond,q.cj,B3 (fY (cr [] rs).1.2 (dZ p)) fs0⟩/\(ld (cr [] rs).1.2 fs)[p]?=some ⟨q.parent,q.cond,q.cj,B3 (fY (cr [] rs).1.2 (dZ p)) fs⟩/\
  x.cond.pat.args.length<=3/\x.cond.wt<=1048576/\((x.cj<0/\x.cond.kind≠1/\x.cond.kind≠2)\/∃(a:Nat) (y:aZ),x.cj=dZ a/\(cr [] rs).1.1[a]?=some y/\y.shape=B2 x.cond.pat/\y.shape.wt<=1048576):=by
 have hv:=rA h1;obtain⟨p,hp,hpi⟩:=(xJ [] rs).1.below i x hi hx;have RE:=(aF.1 hx).1;have hq:=af (show p<(cr [] rs).1.2.length by omega);obtain⟨r,hr,hc⟩:=Yb hi hx;have hal:=a0o [] rs x (aE hx);refine⟨p,_,hpi,hp,hq,by rw[zI,hq];rfl,by rw[zI,hq];rfl,(Kp (hv r hr) _ hc).2.1,JQ (hv r hr) _ hc,?_⟩;by_cases hk:x.cond.kind=1\/x.cond.kind=2
 ·obtain⟨a,e1,y,e2,e3⟩:=hal.1 hk;exact .inr ⟨a,y,e1,e2,e3,(vi [] hv y (aE e2)).1⟩
 ·exact .inl ⟨by rw[hal.2 hk];decide,fun e=>hk (.inl e),fun e=>hk (.inr e)⟩
def Za(n:aH)(fs:aJ)(f:aD):aH:=ni n.rules fs (trN n.nodes (ld (cr [] n.rules).1.2 fs) (lZ (cr [] n.rules).1.1 fs) f ((ld (cr [] n.rules).1.2 fs).drop 1) n.bp)
theorem a9A(n:aH)(fs:aJ)(f:aD)(hn:NF n=true)(hr:sw aK.wt n.rules<=1048576)(h2:iK fs=true)(hf:f.wt<=1048576):tg n fs f=some (Za n fs f):=by
 obtain⟨h1,h0,ht,e⟩:=CZ hn;have hv:=rA h1;have h6:=xY h1;have hFS:=FS.F0 (by have:=I8 h2;omega:sw aD.wt fs<=1048576);have hok:BD n:=by rw[e];exact MU _ h1 h0 hr
 have hN:n.nodes=ld (cr [] n.rules).1.2 n.facts:=congrArg aH.nodes e;have hA:n.au=lZ (cr [] n.rules).1.1 n.facts:=congrArg aH.au e;have hE:n.ends=(cr [] n.rules).2:=congrArg aH.ends e;have hform:n.nodes.map pV=(cr [] n.rules).1.2.map pV:=by rw[hN];exact Hj _ _ _ _
 have hp0:=JX [] hv h6;have a2v:AY n.nodes:=by
  refine⟨hok.nodes,fun x hx=>(hok.node x hx).1,fun i=>?_⟩;rw[tv hform];exact hp0.path i
 have hfA:lZ n.au fs=lZ (cr [] n.rules).1.1 fs:=by
  rw[hA];unfold lZ;rw[yt];rfl
 have hfN:ld n.nodes fs=ld (cr [] n.rules).1.2 fs:=by
  have key:∀(l m:bE) (i:Nat),l.map uf=m.map uf->oB n.nodes fs l i=oB (cr [] n.rules).1.2 fs m i:=by
   intro l
   induction l with
   |nil=>intro m i hm;cases m with
    |nil=>rfl
    |cons y m=>simp at hm
   |cons x l ih=>intro m i hm;cases m with
    |nil=>simp at hm
    |cons y m=>
     rw[bB,bB]at hm;obtain⟨q1,q2⟩:=xS hm;have e1:x.parent=y.parent:=(jf q1).1;have e2:x.cj=y.cj:=(jf (jf q1).2).1;have e3:x.cond=y.cond:=(jf (jf q1).2).2;rw[oB,oB,ih m (i+1) q2,tv hform,e1,e2,e3]
  refine key _ _ 0 ?_;rw[hN];have:∀(ns l:bE) (i:Nat),(oB ns n.facts l i).map uf=l.map uf:=by
   intro ns l
   induction l with
   |nil=>intro i;rfl
   |cons x l ih=>intro i;rw[oB,bB,ih];rfl
  exact this _ _ _
 unfold tg;rw[Om n hok,aA,a1J n fs hFS (sY h2) hok.au (fun x hx=>(hok.cj x hx).1) a2v,aA,hfA,hfN];have hlen:=Bc (cr [] n.rules).1.2 fs;have aBL:=F7 [] hv h6;dsimp only;rw[uV (by omega),aI];have tu:ld (cr [] n.rules).1.2 fs=(ld (cr [] n.rules).1.2 fs).take 1++(ld (cr [] n.rules).1.2 fs).drop 1:=(cF 1 _).symm;cases hns:ld (cr [] n.rules).1.2 fs with
 |nil=>
  have:=(xJ [] n.rules).1.pos;rw[hns]at hlen;simp at hlen;omega
 |cons x0 l=>
  rw[fL,show(((0:Nat):Int)==0)=true from rfl,aI,X1 n f _ _ hf l 1 _ (bO _) (fun x hx=>?_)]
  ·unfold Za ni;rw[hns,hE];rfl
  ·obtain⟨i,hi⟩:=dN hx;have hi2:(ld (cr [] n.rules).1.2 fs)[i+1]?=some x:=by rw[hns];exact hi
   rw[zI]at hi2;obtain⟨z,hz,rfl⟩:=Bx.1 hi2;obtain⟨p,q,_,e1,_,e3,e4,_,_,e7⟩:=a3X h1 h0 h2 (i:=i+1) (by omega) hz;have g4:=(JG h1 h2 e4).2.1;have u3:=(show iP n.nodes z.parent=(ld (cr [] n.rules).1.2 n.facts)[p]? by rw[e1,ON,hN]).trans e3;have u4:=(show iP (x0::l) z.parent=(ld (cr [] n.rules).1.2 fs)[p]? by rw[e1,ON,hns]).trans e4;refine⟨⟨_,_,u3,u4,by omega⟩,?_⟩
   ·rcases e7 with⟨e7,_⟩|⟨a,y,e7,e8,_,e10⟩
    ·exact .inl e7
    ·refine .inr ⟨⟨y.shape,xw y.shape [] fs⟩,?_,e10⟩;show iP (lZ (cr [] n.rules).1.1 fs) z.cj=_;rw[e7,ON];unfold lZ;rw[bt,e8];rfl
end Go.Cx
namespace Go.Cx
open Go.RowKit Go.Proofs Tryz
structure Ren(h:Bytes->Bytes)(V:Bytes->Prop):Prop where
 var:∀v,V v->nu v=true
 aAB:∀t,nu t=false->h t=t
 aBx:∀v,V v->nu (h v)=true
 inj:∀u v,V u->V v->h u=h v->u=v
structure RB(h:Bytes->Bytes)(V:Bytes->Prop)(b b':List aX):Prop where
 len:b'.length=b.length
 get:∀v,V v->Ae (h v) b'=Ae v b
 ok:tW b=true
 ok':tW b'=true
structure RT(h:Bytes->Bytes)(V:Bytes->Prop)(t t':aU):Prop where
 facts:t'.facts=t.facts
 bind:RB h V t.bind t'.bind
inductive RL(R:aU->aU->Prop):List aU->List aU->Prop
 |nil:RL R [] []
 |cons {a b:aU} {l m:ay}:R a b->RL R l m->RL R (a::l) (b::m)
end Go.Cx
namespace Go.Cx
open Go.RowKit Go.Proofs Tryz
theorem FK(A:bK)(fs:aJ):(lZ A fs).length=A.length:=by unfold lZ;rw[ax]
theorem Rb(A:bK)(x:aZ)(fs:aJ):lZ (A++[x]) fs=lZ A fs++[⟨x.shape,xw x.shape [] fs⟩]:=by unfold lZ;rw[bA];rfl
def PD(n:aH)(f:aD):aH×Bool:=bif NF n&&(Lj n.facts f).2 then(Za n (Lj n.facts f).1 f,true)else(n,false)
def a2N(n m:aH):Prop:=m=n\/∃fs t,r9 m.rules=true/\m.rules=n.rules/\iK fs=true/\m=ni m.rules fs t
theorem Ur(n:aH)(f:aD):a2N n (PD n f).1:=by
 unfold PD;cases hb:NF n&&(Lj n.facts f).2 with
 |false=>exact .inl rfl
 |true=>
  rw[aV]at hb;exact .inr ⟨_,_,(CZ hb.1).1,rfl,Sx hb.2,rfl⟩
theorem a2N.ok{n m:aH}(h:a2N n m)(hn:BD n):BD m:=by
 rcases h with rfl|⟨fs,t,h1,h2,h3,h4⟩
 ·exact hn
 ·rw[h4];exact MU t h1 h3 (by rw[h2];exact hn.rules)
theorem a5t(n:aH)(f:aD)(h:BD n)(hf:f.wt<=1048576):oS n f=some (PD n f):=by
 unfold oS CH PD;rw[S4 n h.rules h.facts,aA];cases hb:NF n with
 |false=>rw[cT,aI,Om n h];rfl
 |true=>
  rw[bW,aS,a5e n.facts f h.facts hf,aA];cases ha:(Lj n.facts f).2 with
  |false=>rw[cT,aI,Om n h];rfl
  |true=>rw[bW,aS,a9A n _ f hb h.rules (Sx ha) hf];rfl
def QE:aJ->aH->Nat->aH×Nat
 | [],n,c=>(n,c)
 |f::l,n,c=>bif (PD n f).2 then QE l (PD n f).1 (c+1)else QE l n c
theorem a3B(a:aJ)(K:Int->Int->aj->bC->bK->bE->aJ->Option (aH×Int)):∀(l:aJ) (i:Nat) (n:aH) (c:Nat),BD n->(∀f∈l,f.wt<=1048576)->c+l.length<=1099511627000->
 fV a K l i (c:Int) n.bp n.rules n.ends n.au n.nodes n.facts=K (((QE l n c).2:Nat):Int) (QE l n c).1.bp (QE l n c).1.rules (QE l n c).1.ends (QE l n c).1.au (QE l n c).1.nodes (QE l n c).1.facts
 | [],i,n,c,_,_,_=>rfl
 |f::l,i,n,c,hn,hf,hc=>by
  simp only[aP]at hc;rw[fV,show(⟨n.rules,n.ends,n.au,n.nodes,n.facts,n.bp⟩:aH)=n from rfl,a5t n f hn (hf f (by simp)),aA,QE];cases(PD n f).2 with
  |true=>rw[aI,aI,Jb (by omega),a3B a K l (i+1) _ (c+1) ((Ur n f).ok hn) (fun x hx=>hf x (by simp[hx])) (by omega)]
  |false=>rw[aS,aS,a3B a K l (i+1) n c hn (fun x hx=>hf x (by simp[hx])) (by omega)]
theorem a1I(n:aH)(l:aJ)(hn:BD n)(hl:FS l):mo n l=some ((QE l n 0).1,(((QE l n 0).2:Nat):Int)):=by
 have h1:=hl.1;unfold mo;rw[Om n hn,aA];exact a3B l _ l 0 n 0 hn hl.2 (by omega)
theorem Jq:iK []=true:=rfl
theorem Nb{rs:aj}(h:r9 rs=true):(⟨rs,(cr [⟨[],[]⟩] rs).2,(cr [⟨[],[]⟩] rs).1.1,(cr [⟨[],[]⟩] rs).1.2,[],0⟩:aH)=ni rs [] 0:=by
 have hv:=rA h;unfold ni;rw[UI (vi [] hv),UK hv];have e1:(cr [⟨[],[]⟩] rs).2=(cr [] rs).2:=by rw[gT,gT]
 have e2:(cr [⟨[],[]⟩] rs).1.1=(cr [] rs).1.1:=by rw[gT,gT]
 rw[e1,e2]
def Yy:aH:=⟨[],[],[],[],[],0⟩
def Uu(n:aH):aH:=bif NF n then(QE n.facts (ni n.rules [] 0) 0).1 else Yy
def a0t(rs:aj)(fs:aJ):Int:=bif r9 rs&&iK fs then(QE fs (ni rs [] 0) 0).1.bp else-1
theorem a0Z(rs:aj)(h:sw aK.wt rs<=1048576):jW rs=some (bif r9 rs then(ni rs [] 0,true)else(Yy,false)):=by
 rw[Y5 rs h];cases hb:r9 rs with
 |false=>rfl
 |true=>rw[aI,aI,Nb hb]
theorem TX(rs:aj)(hr:sw aK.wt rs<=1048576)(hb:r9 rs=true):qI rs [] 0=some (ni rs [] 0):=
 X0 rs [] 0 hr hb ⟨by simp,fun f hf=>by cases hf⟩ (by simp)
theorem a9D(n:aH)(h:BD n):mc n=some (Uu n):=by
 unfold mc Uu;rw[S4 n h.rules h.facts,aA];cases hb:NF n with
 |false=>rfl
 |true=>
  have h1:=(CZ hb).1;rw[bW,aS,TX _ h.rules h1,aA,a1I _ _ (MU 0 h1 Jq h.rules) (FS.F0 h.facts)];rfl
theorem a60(rs:aj)(fs:aJ)(hr:sw aK.wt rs<=1048576)(hf:sw aD.wt fs<=1048576):sI rs fs=some (a0t rs fs):=by
 unfold sI a0t;rw[a5f rs hr,aA];cases h1:r9 rs with
 |false=>rfl
 |true=>
  rw[bW,aS,Wy fs hf,aA];cases h2:iK fs with
  |false=>rfl
  |true=>rw[bW,aS,TX rs hr h1,aA,a1I _ _ (MU 0 h1 Jq hr) (FS.F0 hf)];rfl
end Go.Cx
namespace Go.Cx
open Go.RowKit Go.Proofs Tryz
theorem Sy{α:Type}{l:List α}{i:Int}{x:α}(h:iP l i=some x):x∈l:=by
 unfold iP at h;cases hd:decide (0<=i)with
 |false=>rw[hd]at h;cases h
 |true=>rw[hd,aI]at h;exact aE h
theorem V6{N:bE}(h:∀x∈N,x.tokens.length<=390625)(p:Int):(F9 N p).length<=390625:=by
 unfold F9;cases e:iP N p with
 |none=>simp
 |some x=>exact h x (Sy e)
theorem YW{al:bK}{f:aD}{x:Node}{now old:ay}{t:Int}(hn:now.length<=390625)(ha:∀y∈al,y.facts.length<=24)(h0:0<=t)(h1:t<=1000000000000000000):
 t<=stepT al f x now old t/\stepT al f x now old t<=t+10000000:=by
 have a1:VK now old<=390625:=by unfold VK;omega
 have a2:=QZ now old;unfold stepT;split
 ·rw[dS (pL.i64.2 (by omega))];omega
 ·cases e:iP al x.cj with
  |none=>dsimp only;omega
  |some y=>
   have hy:=ha y (Sy e);have a3:VK now old*y.facts.length<=390625*24:=Nat.mul_le_mul a1 hy;have e3:((VK now old:Nat):Int)*((y.facts.length:Nat):Int)=((VK now old*y.facts.length:Nat):Int):=(Int.natCast_mul _ _).symm;dsimp only;rw[e3,dS (n:=((VK now old*y.facts.length:Nat):Int)) (pL.i64.2 (by omega)),dS (n:=t+((VK now old*y.facts.length:Nat):Int)) (pL.i64.2 (by omega))];cases(yR y.shape f []).2 with
   |true=>rw[aI,dS (pL.i64.2 (by omega))];omega
   |false=>rw[aS];omega
theorem Yh{N0 N1:bE}{al:bK}{f:aD}(hN:∀x∈N1,x.tokens.length<=390625)(ha:∀y∈al,y.facts.length<=24):∀(l:bE) (t:Int),0<=t->t+10000000*(l.length:Int)<=1000000000000000000->
 t<=trN N0 N1 al f l t/\trN N0 N1 al f l t<=t+10000000*(l.length:Int)
 | [],t,_,_=>by rw[trN];simp
 |x::xs,t,h0,h1=>by
  rw[aP,Cj,Ck]at h1⊢;have s:=YW (x:=x) (f:=f) (old:=F9 N0 x.parent) (V6 hN x.parent) ha h0 (by omega);have r:=Yh (N0:=N0) (f:=f) hN ha xs (stepT al f x (F9 N1 x.parent) (F9 N0 x.parent) t) (by omega) (by omega);rw[trN];omega
theorem UL{rs:aj}{fs:aJ}(h1:r9 rs=true)(h2:iK fs=true):∀x∈ld (cr [] rs).1.2 fs,x.tokens.length<=390625:=by
 intro x hx;obtain⟨i,hi⟩:=dN hx;exact(JG h1 h2 hi).2.1
theorem UJ{al:bK}{fs:aJ}(h2:iK fs=true):∀y∈lZ al fs,y.facts.length<=24:=by
 intro y hy;obtain⟨z,_,rfl⟩:=cE.1 hy;exact dX (sx _ _) (sY h2)
theorem a2V{n:aH}{fs:aJ}(f:aD)(hb:NF n=true)(h2:iK fs=true)(ht:n.bp<=100000000000000000):
 ∃t,Za n fs f=ni n.rules fs t/\n.bp<=t/\t<=n.bp+250000000:=by
 obtain⟨h1,_,h0,_⟩:=CZ hb;have hl:=F7 [] (rA h1) (xY h1);have h3:((ld (cr [] n.rules).1.2 fs).drop 1).length<=25:=by rw[mi,Bc];omega
 have:=Yh (N0:=n.nodes) (f:=f) (UL h1 h2) (UJ (al:=(cr [] n.rules).1.1) h2) ((ld (cr [] n.rules).1.2 fs).drop 1) n.bp h0 (by omega);exact⟨_,rfl,by omega,by omega⟩
theorem Xk{n:aH}{f:aD}(hb:NF n=true)(hf:rX f=true)(hn:f∉n.facts)(h24:n.facts.length<24)(ht:n.bp<=100000000000000000):
 ∃t,PD n f=(ni n.rules (vp f n.facts) t,true)/\iK (vp f n.facts)=true/\n.bp<=t/\t<=n.bp+250000000:=by
 have h2:=(CZ hb).2.1;have ha:Lj n.facts f=(vp f n.facts,true):=by unfold Lj;rw[bN ⟨h2,hf,hn,by omega⟩]
 have h3:=OM hf h2 hn (by omega);obtain⟨t,e,e1,e2⟩:=a2V f hb h3 ht;exact⟨t,by unfold PD;rw[ha,hb];simp[e],h3,e1,e2⟩
theorem Lm:∀ {a b:aJ} {p q:Option aD},chainB p a=true->chainB q b=true->(∀x,x∈a↔x∈b)->a=b
 | [],[],_,_,_,_,_=>rfl
 | [],y::ys,_,_,_,_,h=>absurd ((h y).2 (by simp)) (by simp)
 |x::xs,[],_,_,_,_,h=>absurd ((h x).1 (by simp)) (by simp)
 |x::xs,y::ys,p,q,ha,hb,h=>by
  obtain⟨_,_,h3⟩:=vV ha;obtain⟨_,_,k3⟩:=vV hb;have e:x=y:=by
   rcases bL.1 ((h x).1 (by simp))with e|hx
   ·exact e
   rcases bL.1 ((h y).2 (by simp))with e|hy
   ·exact e.symm
   exact absurd (Ln (xC k3 x hx) (xC h3 y hy)) (BH y)
  subst e;have:xs=ys:=Lm h3 k3 fun z=>⟨fun hz=>by
   rcases bL.1 ((h z).1 (by simp[hz]))with rfl|q
   ·exact absurd (xC h3 z hz) (BH z)
   ·exact q,fun hz=>by
   rcases bL.1 ((h z).2 (by simp[hz]))with rfl|q
   ·exact absurd (xC k3 z hz) (BH z)
   ·exact q⟩
  rw[this]
theorem Vu{a b:aJ}(ha:iK a=true)(hb:iK b=true)(h:∀x,x∈a↔x∈b):a=b:=by
 unfold iK at ha hb;simp only[aV]at ha hb;exact Lm ha.1 hb.1 h
theorem WH:∀(l:aJ) (n:aH) (c:Nat),NF n=true->(∀f∈l,rX f=true)->l.Nodup->(∀f∈l,f∉n.facts)->n.facts.length+l.length<=24->n.bp+250000000*(l.length:Int)<=100000000000000000->
 ∃fs t,QE l n c=(ni n.rules fs t,c+l.length)/\iK fs=true/\0<=t/\t<=n.bp+250000000*(l.length:Int)/\∀x,x∈fs↔x∈n.facts\/x∈l
 | [],n,c,hb,_,_,_,_,_=>by
  obtain⟨_,h2,h0,h3⟩:=CZ hb;exact⟨n.facts,n.bp,by rw[<-h3];rfl,h2,h0,by simp,by simp⟩
 |f::l,n,c,hb,hf,hd,hn,h24,ht=>by
  rw[aP,Cj,Ck]at ht;rw[aP]at h24;rw[eV]at hd;obtain⟨h1,_,h0,_⟩:=CZ hb;obtain⟨t,e,h2,t1,t2⟩:=Xk hb (hf f (by simp)) (hn f (by simp)) (by omega) (by omega);have hb':NF (ni n.rules (vp f n.facts) t)=true:=by rw[Ov h1 h2];exact bG (by omega)
  obtain⟨fs,t',e',k1,k2,k3,k4⟩:=WH l (ni n.rules (vp f n.facts) t) (c+1) hb' (fun x hx=>hf x (by simp[hx])) hd.2 (fun x hx hq=>by
   rcases(J8 f n.facts x).1 hq with rfl|hq
   ·exact hd.1 hx
   ·exact hn x (by simp[hx]) hq) (by show(vp f n.facts).length+_<=_;rw[J7];omega) (by show t+_<=_;omega)
  refine⟨fs,t',?_,k1,k2,?_,fun x=>?_⟩
  ·rw[QE,e,aI,e',aP];exact congrArg (Prod.mk _) (by omega)
  ·rw[aP,Cj,Ck];have:t'<=t+250000000*(l.length:Int):=k3;omega
  ·rw[k4 x,bL];show x∈vp f n.facts\/_↔_;rw[J8];constructor
   ·rintro((h|h)|h)<;>simp[h]
   ·rintro(h|h|h)<;>simp[h]
theorem a0I(rs:aj)(fs:aJ)(t u:Int):JC (ni rs fs t) (ni rs fs u)=true:=by
 unfold JC ni;simp
theorem XX{rs:aj}(h:r9 rs=true):NF (ni rs [] 0)=true:=by rw[Ov h Jq];rfl
theorem a2Y{rs:aj}{fs l:aJ}(h1:r9 rs=true)(h2:iK fs=true)(hd:l.Nodup)(hl:∀x,x∈l↔x∈fs)(h24:l.length<=24):∃t,QE l (ni rs [] 0) 0=(ni rs fs t,l.length)/\0<=t/\t<=6000000000:=by
 obtain⟨gs,t,e,k1,k2,k3,k4⟩:=WH l (ni rs [] 0) 0 (XX h1) (fun f hf=>C1 h2 f ((hl f).1 hf)) hd (fun f _ h=>by cases h) (by show 0+_<=_;omega) (by show(0:Int)+_<=_;omega);have:gs=fs:=Vu k1 h2 fun x=>by
  rw[k4 x,<-hl x];constructor
  ·rintro(h|h)
   ·cases h
   ·exact h
  ·exact .inr
 subst this;have:t<=0+250000000*(l.length:Int):=k3;exact⟨t,by rw[e,cW];rfl,k2,by omega⟩
theorem a0Q{n:aH}(hb:NF n=true):∃t,Uu n=ni n.rules n.facts t/\a0t n.rules n.facts=t/\0<=t:=by
 obtain⟨h1,h2,_,_⟩:=CZ hb;obtain⟨t,e,k1,_⟩:=a2Y h1 h2 (KZ h2) (fun _=>Iff.rfl) (sY h2);refine⟨t,?_,?_,k1⟩
 ·unfold Uu;rw[hb,aI,e]
 ·unfold a0t;rw[h1,h2];simp only[xQ,aI];rw[e];rfl
end Go.Cx
namespace Go.Cx
open Go.RowKit Go.Proofs Tryz
end Go.Cx
namespace Go.Cx
open Go.RowKit Go.Proofs Tryz
structure Frg(rs:List aK)(f:aD):Prop where
 ne:f.rel≠[]
 cond:∀r∈rs,∀c∈r.conds,c.pat.rel≠f.rel
end Go.Cx
namespace Go.Cx
open Go.RowKit Go.Proofs Tryz
def cw(c:cJ):Prop:=0<=c.i/\c.b.length<=4096
theorem T0(x:Int):0<=Ga .i64 x 255/\Ga .i64 x 255<=255:=by
 unfold Ga;have h:(BitVec.ofInt IntKind.i64.bits x&&& BitVec.ofInt IntKind.i64.bits 255).toNat<=255:=by
  rw[BitVec.toNat_and];exact dX Nat.and_le_right (by decide)
 rw[dS (pL.i64.2 (by omega))];omega
theorem a6U(c:cJ)(h:cw c):∃c' x,oo c=some (c',x)/\cw c'/\0<=x/\x<=255:=by
 obtain⟨h1,h2⟩:=h;unfold oo;rw[ax];by_cases hi:c.i<(c.b.length:Int)
 ·have hlt:c.i.toNat<c.b.length:=by omega
  have e:iP c.b c.i=some c.b[c.i.toNat]:=by unfold iP;rw[bG h1,aI];exact af hlt
  rw[bG hi,aI,e,aA];refine⟨_,_,rfl,⟨?_,h2⟩,T0 _⟩;show 0<=IntKind.i64.wrap (c.i+1);rw[dS (pL.i64.2 (by omega))];omega
 ·rw[bM hi,aS];exact⟨_,_,rfl,⟨h1,h2⟩,T0 _⟩
theorem og(c:cJ)(n:Int)(h:cw c)(h0:0<n)(h1:n<=256):∃c' r,cM c n=some (c',r)/\cw c'/\0<=r/\r<n:=by
 obtain⟨c',x,e,hc,hx,hx2⟩:=a6U c h;unfold cM;have e1:decide (n<=0)=false:=by simp;omega
 have e2:decide (n<=256)=true:=by simp;omega
 have e3:(decide (0<=x)&&decide (0<n))=true:=by simp;omega
 rw[e1,aS,e2,aI,e,aA,e3,aI];exact⟨_,_,rfl,hc,Int.emod_nonneg _ (by omega),Int.emod_lt_of_pos _ h0⟩
theorem YB(c:cJ)(n:Int)(h:cw c)(h0:0<n)(h1:n<=256):∃c' b,qj c n=some (c',b)/\cw c':=by
 obtain⟨c',x,e,hc,_⟩:=og c n h h0 h1;unfold qj;rw[e,aA];exact⟨_,_,rfl,hc⟩
theorem V0(c:cJ)(l:aG)(h:cw c)(h0:0<l.length)(h1:l.length<=256):∃c' s,oZ c l=some (c',s)/\cw c'/\s∈l:=by
 obtain⟨c',x,e,hc,hx,hx2⟩:=og c (l.length:Int) h (by omega) (by omega);unfold oZ;rw[ax,e,aA];have hlt:x.toNat<l.length:=by omega
 have e2:iP l x=some l[x.toNat]:=by unfold iP;rw[bG hx,aI];exact af hlt
 rw[e2,aA];exact⟨_,_,rfl,hc,j8 hlt⟩
theorem SO(c:cJ)(h:cw c):∃c' s,gz c=some (c',s)/\cw c'/\s.length<=16:=by
 unfold gz;obtain⟨c',s,e,hc,hs⟩:=V0 c ([[97],[98],[99],[49],[50]]:aG) h (by decide) (by decide);rw[e,aA];have:∀s∈([[97],[98],[99],[49],[50]]:aG),s.length<=16:=by decide
 exact⟨_,_,rfl,hc,this s hs⟩
theorem KV(c:cJ)(h:cw c):∃c' s,lE c=some (c',s)/\cw c'/\s.length<=16:=by
 unfold lE;generalize hl:([[97],[98],[111,110],[55],[49,48],[57,57,57,57],[49,48,48,48,48],[48,48,55],[48],[],[65],[63,120],[63,63],[63],[97,98,99,100,101,102,103,104],[97,98,99,100,101,102,103,104,105],[63,97,98,99,100,101,102,103,104],[97,45,98],[120,49],[49,120],[45,51]]:aG)=l;have h0:0<l.length/\l.length<=256/\∀s∈l,s.length<=16:=by subst hl;decide
 obtain⟨c',s,e,hc,hs⟩:=V0 c l h h0.1 h0.2.1;rw[e,aA];exact⟨_,_,rfl,hc,h0.2.2 s hs⟩
theorem SW(c:cJ)(h:cw c):∃c' s,oq c=some (c',s)/\cw c'/\s.length<=16:=by
 unfold oq;obtain⟨c1,b,e,hc⟩:=YB c 4 h (by decide) (by decide);rw[e,aA];cases b with
 |true=>
  obtain⟨c2,s,e2,A5,hs⟩:=SO c1 hc;rw[aI,e2,aA];exact⟨_,_,rfl,A5,hs⟩
 |false=>
  obtain⟨c2,s,e2,A5,hs⟩:=V0 c1 ([[63,120],[63,121],[63,122]]:aG) hc (by decide) (by decide);rw[aS,e2,aA];have:∀s∈([[63,120],[63,121],[63,122]]:aG),s.length<=16:=by decide
  exact⟨_,_,rfl,A5,this s hs⟩
theorem a6k(c:cJ)(h:cw c):∃c' r n,nT c=some (c',(r,n))/\cw c'/\r.length<=16/\0<=n/\n<=2:=by
 unfold nT;obtain⟨c1,x,e,hc,hx,hx2⟩:=og c 6 h (by decide) (by decide);rw[e,aA];have key:x=0\/x=1\/x=2\/x=3\/x=4\/x=5:=by omega
 rcases key with rfl|rfl|rfl|rfl|rfl|rfl<;>exact⟨c1,_,_,rfl,hc,by decide,by decide,by decide⟩
def oG(k:Nat)(p:aD):Prop:=p.rel.length<=16/\p.args.length<=k/\∀x∈p.args,x.length<=16
theorem O6:∀(l:aG),(∀x∈l,x.length<=16)->sw tw l<=17*l.length
 | [],_=>by simp[sw]
 |x::l,h=>by
  have h1:=O6 l fun y hy=>h y (by simp[hy])
  have h2:=h x (by simp);rw[nq,aP];unfold tw at*;omega
theorem a0Y(y:cJ×(Bytes×Int))(k:bC->Int->Int->aG->Option (cJ×aD)):∀(m:Nat) (fu:Nat) (v:Int) (c:cJ) (w:aG),y.2.2-v=(m:Int)->m<fu->0<=v->y.2.2<=100->w.length+m<=1000->cw c->(∀x∈w,x.length<=16)->
 ∃c' w',kw y k fu v c.b c.i c.h w=k c'.b c'.i c'.h w'/\cw c'/\w'.length<=w.length+m/\∀x∈w',x.length<=16:=by
 intro m
 induction m with
 |zero=>
  intro fu v c w hv hf h0 hy hw hc hx;cases fu with
  |zero=>omega
  |succ fu=>
   have e:decide (v<y.2.2)=false:=by simp;omega
   rw[kw,e,aS];exact⟨c,w,rfl,hc,by omega,hx⟩
 |succ m ih=>
  intro fu v c w hv hf h0 hy hw hc hx;cases fu with
  |zero=>omega
  |succ fu=>
   have e:decide (v<y.2.2)=true:=by simp;omega
   obtain⟨c1,s,e2,hc1,hs⟩:=SW c hc;have RZ:oq (⟨c.b,c.i,c.h⟩:cJ)=some (c1,s):=e2;have e3:IntKind.i64.wrap (v+1)=v+1:=dS (pL.i64.2 (by omega));rw[kw,e,aI,RZ,aA,fZ (by omega) (by decide),aI,e3];obtain⟨c',w',q1,q2,q3,q4⟩:=ih fu (v+1) c1 (w++[s]) (by omega) (by omega) (by omega) hy (by simp;omega) hc1 (fun x Ry=>by
    rcases aR.1 Ry with h|h
    ·exact hx x h
    ·simp at h;subst h;exact hs)
   exact⟨c',w',q1,q2,by simp at q3;omega,q4⟩
theorem PM(c:cJ)(h:cw c):∃c' p,j5 c=some (c',p)/\cw c'/\oG 2 p:=by
 unfold j5;obtain⟨c1,r,n,e,hc,hr,hn,hn2⟩:=a6k c h;rw[e,aA];obtain⟨c',w',q1,q2,q3,q4⟩:=a0Y (c1,(r,n)) (fun a b d q=>some ((⟨a,b,d⟩:cJ),(⟨r,q⟩:aD))) n.toNat fuel 0 c1 [] (by simp;omega) (by unfold fuel;omega) (by omega) (by simp;omega) (by simp;omega) hc (by simp);exact⟨_,_,q1,q2,hr,by show w'.length<=2;simp at q3;omega,q4⟩
theorem a1n(c:cJ)(h:cw c):∃c' p,uF c=some (c',p)/\cw c'/\oG 4 p:=by
 unfold uF;obtain⟨c1,p,e,hc,hp1,hp2,hp3⟩:=PM c h;obtain⟨c2,x,e2,A5,hx,hx2⟩:=og c1 10 hc (by decide) (by decide);rw[e,aA,e2,aA];cases(x==(0:Int))with
 |true=>
  obtain⟨c3,s,e3,En,hs⟩:=KV c2 A5;rw[aI,e3,aA];exact⟨_,_,rfl,En,hs,by show p.args.length<=4;omega,hp3⟩
 |false=>
  rw[aS];cases(x==(1:Int))with
  |true=>
   obtain⟨c3,s,e3,En,hs⟩:=KV c2 A5;rw[aI,e3,aA,fZ (w:=p.args) (by omega) (by decide),aI];refine⟨_,_,rfl,En,hp1,by simp;omega,fun y hy=>?_⟩;rcases aR.1 hy with h|h
   ·exact hp3 y h
   ·simp at h;subst h;exact hs
  |false=>
   rw[aS];cases(x==(2:Int))with
   |true=>
    obtain⟨c3,z,e3,En,hz,Rz⟩:=og c2 5 A5 (by decide) (by decide);have e4:(decide (0<=z)&&decide (z.toNat<=(([[63,120],[63,120],[63,121],[63,120]]:aG).map tx).length))=true:=by simp;omega
    rw[aI,e3,aA,e4,aI];refine⟨_,_,rfl,En,hp1,by simp[bz];omega,fun y hy=>?_⟩;have:∀s∈([[63,120],[63,120],[63,121],[63,120]]:aG),s.length<=16:=by decide
    exact this y (bu hy)
   |false=>exact⟨_,_,rfl,A5,hp1,by show p.args.length<=4;omega,hp3⟩
theorem a6f(code:bC)(h:code.length<=4096):∃c,wI code=some c/\cw c:=by
 unfold wI;have key:∀(k:Int->Option cJ) (r:bC) (i:Nat) (v:Int),∃z,oL code k r i v=k z:=by
  intro k r
  induction r with
  |nil=>intro i v;exact⟨v,rfl⟩
  |cons x r ih=>
   intro i v;rw[oL];cases decide ((i:Int)<4000)with
   |true=>exact ih _ _
   |false=>exact⟨v,rfl⟩
 obtain⟨z,e⟩:=key (fun z=>some (⟨code,0,z⟩:cJ)) code 0 (IntKind.i64.wrap (851207+(IntKind.i64.wrap (3*((code.map yx).length:Int)))));rw[uV (by omega),aI,e];exact⟨_,rfl,by show(0:Int)<=0;omega,h⟩
end Go.Cx
namespace Go.Cx
open Go.RowKit Go.Proofs Tryz
theorem Kx(c:cJ)(l:bC)(h:cw c)(h0:0<l.length)(h1:l.length<=256):∃c' s,gh c l=some (c',s)/\cw c'/\s∈l:=by
 obtain⟨c',x,e,hc,hx,hx2⟩:=og c (l.length:Int) h (by omega) (by omega);unfold gh;rw[ax,e,aA];have hlt:x.toNat<l.length:=by omega
 have e2:iP l x=some l[x.toNat]:=by unfold iP;rw[bG hx,aI];exact af hlt
 rw[e2,aA];exact⟨_,_,rfl,hc,j8 hlt⟩
theorem a0W(y:cJ×(Bytes×Int))(k:bC->Int->Int->aG->Option (cJ×aD)):∀(m:Nat) (fu:Nat) (v:Int) (c:cJ) (w:aG),y.2.2-v=(m:Int)->m<fu->0<=v->y.2.2<=100->w.length+m<=1000->cw c->(∀x∈w,x.length<=16)->
 ∃c' w',gF y k fu v c.b c.i c.h w=k c'.b c'.i c'.h w'/\cw c'/\w'.length<=w.length+m/\∀x∈w',x.length<=16:=by
 intro m
 induction m with
 |zero=>
  intro fu v c w hv hf h0 hy hw hc hx;cases fu with
  |zero=>omega
  |succ fu=>
   have e:decide (v<y.2.2)=false:=by simp;omega
   rw[gF,e,aS];exact⟨c,w,rfl,hc,by omega,hx⟩
 |succ m ih=>
  intro fu v c w hv hf h0 hy hw hc hx;cases fu with
  |zero=>omega
  |succ fu=>
   have e:decide (v<y.2.2)=true:=by simp;omega
   obtain⟨c1,s,e2,hc1,hs⟩:=SO c hc;have RZ:gz (⟨c.b,c.i,c.h⟩:cJ)=some (c1,s):=e2;have e3:IntKind.i64.wrap (v+1)=v+1:=dS (pL.i64.2 (by omega));rw[gF,e,aI,RZ,aA,fZ (by omega) (by decide),aI,e3];obtain⟨c',w',q1,q2,q3,q4⟩:=ih fu (v+1) c1 (w++[s]) (by omega) (by omega) (by omega) hy (by simp;omega) hc1 (fun x Ry=>by
    rcases aR.1 Ry with h|h
    ·exact hx x h
    ·simp at h;subst h;exact hs)
   exact⟨c',w',q1,q2,by simp at q3;omega,q4⟩
theorem a6l(c:cJ)(h:cw c):∃c' r n,nT c=some (c',(r,n))/\cw c'/\r.length<=16/\0<=n/\n<=2/\r≠[110]:=by
 unfold nT;obtain⟨c1,x,e,hc,hx,hx2⟩:=og c 6 h (by decide) (by decide);rw[e,aA];have key:x=0\/x=1\/x=2\/x=3\/x=4\/x=5:=by omega
 rcases key with rfl|rfl|rfl|rfl|rfl|rfl<;>exact⟨c1,_,_,rfl,hc,by decide,by decide,by decide,by decide⟩
theorem Y2(c:cJ)(h:cw c):∃c' p,lF c=some (c',p)/\cw c'/\oG 2 p/\p.rel≠[110]:=by
 unfold lF;obtain⟨c1,r,n,e,hc,hr,hn,hn2,hrn⟩:=a6l c h;rw[e,aA];obtain⟨c',w',q1,q2,q3,q4⟩:=a0W (c1,(r,n)) (fun a b d q=>some ((⟨a,b,d⟩:cJ),(⟨r,q⟩:aD))) n.toNat fuel 0 c1 [] (by simp;omega) (by unfold fuel;omega) (by omega) (by simp;omega) (by simp;omega) hc (by simp);exact⟨_,_,q1,q2,⟨hr,by show w'.length<=2;simp at q3;omega,q4⟩,hrn⟩
theorem a6S(c:cJ)(h:cw c):∃c' p,wJ c=some (c',p)/\cw c'/\oG 4 p:=by
 unfold wJ;obtain⟨c1,p,e,hc,⟨hp1,hp2,hp3⟩,_⟩:=Y2 c h;obtain⟨c2,x,e2,A5,hx,hx2⟩:=og c1 10 hc (by decide) (by decide);rw[e,aA,e2,aA];cases(x==(0:Int))with
 |true=>
  obtain⟨c3,s,e3,En,hs⟩:=KV c2 A5;rw[aI,e3,aA];exact⟨_,_,rfl,En,hs,by show p.args.length<=4;omega,hp3⟩
 |false=>
  rw[aS];cases(x==(1:Int))with
  |true=>
   obtain⟨c3,s,e3,En,hs⟩:=KV c2 A5;rw[aI,e3,aA,fZ (w:=p.args) (by omega) (by decide),aI];refine⟨_,_,rfl,En,hp1,by simp;omega,fun y hy=>?_⟩;rcases aR.1 hy with h|h
   ·exact hp3 y h
   ·simp at h;subst h;exact hs
  |false=>
   rw[aS];cases(x==(2:Int))with
   |true=>
    obtain⟨c3,z,e3,En,hz,Rz⟩:=og c2 5 A5 (by decide) (by decide);have e4:(decide (0<=z)&&decide (z.toNat<=(([[97],[98],[99],[97]]:aG).map tx).length))=true:=by simp;omega
    rw[aI,e3,aA,e4,aI];refine⟨_,_,rfl,En,hp1,by simp[bz];omega,fun y hy=>?_⟩;have:∀s∈([[97],[98],[99],[97]]:aG),s.length<=16:=by decide
    exact this y (bu hy)
   |false=>exact⟨_,_,rfl,A5,hp1,by show p.args.length<=4;omega,hp3⟩
def Al(n:Nat)(l:aJ):Prop:=l.length<=n/\∀f∈l,oG 4 f
theorem oG.le{k m:Nat}{p:aD}(h:oG k p)(hm:k<=m):oG m p:=⟨h.1,by have:=h.2.1;omega,h.2.2⟩
theorem oG.copy{k:Nat}{p:aD}(h:oG k p)(hk:k<=1000):p.args.length<=1099511627776:=by have:=h.2.1;omega
theorem a3y(a:aJ)(f:aD)(K:Bool->aJ->Option aJ)(hf:oG 4 f):∀(rest:aJ) (i:Nat) (v:Bool) (w:aJ),(∀x∈rest,oG 4 x)->w.length+2*rest.length<=1000->
 ∃v' w',cV a f K rest i v w=K v' w'/\(∀x∈w',x∈w\/x∈rest\/x=f)/\w.length+rest.length<=w'.length/\
  (bif v then v'=true/\w'.length=w.length+rest.length else bif v' then w'.length<=w.length+rest.length+1/\((∀x∈rest,oR x f≠0)->w'.length=w.length+rest.length+1)else w'.length=w.length+rest.length):=by
 intro rest
 induction rest with
 |nil=>
  intro i v w _ _;refine⟨v,w,rfl,fun x hx=>.inl hx,by simp,?_⟩;cases v<;>simp
 |cons x xs ih=>
  intro i v w hs hl;simp only[aP]at hl;have hx:=hs x (by simp);have hs':∀y∈xs,oG 4 y:=fun y hy=>hs y (by simp[hy])
  have cx:=AE x (hx.copy (by decide));have cf:=AE f (hf.copy (by decide));have nx:=fun w':aJ=>fun h:w'.length<1099511627776=>fZ (w:=w') (c:=aD.c) (y:=[D.str x.rel,D.sl (x.args.map tx)]) (b:=40) h (by decide)
  have nf:=fun w':aJ=>fun h:w'.length<1099511627776=>fZ (w:=w') (c:=aD.c) (y:=[D.str f.rel,D.sl (f.args.map tx)]) (b:=40) h (by decide)
  cases v with
  |true=>
   obtain⟨v',w',q1,q2,q3,q4⟩:=ih (i+1) true (w++[x]) hs' (by simp;omega);simp only[av,aP,bS,aI]at q3 q4;refine⟨v',w',?_,fun z hz=>?_,by simp only[aP];omega,?_⟩
   ·rw[cV,bW,aS,cx,aA,nx w (by omega),aI];exact q1
   ·rcases q2 z hz with h|h|h
    ·rcases aR.1 h with h|h
     ·exact .inl h
     ·simp at h;subst h;exact .inr (.inl (by simp))
    ·exact .inr (.inl (by simp[h]))
    ·exact .inr (.inr h)
   ·simp only[aI,aP];exact⟨q4.1,by omega⟩
  |false=>
   rw[cV,cT,aI,To,aA];by_cases hge:oR x f>=0
   ·rw[bG hge,aI,aA];by_cases hgt:oR x f>0
    ·obtain⟨v',w',q1,q2,q3,q4⟩:=ih (i+1) true (w++[f]++[x]) hs' (by simp;omega);simp only[av,aP,bS,aI]at q3 q4;have e2:room (((w.map aD.c)++[[D.str f.rel,D.sl (f.args.map tx)]]).length+[[D.str x.rel,D.sl (x.args.map tx)]].length) 40=true:=by
      have:=nx (w++[f]) (by simp;omega);rw[bA]at this;exact this
     refine⟨v',w',?_,fun z hz=>?_,by simp only[aP];omega,?_⟩
     ·rw[bG hgt,aI,cf,aA,nf w (by omega),aI,cx,aA,e2,aI];exact q1
     ·rcases q2 z hz with h|h|h
      ·rcases aR.1 h with h|h
       ·rcases aR.1 h with h|h
        ·exact .inl h
        ·simp at h;exact .inr (.inr h)
       ·simp at h;subst h;exact .inr (.inl (by simp))
      ·exact .inr (.inl (by simp[h]))
      ·exact .inr (.inr h)
     ·rw[q4.1];simp only[aS,aI,aP];exact⟨by omega,fun _=>by omega⟩
    ·have hz:oR x f=0:=by omega
     obtain⟨v',w',q1,q2,q3,q4⟩:=ih (i+1) true (w++[x]) hs' (by simp;omega);simp only[av,aP,bS,aI]at q3 q4;refine⟨v',w',?_,fun z hz=>?_,by simp only[aP];omega,?_⟩
     ·rw[bM hgt,aS,cx,aA,nx w (by omega),aI];exact q1
     ·rcases q2 z hz with h|h|h
      ·rcases aR.1 h with h|h
       ·exact .inl h
       ·simp at h;subst h;exact .inr (.inl (by simp))
      ·exact .inr (.inl (by simp[h]))
      ·exact .inr (.inr h)
     ·rw[q4.1];simp only[aS,aI,aP];exact⟨by omega,fun h=>absurd hz (h x (by simp))⟩
   ·obtain⟨v',w',q1,q2,q3,q4⟩:=ih (i+1) false (w++[x]) hs' (by simp;omega);simp only[av,aP,bS,aS]at q3 q4;refine⟨v',w',?_,fun z hz=>?_,by simp only[aP];omega,?_⟩
    ·rw[bM hge,aS,cx,aA,nx w (by omega),aI];exact q1
    ·rcases q2 z hz with h|h|h
     ·rcases aR.1 h with h|h
      ·exact .inl h
      ·simp at h;subst h;exact .inr (.inl (by simp))
     ·exact .inr (.inl (by simp[h]))
     ·exact .inr (.inr h)
    ·cases v' with
     |true=>
      simp only[aI,aS,aP]at q4⊢;exact⟨by omega,fun h=>by have:=q4.2 (fun y hy=>h y (by simp[hy]));omega⟩
     |false=>simp only[aS,aP]at q4⊢;omega
theorem a1w(l:aJ)(f:aD){n:Nat}(hl:Al n l)(hn:n<=100)(hf:oG 4 f):∃l',lX l f=some l'/\Al (n+1) l'/\(∀x∈l',x∈l\/x=f)/\((∀x∈l,oR x f≠0)->l'.length=l.length+1):=by
 unfold lX;obtain⟨v',w',q1,q2,q3,q4⟩:=a3y l f (fun(yX:Bool) (jM:aJ)=>(bif !(yX)then((eR f).bind fun NK=>(bif room ((jM.map aD.c).length+([[D.str NK.rel,D.sl (NK.args.map tx)]]).length) 40 then(some (jM++([NK])))else none))else(some jM))) hf l 0 false [] hl.2 (by have:=hl.1;simp;omega);have hln:=hl.1;simp only[bS,cW,aS]at q3 q4;have q2':∀x∈w',x∈l\/x=f:=fun x hx=>by
  rcases q2 x hx with h|h|h
  ·cases h
  ·exact .inl h
  ·exact .inr h
 have sm:∀x∈w',oG 4 x:=fun x hx=>by
  rcases q2' x hx with h|h
  ·exact hl.2 x h
  ·rw[h];exact hf
 cases v' with
 |true=>
  simp only[aI]at q4;exact⟨w',q1,⟨by omega,sm⟩,q2',q4.2⟩
 |false=>
  simp only[aS]at q4;refine⟨w'++[f],?_,⟨by simp;omega,fun x hx=>?_⟩,fun x hx=>?_,fun _=>by simp;omega⟩
  ·rw[q1];show(bif !false then _ else _)=_;rw[cT,aI,AE f (hf.copy (by decide)),aA,fZ (w:=w') (c:=aD.c) (y:=[D.str f.rel,D.sl (f.args.map tx)]) (by omega) (by decide),aI]
  ·rcases aR.1 hx with h|h
   ·exact sm x h
   ·simp at h;subst h;exact hf
  ·rcases aR.1 hx with h|h
   ·exact q2' x h
   ·simp at h;exact .inr h
theorem a6o(k:bC->Int->Int->aJ->Option (cJ×aJ)):∀(m:Nat) (fu:Nat) (v:Int) (c:cJ) (w:aJ) (n:Nat),v=(m:Int)->m<fu->m<=50->n+m<=60->cw c->Al n w->(∀x∈w,x.rel≠[110])->
 ∃c' w',gu k fu v c.b c.i c.h w=k c'.b c'.i c'.h w'/\cw c'/\Al (n+m) w'/\∀x∈w',x.rel≠[110]:=by
 intro m
 induction m with
 |zero=>
  intro fu v c w n hv hf hm hn hc hw hr;cases fu with
  |zero=>omega
  |succ fu=>
   have e:decide (v>0)=false:=by simp;omega
   rw[gu,e,aS];exact⟨c,w,rfl,hc,hw,hr⟩
 |succ m ih=>
  intro fu v c w n hv hf hm hn hc hw hr;cases fu with
  |zero=>omega
  |succ fu=>
   have e:decide (v>0)=true:=by simp;omega
   obtain⟨c1,f,e2,hc1,hf1,WW⟩:=Y2 c hc;have RZ:lF (⟨c.b,c.i,c.h⟩:cJ)=some (c1,f):=e2;obtain⟨w1,e4,hw1,hm1,_⟩:=a1w w f hw (by omega) (hf1.le (by decide));have e3:IntKind.i64.wrap (v-1)=v-1:=dS (pL.i64.2 (by omega));rw[gu,e,aI,RZ,aA,e4,aA,e3];obtain⟨c',w',q1,q2,q3,q4⟩:=ih fu (v-1) c1 w1 (n+1) (by omega) (by omega) (by omega) (by omega) hc1 hw1 (fun x hx=>by
    rcases hm1 x hx with h|h
    ·exact hr x h
    ·rw[h];exact WW)
   exact⟨c',w',q1,q2,⟨by have:=q3.1;omega,q3.2⟩,q4⟩
theorem a1z(c:cJ)(n:Int)(h:cw c)(h0:0<=n)(hn:n<=40):∃c' l,oa c n=some (c',l)/\cw c'/\Al 40 l/\∀x∈l,x.rel≠[110]:=by
 unfold oa;have e3:IntKind.i64.wrap (n+1)=n+1:=dS (pL.i64.2 (by omega));obtain⟨c1,x,e,hc,hx,hx2⟩:=og c (n+1) h (by omega) (by omega);rw[e3,e,aA];obtain⟨c',w',q1,q2,q3,q4⟩:=a6o (fun a b d q=>some ((⟨a,b,d⟩:cJ),q)) x.toNat fuel x c1 [] 0 (by omega) (by unfold fuel;omega) (by omega) (by omega) hc ⟨by simp,by simp⟩ (by simp);exact⟨_,_,q1,q2,⟨by have:=q3.1;omega,q3.2⟩,q4⟩
def UG(j:Nat):Bytes:=if j<10 then [UInt8.ofNat (48+j)]else [UInt8.ofNat (48+j/10),UInt8.ofNat (48+j%10)]
theorem LP{j:Nat}(h:j<100):Lib.decDigits j=UG j:=by
 unfold UG;by_cases h1:j<10
 ·rw[bN h1,Lib.decDigits,dif_pos h1]
 ·rw[b9 h1,Lib.decDigits,dif_neg h1,Lib.decDigits,dif_pos (by omega)];rfl
theorem QA:∀j,j<25->Lib.decFrom 0 (UG j)=some j/\1<=(UG j).length/\(UG j).length<=4:=by decide
theorem Qn{j:Nat}(h:j<25):wY (Lib.decDigits j)=some j:=by
 rw[LP (by omega)];obtain⟨h1,h2,h3⟩:=QA j h;unfold wY;rw[bN ⟨h2,h3⟩,h1];simp only;rw[bN (LP (by omega))]
def JH(j:Nat):aD:=⟨[110],[Lib.decDigits j]⟩
theorem Xb{i j:Nat}(hi:i<25)(hj:j<25)(h:i≠j):oR (JH i) (JH j)≠0:=by
 have:AM (Lib.decDigits i) (Lib.decDigits j)≠0:=by
  unfold AM;rw[Qn hi,Qn hj];unfold FX;simp only;split
  ·omega
  ·split<;>omega
 unfold oR JH cmpL tL;simp only[ne_eq,not_true_eq_false,xW,this,not_false_eq_true,pT]
theorem Ql{j:Nat}(h:j<25):oG 4 (JH j):=by
 refine⟨by simp[JH],by simp[JH],fun x hx=>?_⟩;simp only[JH,cZ]at hx;subst hx;rw[LP (by omega)];have:=(QA j h).2.2;omega
theorem a3t(y:cJ×Int)(k:aJ->Option (cJ×aJ))(n0:Nat):∀(m:Nat) (fu:Nat) (j:Nat) (w:aJ),j+m=25->m<fu->n0<=40->Al (n0+j) w->j<=w.length->(∀x∈w,x.rel≠[110]\/∃i,i<j/\x=JH i)->
 ∃w',kr y k fu (j:Int) w=k w'/\Al (n0+25) w'/\25<=w'.length:=by
 intro m
 induction m with
 |zero=>
  intro fu j w hj hf hn hw hl hx;cases fu with
  |zero=>omega
  |succ fu=>
   have e:decide ((j:Int)<25)=false:=by simp;omega
   rw[kr,e,aS];exact⟨w,rfl,by rw[show n0+25=n0+j from by omega];exact hw,by omega⟩
 |succ m ih=>
  intro fu j w hj hf hn hw hl hx;cases fu with
  |zero=>omega
  |succ fu=>
   have e:decide ((j:Int)<25)=true:=by simp;omega
   have e1:jH (j:Int)=some (Lib.decDigits j):=by
    rw[a0a _ (pL.i64.2 (by omega))];unfold Lib.itoa;rw[b9 (by omega)];rfl
   obtain⟨w1,e4,hw1,hm1,hlen⟩:=a1w w (JH j) hw (by omega) (Ql (by omega));have e4':lX w (⟨[110],[Lib.decDigits j]⟩:aD)=some w1:=e4;have e3:IntKind.i64.wrap ((j:Int)+1)=((j+1:Nat):Int):=by rw[dS (pL.i64.2 (by omega))];rfl
   have hlen:=hlen (fun x Ry=>by
    rcases hx x Ry with h|⟨i,hi,rfl⟩
    ·unfold oR;rw[bN (by exact h)];exact OT h
    ·exact Xb (by omega) (by omega) (by omega))
   rw[kr,e,aI,e1,aA,e4',aA,e3];exact ih fu (j+1) w1 (by omega) (by omega) hn hw1 (by omega) (fun x Ry=>by
    rcases hm1 x Ry with h|h
    ·rcases hx x h with h|⟨i,hi,rfl⟩
     ·exact .inl h
     ·exact .inr ⟨i,by omega,rfl⟩
    ·exact .inr ⟨j,by omega,h⟩)
theorem a3s(c:cJ)(h:cw c):∃c' l,ur c=some (c',l)/\cw c'/\Al 65 l:=by
 unfold ur;obtain⟨c1,l,e,hc,hl,hr⟩:=a1z c 6 h (by decide) (by decide);obtain⟨c2,x,e2,A5,hx,hx2⟩:=og c1 8 hc (by decide) (by decide);rw[e,aA,e2,aA];have hl1:=hl.1;cases(x==(0:Int))with
 |true=>
  obtain⟨c3,f,e3,En,hf⟩:=a6S c2 A5;rw[aI,e3,aA,fZ (w:=l) (c:=aD.c) (y:=[D.str f.rel,D.sl (f.args.map tx)]) (by omega) (by decide),aI];refine⟨_,_,rfl,En,by simp;omega,fun y hy=>?_⟩;rcases aR.1 hy with h|h
  ·exact hl.2 y h
  ·simp at h;subst h;exact hf
 |false=>
  rw[aS];cases(x==(1:Int))with
  |true=>
   rw[aI];obtain⟨w',q1,q2,q3⟩:=a3t (c2,x) (fun(jM:aJ)=>((gh c2 ([23,24,25]:bC)).bind fun vm=>(bif decide (0<=(vm.2:Int))&&decide (vm.2.toNat<=(jM.map aD.c).length)then(some (vm.1,jM.take vm.2.toNat))else none))) 40 25 fuel 0 l (by omega) (by unfold fuel;omega) (by omega) hl (by omega) (fun y hy=>.inl (hr y hy));obtain⟨c3,z,e3,En,hz⟩:=Kx c2 [23,24,25] A5 (by decide) (by decide);have Rz:0<=z/\z<=25:=by
    have:∀s∈([23,24,25]:bC),0<=s/\s<=25:=by decide
    exact this z hz
   have e4:(decide (0<=z)&&decide (z.toNat<=(w'.map aD.c).length))=true:=by simp;omega
   refine⟨c3,w'.take z.toNat,?_,En,by have:=q2.1;simp;omega,fun y hy=>q2.2 y (bu hy)⟩;refine Eq.trans q1 ?_;show((gh c2 [23,24,25]).bind _)=_;rw[e3,aA,e4,aI]
  |false=>exact⟨_,_,rfl,A5,by show l.length<=65;omega,hl.2⟩
end Go.Cx
namespace Go.Cx
open Go.RowKit Go.Proofs Tryz
def C0(c:aO):Prop:=oG 4 c.pat/\c.left.length<=16/\c.right.length<=16
def OK(a:Action):Prop:=oG 4 a.pat
def sy(n:Nat)(r:aK):Prop:=r.name.length<=16/\(r.conds.length<=n/\∀c∈r.conds,C0 c)/\(r.cK.length<=n/\∀a∈r.cK,OK a)
theorem zF{α:Type}{w:α->Nat}{B:Nat}:∀(l:List α),(∀x∈l,w x<=B)->sw w l<=(B+1)*l.length
 | [],_=>by simp[sw]
 |x::l,h=>by
  have h1:=zF l fun y hy=>h y (by simp[hy])
  have h2:=h x (by simp);rw[nq,aP,Nat.mul_add];omega
theorem oG.wt4{p:aD}(h:oG 4 p):tw p.rel+sw tw p.args<=100:=by
 have:=O6 p.args h.2.2;have h1:=h.1;have h2:=h.2.1;unfold tw at*;omega
theorem C0.wt{c:aO}(h:C0 c):c.wt<=200:=by
 have h1:=h.1.wt4;have h2:=h.2.1;have h3:=h.2.2;unfold aO.wt;unfold tw at*;omega
theorem OK.wt{a:Action}(h:OK a):a.wt<=200:=by
 have h1:=oG.wt4 h;unfold Action.wt;unfold tw at*;omega
theorem sy.wt{n:Nat}{r:aK}(h:sy n r)(hn:n<=1000):r.wt<=1048576:=by
 obtain⟨h1,⟨h2,h3⟩,h4,h5⟩:=h;have c1:=zF (w:=aO.wt) (B:=200) r.conds (fun x hx=>(h3 x hx).wt);have c2:=zF (w:=Action.wt) (B:=200) r.cK (fun x hx=>(h5 x hx).wt);have d1:(200+1)*r.conds.length<=201*1000:=cv _ (by omega);have d2:(200+1)*r.cK.length<=201*1000:=cv _ (by omega);unfold aK.wt;unfold tw at*;omega
def LW(p:aD):Bool:=decide (p.rel.length<=16)&&(decide (p.args.length<=4)&&p.args.all fun x=>decide (x.length<=16))
theorem Nv{p:aD}(h:LW p=true):oG 4 p:=by
 unfold LW at h;simp only[aV,bI,aq]at h;exact h
def PV(r:aK):Bool:=(decide (r.name.length<=16)&&((decide (r.conds.length<=4)&&r.conds.all fun c=>LW c.pat&&(decide (c.left.length<=16)&&decide (c.right.length<=16)))&&(decide (r.cK.length<=4)&&r.cK.all fun a=>LW a.pat)))&&(decide (1<=r.conds.length)&&decide (1<=r.cK.length))
theorem V1{r:aK}(h:PV r=true):sy 4 r/\1<=r.conds.length/\1<=r.cK.length:=by
 unfold PV at h;simp only[aV,bI,aq]at h;obtain⟨⟨h1,⟨h2,h3⟩,h4,h5⟩,h6,h7⟩:=h;exact⟨⟨h1,⟨h2,fun c hc=>⟨Nv (h3 c hc).1,(h3 c hc).2⟩⟩,h4,fun a ha=>Nv (h5 a ha)⟩,h6,h7⟩
theorem a48(c:cJ)(l r:Bytes)(h:cw c)(hl:l.length<=16)(hr:r.length<=16):∃c' x,uw c l r=some (c',x)/\cw c'/\C0 x:=by
 unfold uw;obtain⟨c1,k,e,hc,_⟩:=Kx c [3,4,4,5] h (by decide) (by decide);rw[e,aA];exact⟨_,_,rfl,hc,⟨by simp,by simp,by simp⟩,hl,hr⟩
theorem Y0(c:cJ)(h:cw c):∃c' x,ql c=some (c',x)/\cw c'/\C0 x:=by
 unfold ql;obtain⟨c1,k,e,hc,_,_⟩:=og c 5 h (by decide) (by decide);rw[e,aA];have one:∀k:Int,∃c' x,((j5 c1).bind fun y4=>(some (y4.1,(⟨k,y4.2,[],[]⟩:aO))))=some (c',x)/\cw c'/\C0 x:=fun k=>by
  obtain⟨c2,p,e2,A5,hp⟩:=PM c1 hc;rw[e2,aA];exact⟨_,_,rfl,A5,⟨hp.1,by have:=hp.2.1;show p.args.length<=4;omega,hp.2.2⟩,by simp,by simp⟩
 cases(k==(0:Int))with
 |true=>rw[aI];exact one 1
 |false=>
  rw[aS];cases(k==(1:Int))with
  |true=>rw[aI];exact one 1
  |false=>
   rw[aS];cases(k==(2:Int))with
   |true=>rw[aI];exact one 2
   |false=>
    obtain⟨c2,l,e2,A5,hl⟩:=SW c1 hc;obtain⟨c3,r,e3,En,hr⟩:=SW c2 A5;obtain⟨c4,x,e4,hc4,hx⟩:=a48 c3 l r En hl hr;rw[aS,e2,aA,e3,aA,e4,aA];exact⟨_,_,rfl,hc4,hx⟩
theorem a6P(c:cJ)(h:cw c):∃c' x,wM c=some (c',x)/\cw c'/\C0 x:=by
 unfold wM;obtain⟨c1,x,e,hc,hx⟩:=Y0 c h;obtain⟨c2,k,e2,A5,_,_⟩:=og c1 12 hc (by decide) (by decide);rw[e,aA,e2,aA];cases(k==(0:Int))with
 |true=>
  obtain⟨c3,n,e3,En,_⟩:=Kx c2 [0,1,3,5,6, -1] A5 (by decide) (by decide);rw[aI,e3,aA];exact⟨_,_,rfl,En,hx⟩
 |false=>
  rw[aS];cases(k==(1:Int))with
  |true=>
   obtain⟨c3,s,e3,En,hs⟩:=KV c2 A5;rw[aI,e3,aA];exact⟨_,_,rfl,En,hx.1,hs,hx.2.2⟩
  |false=>
   rw[aS];cases(k==(2:Int))with
   |true=>
    obtain⟨c3,p,e3,En,hp⟩:=a1n c2 A5;rw[aI,e3,aA];exact⟨_,_,rfl,En,hp,hx.2⟩
   |false=>exact⟨_,_,rfl,A5,hx⟩
def Td(s:Bytes):Bool:=match pF s with
 |some (r,_)=>PV r&&j7 r
 |none=>false
def Po(r:aK):Prop:=sy 4 r/\j7 r=true/\1<=r.conds.length/\1<=r.cK.length
theorem a0b(K:aG)(c:cJ)(m:Int)(h:cw c)(hm:0<m)(h0:0<K.length)(h1:K.length<=256)(hK:K.all Td=true):
 ∃c' r,((cM c (On m ((K.map tx).length:Int))).bind fun y1=>((iP K y1.2).bind fun x3=>((pF x3).bind fun y5=>(some (y1.1,y5.1)))))=some (c',r)/\cw c'/\Po r:=by
 have hlen:((K.map tx).length:Int)=(K.length:Int):=by simp
 have hmin:0<On m ((K.map tx).length:Int)/\On m ((K.map tx).length:Int)<=(K.length:Int):=by
  unfold On;rw[hlen];split<;>omega
 obtain⟨c1,x,e,hc,hx,hx2⟩:=og c _ h hmin.1 (by omega);have hlt:x.toNat<K.length:=by omega
 have e2:iP K x=some K[x.toNat]:=by unfold iP;rw[bG hx,aI];exact af hlt
 have hk:=aq.1 hK _ (j8 hlt);unfold Td at hk;rw[e,aA,e2,aA];cases hp:pF K[x.toNat]with
 |none=>rw[hp]at hk;cases hk
 |some p=>
  rw[hp]at hk;simp only[aV]at hk;obtain⟨q1,q2,q3⟩:=V1 hk.1;exact⟨_,_,rfl,hc,q1,hk.2,q2,q3⟩
theorem Y8(c:cJ)(m:Int)(h:cw c)(hm:0<m):∃c' r,nZ c m=some (c',r)/\cw c'/\Po r:=by
 unfold nZ;refine a0b _ c m h hm ?_ ?_ ?_
 ·decide
 ·decide
 ·kernel_rfl
theorem a0d(y1:cJ×Int):∀(m:Nat) (fu:Nat) (v:Int) (c:cJ) (w:ai),v=(m:Int)->m<fu->m<=50->w.length+m<=100->cw c->(∀x∈w,C0 x)->
 ∃c' w',(∀k,iv y1 k fu v c.b c.i c.h w=k c'.b c'.i c'.h w')/\cw c'/\w'.length=w.length+m/\∀x∈w',C0 x:=by
 intro m
 induction m with
 |zero=>
  intro fu v c w hv hf hm hn hc hw;cases fu with
  |zero=>omega
  |succ fu=>
   have e:decide (v>0)=false:=by simp;omega
   exact⟨c,w,fun k=>by rw[iv,e,aS],hc,rfl,hw⟩
 |succ m ih=>
  intro fu v c w hv hf hm hn hc hw;cases fu with
  |zero=>omega
  |succ fu=>
   have e:decide (v>0)=true:=by simp;omega
   obtain⟨c1,x,e2,hc1,hx⟩:=Y0 c hc;have RZ:ql (⟨c.b,c.i,c.h⟩:cJ)=some (c1,x):=e2;have e3:IntKind.i64.wrap (v-1)=v-1:=dS (pL.i64.2 (by omega));obtain⟨c',w',q1,q2,q3,q4⟩:=ih fu (v-1) c1 (w++[x]) (by omega) (by omega) (by omega) (by simp;omega) hc1 (fun y hy=>by
    rcases aR.1 hy with h|h
    ·exact hw y h
    ·simp at h;subst h;exact hx)
   exact⟨c',w',fun k=>by rw[iv,e,aI,RZ,aA,fZ (by omega) (by decide),aI,e3];exact q1 k,q2,by simp at q3;omega,q4⟩
theorem a0e(y1:cJ×Int)(q:ai)(y:aG)(vE:cJ×aD):∀(m:Nat) (fu:Nat) (v:Nat) (c:cJ) (w:aG),w.length=v+m->m<fu->w.length<=100->cw c->(∀x∈w,x.length<=16)->
 ∃c' w',(∀k,dF y1 q y vE k fu (v:Int) c.b c.i c.h w=k c'.b c'.i c'.h w')/\cw c'/\w'.length=w.length/\∀x∈w',x.length<=16:=by
 intro m
 induction m with
 |zero=>
  intro fu v c w hv hf hm hc hw;cases fu with
  |zero=>omega
  |succ fu=>
   have e:decide ((v:Int)<((w.map tx).length:Int))=false:=by simp;omega
   exact⟨c,w,fun k=>by rw[dF,e,aS],hc,rfl,hw⟩
 |succ m ih=>
  intro fu v c w hv hf hm hc hw;cases fu with
  |zero=>omega
  |succ fu=>
   have e:decide ((v:Int)<((w.map tx).length:Int))=true:=by simp;omega
   have hlt:v<w.length:=by omega
   have e1:iP w (v:Int)=some w[v]:=by unfold iP;rw[bG (by omega),aI];exact af hlt
   have hx:=hw w[v] (j8 hlt);have e4:IntKind.i64.wrap ((v:Int)+1)=((v+1:Nat):Int):=by rw[dS (pL.i64.2 (by omega))];rfl
   have st:∀k,dF y1 q y vE k (fu+1) (v:Int) c.b c.i c.h w=(bif nu w[v]then(bif !(y.contains w[v])then((gz (⟨c.b,c.i,c.h⟩:cJ)).bind fun y83=>dF y1 q y vE k fu ((v+1:Nat):Int) y83.1.b y83.1.i y83.1.h (w.set (v:Int).toNat y83.2))else dF y1 q y vE k fu ((v+1:Nat):Int) c.b c.i c.h w)else dF y1 q y vE k fu ((v+1:Nat):Int) c.b c.i c.h w):=by
    intro k;rw[dF,e,aI,e1,aA,PS w[v] (by omega),aA,e4,Uz,aA]
   obtain⟨c0,w0,p1,p2,p3,p4⟩:=ih fu (v+1) c w (by omega) (by omega) hm hc hw;cases hv1:nu w[v]with
   |false=>exact⟨c0,w0,fun k=>by rw[st k,hv1,aS];exact p1 k,p2,p3,p4⟩
   |true=>
    cases Mp:y.contains w[v]with
    |true=>exact⟨c0,w0,fun k=>by rw[st k,hv1,Mp,aI,bW,aS];exact p1 k,p2,p3,p4⟩
    |false=>
     obtain⟨c1,s,e2,hc1,hs⟩:=SO c hc;have RZ:gz (⟨c.b,c.i,c.h⟩:cJ)=some (c1,s):=e2;obtain⟨c',w',q1,q2,q3,q4⟩:=ih fu (v+1) c1 (w.set (v:Int).toNat s) (by simp;omega) (by omega) (by simpa using hm) hc1 (fun x Ry=>by
      rcases mV Ry with h|h
      ·exact hw x h
      ·subst h;exact hs)
     exact⟨c',w',fun k=>by rw[st k,hv1,Mp,aI,cT,aI,RZ,aA];exact q1 k,q2,by simpa using q3,q4⟩
theorem a6j(c:cJ)(h:cw c):∃c' r,sW c=some (c',r)/\cw c'/\Po r:=by
 unfold sW;obtain⟨c1,n,e1,hc1,_,_⟩:=og c 4 h (by decide) (by decide);obtain⟨c2,p,e2,A5,hp⟩:=PM c1 hc1;obtain⟨c3,m,e3,En,hm,hm2⟩:=og c2 3 A5 (by decide) (by decide);rw[e1,aA,e2,aA,e3,aA];have hp4:oG 4 p:=⟨hp.1,by have:=hp.2.1;omega,hp.2.2⟩
 obtain⟨c4,cs,q1,hc4,Ri,hsm⟩:=a0d (c1,n) m.toNat fuel m c3 [(⟨1,p,[],[]⟩:aO)] (by omega) (by unfold fuel;omega) (by omega) (by simp;omega) En (fun x hx=>by
  simp at hx;subst hx;exact⟨hp4,by simp,by simp⟩)
 have hcs:1<=cs.length/\cs.length<=3:=by simp at Ri;omega
 rw[q1];dsimp only;have hw0:(⟨[114],n,cs,[]⟩:aK).wt<=1048576:=sy.wt (n:=4) ⟨by simp,⟨by show cs.length<=4;omega,hsm⟩,by simp,by simp⟩ (by decide);obtain⟨c5,q,e5,hc5,hq⟩:=PM c4 hc4;have e5':j5 (⟨c4.b,c4.i,c4.h⟩:cJ)=some (c5,q):=e5;rw[SP (⟨[114],n,cs,[]⟩:aK) _ hw0,aA,e5',aA];dsimp only;obtain⟨c6,qa,r1,hc6,r3,r4⟩:=a0e (c1,n) cs (fE (zU (⟨[114],n,cs,[]⟩:aK) ((cs.map aO.c).length:Int))) (c5,q) q.args.length fuel 0 c5 q.args (by simp) (by have:=hq.2.1;unfold fuel;omega) (by have:=hq.2.1;omega) hc5 hq.2.2;have r1':=r1;rw[show((0:Nat):Int)=0 from rfl]at r1';rw[r1'];obtain⟨c7,k,e7,hc7,_⟩:=Kx c6 [1,1,2] hc6 (by decide) (by decide);have e7':gh (⟨c6.b,c6.i,c6.h⟩:cJ) [1,1,2]=some (c7,k):=e7;obtain⟨c8,b,e8,hc8⟩:=YB c7 6 hc7 (by decide) (by decide);have Xt:∀n,n<=4->room n 48=true:=fun n hn=>Gk (by omega) (by decide)
 rw[e7',aA];dsimp only;rw[Xt _ (by simp),aI,e8,aA];have hq4:oG 4 (⟨q.rel,qa⟩:aD):=⟨hq.1,by show qa.length<=4;have:=hq.2.1;omega,r4⟩
 have fin:∀(al:eF),1<=al.length->al.length<=2->(∀a∈al,OK a)->∃c' r,((nR (⟨[114],n,cs,al⟩:aK)).bind fun y92=>(bif !(y92)then((nZ c8 99).bind fun y95=>(some (y95.1,y95.2)))else(some (c8,(⟨[114],n,cs,al⟩:aK)))))=some (c',r)/\cw c'/\Po r:=by
  intro al ha1 ha2 ha;have hsr:sy 4 (⟨[114],n,cs,al⟩:aK):=⟨by simp,⟨by show cs.length<=4;omega,hsm⟩,by show al.length<=4;omega,ha⟩
  rw[a1y _ (hsr.wt (by decide)),aA];cases hr:j7 (⟨[114],n,cs,al⟩:aK)with
  |true=>exact⟨_,_,rfl,hc8,hsr,hr,hcs.1,ha1⟩
  |false=>
   obtain⟨c9,r,e9,hc9,hr9⟩:=Y8 c8 99 hc8 (by decide);rw[cT,aI,e9,aA];exact⟨_,_,rfl,hc9,hr9⟩
 cases b with
 |true=>
  dsimp only;rw[aI,Xt _ (by simp),aI];exact fin _ (by simp) (by simp) (fun a ha=>by
   simp at ha;rcases ha with rfl|rfl
   ·exact hq4
   ·exact⟨by simp,by simp,by simp⟩)
 |false=>
  dsimp only;rw[aS];exact fin _ (by simp) (by simp) (fun a ha=>by
   simp at ha;subst ha;exact hq4)
theorem Y1(c:cJ)(h:cw c):∃c' r,lG c=some (c',r)/\cw c'/\Po r:=by
 unfold lG;obtain⟨c1,b,e,hc⟩:=YB c 3 h (by decide) (by decide);rw[e,aA];cases b with
 |true=>
  obtain⟨c2,r,e2,A5,hr⟩:=a6j c1 hc;rw[aI,e2,aA];exact⟨_,_,rfl,A5,hr⟩
 |false=>
  obtain⟨c2,r,e2,A5,hr⟩:=Y8 c1 99 hc (by decide);rw[aS,e2,aA];exact⟨_,_,rfl,A5,hr⟩
theorem sy.le{n m:Nat}{r:aK}(h:sy n r)(hm:n<=m):sy m r:=⟨h.1,⟨by have:=h.2.1.1;omega,h.2.1.2⟩,by have:=h.2.2.1;omega,h.2.2.2⟩
theorem a6Q(c:cJ)(h:cw c):∃c' r,wN c=some (c',r)/\cw c'/\sy 5 r:=by
 unfold wN;obtain⟨c1,r,e,hc,hg,_,g1,g2⟩:=Y1 c h;obtain⟨c2,x,e2,A5,_,_⟩:=og c1 14 hc (by decide) (by decide);have hr:=hg.le (m:=5) (by decide);have hl1:=hg.2.1.1;have Bf:=hg.2.2.1;rw[e,aA,e2,aA];cases(x==(0:Int))with
 |true=>
  obtain⟨c3,s,e3,En,hs⟩:=KV c2 A5;rw[aI,e3,aA];exact⟨_,_,rfl,En,hs,hr.2⟩
 |false=>
  rw[aS];cases(x==(1:Int))with
  |true=>
   obtain⟨c3,s,e3,En,_⟩:=Kx c2 [-1,0,9,10] A5 (by decide) (by decide);rw[aI,e3,aA];exact⟨_,_,rfl,En,hr⟩
  |false=>
   rw[aS];cases(x==(2:Int))with
   |true=>
    obtain⟨c3,k,e3,En,hk⟩:=a6P c2 A5;rw[aI,e3,aA,fZ (by show r.conds.length<_;omega) (by decide),aI];refine⟨_,_,rfl,En,hr.1,⟨by simp;omega,fun y hy=>?_⟩,hr.2.2⟩;rcases aR.1 hy with h|h
    ·exact hr.2.1.2 y h
    ·simp at h;subst h;exact hk
   |false=>
    rw[aS];cases(x==(3:Int))with
    |true=>
     obtain⟨c3,k,e3,En,_⟩:=Kx c2 [0,1,2,3,4] A5 (by decide) (by decide);obtain⟨c4,p,e4,hc4,hp⟩:=a1n c3 En;rw[aI,e3,aA,e4,aA,fZ (by show r.cK.length<_;omega) (by decide),aI];refine⟨_,_,rfl,hc4,hr.1,hr.2.1,by simp;omega,fun y hy=>?_⟩;rcases aR.1 hy with h|h
     ·exact hr.2.2.2 y h
     ·simp at h;subst h;exact hp
    |false=>
     rw[aS];cases(x==(4:Int))with
     |true=>
      rw[aI,Ti (by simpa using g1),aA];exact⟨_,_,rfl,A5,hr.1,⟨by rw[mi,bz];show min _ r.conds.length-1<=5;omega,fun y hy=>hr.2.1.2 y (bu (fJ hy))⟩,hr.2.2⟩
     |false=>
      rw[aS];cases(x==(5:Int))with
      |true=>
       rw[aI,Ti (by simpa using g2),aA];exact⟨_,_,rfl,A5,hr.1,hr.2.1,by rw[mi,bz];show min _ r.cK.length-1<=5;omega,fun y hy=>hr.2.2.2 y (bu (fJ hy))⟩
      |false=>
       rw[aS];cases(x==(6:Int))with
       |true=>
        obtain⟨c3,s,e3,En,hs⟩:=V0 c2 [[63,102],[63,97],[63,103]] A5 (by decide) (by decide);obtain⟨c4,k,e4,hc4,_⟩:=Kx c3 [1,2] En (by decide) (by decide);obtain⟨c5,t,e5,hc5,ht⟩:=V0 c4 [[63,102],[63,120]] hc4 (by decide) (by decide);have hs2:s.length<=16:=by
         have:∀s∈([[63,102],[63,97],[63,103]]:aG),s.length<=16:=by decide
         exact this s hs
        have ht2:t.length<=16:=by
         have:∀s∈([[63,102],[63,120]]:aG),s.length<=16:=by decide
         exact this t ht
        rw[aI,e3,aA,e4,aA,e5,aA];refine⟨_,_,rfl,hc5,hr.1,⟨by simp,fun y hy=>?_⟩,by simp,fun y hy=>?_⟩
        ·simp at hy;rcases hy with rfl|rfl|rfl
         ·exact⟨⟨by simp,by simp,by simp⟩,by simp,by simp⟩
         ·exact⟨⟨by simp,by simp,by simpa using hs2⟩,by simp,by simp⟩
         ·exact⟨⟨by simp,by simp,by simpa using ht2⟩,by simp,by simp⟩
        ·simp at hy;subst hy;exact⟨by simp,by simp,by simp⟩
       |false=>exact⟨_,_,rfl,A5,hr⟩
end Go.Cx
namespace Go.Cx
open Go.RowKit Go.Proofs Tryz
theorem Al.wt{n:Nat}{l:aJ}(h:Al n l)(hn:n<=1000):sw aD.wt l<=1048576:=by
 have c1:=zF (w:=aD.wt) (B:=200) l (fun x hx=>by
  have:=oG.wt4 (h.2 x hx);unfold aD.wt;unfold tw at*;omega)
 have d1:(200+1)*l.length<=201*1000:=cv _ (by have:=h.1;omega);omega
end Go.Cx
namespace Go.Cx
open Go.RowKit Go.Proofs Tryz
theorem a3l(c:cJ)(h:cw c):∃c' s,gz c=some (c',s)/\cw c'/\mN s=true:=by
 unfold gz;obtain⟨c',s,e,hc,hs⟩:=V0 c ([[97],[98],[99],[49],[50]]:aG) h (by decide) (by decide);rw[e,aA];have:∀s∈([[97],[98],[99],[49],[50]]:aG),mN s=true:=by decide
 exact⟨_,_,rfl,hc,this s hs⟩
theorem a6m(c:cJ)(h:cw c):∃c' r n,nT c=some (c',(r,n))/\cw c'/\wQ r=true/\r.length<=2/\0<=n/\n<=2:=by
 unfold nT;obtain⟨c1,x,e,hc,hx,hx2⟩:=og c 6 h (by decide) (by decide);rw[e,aA];have key:x=0\/x=1\/x=2\/x=3\/x=4\/x=5:=by omega
 rcases key with rfl|rfl|rfl|rfl|rfl|rfl<;>exact⟨c1,_,_,rfl,hc,by decide,by decide,by decide,by decide⟩
theorem Y3(y:cJ×(Bytes×Int))(k:bC->Int->Int->aG->Option (cJ×aD)):∀(m:Nat) (fu:Nat) (v:Int) (c:cJ) (w:aG),y.2.2-v=(m:Int)->m<fu->0<=v->y.2.2<=100->w.length+m<=1000->cw c->(∀x∈w,mN x=true)->
 ∃c' w',gF y k fu v c.b c.i c.h w=k c'.b c'.i c'.h w'/\cw c'/\w'.length<=w.length+m/\∀x∈w',mN x=true:=by
 intro m
 induction m with
 |zero=>
  intro fu v c w hv hf h0 hy hw hc hx;cases fu with
  |zero=>omega
  |succ fu=>
   have e:decide (v<y.2.2)=false:=by simp;omega
   rw[gF,e,aS];exact⟨c,w,rfl,hc,by omega,hx⟩
 |succ m ih=>
  intro fu v c w hv hf h0 hy hw hc hx;cases fu with
  |zero=>omega
  |succ fu=>
   have e:decide (v<y.2.2)=true:=by simp;omega
   obtain⟨c1,s,e2,hc1,hs⟩:=a3l c hc;have RZ:gz (⟨c.b,c.i,c.h⟩:cJ)=some (c1,s):=e2;have e3:IntKind.i64.wrap (v+1)=v+1:=dS (pL.i64.2 (by omega));rw[gF,e,aI,RZ,aA,fZ (by omega) (by decide),aI,e3];obtain⟨c',w',q1,q2,q3,q4⟩:=ih fu (v+1) c1 (w++[s]) (by omega) (by omega) (by omega) hy (by simp;omega) hc1 (fun x Ry=>by
    rcases aR.1 Ry with h|h
    ·exact hx x h
    ·simp at h;subst h;exact hs)
   exact⟨c',w',q1,q2,by simp at q3;omega,q4⟩
theorem a0X(c:cJ)(h:cw c):∃c' p,lF c=some (c',p)/\cw c'/\rX p=true/\p.rel.length<=2:=by
 unfold lF;obtain⟨c1,r,n,e,hc,hr,Zp,hn,hn2⟩:=a6m c h;rw[e,aA];obtain⟨c',w',q1,q2,q3,q4⟩:=Y3 (c1,(r,n)) (fun a b d q=>some ((⟨a,b,d⟩:cJ),(⟨r,q⟩:aD))) n.toNat fuel 0 c1 [] (by simp;omega) (by unfold fuel;omega) (by omega) (by simp;omega) (by simp;omega) hc (by simp);refine⟨_,_,q1,q2,?_,Zp⟩;unfold rX;simp only[aV,bI,aq];exact⟨q4,hr,by simp at q3;omega⟩
theorem a1t(a:aJ)(f:aD)(K:Bool->aJ->Option aJ):∀(rest:aJ) (i:Nat) (w:aJ),(∀x∈rest,x.args.length<=1048576)->w.length+rest.length<=1048576->cV a f K rest i true w=K true (w++rest)
 | [],i,w,_,_=>by simp[cV]
 |x::xs,i,w,hs,hl=>by
  simp only[aP]at hl;rw[cV,bW,aS,AE x (by have:=hs x (by simp);omega),aA,fZ (w:=w) (c:=aD.c) (y:=[D.str x.rel,D.sl (x.args.map tx)]) (b:=40) (by omega) (by decide),aI,a1t a f K xs (i+1) (w++[x]) (fun y hy=>hs y (by simp[hy])) (by simp;omega)];simp
theorem a1s(a:aJ)(f:aD)(K:Bool->aJ->Option aJ):∀(rest:aJ) (p:Option aD) (i:Nat) (w:aJ),(∀x∈rest,x.args.length<=1048576)->w.length+rest.length<=1048576->chainB p rest=true->f∈rest->cV a f K rest i false w=K true (w++rest)
 | [],_,_,_,_,_,_,h=>by cases h
 |x::xs,p,i,w,hs,hl,hc,hm=>by
  simp only[aP]at hl;obtain⟨_,_,h3⟩:=vV hc;have cx:=AE x (by have:=hs x (by simp);omega);have rx:=fZ (w:=w) (c:=aD.c) (y:=[D.str x.rel,D.sl (x.args.map tx)]) (b:=40) (by omega) (by decide);rw[cV,cT,aI,To,aA];by_cases e:x=f
  ·rw[e,NV,<-e];rw[bG (by omega:(0:Int)>=0),aI,aA,bM (by omega:¬(0:Int)>0),aS,cx,aA,rx,aI,a1t a x K xs (i+1) (w++[x]) (fun y hy=>hs y (by simp[hy])) (by simp;omega)];simp
  ·have hxs:f∈xs:=by
    rcases bL.1 hm with q|q
    ·exact absurd q.symm e
    ·exact q
   have hlt:=xC h3 f hxs;rw[bM (by omega),aS,cx,aA,rx,aI,a1s a f K xs (some x) (i+1) (w++[x]) (fun y hy=>hs y (by simp[hy])) (by simp;omega) h3 hxs];simp
theorem a6i{l:aJ}{f:aD}(hl:iK l=true)(hf:rX f=true)(hn:l.length<24):∃l',lX l f=some l'/\iK l'=true/\l'.length<=l.length+1/\∀x∈l',x∈l\/x=f:=by
 have hargs:∀x∈l,x.args.length<=1048576:=fun x hx=>aD.dY (by have:=Ix (C1 hl x hx);omega)
 by_cases hm:f∈l
 ·refine⟨l,?_,hl,by omega,fun x hx=>.inl hx⟩;have hc:chainB none l=true:=by
   unfold iK at hl;rw[aV]at hl;exact hl.1
  unfold lX;rw[a1s l f _ l none 0 [] hargs (by simp;omega) hc hm];rfl
 ·refine⟨vp f l,a6b l f (by have:=aD.dY (n:=1048576) (by have:=Ix hf;omega:f.wt<=1048576);omega) (fun x hx=>by have:=hargs x hx;omega) (by omega) hm,OM hf hl hm (by omega),by rw[J7];omega,fun x hx=>?_⟩;rcases(J8 f l x).1 hx with h|h
  ·exact .inr h
  ·exact .inl h
theorem a45(k:bC->Int->Int->aJ->Option (cJ×aJ)):∀(m:Nat) (fu:Nat) (v:Int) (c:cJ) (w:aJ),v=(m:Int)->m<fu->w.length+m<=20->cw c->iK w=true->(∀x∈w,x.rel.length<=2)->
 ∃c' w',gu k fu v c.b c.i c.h w=k c'.b c'.i c'.h w'/\cw c'/\iK w'=true/\w'.length<=w.length+m/\∀x∈w',x.rel.length<=2:=by
 intro m
 induction m with
 |zero=>
  intro fu v c w hv hf hm hc hw hr;cases fu with
  |zero=>omega
  |succ fu=>
   have e:decide (v>0)=false:=by simp;omega
   rw[gu,e,aS];exact⟨c,w,rfl,hc,hw,by omega,hr⟩
 |succ m ih=>
  intro fu v c w hv hf hm hc hw hr;cases fu with
  |zero=>omega
  |succ fu=>
   have e:decide (v>0)=true:=by simp;omega
   obtain⟨c1,f,e2,hc1,hf1,WW⟩:=a0X c hc;have RZ:lF (⟨c.b,c.i,c.h⟩:cJ)=some (c1,f):=e2;obtain⟨w1,e4,hw1,hl1,hm1⟩:=a6i hw hf1 (by omega);have e3:IntKind.i64.wrap (v-1)=v-1:=dS (pL.i64.2 (by omega));rw[gu,e,aI,RZ,aA,e4,aA,e3];obtain⟨c',w',q1,q2,q3,q4,q5⟩:=ih fu (v-1) c1 w1 (by omega) (by omega) (by omega) hc1 hw1 (fun x hx=>by
    rcases hm1 x hx with h|h
    ·exact hr x h
    ·rw[h];exact WW)
   exact⟨c',w',q1,q2,q3,by omega,q5⟩
theorem a6q(c:cJ)(n:Int)(h:cw c)(h0:0<=n)(hn:n<=19):∃c' l,oa c n=some (c',l)/\cw c'/\iK l=true/\(l.length:Int)<=n/\∀x∈l,x.rel.length<=2:=by
 unfold oa;have e3:IntKind.i64.wrap (n+1)=n+1:=dS (pL.i64.2 (by omega));obtain⟨c1,x,e,hc,hx,hx2⟩:=og c (n+1) h (by omega) (by omega);rw[e3,e,aA];obtain⟨c',w',q1,q2,q3,q4,q5⟩:=a45 (fun a b d q=>some ((⟨a,b,d⟩:cJ),q)) x.toNat fuel x c1 [] (by omega) (by unfold fuel;omega) (by simp;omega) hc rfl (by simp);exact⟨_,_,q1,q2,q3,by simp at q4;omega,q5⟩
theorem Kc(r:aK)(n:Bytes):∀(cs:ai) (i:Nat),rj ⟨n,r.prio,r.conds,r.cK⟩ cs i=rj r cs i
 | [],_=>rfl
 |c::cs,i=>by
  rw[rj,rj,Kc r n cs (i+1)];rfl
theorem SN{r:aK}{n:Bytes}(h:j7 r=true)(hn:wQ n=true):j7 ⟨n,r.prio,r.conds,r.cK⟩=true:=by
 unfold j7 at h⊢;dsimp only;rw[Kc];simp only[aV]at h⊢;exact⟨⟨⟨⟨hn,h.1.1.1.2⟩,h.1.1.2⟩,h.1.2⟩,h.2.1,h.2.2.1,h.2.2.2⟩
theorem QG:∀ {l:aj} {k i:Nat} {r:aK},(l.map aK.name).Nodup->l[i]?=some r->Bd r.name l k=((k+i:Nat):Int)
 | [],_,_,_,_,h=>by simp at h
 |x::xs,k,i,r,hn,h=>by
  rw[bB,eV]at hn;cases i with
  |zero=>
   simp at h;subst h;rw[Bd];simp
  |succ i=>
   have hx:xs[i]?=some r:=by simpa using h
   have hne:¬x.name=r.name:=fun e=>hn.1 (by rw[e];exact cE.2 ⟨r,aE hx,rfl⟩)
   rw[Bd,show(x.name==r.name)=false from dK.2 hne,aS,QG hn.2 hx]
   congr 1;omega
theorem Sw{all:aj}(hn:(all.map aK.name).Nodup):∀(l:aj) (i:Nat),(∀r∈l,j7 r=true)->(∀(j:Nat) r,l[j]?=some r->all[i+j]?=some r)->L5 all l i=true
 | [],_,_,_=>rfl
 |r::l,i,hv,ha=>by
  have h0:=QG (k:=0) hn (ha 0 r rfl);rw[L5,hv r (by simp),bG (by rw[h0];congr 1;omega),Sw hn l (i+1) (fun x hx=>hv x (by simp[hx])) (fun j x hx=>by rw[show i+1+j=i+(j+1)by omega];exact ha (j+1) x (by simpa using hx))];rfl
theorem ZT{l:aj}(hn:(l.map aK.name).Nodup)(hv:∀r∈l,j7 r=true)(h6:l.length<=6):r9 l=true:=by
 unfold r9;rw[Sw hn l 0 hv (fun j r hj=>by rw[cW];exact hj)];simp;omega
def Z8(m:Nat):Bytes:=[114,UInt8.ofNat (48+m)]
theorem a3h:∀m,m<=7->wQ (Z8 m)=true/\∀j,j<=7->Z8 m=Z8 j->m=j:=by decide
theorem Xs{m:Nat}(h:m<=7):([114]:Bytes)++Lib.itoa (m:Int)=Z8 m:=by
 have:Lib.itoa (m:Int)=Lib.decDigits m:=by unfold Lib.itoa;rw[b9 (by omega)];rfl
 rw[this,LP (by omega)];unfold UG Z8;rw[bN (by omega)];rfl
theorem a44(k:bC->Int->Int->aj->Option (cJ×aj))(P:aK->Prop)(hP:∀c c' r,cw c->lG c=some (c',r)->P r):∀(m:Nat) (fu:Nat) (v:Int) (c:cJ) (w:aj),v=(m:Int)->m<fu->w.length+m<=6->cw c->(∀r∈w,j7 r=true/\sy 4 r/\∃r0,P r0/\r.conds=r0.conds)->(w.map aK.name).Nodup->(∀r∈w,∃j,m<j/\j<=7/\r.name=Z8 j)->
 ∃c' w',mS k fu v c.b c.i c.h w=k c'.b c'.i c'.h w'/\cw c'/\w'.length<=w.length+m/\(∀r∈w',j7 r=true/\sy 4 r/\∃r0,P r0/\r.conds=r0.conds)/\(w'.map aK.name).Nodup:=by
 intro m
 induction m with
 |zero=>
  intro fu v c w hv hf hm hc hw hn hj;cases fu with
  |zero=>omega
  |succ fu=>
   have e:decide (v>0)=false:=by simp;omega
   rw[mS,e,aS];exact⟨c,w,rfl,hc,by omega,hw,hn⟩
 |succ m ih=>
  intro fu v c w hv hf hm hc hw hn hj;cases fu with
  |zero=>omega
  |succ fu=>
   have e:decide (v>0)=true:=by simp;omega
   obtain⟨c1,r,e2,hc1,hr⟩:=Y1 c hc;have RZ:lG (⟨c.b,c.i,c.h⟩:cJ)=some (c1,r):=e2;have e3:IntKind.i64.wrap (v-1)=v-1:=dS (pL.i64.2 (by omega));have e5:=a0a v (pL.i64.2 (by omega));have e6:([114]:Bytes)++Lib.itoa v=Z8 (m+1):=by rw[hv];exact Xs (by omega)
   have e7:decide (([114]:Bytes).length+(Lib.itoa v).length<=maxLen)=true:=by
    have:=congrArg List.length e6;rw[av]at this;rw[this];rfl
   have hnm:=a3h (m+1) (by omega);rw[mS,e,aI,RZ,aA,e5,aA,e7,aI,fZ (by omega) (by decide),aI,e3,e6];have a5U:=SN hr.2.1 hnm.1;obtain⟨c',w',q1,q2,q3,q4,q5⟩:=ih fu (v-1) c1 (w++[⟨Z8 (m+1),r.prio,r.conds,r.cK⟩]) (by omega) (by omega) (by simp;omega) hc1 (fun x hx=>by
    rcases aR.1 hx with h|h
    ·exact hw x h
    ·rw[cZ.1 h];exact⟨a5U,⟨by show(Z8 (m+1)).length<=16;unfold Z8;simp,hr.1.2⟩,r,hP c c1 r hc e2,rfl⟩) (by
    rw[bA,bH];refine⟨hn,by simp,fun a ha b hb e=>?_⟩;simp at hb;obtain⟨x,hx,rfl⟩:=cE.1 ha;obtain⟨j,j1,j2,j3⟩:=hj x hx;have:=hnm.2 j j2 (by rw[<-j3,e,hb]);omega) (fun x hx=>by
    rcases aR.1 hx with h|h
    ·obtain⟨j,j1,j2,j3⟩:=hj x h;exact⟨j,by omega,j2,j3⟩
    ·rw[cZ.1 h];exact⟨m+1,by omega,by omega,rfl⟩)
   exact⟨c',w',q1,q2,by simp at q3;omega,q4,q5⟩
theorem sy.wt4{r:aK}(h:sy 4 r):r.wt<=10000:=by
 obtain⟨h1,⟨h2,h3⟩,h4,h5⟩:=h;have c1:=zF (w:=aO.wt) (B:=200) r.conds (fun x hx=>(h3 x hx).wt);have c2:=zF (w:=Action.wt) (B:=200) r.cK (fun x hx=>(h5 x hx).wt);have d1:(200+1)*r.conds.length<=201*4:=cv _ (by omega);have d2:(200+1)*r.cK.length<=201*4:=cv _ (by omega);unfold aK.wt;unfold tw at*;omega
theorem a6n(P:aK->Prop)(hP:∀c c' r,cw c->lG c=some (c',r)->P r)(c:cJ)(n:Int)(h:cw c)(h0:0<=n)(hn:n<=6):∃c' l,wO c n=some (c',l)/\cw c'/\r9 l=true/\sw aK.wt l<=100000/\∀r∈l,∃r0,P r0/\r.conds=r0.conds:=by
 unfold wO;have e3:IntKind.i64.wrap (n+1)=n+1:=dS (pL.i64.2 (by omega));obtain⟨c1,x,e,hc,hx,hx2⟩:=og c (n+1) h (by omega) (by omega);rw[e3,e,aA];obtain⟨c',w',q1,q2,q3,q4,q5⟩:=a44 (fun a b d q=>some ((⟨a,b,d⟩:cJ),q)) P hP x.toNat fuel x c1 [] (by omega) (by unfold fuel;omega) (by simp;omega) hc (by simp) (by simp) (by simp);have h6:w'.length<=6:=by simp at q3;omega
 refine⟨_,_,q1,q2,ZT q5 (fun r hr=>(q4 r hr).1) h6,?_,fun r hr=>(q4 r hr).2.2⟩;have h1:=zF (w:=aK.wt) (B:=10000) w' (fun r hr=>sy.wt4 (q4 r hr).2.1);have:(10000+1)*w'.length<=(10000+1)*6:=cv _ h6;omega
end Go.Cx
namespace Go.Cx
open Go.RowKit Go.Proofs Tryz
theorem Y6(n:aH)(fs y:aJ)(K:bK->Option aH)(hFS:FS fs)(A:bK)(hA:∀a∈A,a.shape.wt<=1048576)(hl:A.length<=1048576):∀(rest pre:bK) (fu:Nat),A=pre++rest->rest.length<fu->
 l6 n fs y K fu (pre.length:Int) (lZ pre fs++rest)=K (lZ A fs)
 | [],pre,fu,e,hu=>by
  obtain⟨fu,rfl⟩:∃m,fu=m+1:=⟨fu-1,by simp at hu;omega⟩
  rw[cz]at e;rw[l6,cz,ax,FK,bM (by omega),aS,e]
 |x::rest,pre,fu,e,hu=>by
  obtain⟨fu,rfl⟩:∃m,fu=m+1:=⟨fu-1,by simp at hu;omega⟩
  simp only[aP]at hu;have hlen:A.length=pre.length+(rest.length+1):=by rw[e];simp
  have hx:=hA x (by rw[e];simp);have ih:=Y6 n fs y K hFS A hA hl rest (pre++[x]) fu (by rw[e];simp) (by omega);have UP:iP (lZ pre fs++x::rest) (pre.length:Int)=some x:=by
   have:=wD (a:=lZ pre fs++x::rest) (pre:=lZ pre fs) (xs:=rest) (x:=x) rfl;rw[FK]at this;exact this
  have qo:(lZ pre fs++x::rest).set (pre.length:Int).toNat ⟨x.shape,xw x.shape [] fs⟩=lZ (pre++[x]) fs++rest:=by
   have:=setAt (lZ pre fs) rest x ⟨x.shape,xw x.shape [] fs⟩;rw[FK]at this;rw[qA,this,Rb,cm];rfl
  rw[l6,ax,av,FK,aP,bG (by omega),aI,UP,aA,a3q x.shape [] fs hx PB.nil hFS,aA,Jb (by omega),qo];rw[av,dU]at ih;exact ih
theorem Y7(n:aH)(fs y:aJ)(q:bK)(K:bE->Option aH)(hf:FS fs)(h24:fs.length<=24)(ns:bE)(hp:AY ns):∀(rest pre:bE) (fu:Nat),(pre++rest).map pV=ns.map pV->rest.length<fu->
 jL n fs y q K fu (pre.length:Int) (pre++rest)=K (pre++oB ns fs rest pre.length)
 | [],pre,fu,he,hu=>by
  obtain⟨fu,rfl⟩:∃m,fu=m+1:=⟨fu-1,by simp at hu;omega⟩
  rw[jL,cz,ax,bM (by omega),aS,oB,cz]
 |x::rest,pre,fu,he,hu=>by
  obtain⟨fu,rfl⟩:∃m,fu=m+1:=⟨fu-1,by simp at hu;omega⟩
  simp only[aP]at hu;have hlen:(pre++x::rest).length=ns.length:=by have:=congrArg List.length he;simpa using this
  have hlt:=hp.len;have hok:NOk ⟨n.rules,n.ends,q,pre++x::rest,y,n.bp⟩:=by
   refine⟨by show(pre++x::rest).length<=1048576;rw[hlen];exact hp.len,fun z hz=>?_⟩;have hm:pV z∈ns.map pV:=by rw[<-he];exact cE.2 ⟨z,hz,rfl⟩
   obtain⟨w,hw,e⟩:=cE.1 hm;have:w.cond=z.cond:=(jf e).2;rw[<-this];exact hp.wt w hw
  have Wl:fY (pre++x::rest) ((pre.length:Nat):Int)=fY ns (dZ pre.length):=tv he _;have QO:∀c∈fY ns (dZ pre.length),c.wt<=1048576:=by
   intro c hc;obtain⟨z,hz,e⟩:=JP hc;rw[<-e];exact hp.wt z hz
  have UP:iP (pre++x::rest) (pre.length:Int)=some x:=wD rfl;have ih:=Y7 n fs y q K hf h24 ns hp rest (pre++[⟨x.parent,x.cond,x.cj,B3 (fY ns (dZ pre.length)) fs⟩]) fu (by rw[<-he];simp[pV]) (by omega);rw[av,aP]at hlen;rw[jL,ax,av,aP,bG (by omega),aI,YC _ _ hok,aA];show((oM (fY (pre++x::rest) (pre.length:Int)) fs).bind _)=_;rw[Wl,a22 _ fs QO (hp.path _) hf h24,aA,UP,aA,Jb (by omega),qA,setAt];rw[av,dU,cm]at ih;rw[show pre++(⟨x.parent,x.cond,x.cj,B3 (fY ns (dZ pre.length)) fs⟩:Node)::rest=pre++([⟨x.parent,x.cond,x.cj,B3 (fY ns (dZ pre.length)) fs⟩]++rest)from rfl,ih,oB];simp
theorem a3p(n:aH)(fs:aJ)(hf:FS fs)(h24:fs.length<=24)(ha:n.au.length<=1048576)(hs:∀x∈n.au,x.shape.wt<=1048576)(hp:AY n.nodes):su n fs=some ⟨n.rules,n.ends,lZ n.au fs,ld n.nodes fs,fs,n.bp⟩:=by
 have hl:=hp.len;unfold su;rw[F6 fs hf.1 (fun f WW=>by have:=aD.dY (hf.2 f WW);omega),aA];have e1:=Y6 n fs fs (fun(lg:bK)=>(jL n fs fs lg (fun(pJ:bE)=>(some (⟨n.rules,n.ends,lg,pJ,fs,n.bp⟩:aH))) fuel 0 n.nodes)) hf n.au hs ha n.au [] fuel rfl (by unfold fuel;omega);refine e1.trans ?_;have e2:=Y7 n fs fs (lZ n.au fs) (fun(pJ:bE)=>(some (⟨n.rules,n.ends,lZ n.au fs,pJ,fs,n.bp⟩:aH))) hf h24 n.nodes hp n.nodes [] fuel rfl (by unfold fuel;omega);exact e2
theorem WJ{rs:aj}{fs:aJ}(h1:r9 rs=true)(h2:iK fs=true)(hr:sw aK.wt rs<=1048576):su (ni rs [] 0) fs=some (ni rs fs 0):=by
 have hv:=rA h1;have h6:=xY h1;have hFS:=FS.F0 (fs:=fs) (by have:=I8 h2;omega);have e:ni rs [] 0=⟨rs,(cr [] rs).2,(cr [] rs).1.1,(cr [⟨[],[]⟩] rs).1.2,[],0⟩:=by
  rw[<-Nb h1]
  congr 1
  ·rw[gT,gT]
  ·rw[gT,gT]
 have hf:(cr [⟨[],[]⟩] rs).1.2.map pV=(cr [] rs).1.2.map pV:=by rw[gT,gT];rfl
 rw[e,a3p _ fs hFS (sY h2) (by show(cr [] rs).1.1.length<=1048576;have:=Mi [] h1;omega) (fun x hx=>(vi [] hv x hx).1) (JX [⟨[],[]⟩] hv h6)];unfold ni;dsimp only;have:ld (cr [⟨[],[]⟩] rs).1.2 fs=ld (cr [] rs).1.2 fs:=by
  refine nw fun i=>?_
  rw[zI,zI,tv hf (dZ i)];rw[gT,gT];cases i with
  |zero=>rfl
  |succ i=>rfl
 rw[this]
theorem a3o(P:aK->Prop)(hP:∀c c' r,cw c->lG c=some (c',r)->P r)(c:cJ)(h:cw c):∃c' rs fs t,uy c=some (c',ni rs fs t)/\cw c'/\r9 rs=true/\sw aK.wt rs<=100000/\iK fs=true/\fs.length<=8/\(∀x∈fs,x.rel.length<=2)/\0<=t/\t<50/\∀r∈rs,∃r0,P r0/\r.conds=r0.conds:=by
 unfold uy;obtain⟨c1,rs,e1,h1,r1,r2,r3⟩:=a6n P hP c 4 h (by decide) (by decide);obtain⟨c2,fs,e2,h2,f1,f2,f3⟩:=a6q c1 8 h1 (by decide) (by decide);obtain⟨c3,t,e3,h3,t0,t1⟩:=og c2 50 h2 (by decide) (by decide);rw[e1,aA,a0Z rs (by omega),r1,aI,aA];dsimp only;rw[e2,aA];dsimp only;rw[WJ r1 f1 (by omega),aA,e3,aA];exact⟨_,rs,fs,t,rfl,h3,r1,r2,f1,by omega,f3,t0,t1,r3⟩
end Go.Cx
namespace Go.Cx
open Go.RowKit Go.Proofs Tryz
theorem sy.wt5{r:aK}(h:sy 5 r):r.wt<=10000:=by
 obtain⟨h1,⟨h2,h3⟩,h4,h5⟩:=h;have c1:=zF (w:=aO.wt) (B:=200) r.conds (fun x hx=>(h3 x hx).wt);have c2:=zF (w:=Action.wt) (B:=200) r.cK (fun x hx=>(h5 x hx).wt);have d1:(200+1)*r.conds.length<=201*5:=cv _ (by omega);have d2:(200+1)*r.cK.length<=201*5:=cv _ (by omega);unfold aK.wt;unfold tw at*;omega
theorem Um{rs:aj}{fs:aJ}(t:Int)(h1:r9 rs=true)(h2:iK fs=true):0<(ni rs fs t).nodes.length/\(ni rs fs t).nodes.length<=25/\(ni rs fs t).ends.length<=6/\∀x∈(ni rs fs t).nodes,x.tokens.length<=390625:=by
 have hv:=rA h1;have h6:=xY h1;have hl:=F7 [] hv h6;refine⟨?_,?_,?_,fun x hx=>?_⟩
 ·show 0<(ld (cr [] rs).1.2 fs).length;rw[Bc,gT];simp
 ·show(ld (cr [] rs).1.2 fs).length<=25;rw[Bc];omega
 ·show(cr [] rs).2.length<=6;rw[(xJ [] rs).2.1];omega
 ·obtain⟨i,hi⟩:=dN (show x∈ld (cr [] rs).1.2 fs from hx);exact(JG h1 h2 hi).2.1
theorem MS{α:Type}{l:List α}{i:Nat}{y x:α}(h:x∈l.set i y):x∈l\/x=y:=mV h
theorem a6R(c:cJ)(h:cw c):∃c' n,wP c=some (c',n)/\cw c'/\BD n/\n.bp<=50/\n.facts.length<=256:=by
 obtain⟨c1,rs,fs,t,e1,h1,r1,r2,f1,f2,_,t0,t1,_⟩:=a3o (fun _=>True) (fun _ _ _ _ _=>trivial) c h;obtain⟨c2,x,e2,h2,x0,x1⟩:=og c1 12 h1 (by decide) (by decide);have hn:=MU t r1 f1 (by omega);obtain⟨n1,n2,n3,n4⟩:=Um t r1 f1;have hw:sw aK.wt (ni rs fs t).rules<=100000:=r2;have ht:(ni rs fs t).bp<=50:=by show t<=50;omega
 have hfl:(ni rs fs t).facts.length<=256:=by show fs.length<=256;omega
 have hr6:(ni rs fs t).rules.length<=6:=xY r1;unfold wP;rw[e1,aA];generalize ni rs fs t=n at hn n1 n2 n3 n4 hw hr6 ht hfl;dsimp only;rw[e2,aA];dsimp only;have bq:∀k:Int,x≠k->((x:Int)==k)=false:=fun k h=>dK.2 h
 by_cases q0:x=0
 ·subst q0;exact⟨_,_,rfl,h2,⟨hn.rules,hn.facts,hn.ends,hn.au,hn.cj,hn.nodes,hn.node⟩,by show(-1:Int)<=50;decide,hfl⟩
 rw[bq 0 q0,aS];by_cases q1:x=1
 ·subst q1;obtain⟨c3,l,e3,h3,l1⟩:=a3s c2 h2;rw[show(((1:Int):Int)==1)=true from rfl,aI,e3,aA];exact⟨_,_,rfl,h3,⟨hn.rules,l1.wt (by decide),hn.ends,hn.au,hn.cj,hn.nodes,hn.node⟩,ht,by have:=l1.1;show l.length<=256;omega⟩
 rw[bq 1 q1,aS];by_cases q2:x=2
 ·subst q2;obtain⟨c3,k,e3,h3,k0,k1⟩:=og c2 (((n.nodes.map Node.c).length:Nat):Int) h2 (by rw[ax];omega) (by rw[ax];omega);obtain⟨c4,v,e4,h4,_⟩:=Kx c3 ([-1,0,1,2,99]:bC) h3 (by decide) (by decide);rw[ax]at k1;have hlt:k.toNat<n.nodes.length:=by omega
  have e5:iP n.nodes k=some n.nodes[k.toNat]:=by unfold iP;rw[bG k0,aI];exact af hlt
  rw[show(((2:Int):Int)==2)=true from rfl,aI,e3,aA];dsimp only;rw[e4,aA];dsimp only;rw[e5,aA];have hx:=hn.node _ (j8 hlt);refine⟨_,_,rfl,h4,⟨hn.rules,hn.facts,hn.ends,hn.au,hn.cj,?_,fun z hz=>?_⟩,ht,hfl⟩
  ·have:=hn.nodes;rw[eU];exact this
  ·rcases MS hz with hz|rfl
   ·exact hn.node z hz
   ·exact hx
 rw[bq 2 q2,aS];by_cases q3:x=3
 ·subst q3;obtain⟨c3,k,e3,h3,k0,k1⟩:=og c2 (((n.nodes.map Node.c).length:Nat):Int) h2 (by rw[ax];omega) (by rw[ax];omega);obtain⟨c4,l,e4,h4,l1,_⟩:=a1z c3 1 h3 (by decide) (by decide);rw[ax]at k1;have hlt:k.toNat<n.nodes.length:=by omega
  have e5:iP n.nodes k=some n.nodes[k.toNat]:=by unfold iP;rw[bG k0,aI];exact af hlt
  have hx:=hn.node _ (j8 hlt);have h4t:=n4 _ (j8 hlt);rw[show(((3:Int):Int)==3)=true from rfl,aI,e3,aA];dsimp only;rw[e5,aA,e4,aA];dsimp only;rw[fZ (by omega) (by decide),aI];have hl:=l1.wt (by decide);refine⟨_,_,rfl,h4,⟨hn.rules,hn.facts,hn.ends,hn.au,hn.cj,?_,fun z hz=>?_⟩,ht,hfl⟩
  ·have:=hn.nodes;rw[eU];exact this
  ·rcases MS hz with hz|rfl
   ·exact hn.node z hz
   ·refine⟨hx.1,?_,fun t ht=>?_⟩
    ·show(_++[_]).length<=1048576;rw[av,dU];omega
    ·rcases aR.1 ht with ht|ht
     ·exact hx.2.2 t ht
     ·rw[cZ.1 ht];have q:=FS.F0 hl;exact⟨q.1,q.2,PB.nil⟩
 rw[bq 3 q3,aS];by_cases q4:x=4
 ·subst q4;obtain⟨c3,r,e3,h3,l1⟩:=a6Q c2 h2;rw[show(((4:Int):Int)==4)=true from rfl,aI,e3,aA];dsimp only;rw[fZ (by omega) (by decide),aI];refine⟨_,_,rfl,h3,⟨?_,hn.facts,hn.ends,hn.au,hn.cj,hn.nodes,hn.node⟩,ht,hfl⟩;have:=sy.wt5 l1;show sw aK.wt (n.rules++[r])<=1048576;rw[Mn,nq,a0w];omega
 rw[bq 4 q4,aS];by_cases q5:x=5
 ·subst q5;rw[show(((5:Int):Int)==5)=true from rfl,aI,fZ (by omega) (by decide),aI];refine⟨_,_,rfl,h2,⟨hn.rules,hn.facts,?_,hn.au,hn.cj,hn.nodes,hn.node⟩,ht,hfl⟩;show(n.ends++[0]).length<=1048576;rw[av,dU];omega
 rw[bq 5 q5,aS];exact⟨_,_,rfl,h2,hn,ht,hfl⟩
theorem Y4(code:bC)(h:code.length<=4096):∃n,gR code=some n/\BD n:=by
 unfold gR;obtain⟨c0,e0,h0⟩:=a6f code h;obtain⟨c1,n,e1,_,q,_⟩:=a6R c0 h0;rw[e0,aA,e1,aA];exact⟨n,rfl,q⟩
end Go.Cx
namespace Go.Cx
open Go.RowKit Go.Proofs Tryz
set_option maxRecDepth 100000
variable{Γ:uB}{N:Nat->St->Prop}
def CK(aC:bC):Option Bool:=(some (decide ((((aC.map yx).length:Int):Int)>4096)))
theorem Co{aC:bC}{r:Bool}(h:CK aC=some r):Good prog 7 [D.sl (aC.map yx)] (D.bool r):=by
 refine gd func7 [[none]] 6 fun hr Γ hΓ=>?_
 rw[CK]at h;cases h;exact aY.ret hΓ
end Go.Cx
namespace Go.Cx
open Go.RowKit Go.Proofs Tryz
set_option maxRecDepth 100000
variable{Γ:uB}{N:Nat->St->Prop}
def uE(aC:bC):Option Bool:=((CK aC).bind fun y1=>(bif y1 then(some true)else((gR aC).bind fun y4=>((mc y4).bind fun y6=>((rP y4).bind fun y8=>(bif !(y8)then(some ((((y6.nodes.map Node.c).length:Int):Int)==0))else((mE y6 y4).bind fun B9=>(bif B9 then((mr y6).bind fun AK=>(bif AK then((sI y4.rules y4.facts).bind fun Sl=>(bif (y6.bp:Int)==Sl then((kA y6).bind fun y20=>((kA y4).bind fun pW=>(some ((y20:Int)==pW))))else(some false)))else(some false)))else(some false)))))))))
theorem DK{aC:bC}{r:Bool}(h:uE aC=some r):Good prog 4 [D.sl (aC.map yx)] (D.bool r):=by
 refine gd func4 [[none]] 42 fun hr Γ hΓ=>?_
 rw[uE]at h;obtain⟨y1,h2,h⟩:=aB h;obtain⟨h3,h⟩|⟨h3,h⟩:=aM h
 ·have h:=aN h;subst h;exact((aY.g (Co h2)).b h3).ret hΓ
 ·obtain⟨y4,h5,h⟩:=aB h;obtain⟨y6,h7,h⟩:=aB h;obtain⟨y8,h9,h⟩:=aB h;have nP:=(((((aY.g (Co h2)).b h3).g (xE h5)).g (zb h7)).g (DO h9))
  obtain⟨h10,h⟩|⟨h10,h⟩:=aM h
  ·cases h;exact(nP.b h10).ret hΓ
  ·obtain⟨B9,h12,h⟩:=aB h;have fk:=(((nP.b h10).a [.n 21]).g (um h12))
   obtain⟨h13,h⟩|⟨h13,h⟩:=aM h
   ·obtain⟨AK,h15,h⟩:=aB h;have je:=(((fk.r 2 h13).g (mZ h15)).b h13)
    obtain⟨h16,h⟩|⟨h16,h⟩:=aM h
    ·obtain⟨Sl,h18,h⟩:=aB h;have jj:=(((je.r 7 h16).g (E4 h18)).r 2 h16)
     obtain⟨h19,h⟩|⟨h19,h⟩:=aM h
     ·obtain⟨y20,h21,h⟩:=aB h;obtain⟨pW,h23,h⟩:=aB h;cases h;exact(((((jj.r 2 h19).g (vY h21)).r 2 h19).g (vY h23)).r 2 h19).ret hΓ
     ·have h:=aN h;subst h;exact(jj.r 6 h19).ret hΓ
    ·have h:=aN h;subst h;exact((je.r 9 h16).F 6).ret hΓ
   ·have h:=aN h;subst h;exact((fk.r 3 h13).F 15).ret hΓ
end Go.Cx
namespace Go.Cx
open Go.RowKit Go.Proofs Tryz
namespace LawFnRebuilt
theorem YQ(a b:aH):∀(l:bE) (i:Nat) (v:Int),∃s,er a (fun z=>some z) l i v=some s/\er b (fun z=>some z) l i v=some s
 | [],_,v=>⟨v,rfl,rfl⟩
 |x::l,i,v=>by rw[er,er];exact YQ a b l _ _
theorem YP(a b:aH){k k':Int->Option Int}(hk:∀v,∃s,k v=some s/\k' v=some s):∀(l:bK) (i:Nat) (v:Int),∃s,eo a k l i v=some s/\eo b k' l i v=some s
 | [],_,v=>hk v
 |x::l,i,v=>by rw[eo,eo];exact YP a b hk l _ _
theorem YR(rs:aj)(fs:aJ)(t u:Int):∃s,kA (ni rs fs t)=some s/\kA (ni rs fs u)=some s:=by
 unfold kA;exact YP _ _ (fun v=>YQ _ _ _ 0 v) _ 0 0
theorem a0A(code:bC)(hd:code.length<=4096->∃n,gR code=some n/\BD n):uE code=some true:=by
 unfold uE CK;rw[aA,ax];by_cases hc:code.length<=4096
 ·rw[bM (by omega),aS];obtain⟨n,e1,hn⟩:=hd hc;rw[e1,aA,a9D n hn,aA,a3r n hn.rules hn.facts,aA];cases hb:NF n with
  |false=>
   have:Uu n=Yy:=by unfold Uu;rw[hb];rfl
   rw[this];rfl
  |true=>
   obtain⟨t,q1,q2,q3⟩:=a0Q hb;obtain⟨h1,h2,_,h4⟩:=CZ hb;obtain⟨s,s1,s2⟩:=YR n.rules n.facts t n.bp;have hm:JC (ni n.rules n.facts t) n=true:=by
    have:=a0I n.rules n.facts t n.bp;rw[<-h4]at this;exact this
   rw[bW,aS,q1,a5s,aA,hm,aI,S4 (ni n.rules n.facts t) hn.rules hn.facts,aA,Ov h1 h2,bG q3,aI,a60 _ _ hn.rules hn.facts,aA,q2];rw[show((ni n.rules n.facts t).bp==t)=true by simp[ni],aI,s1,aA];rw[<-h4]at s2;rw[s2,aA];simp
 ·rw[bG (by omega),aI]
theorem XL(code:bC):Good prog 4 [D.sl (code.map yx)] (.bool true):=DK (a0A code (Y4 code))
end LawFnRebuilt
end Go.Cx
namespace Go.Cx
open Go.RowKit
inductive Sh where
 |int (k:IntKind)
 |str
 |bool
 |sl (row:List Sh)
mutual
inductive Mw:Sh->D->Prop
 |int (k:IntKind) (n:Int):Mw (.int k) (.int k n)
 |str (s:Bytes):Mw .str (.str s)
 |bool (b:Bool):Mw .bool (.bool b)
 |sl (row:List Sh) (rows:List aL):(∀r∈rows,uS row r)->Mw (.sl row) (.sl rows)
inductive uS:List Sh->List D->Prop
 |nil:uS [] []
 |cons (s:Sh) (ss:List Sh) (d:D) (ds:aL):Mw s d->uS ss ds->uS (s::ss) (d::ds)
end
theorem uS.app{s1 s2:List Sh}{d1 d2:aL}(h1:uS s1 d1)(h2:uS s2 d2):uS (s1++s2) (d1++d2):=by
 induction s1 generalizing d1 with
 |nil=>cases h1;exact h2
 |cons s s1 ih=>cases h1 with|cons _ _ d ds h h'=>exact .cons _ _ _ _ h (ih h')
theorem uS.length{s:List Sh}{d:aL}(h:uS s d):d.length=s.length:=by
 induction s generalizing d with
 |nil=>cases h;rfl
 |cons s ss ih=>cases h with|cons _ _ d ds h h'=>simp[ih h']
def P7(P:Program):Nat->List Field->List (List Sh)->Bool
 |_,[],[]=>true
 |off,f::fs,r::rs=>(f.offset==off)&&(r.length==P.cellsOf f.type)&&P7 P (off+r.length) fs rs
 |_,_,_=>false
def Af(P:Program):Nat->TypeId->Option (List Sh)
 |0,_=>none
 |n+1,t=>match P.underlying t with
  |some .bool=>some [.bool]
  |some (.int k)=>some [.int k]
  |some .string=>some [.str]
  |some (.slice e)=>(Af P n e).bind fun r=>if r.length=P.cellsOf e/\0<r.length then some [.sl r]else none
  |some (.struct fs)=>(fs.toList.mapM fun f=>Af P n f.type).bind fun rs=>if P7 P 0 fs.toList rs=true/\rs.flatten.length=P.cellsOf t then some rs.flatten else none
  |_=>none
theorem Qg{α β:Type}{f:α->Option β}:∀ {l:List α} {ys:List β},l.mapM f=some ys->ys.length=l.length/\∀(i:Nat) x,l[i]?=some x->∃y,ys[i]?=some y/\f x=some y:=by
 intro l
 induction l with
 |nil=>intro ys h;simp at h;subst h;simp
 |cons a l ih=>
  intro ys h;simp only[Dp,Option.bind_eq_bind,Option.pure_def]at h;cases ha:f a with
  |none=>simp[ha]at h
  |some b=>
   cases hl:l.mapM f with
   |none=>simp[ha,hl]at h
   |some bs=>
    simp[ha,hl]at h;subst h;obtain⟨h1,h2⟩:=ih hl;refine⟨by simp[h1],fun i x hx=>?_⟩;cases i with
    |zero=>simp at hx;subst hx;exact⟨b,by simp,ha⟩
    |succ i=>simp at hx;obtain⟨y,k1,k2⟩:=h2 i x hx;exact⟨y,by simpa using k1,k2⟩
section
variable{P:Program}{w:World}{H:Type}{enc:TypeId×Value->H}{base:Nat}{sp:Nat->Bool}{held:Bool}
theorem Ll{a:Addr}{n:Nat}{cs:bY}(h:w.cells? base a n=some cs):cs.length=n/\∀(j:Nat) c,cs[j]?=some c->w.cell? (a.add j)=some c:=by
 unfold World.cells? at h;split at h
 ·obtain⟨h1,h2⟩:=Qg h;refine⟨by simpa using h1,fun j c hj=>?_⟩;have hlt:j<n:=by have:=(aF.1 hj).1;rw[h1]at this;simpa using this
  obtain⟨y,k1,k2⟩:=h2 j j (by simp[hlt]);rw[hj]at k1;cases k1;exact k2
 ·cases h
theorem a3U{k:IntKind}{n:Int}(h:(Lit.int k n).wf=true):pL k n:=by
 simpa[Lit.wf,pL]using h
theorem Tv:∀(fuel:Nat) {t:TypeId} {cs:bY} {d:DataW H} {ps:List MemPlace} {n:Nat} {shs:List Sh},
 DataW.trod enc P w base sp held fuel t cs=some (d,ps)->Af P n t=some shs->∃ds bs,mm w cs ds bs/\uS shs ds:=by
 intro fuel
 induction fuel with
 |zero=>intro t cs d ps n shs h;simp[DataW.trod]at h
 |succ fuel ih=>
  intro t cs d ps n shs h hf;cases n with
  |zero=>simp[Af]at hf
  |succ n=>
   simp only[Af]at hf;simp only[DataW.trod]at h;split at hf
   ·rename_i hu;cases hf;simp only[hu]at h;split at h<;>rename_i h1<;>try(simp at h1;done)
    all_goals try(cases h;done)
    all_goals simp at h1
    exact⟨[.bool _],[],.cons _ _ _ _ [] [] rfl (.bool _) .nil,.cons _ _ _ _ (.bool _) .nil⟩
   ·rename_i k hu;cases hf;simp only[hu]at h;split at h<;>rename_i h1<;>try(simp at h1;done)
    all_goals try(cases h;done)
    all_goals simp at h1
    rename_i k1 k2 m _;subst h1;split at h
    ·rename_i hc;obtain⟨rfl,hwf⟩:=hc;exact⟨[.int _ _],[],.cons _ _ _ _ [] [] rfl (.int _ _ (a3U hwf)) .nil,.cons _ _ _ _ (.int _ _) .nil⟩
    ·cases h
   ·rename_i hu;cases hf;simp only[hu]at h;split at h<;>rename_i h1<;>try(simp at h1;done)
    all_goals try(cases h;done)
    all_goals simp at h1
    split at h
    ·rename_i hc;exact⟨[.str _],[],.cons _ _ _ _ [] [] rfl (.str _ hc) .nil,.cons _ _ _ _ (.str _) .nil⟩
    ·cases h
   ·rename_i e hu;cases hr:Af P n e with
    |none=>simp[hr]at hf
    |some r=>
     simp only[hr,aA]at hf;split at hf
     ·rename_i hsz;cases hf;simp only[hu]at h;split at h<;>rename_i h1<;>try(simp at h1;done)
      all_goals try(cases h;done)
      all_goals simp at h1
      ·exact⟨[.sl []],[],.cons _ _ _ _ [] [] rfl .wV .nil,.cons _ _ _ _ (.sl _ _ (by simp)) .nil⟩
      ·rename_i a len cap
       try subst h1
       split at h
       ·rename_i hc;cases hm:(List.range len).mapM (fun i=>(w.cells? base (a.add (i*P.cellsOf e)) (P.cellsOf e)).bind (DataW.trod enc P w base sp held fuel e))with
        |none=>simp[hm]at h
        |some elems=>
         obtain⟨_,hall⟩:=Qg hm;have hel:∀i,i<len->∃cs ds bs,w.cells? base (a.add (i*P.cellsOf e)) (P.cellsOf e)=some cs/\mm w cs ds bs/\uS r ds:=by
          intro i hi;obtain⟨y,_,hy⟩:=hall i i (by simp[hi]);obtain⟨cs,hcs,hy⟩:=ny.1 hy;obtain⟨ds,bs,k1,k2⟩:=ih (d:=y.1) (ps:=y.2) hy hr;exact⟨cs,ds,bs,hcs,k1,k2⟩
         by_cases hl0:len=0
         ·subst hl0;exact⟨[.sl []],[],.cons _ _ _ _ [] [] rfl (.lm a cap hc.2.2) .nil,.cons _ _ _ _ (.sl _ _ (by simp)) .nil⟩
         ·
          obtain⟨cs0,Zi,VL,Ri,hr0,aB6⟩:=hel 0 (by omega);obtain⟨hl1,UP⟩:=Ll Ri;have hpos:0<cs0.length:=by rw[hl1];omega
          have hc0:=UP 0 cs0[0] (af hpos);have ha0:(a.add (0*P.cellsOf e)).add 0=a:=by simp[Addr.add]
          rw[ha0]at hc0;obtain⟨b,off,spot⟩:=a;have a5X:spot=none:=by
           cases spot with
           |none=>rfl
           |some x=>
            unfold World.cell? at hc0;split at hc0
            ·simp at hc0
            ·cases hc0
          subst a5X;have hb:b<w.heap.size:=World.block_lt_of_cell? w _ hc0;have build:∀m,m<=len->∃(rows:List aL) (cs:bY) (bs:aW),rows.length=m/\cs.length=m*P.cellsOf e/\(∀(j:Nat) c,cs[j]?=some c->w.cell? ⟨b,off+j,none⟩=some c)/\
           mm w cs rows.flatten bs/\∀x∈rows,uS r x:=by
           intro m
           induction m with
           |zero=>intro _;exact⟨[],[],[],rfl,by simp,by simp,.nil,by simp⟩
           |succ m ihm=>
            intro hm1;obtain⟨rows,cs,bs,q1,q2,q3,q4,q5⟩:=ihm (by omega);obtain⟨cs',ds',bs',g1,g2,g3⟩:=hel m (by omega);obtain⟨g4,g5⟩:=Ll g1;refine⟨rows++[ds'],cs++cs',bs++bs',by simp[q1],by simp[q2,g4,kP],?_,?_,?_⟩
            ·intro j c hj;by_cases hlt:j<cs.length
             ·rw[ar hlt]at hj;exact q3 j c hj
             ·rw[b8 (by omega)]at hj;have:=g5 _ c hj;rw[Addr.add_lit,Addr.add_lit,q2]at this;have e1:off+m*P.cellsOf e+(j-m*P.cellsOf e)=off+j:=by omega
              rw[e1]at this;exact this
            ·rw[jP];have:=q4.app g2;simpa using this
            ·intro x hx;rcases aR.1 hx with hx|hx
             ·exact q5 x hx
             ·simp at hx;subst hx;exact g3
          obtain⟨rows,cs,bs,q1,q2,q3,q4,q5⟩:=build len (bO _);subst q1;refine⟨[.sl rows],b::bs,?_,.cons _ _ _ _ (.sl _ _ q5) .nil⟩;have:=mm.cons (w:=w) _ [] _ [] _ [] rfl (Rd.sl b off cap r.length rows cs bs hb hc.2.1 hc.2.2 (fun x hx=>(q5 x hx).length) q3 q4) .nil;simpa using this
       ·cases h
     ·cases hf
   ·rename_i fs hu;cases hr:fs.toList.mapM (fun f=>Af P n f.type)with
    |none=>simp[hr]at hf
    |some rs=>
     simp only[hr,aA]at hf;split at hf
     ·rename_i hok;cases hf;simp only[hu]at h;split at h
      ·rename_i hlen;cases hm:fs.toList.mapM (fun f=>DataW.trod enc P w base sp held fuel f.type ((cs.drop f.offset).take (P.cellsOf f.type)))with
       |none=>simp[hm]at h
       |some xs=>
        have go:∀(fl:List Field) (rl:List (List Sh)) (xl:List (DataW H×List MemPlace)) (off:Nat),fl.mapM (fun f=>Af P n f.type)=some rl->
         fl.mapM (fun f=>DataW.trod enc P w base sp held fuel f.type ((cs.drop f.offset).take (P.cellsOf f.type)))=some xl->P7 P off fl rl=true->
         ∃ds bs,mm w ((cs.drop off).take rl.flatten.length) ds bs/\uS rl.flatten ds:=by
         intro fl
         induction fl with
         |nil=>
          intro rl xl off h1 _ _;simp at h1;subst h1;exact⟨[],[],by simpa using mm.nil,.nil⟩
         |cons f fl ihf=>
          intro rl xl off h1 h2 h3;simp only[Dp,Option.bind_eq_bind,Option.pure_def]at h1 h2;cases a1:Af P n f.type with
          |none=>simp[a1]at h1
          |some r1=>
           cases a2:fl.mapM (fun f=>Af P n f.type)with
           |none=>simp[a1,a2]at h1
           |some rl'=>
            simp[a1,a2]at h1;subst h1;cases b1:DataW.trod enc P w base sp held fuel f.type ((cs.drop f.offset).take (P.cellsOf f.type))with
            |none=>simp[b1]at h2
            |some x1=>
             cases b2:fl.mapM (fun f=>DataW.trod enc P w base sp held fuel f.type ((cs.drop f.offset).take (P.cellsOf f.type)))with
             |none=>simp[b1,b2]at h2
             |some xl'=>
              simp only[P7,aV,cc]at h3;obtain⟨⟨o1,o2⟩,o3⟩:=h3;obtain⟨Ke,VM,k1,k2⟩:=ih (d:=x1.1) (ps:=x1.2) b1 a1;obtain⟨ds2,Z0,k3,k4⟩:=ihf rl' xl' (off+r1.length) a2 b2 o3;refine⟨Ke++ds2,VM++Z0,?_,by simpa using k2.app k4⟩;have e1:(cs.drop off).take (r1::rl').flatten.length=(cs.drop f.offset).take (P.cellsOf f.type)++(cs.drop (off+r1.length)).take rl'.flatten.length:=by
               rw[o1,<-o2,eT,av,<-fp,List.take_add]
              rw[e1];exact k1.app k3
        obtain⟨ds,bs,k1,k2⟩:=go fs.toList rs xs 0 hr hm hok.1;rw[Dn,hok.2,<-hlen,List.take_length]at k1;exact⟨ds,bs,k1,k2⟩
      ·cases h
     ·cases hf
   ·cases hf
def Vm(P:Program)(n:Nat)(t:TypeId)(d:D):Prop:=
 (AG P t=some true/\∃shs cells,Af P n t=some shs/\d=.agg cells/\uS shs cells)\/(AG P t=some false/\∃sh,Af P n t=some [sh]/\Mw sh d)
inductive NO(P:Program)(n:Nat):List TypeId->List D->Prop
 |nil:NO P n [] []
 |cons (t:TypeId) (ts:List TypeId) (d:D) (ds:aL):Vm P n t d->NO P n ts ds->NO P n (t::ts) (d::ds)
def Py(P:Program)(n:Nat)(t:TypeId):Bool:=
 match AG P t,Af P n t with
 |some true,some _=>(match P.underlying t with|some (.struct _)=>true|_=>false)
 |some false,some [_]=>true
 |_,_=>false
theorem Xg{n:Nat}{t:TypeId}{v:Value}{d:DataW H}{ps:List MemPlace}(hok:Py P n t=true)(hval:Value.okWide P w .any base t v)(h:DataW.Trod enc P w 0 sp held t v d ps):
 ∃x bs,Rd w v x bs/\Vm P n t x:=by
 obtain⟨fuel,h⟩:=h;unfold Py at hok;split at hok
 ·rename_i shs ht hf;split at hok
  ·rename_i fs hu;unfold Value.okWide at hval;simp only[hu]at hval;obtain⟨cs,rfl,_⟩:=hval;obtain⟨ds,bs,k1,k2⟩:=Tv fuel h hf;refine⟨.agg ds,bs,?_,.inl ⟨ht,shs,ds,hf,rfl,k2⟩⟩;have:=Rd.agg (w:=w) cs.toList ds bs k1;simpa using this
  ·cases hok
 ·rename_i sh ht hf;have hone:v.oneCell'=true:=by
   unfold AG at ht;split at ht<;>first
    | (cases ht;done)
    |skip
   rename_i dsc h1 h2 hu;unfold Value.okWide at hval;rw[hu]at hval;cases v with
   |agg cs=>
    cases dsc<;>first
     | (exfalso;exact h1 _ rfl)
     | (exfalso;exact h2 _ _ rfl)
     | (simp[Cell.okWide,Cell.ok,hu]at hval)
   |tuple vs=>
    cases dsc<;>first
     | (exfalso;exact h1 _ rfl)
     | (exfalso;exact h2 _ _ rfl)
     | (simp[Cell.okWide,Cell.ok,hu]at hval)
   |_=>rfl
  rw[Ns hone]at h;obtain⟨ds,bs,k1,k2⟩:=Tv fuel h hf;cases k2 with
  |cons _ _ x ds' hx hn=>
   cases hn;cases k1 with
   |cons _ _ _ _ b1 b2 _ hrd hn=>exact⟨x,b1,hrd,.inr ⟨ht,sh,hf,hx⟩⟩
 ·cases hok
theorem Un{n:Nat}:∀ {ts:List TypeId} {vs:bY} {ds:List (DataW H)} {ps:List MemPlace},(∀t∈ts,Py P n t=true)->
 (∀(j:Nat) t v,ts[j]?=some t->vs[j]?=some v->Value.okWide P w .any base t v)->DataW.TrodAll enc P w 0 sp held ts vs ds ps->
 ∃xs bs,Sr w vs xs bs/\NO P n ts xs/\ds.length=ts.length:=by
 intro ts
 induction ts with
 |nil=>
  intro vs ds ps _ _ h;cases vs with
  |nil=>cases ds with
   |nil=>exact⟨[],[],.nil,.nil,rfl⟩
   |cons=>cases h
  |cons=>cases ds<;>cases h
 |cons t ts ih=>
  intro vs ds ps hok hval h;cases vs with
  |nil=>cases h
  |cons v vs=>
   cases ds with
   |nil=>cases h
   |cons d ds=>
    obtain⟨p,q,h1,h2,rfl⟩:=h;obtain⟨x,b1,k1,k2⟩:=Xg (hok t (by simp)) (hval 0 t v rfl rfl) h1;obtain⟨xs,b2,k3,k4,k5⟩:=ih (fun u hu=>hok u (by simp[hu])) (fun j u y hj hv=>hval (j+1) u y (by simpa using hj) (by simpa using hv)) h2;exact⟨x::xs,b1++b2,.cons _ _ _ _ _ _ k1 k3,.cons _ _ _ _ k2 k4,by simp[k5]⟩
theorem NI{W W':World}(hl:laidOutB P=true)(hb:Below W.heap.size W W')(ZB:Nat->Bool):∀ {ts:List TypeId} {vs:bY} {ds:List (DataW H)} {ps:List MemPlace},
 (∀t∈ts,P.readableRec t=true/\t<P.types.size)->DataW.TrodAll enc P W 0 (fun _=>true) true ts vs ds ps->(∀x∈ps,x.block<W.heap.size)->(∀x∈ps,ZB x.block=true)->
 DataW.TrodAll enc P W' 0 ZB true ts vs ds ps:=by
 intro ts
 induction ts with
 |nil=>intro vs ds ps _ h _ _;cases vs<;>cases ds<;>first|exact h|cases h
 |cons t ts ih=>
  intro vs ds ps ht h hlt hsp;cases vs with
  |nil=>cases h
  |cons v vs=>
   cases ds with
   |nil=>cases h
   |cons d ds=>
    obtain⟨p,q,h1,h2,rfl⟩:=h;refine⟨p,q,?_,ih (fun u hu=>ht u (by simp[hu])) h2 (fun x hx=>hlt x (by simp[hx])) (fun x hx=>hsp x (by simp[hx])),rfl⟩;exact WideElems.Trod_stays hl (ht t (by simp)).1 (ht t (by simp)).2 h1 (fun x hx=>hb.same (hlt x (by simp[hx]))) (fun x hx=>hsp x (by simp[hx]))
theorem zS.wF{w:World}{v:Value}{b:Bool}{bs ts us:aW}(h:zS w v (.bool b) bs ts us):v=.bool b:=by
 cases h with|v h=>cases h with|cell h=>cases h with|pure h=>cases h;rfl
theorem Ox{f:FuncId}{fn:Func}{s:ChangeSpec}{n rt:Nat}{W:World}{args:Array Value}{ds gs:List (DataW H)}{before:List MemPlace}
 (hl:laidOutB P=true) (TR:∀t∈fn.params.toList,Py P n t=true/\P.readableRec t=true/\t<P.types.size) (hres:fn.resultTypes= #[rt]) (hrt:P.underlying rt=some .bool)
 (hv:s.vars=[]) (hfn:∀ds:List (DataW H),ds.length=fn.params.toList.length->s.fn H ds= {results:=[.lit (.bool true)],args:=ds})
 (hvs:Mx W fun _=>False) (ng:∀xs,NO P n fn.params.toList xs->Good P f xs (.bool true))
 (hval:∀(j:Nat) t v,fn.params[j]?=some t->args[j]?=some v->Value.okWide P W .any base t v)
 (hW:DataW.Whole enc P fn.params.toList s.vars false W args.toList ds gs before):
 Calls P f args W fun e W'=>∃v,e=.returned v/\s.post enc P fn false true false false W args v W':=by
 have hW':=hW;obtain⟨p,q,hA,hV,hpq,hz,_⟩:=hW;have hgs:gs=[]/\q=[]:=by
  rw[hv]at hV;cases gs with
  |nil=>exact⟨rfl,hV⟩
  |cons=>cases hV
 obtain⟨rfl,rfl⟩:=hgs;rw[cz]at hpq;subst hpq;obtain⟨xs,bs,k1,k2,k3⟩:=Un (fun t ht=>(TR t ht).1) (fun j t v hj hv=>hval j t v (by simpa using hj) (by simpa using hv)) hA;have hc:=(ng xs k2).2 W (fun _=>0) args.toList bs hvs k1 (fun _ _=>rfl) (fun b hb=>absurd rfl hb) (fun _=>Dq _);rw[kO]at hc;refine hc.mono ?_;rintro e W' ⟨v,bs',ts,us,rfl,hb,hr,_⟩;refine⟨v,rfl,?_⟩;obtain rfl:=hr.wF;have hlt:=hW'.lt;have hfd:=hfn ds k3;have Wm:∀(b:Nat) (sp:Nat->Bool) (hd:Bool),DataW.TrodAll enc P W' b sp hd fn.resultTypes.toList ((Value.bool true).resultList fn.resultTypes.size) [.lit (.bool true)] []:=by
  intro b sp hd;rw[hres];exact⟨[],[],⟨1,by simp[DataW.trod,hrt,Value.cells]⟩,rfl,rfl⟩
 have hargs:∀ZB:Nat->Bool,(∀x∈before,ZB x.block=true)->DataW.TrodAll enc P W' 0 ZB true fn.params.toList args.toList ds before:=
  fun ZB hsp=>NI hl hb ZB (fun t ht=>(TR t ht).2) hA hlt hsp
 have hvars:∀ZB:Nat->Bool,DataW.TrodVars enc P W' ZB s.vars [] []:=fun ZB=>by rw[hv];rfl
 unfold ChangeSpec.post;refine⟨ds,[],before,[],before,[],hW',?_,?_,?_,hb.frame _,fun h=>by cases h⟩
 ·rw[cz,hfd];exact Wm _ _ _
 ·rw[cz,hfd];exact hargs _ (fun x hx=>by simpa using hlt x hx)
 ·rw[cz,hfd];exact hvars _
end
end Go.Cx
namespace Go.Cx
open Go.RowKit
abbrev yY:=List Sh
theorem UE{α:Type}{c:α->aL}{row:yY}(hc:∀r,uS row r->∃x,r=c x):∀ {rows:List aL},(∀r∈rows,uS row r)->∃l:List α,rows=l.map c:=by
 intro rows
 induction rows with
 |nil=>intro _;exact⟨[],rfl⟩
 |cons r rows ih=>
  intro h;obtain⟨x,rfl⟩:=hc r (h r (by simp));obtain⟨l,rfl⟩:=ih (fun s hs=>h s (by simp[hs]));exact⟨x::l,rfl⟩
theorem Ze{α:Type}{c:α->aL}{row:yY}(hc:∀r,uS row r->∃x,r=c x){d:D}(h:Mw (.sl row) d):∃l:List α,d=.sl (l.map c):=by
 cases h with
 |sl _ rows hr=>
  obtain⟨l,rfl⟩:=UE hc hr;exact⟨l,rfl⟩
theorem W9{k:IntKind}{d:D}(h:Mw (.int k) d):∃n,d=.int k n:=by cases h;exact⟨_,rfl⟩
theorem RV{s:Sh}{ss:yY}{ds:aL}(h:uS (s::ss) ds):∃d r,ds=d::r/\Mw s d/\uS ss r:=by
 cases h with|cons _ _ d r h1 h2=>exact⟨d,r,rfl,h1,h2⟩
theorem UF{ds:aL}(h:uS [] ds):ds=[]:=by cases h;rfl
theorem Zf(r:aL)(h:uS [.int .u8] r):∃s,r=yx s:=by
 obtain⟨_,_,rfl,h1,h⟩:=RV h;cases UF h;obtain⟨s,rfl⟩:=W9 h1;exact⟨s,rfl⟩
section
variable{P:Program}{n:Nat}{t:TypeId}{d:D}
theorem Vm.cell{sh:Sh}(ha:AG P t=some false)(hf:Af P n t=some [sh])(h:Vm P n t d):Mw sh d:=by
 rcases h with⟨h1,_⟩|⟨_,sh',h1,h2⟩
 ·rw[ha]at h1;cases h1
 ·rw[hf]at h1;cases h1;exact h2
end
end Go.Cx
namespace Go.Cx
open Go.ChangeShapes Go.WideShapes Go.ChangeAt Go.RowKit
def jp0(P:Program)(f:FuncId)(fn:Func)(s:ChangeSpec)(c:OpenClaim):Bool:=(c.wf (OpenSpec.ofChange s)&&laidOutB P&&mapsRowed P)
def jp1(P:Program)(f:FuncId)(fn:Func)(s:ChangeSpec)(c:OpenClaim):Bool:=(fn.params.all (P.readableRec ·)&&namedTie P c.named s.vars)&&((c.stops==[])&&(P.stops==[])&&(c.knobs==[])&&(P.stopKnobs==[]))&&((c.maps==(fn.params.toList++s.plain.varTypes P).any (P.mapsRec ·))&&(c.ifaces==(fn.params.toList++s.plain.varTypes P).any (P.ifacesRec ·))&&(c.mapsOut==P.mapsAmong fn.resultTypes.toList))&&((c.loops==(fn.params.toList++s.plain.varTypes P).any (P.loopsFrom ·))&&(c.wideKeys==(fn.params.toList++s.plain.varTypes P++fn.resultTypes.toList).any (P.wideKeysFrom ·)))&&(s.vars.all (P.varReadable ·)&&fn.resultTypes.all (fun t=>P.readableRec t&&decide (t<P.types.size))&&(c.ifacesOut==fn.resultTypes.toList.any (P.ifacesRec ·))&&(c.loopsOut==fn.resultTypes.toList.any (P.loopsFrom ·)))&&((c.kinds==(if c.domain.isEmpty then []else fn.params.toList.map fun t=>match P.underlying t with|some (.int k)=>some k|_=>none))&&(c.pinned==c.pinnedBy))&&((c.veiled==(fn.params.toList++s.plain.varTypes P++fn.resultTypes.toList).any (P.veiledRec ·))&&c.veiledFits P fn.params.toList (fn.params.toList++s.plain.varTypes P++fn.resultTypes.toList))
def jp2(P:Program)(f:FuncId)(fn:Func)(s:ChangeSpec)(c:OpenClaim):Bool:=(c.inPlace==P.inPlace f)&&(c.unfollowed==P.unfollowed f)&&(c.recurses==P.recurses f)&&(c.named==P.varsNamed f)
def jp3(P:Program)(f:FuncId)(fn:Func)(s:ChangeSpec)(c:OpenClaim):Bool:=(c.plainKeys==P.plainKeys)&&(c.shortTexts.isNone&&P.stopsHeard)&&P.mayEnter&&(c.lifted==P.liftsFinal)&&(P.make==some c.make)
theorem Ub{P:Program}{f:FuncId}{fn:Func}{s:ChangeSpec}{c:OpenClaim}(h0:jp0 P f fn s c=true)(h1:jp1 P f fn s c=true)(h2:jp2 P f fn s c=true)(h3:jp3 P f fn s c=true):joinedFacts P f fn s c=true:=by
 unfold jp0 at h0;unfold jp1 at h1;unfold jp2 at h2;unfold jp3 at h3;unfold joinedFacts;simp only[aV]at h0 h1 h2 h3⊢;obtain⟨⟨aBz,aC0⟩,aC1⟩:=h0;obtain⟨⟨⟨⟨⟨⟨⟨aC2,aC3⟩,⟨⟨⟨aC4,aC5⟩,aC6⟩,aC7⟩⟩,⟨⟨aCC,aCD⟩,aCE⟩⟩,⟨aCF,aCG⟩⟩,⟨⟨⟨aCH,aCI⟩,aCJ⟩,aCK⟩⟩,⟨aAM,aAN⟩⟩,⟨aAO,aAP⟩⟩:=h1;obtain⟨⟨⟨aC8,aC9⟩,aCA⟩,aCB⟩:=h2;obtain⟨⟨⟨⟨aAG,⟨aAH,aAI⟩⟩,aAJ⟩,aAK⟩,aAL⟩:=h3
 and_intros<;>assumption
end Go.Cx

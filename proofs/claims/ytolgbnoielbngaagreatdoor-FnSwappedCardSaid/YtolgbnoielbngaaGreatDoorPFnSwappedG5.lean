/- Chapter 1 in plain words: what the functions on texts and lists of texts compute, of the program and of the reference. No condition but bounds on lengths. -/
import Derived.Test.YtolgbnoielbngaaGreatDoorPFnSwappedG3
import Derived.Test.YtolgbnoielbngaaGreatDoorPFnSwappedG4
import Derived.Sort.Walk0
import Derived.Lib.ItoaNum
import Derived.Lib.ItoaLen
import Derived.Lib.Atoi
import Derived.ProofKit
set_option linter.unusedVariables false
set_option linter.unusedSimpArgs false
namespace Go.Cx
open Go.RowKit Go.Proofs Tryz
theorem sw{α:Type}{a pre xs:List α}{x:α}(h:a=pre++x::xs):lG a (pre.length:Int)=some x:=by
 unfold lG;have:a[pre.length]?=some x:=by rw[h];simp
 simp[this]
theorem A8{n b:Nat}(hn:n<=1099511627776)(hb:b<=128):room n b=true:=by
 unfold room maxLen;have:n*b<=1099511627776*128:=Nat.mul_le_mul hn hb;simp;omega
theorem lV{α:Type}{w:List α}{c:α->aG}{y:aG}{b:Nat}(h:w.length<1099511627776)(hb:b<=128):room ((w.map c).length+([y]).length) b=true:=A8 (by simp;omega) hb
theorem Pf{α β:Type}{w:List α}{v:List β}{c:α->aG}{d:β->aG}{b:Nat}(h:w.length+v.length<=1099511627776)(hb:b<=128):room ((w.map c).length+(v.map d).length) b=true:=A8 (by simp;omega) hb
theorem Ia{β:Type}{v:List β}{d:β->aG}{b:Nat}(h:v.length<=1099511627776)(hb:b<=128):room (([]:List aG).length+(v.map d).length) b=true:=A8 (by simp;omega) hb
theorem uC{α:Type}{l:List α}(h:l.length<=1099511627776):decide (l.length<=maxLen)=true:=by unfold maxLen;simp;omega
theorem TI{α β γ:Type}{c:β->aG}{b:Nat}{f:α->Option β}{g:α->β}{L:List α->Nat->List β->Option γ}{k:List β->Option γ}(hb:b<=128)(oF:∀i w,L [] i w=k w)
 (oa:∀x xs i w,L (x::xs) i w=(f x).bind fun y=>bif room ((w.map c).length+([c y]).length) b then L xs (i+1) (w++[y])else none):
 ∀(l:List α) (i:Nat) (w:List β),(∀x∈l,f x=some (g x))->w.length+l.length<=1099511627776->L l i w=k (w++l.map g):=by
 intro l
 induction l with
 |nil=>intro i w _ _;simp[oF]
 |cons x xs ih=>
  intro i w hf hl;simp only[aO]at hl;rw[oa,hf x (by simp),aA,lV (by omega) hb,aK,ih _ _ (fun y hy=>hf y (by simp[hy])) (by simp;omega)];simp
theorem KJ{α:Type}{f:α->Option Bool}{p:α->Bool}{L:List α->Nat->Option Bool}{k:Option Bool}(oF:∀i,L [] i=k)
 (oa:∀x xs i,L (x::xs) i=(f x).bind fun y=>bif !y then some false else L xs (i+1)):∀(l:List α) (i:Nat),(∀x∈l,f x=some (p x))->L l i=bif l.all p then k else some false:=by
 intro l
 induction l with
 |nil=>intro i _;simp[oF]
 |cons x xs ih=>
  intro i hf;rw[oa,hf x (by simp),aA,ih _ (fun y hy=>hf y (by simp[hy])),cm];cases p x<;>simp
theorem jy:∀(a:Bytes),Op.bytesLess a a=false
 | []=>rfl
 |x::a=>by simp[Op.bytesLess,jy a]
theorem qI:∀ {a b c:Bytes},Op.bytesLess a b=true->Op.bytesLess b c=true->Op.bytesLess a c=true
 | [],b,[],_,h2=>by cases b<;>simp[Op.bytesLess]at h2
 | [],b,_::_,_,_=>by simp[Op.bytesLess]
 |_::_,[],_,h1,_=>by simp[Op.bytesLess]at h1
 |_::_,_::_,[],_,h2=>by simp[Op.bytesLess]at h2
 |x::a,y::b,z::c,h1,h2=>by
  simp only[Op.bytesLess,iP,bJ,aN,cD]at h1 h2⊢;rcases h1 with h1|⟨rfl,h1⟩
  ·rcases h2 with h2|⟨rfl,h2⟩
   ·exact .inl (UInt8.lt_trans h1 h2)
   ·exact .inl h1
  ·rcases h2 with h2|⟨rfl,h2⟩
   ·exact .inl h2
   ·exact .inr ⟨rfl,qI h1 h2⟩
theorem vv:∀ {a b:Bytes},Op.bytesLess a b=false->Op.bytesLess b a=false->a=b
 | [],[],_,_=>rfl
 | [],_::_,h,_=>by simp[Op.bytesLess]at h
 |_::_,[],_,h=>by simp[Op.bytesLess]at h
 |x::a,y::b,h1,h2=>by
  simp only[Op.bytesLess,Bool.or_eq_false_iff,lP,vJ,cZ,ne_eq]at h1 h2;have e:x=y:=by
   have h3:=h1.1;have h4:=h2.1;rw[vO]at h3 h4;exact UInt8.toNat_inj.1 (by omega)
  subst e;rw[vv (h1.2.resolve_left (by simp)) (h2.2.resolve_left (by simp))]
theorem zC{a b:Bytes}(h:Op.bytesLess a b=true):Op.bytesLess b a=false:=by
 cases hb:Op.bytesLess b a with
 |false=>rfl
 |true=>have:=qI h hb;rw[jy]at this;cases this
def SS(l:aD):Prop:=l.Pairwise fun a b=>Op.bytesLess a b=true
theorem AZ:∀ {a b:aD},SS a->SS b->(∀x,x∈a↔x∈b)->a=b
 | [],[],_,_,_=>rfl
 | [],y::b,_,_,h=>by have:=(h y).2 (by simp);cases this
 |x::a,[],_,_,h=>by have:=(h x).1 (by simp);cases this
 |x::a,y::b,h1,h2,h=>by
  obtain⟨p1,p2⟩:=ig.1 h1;obtain⟨q1,q2⟩:=ig.1 h2;have e:x=y:=by
   refine vv ?_ ?_
   ·cases hb:Op.bytesLess x y with
    |false=>rfl
    |true=>
     rcases au.1 ((h x).1 (by simp))with rfl|hx
     ·exact(jy x▸hb).symm
     ·have:=zC (q1 x hx);rw[hb]at this;exact this
   ·cases hb:Op.bytesLess y x with
    |false=>rfl
    |true=>
     rcases au.1 ((h y).2 (by simp))with rfl|hx
     ·exact(jy y▸hb).symm
     ·have:=zC (p1 y hx);rw[hb]at this;exact this
  subst e;rw[AZ p2 q2 (fun z=>?_)];constructor
  ·intro hz;rcases au.1 ((h z).1 (by simp[hz]))with rfl|Cu
   ·have:=p1 z hz;rw[jy]at this;cases this
   ·exact Cu
  ·intro hz;rcases au.1 ((h z).2 (by simp[hz]))with rfl|Cu
   ·have:=q1 z hz;rw[jy]at this;cases this
   ·exact Cu
def qj:aD->Bytes->aD
 | [],s=>[s]
 |x::xs,s=>bif Op.bytesLess x s then x::qj xs s else bif x==s then x::xs else s::x::xs
theorem CZ:∀ {l:aD} {s y:Bytes},y∈qj l s↔y=s\/y∈l
 | [],s,y=>by simp[qj]
 |x::xs,s,y=>by
  simp only[qj];cases Op.bytesLess x s with
  |true=>simp only[aK,au,CZ (l:=xs)];constructor<;>(rintro(h|h|h)<;>simp[h])
  |false=>
   simp only[aP];cases hx:x==s with
   |true=>
    simp only[cD]at hx;subst hx;simp
   |false=>simp
theorem Ib:∀ {l:aD} {s:Bytes},SS l->SS (qj l s)
 | [],s,_=>by simp[qj,SS]
 |x::xs,s,h=>by
  obtain⟨p1,p2⟩:=ig.1 h;simp only[qj];cases hb:Op.bytesLess x s with
  |true=>
   simp only[aK];refine ig.2 ⟨fun y hy=>?_,Ib p2⟩;rcases CZ.1 hy with rfl|hy
   ·exact hb
   ·exact p1 y hy
  |false=>
   simp only[aP];cases hx:x==s with
   |true=>exact h
   |false=>
    have hs:Op.bytesLess s x=true:=by
     cases hc:Op.bytesLess s x with
     |true=>rfl
     |false=>have:=vv hb hc;subst this;simp at hx
    refine ig.2 ⟨fun y hy=>?_,h⟩;rcases au.1 hy with rfl|hy
    ·exact hs
    ·exact qI hs (p1 y hy)
theorem sN:∀(l:aD) (s:Bytes),(qj l s).length<=l.length+1
 | [],s=>by simp[qj]
 |x::xs,s=>by
  have:=sN xs s;simp only[qj];cases Op.bytesLess x s<;>simp only[aK,aP,aO]
  ·cases x==s<;>simp
  ·omega
def cc(l:aD):aD:=l.foldl qj []
theorem wV:∀(l a:aD) (y:Bytes),y∈l.foldl qj a↔y∈a\/y∈l
 | [],a,y=>by simp
 |x::l,a,y=>by
  rw[qZ,wV l,CZ];simp only[au];constructor
  ·rintro((h|h)|h)<;>simp[h]
  ·rintro(h|h|h)<;>simp[h]
theorem yG:∀(l:aD) {a:aD},SS a->SS (l.foldl qj a)
 | [],a,h=>h
 |x::l,a,h=>yG l (Ib h)
theorem wU:∀(l a:aD),(l.foldl qj a).length<=a.length+l.length
 | [],a=>by simp
 |x::l,a=>by
  have h1:=wU l (qj a x);have h2:=sN a x;rw[qZ,aO];omega
theorem kW{l:aD}{y:Bytes}:y∈cc l↔y∈l:=by unfold cc;rw[wV];simp
theorem AE(l:aD):SS (cc l):=yG l (by simp[SS])
theorem kV(l:aD):(cc l).length<=l.length:=by have:=wU l [];simpa[cc]using this
theorem wz{a b:aD}(h:∀x,x∈a↔x∈b):cc a=cc b:=AZ (AE a) (AE b) (fun x=>by rw[kW,kW,h])
theorem He(a:aD)(x:Bytes):qj (cc a) x=cc (a++[x]):=by simp[cc]
theorem HZ(a b:aD):b.foldl qj (cc a)=cc (a++b):=by simp[cc]
theorem x6(a b:aD):(cc b).foldl qj (cc a)=cc (a++b):=by
 rw[HZ];exact wz (fun x=>by simp[kW])
theorem jJ(l:aD)(v:Bytes):(cc l).contains v=l.contains v:=by
 rw[bP];simp[kW]
def Qx(x:UInt8):Bool:=decide ((x.toNat:Int)>=97)&&decide ((x.toNat:Int)<=122)
def Qy(x:UInt8):Bool:=decide ((x.toNat:Int)>=48)&&decide ((x.toNat:Int)<=57)
def ab(x:UInt8):Bool:=Qx x||Qy x
def Lg(s:Bytes):Bool:=decide ((s.length:Int)>=1)&&decide ((s.length:Int)<=8)
def gE(s:Bytes):Bool:=s.all ab&&Lg s
def Oq:Bytes->Bool
 | []=>false
 |x::_=>decide ((x.toNat:Int)>=97)
def uD(s:Bytes):Bool:=gE s&&Oq s
def kR:Bytes->Bool
 | []=>false
 |x::t=>decide ((x.toNat:Int)=63)&&gE t
def nN(s:Bytes):Bool:=gE s||kR s
theorem rL{s:Bytes}(h:kR s=true):gE s=false:=by
 cases s with
 |nil=>cases h
 |cons x t=>
  simp only[kR,aN,bJ]at h;simp only[gE,cm,ab,Qx,Qy];have:(x.toNat:Int)=63:=h.1;simp[this]
theorem Pw(x:UInt8):IntKind.i64.wrap ((x.toNat:Nat):Int)=(x.toNat:Int):=iC (nk.i64.2 (by have:=x.toNat_lt;omega))
theorem Mp{n:Nat}(h:n<=1099511627776):IntKind.i64.wrap ((n:Int)+1)=((n+1:Nat):Int):=by rw[iC (nk.i64.2 (by omega))];omega
theorem IW{n:Nat}(h:1<=n):oH n (some (D.int .i64 1)) none=some (1,n):=by
 unfold oH;have:(0:Int)<=1/\(1:Int).toNat<=n:=⟨by decide,h⟩
 simp only[av this];rfl
theorem DV(a b c:Int):iW a b c=some (decide (a>=b)&&decide (a<=c)):=by
 unfold iW;cases decide (a>=b)<;>rfl
theorem RO(a:Bytes)(k:Option Bool)(ha:a.length<=1048576):∀(rest pre:Bytes),a=pre++rest->∀n,rest.length<n->fU a k n (pre.length:Int)=bif rest.all ab then k else some false:=by
 intro rest
 induction rest with
 |nil=>
  intro pre h n hn;obtain⟨m,rfl⟩:∃m,n=m+1:=⟨n-1,by simp at hn;omega⟩
  have e1:decide ((pre.length:Int)<(a.length:Int))=false:=by simp[h]
  rw[fU,e1];rfl
 |cons x xs ih=>
  intro pre h n hn;obtain⟨m,rfl⟩:∃m,n=m+1:=⟨n-1,by simp at hn;omega⟩
  have hl:a.length=pre.length+(xs.length+1):=by rw[h];simp
  have e1:decide ((pre.length:Int)<(a.length:Int))=true:=by rw[hl];simp;omega
  have e4:IntKind.i64.wrap ((pre.length:Int)+1)=((pre++[x]).length:Int):=by rw[Mp (by omega)];simp
  have t:=ih (pre++[x]) (by simp[h]) m (by simp at hn;omega);rw[fU,e1,aK,sw h,aA,Pw,DV,DV,aA,aA,e4,t,cm];show(bif !Qx x then(bif !Qy x then _ else _)else _)=bif (Qx x||Qy x)&&xs.all ab then k else some false
  cases Qx x<;>cases Qy x<;>simp
theorem ME(a:Bytes)(ha:a.length<=1048576):l9 a=some (gE a):=by
 unfold l9;refine(RO a _ ha a [] rfl fuel (by unfold fuel;omega)).trans ?_;rw[DV,aA];show _=some (a.all ab&&Lg a);cases a.all ab<;>rfl
theorem Qr(a:Bytes)(k:Option Bool)(ha:a.length<=1048576):∀(rest pre:Bytes),a=pre++rest->∀n,rest.length<n->eF a k n (pre.length:Int)=bif rest.all ab then k else some false:=by
 intro rest
 induction rest with
 |nil=>
  intro pre h n hn;obtain⟨m,rfl⟩:∃m,n=m+1:=⟨n-1,by simp at hn;omega⟩
  have e1:decide ((pre.length:Int)<(a.length:Int))=false:=by simp[h]
  rw[eF,e1];rfl
 |cons x xs ih=>
  intro pre h n hn;obtain⟨m,rfl⟩:∃m,n=m+1:=⟨n-1,by simp at hn;omega⟩
  have hl:a.length=pre.length+(xs.length+1):=by rw[h];simp
  have e1:decide ((pre.length:Int)<(a.length:Int))=true:=by rw[hl];simp;omega
  have e4:IntKind.i64.wrap ((pre.length:Int)+1)=((pre++[x]).length:Int):=by rw[Mp (by omega)];simp
  have t:=ih (pre++[x]) (by simp[h]) m (by simp at hn;omega);rw[eF,e1,aK,sw h,aA,e4,t,cm];have c1:decide ((x.toNat:Int)>=97)= !decide ((x.toNat:Int)<97):=by rw[bP];simp
  have c2:decide ((x.toNat:Int)<=122)= !decide ((x.toNat:Int)>122):=by rw[bP];simp
  have c3:decide ((x.toNat:Int)>=48)= !decide ((x.toNat:Int)<48):=by rw[bP];simp
  have c4:decide ((x.toNat:Int)<=57)= !decide ((x.toNat:Int)>57):=by rw[bP];simp
  rw[ab,Qx,Qy,c1,c2,c3,c4];cases decide ((x.toNat:Int)<97)<;>cases decide ((x.toNat:Int)>122)<;>cases decide ((x.toNat:Int)<48)<;>cases decide ((x.toNat:Int)>57)<;>simp
theorem BO(a:Bytes)(ha:a.length<=1048576):dR a=some (gE a):=by
 unfold dR;rw[show eF a (some true) fuel 0=_ from Qr a _ ha a [] rfl fuel (by unfold fuel;omega)];have c1:decide ((a.length:Int)>=1)= !decide ((a.length:Int)<1):=by rw[bP];simp
 have c2:decide ((a.length:Int)<=8)= !decide ((a.length:Int)>8):=by rw[bP];simp
 rw[gE,Lg,c1,c2];cases decide ((a.length:Int)<1)<;>cases decide ((a.length:Int)>8)<;>cases a.all ab<;>rfl
theorem Pm(a:Bytes)(ha:a.length<=1048576):mT a=some (uD a):=by
 unfold mT;rw[ME a ha,aA,uD];cases h:gE a with
 |false=>rfl
 |true=>
  cases a with
  |nil=>simp[gE,Lg]at h
  |cons x xs=>
   rw[show lG (x::xs) 0=some x from rfl];simp only[aK,aA,Pw,DV,j9,aS,Oq];simp only[gE,cm,ab,Qx,Qy,aN,iP,bJ]at h;rw[bP];simp only[aN,bJ];omega
theorem LP(a:Bytes)(ha:a.length<=1048576):l8 a=some (uD a):=by
 unfold l8;rw[BO a ha,aA,uD];cases h:gE a with
 |false=>rfl
 |true=>
  cases a with
  |nil=>simp[gE,Lg]at h
  |cons x xs=>rfl
theorem MS(a:Bytes)(ha:a.length<=1048576):jD a=some (kR a):=by
 unfold jD;cases a with
 |nil=>rfl
 |cons x t=>
  simp only[aO]at ha;rw[show lG (x::t) 0=some x from rfl,aA,IW (by simp),aA];have e:(((x::t).take ((x::t).length)).drop 1)=t:=by simp
  simp only[e,ME t (by omega),aA,kR,mo];cases t with
  |nil=>cases decide ((x.toNat:Int)=63)<;>rfl
  |cons y t=>
   have e2:decide ((((x::y::t).length:Int):Int)>1)=true:=by simp;omega
   rw[e2];cases decide ((x.toNat:Int)=63)<;>simp
theorem LU(a:Bytes)(ha:a.length<=1048576):jB a=some (kR a):=by
 unfold jB;cases a with
 |nil=>rfl
 |cons x t=>
  simp only[aO]at ha;rw[show lG (x::t) 0=some x from rfl,aA,IW (by simp),aA];have e:(((x::t).take ((x::t).length)).drop 1)=t:=by simp
  simp only[e,BO t (by omega),aA,kR,mo];cases t with
  |nil=>cases decide ((x.toNat:Int)=63)<;>rfl
  |cons y t=>
   have e2:decide ((((x::y::t).length:Int):Int)>1)=true:=by simp;omega
   rw[e2];cases decide ((x.toNat:Int)=63)<;>simp
theorem MR(a:Bytes)(ha:a.length<=1048576):fO a=some (nN a):=by
 unfold fO nN;rw[ME a ha,MS a ha];cases gE a<;>simp
theorem LR(a:Bytes)(ha:a.length<=1048576):fM a=some (nN a):=by
 unfold fM nN;rw[BO a ha,LU a ha];cases gE a<;>simp
theorem Ra(l:aD)(h:l.length<=1099511627776):nJ l=some l:=by
 unfold nJ;rw[Ia h (by decide)];rfl
theorem LS(l:aD)(h:l.length<=1099511627776):kA l=some l:=by
 unfold kA;rw[Ia h (by decide)];rfl
theorem RY(a b:aD):kK a b=some (decide (a=b)):=by
 unfold kK;exact Uo (c:=tx) (f:=fun x y=>some (x==y)) (fun k=>gD a b k) (fun _ _=>rfl) (fun _ _ _ _=>rfl) (fun x y=>by rw[aS,bP];simp)
theorem Ja(l:aD)(v:Bytes):eM l v=some (l.contains v):=by
 unfold eM;have:∀(r:aD) (i:Nat),fq l v (some false) r i=some (r.contains v):=by
  intro r
  induction r with
  |nil=>intro i;rfl
  |cons x r ih=>
   intro i;rw[fq,ih,List.contains_cons];have:(x==v)=(v==x):=by rw[bP,cD,cD];exact eq_comm
   rw[this];cases v==x<;>rfl
 exact this l 0
theorem Nk(l:aD)(v:Bytes):gx l v=some (l.contains v):=by
 unfold gx;have:∀(r:aD) (i:Nat),gy l v (some false) r i=some (r.contains v):=by
  intro r
  induction r with
  |nil=>intro i;rfl
  |cons x r ih=>
   intro i;rw[gy,ih,List.contains_cons];have:(x==v)=(v==x):=by rw[bP,cD,cD];exact eq_comm
   rw[this];cases v==x<;>rfl
 exact this l 0
theorem Po(a:aD)(s:Bytes)(k:Bool->aD->Option aD):∀(l:aD) (i:Nat) (w:aD),w.length+l.length<1099511627776->
 dA a s k l i true w=k true (w++l):=by
 intro l
 induction l with
 |nil=>intro i w _;simp[dA]
 |cons x xs ih=>
  intro i w h;simp only[aO]at h;rw[dA,bX,aP,lV (by omega) (by decide),aK,ih _ _ (by simp;omega)];simp
theorem Ts(a:aD)(s:Bytes)(k:Bool->aD->Option aD)(hk:∀w,w.length<1099511627776->k false w=some (w++[s]))(hk2:∀w,k true w=some w):∀(l:aD) (i:Nat) (w:aD),w.length+l.length+1<1099511627776->
 dA a s k l i false w=some (w++qj l s):=by
 intro l
 induction l with
 |nil=>intro i w h;rw[dA,hk w (by omega)];rfl
 |cons x xs ih=>
  intro i w h;simp only[aO]at h;rw[dA,eZ,aK,qj];cases Op.bytesLess x s with
  |true=>
   simp only[bX,aP,aK];rw[lV (by omega) (by decide),aK,ih _ _ (by simp;omega)];simp
  |false=>
   simp only[eZ,aK,aP];cases x==s with
   |true=>
    simp only[bX,aP,aK];rw[lV (by omega) (by decide),aK,Po _ _ _ _ _ _ (by simp;omega),hk2];simp
   |false=>
    simp only[eZ,aK,aP];rw[lV (by omega) (by decide),aK];have e:room (((w.map tx)++[[D.str s]]).length+([[D.str x]]).length) 16=true:=A8 (by simp;omega) (by decide);rw[e,aK,Po _ _ _ _ _ _ (by simp;omega),hk2];simp
theorem HU(l:aD)(s:Bytes)(h:l.length+1<1099511627776):hY l s=some (qj l s):=by
 unfold hY;rw[Ts l s _ (fun w hw=>by simp only[eZ,aK];rw[lV hw (by decide)];rfl) (fun w=>by simp) l 0 [] (by simpa using h)];rfl
def dd:Option Bytes->aD->aD
 |_,[]=>[]
 |p,x::xs=>if p=some x then dd (some x) xs else x::dd (some x) xs
theorem Gb:∀ {l:aD} {p:Option Bytes} {y:Bytes},y∈dd p l->y∈l
 | [],p,y,h=>by cases h
 |x::xs,p,y,h=>by
  simp only[dd]at h;split at h
  ·exact au.2 (.inr (Gb h))
  ·rcases au.1 h with rfl|h
   ·simp
   ·exact au.2 (.inr (Gb h))
theorem Ln:∀ {l:aD} {p:Option Bytes} {y:Bytes},y∈l->p=some y\/y∈dd p l
 |x::xs,p,y,h=>by
  simp only[dd];rcases au.1 h with rfl|h
  ·by_cases hp:p=some y
   ·exact .inl hp
   ·rw[ai hp];exact .inr (by simp)
  ·have:=Ln (p:=some x) h;split
   ·rename_i hp;rcases this with e|e
    ·exact .inl (hp.trans e)
    ·exact .inr e
   ·rcases this with e|e
    ·cases e;exact .inr (by simp)
    ·exact .inr (by simp[e])
theorem Oi:∀ {l:aD} {p:Option Bytes},l.Pairwise (fun a b=>Op.bytesLess b a=false)->(∀q,p=some q->∀y∈l,Op.bytesLess y q=false)->SS (dd p l)/\∀q,p=some q->∀y∈dd p l,Op.bytesLess q y=true
 | [],p,_,_=>⟨by simp[dd,SS],by simp[dd]⟩
 |x::xs,p,h,hp=>by
  obtain⟨p1,p2⟩:=ig.1 h;obtain⟨i1,i2⟩:=Oi (l:=xs) (p:=some x) p2 (fun q hq y hy=>by cases hq;exact p1 y hy);simp only[dd];split
  ·rename_i he;exact⟨i1,fun q hq y hy=>by rw[he]at hq;cases hq;exact i2 x rfl y hy⟩
  ·rename_i he;refine⟨ig.2 ⟨fun y hy=>i2 x rfl y hy,i1⟩,fun q hq y hy=>?_⟩;have Wu:Op.bytesLess q x=true:=by
    cases hc:Op.bytesLess q x with
    |true=>rfl
    |false=>exact absurd (by rw[hq,vv hc (hp q hq x (by simp))]) he
   rcases au.1 hy with rfl|hy
   ·exact Wu
   ·exact qI Wu (i2 x rfl y hy)
theorem MU(l:aD):jX l=l.mergeSort (fun x y=> !Op.bytesLess y x):=by
 unfold jX
 congr 1
 funext x y
 rw[Go.Proofs.bytesLess_eq];rw[bP];simp[List.not_lt]
theorem Em(l:aD):(jX l).Pairwise (fun a b=>Op.bytesLess b a=false):=by
 rw[MU];have:=List.pairwise_mergeSort (le:=fun x y=> !Op.bytesLess y x) (fun a b c h1 h2=>by
  simp only[jT]at h1 h2⊢;cases hc:Op.bytesLess c a with
  |false=>rfl
  |true=>
   cases hb:Op.bytesLess b a with
   |true=>rw[h1]at hb;cases hb
   |false=>
    cases GJ:Op.bytesLess a b with
    |true=>have:=qI hc GJ;rw[h2]at this;cases this
    |false=>have:=vv hb GJ;subst this;rw[h2]at hc;cases hc) (fun a b=>by
  cases hc:Op.bytesLess b a with
  |false=>simp
  |true=>simp[zC hc]) l
 exact this.imp (fun h=>by simpa using h)
theorem NV(l:aD):dd none (jX l)=cc l:=by
 refine AZ (Oi (Em l) (by simp)).1 (AE l) (fun x=>?_);rw[kW];have hm:x∈jX l↔x∈l:=(sP l).mem_iff;constructor
 ·intro h;exact hm.1 (Gb h)
 ·intro h;rcases Ln (p:=none) (hm.2 h)with h|h
  ·cases h
  ·exact h
theorem LQ(a:aD)(k:aD->Option aD)(ha:a.length<=1099511627775):∀(rest pre:aD) (w:aD),jX ([]++a)=pre++rest->w.length+rest.length<=1099511627775->
 cW a k rest pre.length w=k (w++dd pre.getLast? rest):=by
 have hlen:(jX ([]++a)).length=a.length:=(sP _).length_eq;intro rest
 induction rest with
 |nil=>intro pre w _ _;simp[cW,dd]
 |cons x xs ih=>
  intro pre w h hw;simp only[aO]at hw;have hl:pre.length+(xs.length+1)=a.length:=by rw[<-hlen,h];simp
  have t:=fun w'=>ih (pre++[x]) w' (by rw[h];simp)
  simp only[af,aO,bH,jF]at t;rw[cW];rcases pO pre with rfl|⟨p,z,Mt⟩
  ·have e0:(((([]:aD).length:Int):Int)==0)=true:=rfl;rw[e0,aK,lV (by omega) (by decide),aK,t _ (by simp;omega)];simp[dd]
  ·rw[pN]at Mt;subst Mt;have e0:((((p++[z]).length:Int):Int)==0)=false:=by simp;omega
   have e1:IntKind.i64.wrap (((p++[z]).length:Int)-1)=(p.length:Int):=by
    rw[iC (nk.i64.2 (by simp at hl⊢;omega))];simp
   have e2:lG (jX ([]++a)) (p.length:Int)=some z:=sw (xs:=x::xs) (by rw[h];simp);rw[e0,aP,e1,e2,aA];simp only[dd,jF];by_cases hz:z=x
   ·subst hz;have e3:((z:Bytes)==z)=true:=by simp
    rw[e3,bX,aP,t _ (by omega),av rfl]
   ·have e3:((z:Bytes)==x)=false:=by simpa using hz
    rw[e3,eZ,aK,lV (by omega) (by decide),aK,t _ (by simp;omega),ai (by simpa using hz)];simp
theorem EP(l:aD)(h:l.length<1099511627775):gJ l=some (cc l):=by
 have hlen:(jX ([]++l)).length=l.length:=(sP _).length_eq;unfold gJ;have e1:decide ((([]:aD)++l).length<4611686018427387904)=true:=by simp;omega
 rw[Ia (by omega) (by decide),aK,e1,aK,uC (by rw[hlen];omega),aK];have:=LQ l (fun q=>some q) (by omega) (jX ([]++l)) [] [] rfl (by rw[hlen];simp;omega);rw[show([]:aD).length=0 from rfl]at this;rw[this,<-NV];simp
end Go.Cx
namespace Go.Cx
open Go.RowKit Go.Proofs Tryz
theorem aJ.HM{p:aJ}{n:Nat}(h:p.wt<=n):p.rel.length<=n:=by unfold aJ.wt tw at h;omega
theorem aJ.mj{p:aJ}{n:Nat}(h:p.wt<=n):p.args.length<=n:=by unfold aJ.wt at h;have:=Es tw p.args;omega
theorem aJ.rZ{p:aJ}{n:Nat}(h:p.wt<=n){x:Bytes}(hx:x∈p.args):x.length<=n:=by unfold aJ.wt at h;have:=AH (w:=tw) hx;have e:tw x=x.length:=rfl;omega
theorem aT.jQ{c:aT}{n:Nat}(h:c.wt<=n):c.pat.wt<=n:=by simp only[aT.wt,aJ.wt]at h⊢;omega
theorem aT.zl{c:aT}{n:Nat}(h:c.wt<=n):c.left.length<=n:=by simp only[aT.wt,tw]at h;omega
theorem aT.wu{c:aT}{n:Nat}(h:c.wt<=n):c.right.length<=n:=by simp only[aT.wt,tw]at h;omega
theorem Action.jQ{c:Action}{n:Nat}(h:c.wt<=n):c.pat.wt<=n:=by simp only[Action.wt,aJ.wt]at h⊢;omega
theorem aZ.IU{r:aZ}{n:Nat}(h:r.wt<=n):r.name.length<=n:=by simp only[aZ.wt,tw]at h;omega
theorem aZ.td{r:aZ}{n:Nat}(h:r.wt<=n):v8 aT.wt r.conds<=n:=by simp only[aZ.wt]at h;omega
theorem aZ.Hu{r:aZ}{n:Nat}(h:r.wt<=n):v8 Action.wt r.cJ<=n:=by simp only[aZ.wt]at h;omega
theorem aZ.qB{r:aZ}{n:Nat}(h:r.wt<=n){c:aT}(hc:c∈r.conds):c.wt<=n:=by have:=aZ.td h;have:=AH (w:=aT.wt) hc;omega
theorem aZ.E1{r:aZ}{n:Nat}(h:r.wt<=n){c:Action}(hc:c∈r.cJ):c.wt<=n:=by have:=aZ.Hu h;have:=AH (w:=Action.wt) hc;omega
theorem HT(f:aJ)(h:f.args.length<=1099511627776):gH f=some f:=by
 unfold gH;rw[Ra _ h];rfl
theorem H6(f:aJ)(h:f.args.length<=1099511627776):fN f=some f:=by
 unfold fN;rw[LS _ h];rfl
theorem RW(a b:aJ):mV a b=some (decide (a=b)):=by
 obtain⟨a0,a1⟩:=a;obtain⟨b0,b1⟩:=b;unfold mV;simp only[RY,aA,mo];by_cases h0:a0=b0<;>by_cases h1:a1=b1<;>simp[h0,h1]
theorem OM(a b:aU):lT a b=some (decide (a=b)):=by
 unfold lT;exact Uo (c:=aJ.c) (f:=mV) (fun k=>iO a b k) (fun _ _=>rfl) (fun _ _ _ _=>rfl) RW
def si(p:aJ):Bool:=p.args.all nN&&(uD p.rel&&decide ((p.args.length:Int)<=3))
def vF(f:aJ):Bool:=f.args.all gE&&(uD f.rel&&decide ((f.args.length:Int)<=3))
theorem P4(f:aJ)(h:f.wt<=1048576):l7 f=some (vF f):=by
 unfold l7;rw[KJ (f:=dR) (L:=k6 f _) (fun _=>rfl) (fun _ _ _=>rfl) f.args 0 (fun x hx=>BO x (aJ.rZ h hx)),LP _ (aJ.HM h),aA,az,vF];have c:decide ((f.args.length:Int)<=3)= !decide ((f.args.length:Int)>3):=by rw[bP];simp
 rw[c];cases f.args.all gE<;>cases uD f.rel<;>cases decide ((f.args.length:Int)>3)<;>rfl
theorem Tr(f:aJ)(h:f.wt<=1048576):fV f=some (si f):=by
 unfold fV;rw[KJ (f:=fO) (L:=iM f _) (fun _=>rfl) (fun _ _ _=>rfl) f.args 0 (fun x hx=>MR x (aJ.rZ h hx)),Pm _ (aJ.HM h),aA,az,si];cases f.args.all nN<;>cases uD f.rel<;>rfl
theorem Qt(f:aJ)(h:f.wt<=1048576):fR f=some (si f):=by
 unfold fR;rw[KJ (f:=fM) (L:=iI f _) (fun _=>rfl) (fun _ _ _=>rfl) f.args 0 (fun x hx=>LR x (aJ.rZ h hx)),LP _ (aJ.HM h),aA,az,si];have c:decide ((f.args.length:Int)<=3)= !decide ((f.args.length:Int)>3):=by rw[bP];simp
 rw[c];cases f.args.all nN<;>cases uD f.rel<;>cases decide ((f.args.length:Int)>3)<;>rfl
def fX(l:aD):aD:=l.filter kR
theorem og(l:aD):(fX l).length<=l.length:=List.length_filter_le _ _
theorem Dl(a b:aD):fX (a++b)=fX a++fX b:=List.filter_append _ _
theorem AB(p:aJ)(h:p.wt<=1048576):jE p=some (cc (fX p.args)):=by
 unfold jE;have:∀(r:aD) (i:Nat) (w:aD),(∀x∈r,x.length<=1048576)->w.length+r.length<=2097152->ga p (fun q=>some q) r i w=some ((fX r).foldl qj w):=by
  intro r
  induction r with
  |nil=>intro i w _ _;rfl
  |cons x r ih=>
   intro i w hr hw;simp only[aO]at hw;have hl:=sN w x;rw[ga,MS x (hr x (by simp)),aA,HU w x (by omega),aA,ih _ _ (fun y hy=>hr y (by simp[hy])) (by omega),ih _ _ (fun y hy=>hr y (by simp[hy])) (by omega)];cases hv:kR x<;>simp[fX,hv]
 exact this p.args 0 [] (fun x hx=>aJ.rZ h hx) (by have:=aJ.mj h;simp;omega)
theorem LV(l:aD)(hl:l.length<=2097152)(h:∀x∈l,x.length<=1048576):iy l=some (fX l):=by
 unfold iy;have:∀(r:aD) (i:Nat) (w:aD),(∀x∈r,x.length<=1048576)->w.length+r.length<=2097152->di l (fun q=>some q) r i w=some (w++fX r):=by
  intro r
  induction r with
  |nil=>intro i w _ _;simp[di,fX]
  |cons x r ih=>
   intro i w hr hw;simp only[aO]at hw;rw[di,LU x (hr x (by simp)),aA,lV (by omega) (by decide),ih _ _ (fun y hy=>hr y (by simp[hy])) (by simp;omega),ih _ _ (fun y hy=>hr y (by simp[hy])) (by omega)];cases hv:kR x<;>simp[fX,hv]
 exact this l 0 [] h (by simpa using hl)
def kF(c:aT):aD:=fX (c.pat.args++[c.left,c.right])
theorem pY{c:aT}{n:Nat}(h:c.wt<=n):(kF c).length<=n+2:=by
 have h1:=og (c.pat.args++[c.left,c.right]);have h2:=aJ.mj (aT.jQ h);simp only[af,aO,bH]at h1;unfold kF;omega
theorem HS(c:aT)(h:c.wt<=1048576):iV c=some (cc (kF c)):=by
 unfold iV;have h1:=aJ.mj (aT.jQ h);have h2:=kV (fX c.pat.args);have h3:=og c.pat.args;have h4:=sN (cc (fX c.pat.args)) c.left;rw[AB _ (aT.jQ h),aA,MS _ (aT.zl h),aA,MS _ (aT.wu h)];simp only[aA];rw[HU _ _ (by omega),HU _ _ (by omega),aA,HU _ _ (by omega)];simp only[aA,kF,Dl,He];cases hl:kR c.left<;>cases hr:kR c.right<;>simp[fX,hl,hr]
theorem Qu(c:aT)(h:c.wt<=1048576):nG c=some (c.pat.args++[c.left,c.right]):=by
 unfold nG;have h1:=aJ.mj (aT.jQ h);rw[LS _ (by omega),aA];rw[A8 (by simp;omega) (by decide)];rfl
theorem Gz(c:aT)(h:c.wt<=1048576):jZ c=some (cc (kF c)):=by
 unfold jZ;have h1:=aJ.mj (aT.jQ h);have h5:=pY h;rw[Qu c h,aA,LV _ (by simp;omega) (fun x hx=>by
  simp only[aH,au,List.not_mem_nil,or_false]at hx;rcases hx with hx|rfl|rfl
  ·exact aJ.rZ (aT.jQ h) hx
  ·exact aT.zl h
  ·exact aT.wu h),aA]
 rw[show fX (c.pat.args++[c.left,c.right])=kF c from rfl,EP _ (by omega)];rfl
def AT(p:aJ):Bool:=p.rel==[]&&decide ((p.args.length:Int)=0)
def o9(c:aT):Bool:=bif decide (c.kind=1)||decide (c.kind=2)then si c.pat&&(c.left==[]&&c.right==[])else bif decide (c.kind=3)||decide (c.kind=4)||decide (c.kind=5)then AT c.pat&&(nN c.left&&nN c.right)else false
def BX(c:aT):Bool:=o9 c&&decide (c.kind>=3)
theorem yN{c:aT}(h:o9 c=true):1<=c.kind/\c.kind<=5:=by
 unfold o9 at h;by_cases h1:c.kind=1
 ·omega
 by_cases h2:c.kind=2
 ·omega
 by_cases h3:c.kind=3
 ·omega
 by_cases h4:c.kind=4
 ·omega
 by_cases h5:c.kind=5
 ·omega
 simp[h1,h2,h3,h4,h5]at h
theorem Pj(c:aT)(h:c.wt<=1048576):lB c=some (o9 c):=by
 unfold lB o9 AT;simp only[Tr _ (aT.jQ h),MR _ (aT.zl h),MR _ (aT.wu h),aA,az,mo];by_cases h1:c.kind=1
 ·simp only[h1];cases si c.pat<;>cases decide (c.left=[])<;>simp
 by_cases h2:c.kind=2
 ·simp only[h2];cases si c.pat<;>cases decide (c.left=[])<;>simp
 by_cases h3:c.kind=3
 ·simp only[h3];cases decide (c.pat.rel=[])<;>cases decide ((c.pat.args.length:Int)=0)<;>cases nN c.left<;>simp
 by_cases h4:c.kind=4
 ·simp only[h4];cases decide (c.pat.rel=[])<;>cases decide ((c.pat.args.length:Int)=0)<;>cases nN c.left<;>simp
 by_cases h5:c.kind=5
 ·simp only[h5];cases decide (c.pat.rel=[])<;>cases decide ((c.pat.args.length:Int)=0)<;>cases nN c.left<;>simp
 simp[h1,h2,h3,h4,h5]
theorem P6(p:aJ):fF p=some (AT p):=by
 unfold fF AT;simp only[az,mo];cases decide (p.rel=[])<;>rfl
theorem LM(c:aT)(h:c.wt<=1048576):l6 c=some (o9 c):=by
 unfold l6 o9;simp only[Qt _ (aT.jQ h),LR _ (aT.zl h),LR _ (aT.wu h),P6,aA,mo];by_cases h1:c.kind=1
 ·simp only[h1];cases si c.pat<;>cases decide (c.left=[])<;>simp
 by_cases h2:c.kind=2
 ·simp only[h2];cases si c.pat<;>cases decide (c.left=[])<;>simp
 by_cases h3:c.kind=3
 ·simp only[h3];cases AT c.pat<;>cases nN c.left<;>cases nN c.right<;>simp
 by_cases h4:c.kind=4
 ·simp only[h4];cases AT c.pat<;>cases nN c.left<;>cases nN c.right<;>simp
 by_cases h5:c.kind=5
 ·simp only[h5];cases AT c.pat<;>cases nN c.left<;>cases nN c.right<;>simp
 simp[h1,h2,h3,h4,h5]
theorem Pr(c:aT)(h:c.wt<=1048576):mU c=some (BX c):=by
 unfold mU BX;rw[Pj c h];cases o9 c<;>rfl
theorem TB(c:aT)(h:c.wt<=1048576):oA c=some (BX c):=by
 unfold oA BX;rw[LM c h];cases o9 c<;>rfl
def C4(a:Action):Bool:=bif decide (a.kind=1)||decide (a.kind=2)then si a.pat else bif decide (a.kind=3)then AT a.pat else false
theorem WK(a:Action)(h:a.wt<=1048576):mK a=some (C4 a):=by
 unfold mK C4 AT;simp only[Tr _ (Action.jQ h),aA,az,mo];by_cases h1:a.kind=1
 ·simp[h1]
 by_cases h2:a.kind=2
 ·simp[h2]
 by_cases h3:a.kind=3
 ·simp only[h3];cases decide (a.pat.rel=[])<;>simp
 simp[h1,h2,h3]
theorem Vt(a:Action)(h:a.wt<=1048576):mH a=some (C4 a):=by
 unfold mH C4;simp only[Qt _ (Action.jQ h),P6,aA,mo];by_cases h1:a.kind=1
 ·simp[h1]
 by_cases h2:a.kind=2
 ·simp[h2]
 by_cases h3:a.kind=3
 ·simp[h3]
 simp[h1,h2,h3]
end Go.Cx
namespace Go.Cx
open Go.RowKit Go.Proofs Tryz
theorem O3:∀(k v:Nat),v<10^k->1<=k->Lib.nDigits v<=k:=by
 intro k
 induction k with
 |zero=>intro v _ h;omega
 |succ k ih=>
  intro v hv _;by_cases h10:v<10
  ·rw[Lib.nDigits_small h10];omega
  ·rw[Lib.nDigits_big h10];have h3:v/10<10^k:=by rw[rB]at hv;omega
   have hk1:1<=k:=by
    cases k with
    |zero=>simp at hv;omega
    |succ k=>omega
   have:=ih (v/10) h3 hk1;omega
theorem HF{u:Nat}(h:u<=9223372036854775808):Lib.nDigits u<=19:=O3 19 u (by omega) (by omega)
theorem Um(u:Nat):UInt8.ofNat (IntKind.u8.wrap (IntKind.i64.wrap (48+((u:Int)%10)))).toNat=UInt8.ofNat (48+u%10):=by
 rw[iC (k:=.i64) (nk.i64.2 (by omega)),iC (nk.u8.2 (by omega))]
 congr 1
theorem Pk(k:Option Bytes):∀(n u:Nat) (acc:Bytes),Lib.nDigits u<=n->acc.length+Lib.nDigits u<=1000->eg k n (u:Int) acc=some (Lib.decDigits u++acc):=by
 intro n
 induction n with
 |zero=>intro u acc h _;have:=Lib.nDigits_pos u;omega
 |succ n ih=>
  intro u acc hn hl;have hp:=Lib.nDigits_pos u;have e0:(decide (0<=(u:Int))&&decide (0<(10:Int)))=true:=by simp
  have e1:decide (([UInt8.ofNat (48+u%10)]:Bytes).length+(acc:Bytes).length<=maxLen)=true:=by unfold maxLen;simp;omega
  rw[eg];simp only[Um,e0,e1,aK];by_cases h10:u<10
  ·have e2:(((u:Int)/10:Int)==0)=true:=by rw[cD];omega
   rw[e2,aK,Lib.decDigits,dif_pos h10,Nat.mod_eq_of_lt h10]
  ·have e2:(((u:Int)/10:Int)==0)=false:=by rw[cZ];omega
   have e3:((u:Int)/10)=((u/10:Nat):Int):=by omega
   have hd:=Lib.nDigits_big h10;rw[e2,aP,e3,ih (u/10) _ (by omega) (by simp;omega)]
   conv=>rhs;rw[Lib.decDigits,dif_neg h10]
   simp
theorem Tp(m u:Nat)(h:u<=9223372036854775807):eW (m+1) (u:Int)=some (Lib.decDigits u):=by
 rw[eW];have e1:((u:Int)==(-9223372036854775808))=false:=by rw[cZ];omega
 have e2:decide ((u:Int)<0)=false:=by simp
 have:=HF (u:=u) (by omega);rw[e1,aP,e2,aP,Pk _ _ _ _ (by unfold fuel;omega) (by simp;omega)];simp
theorem LX:Lib.itoa (-9223372036854775808)=[45,57,50,50,51,51,55,50,48,51,54,56,53,52,55,55,53,56,48,56]:=by
 unfold Lib.itoa;simp[Lib.decDigits]
theorem To(n:Int)(h:nk .i64 n):iz n=some (Lib.itoa n):=by
 have h:=nk.i64.1 h;unfold iz;rw[show fuel=4194303+1 from rfl,eW];by_cases hm:n= -9223372036854775808
 ·subst hm;rw[LX];rfl
 have e1:((n:Int)==(-9223372036854775808))=false:=by rw[cZ];exact hm
 rw[e1,aP];by_cases hn:n<0
 ·have e2:decide (n<0)=true:=by simpa using hn
  have e3:IntKind.i64.wrap (0-n)=((n.natAbs:Nat):Int):=by rw[iC (nk.i64.2 (by omega))];omega
  have hd:=HF (u:=n.natAbs) (by omega);rw[e2,aK,e3,show(4194303:Nat)=4194302+1 from rfl,Tp _ _ (by omega),aA];have e4:decide (([45]:Bytes).length+(Lib.decDigits n.natAbs:Bytes).length<=maxLen)=true:=by unfold maxLen;rw[Lib.decDigits_length];simp;omega
  rw[e4,aK];unfold Lib.itoa;rw[av hn];rfl
 ·have e2:decide (n<0)=false:=by simpa using hn
  have e3:n=((n.toNat:Nat):Int):=by omega
  have:=HF (u:=n.toNat) (by omega);rw[e2,aP]
  conv=>lhs;rw[e3]
  rw[Pk _ _ _ _ (by unfold fuel;omega) (by simp;omega)];unfold Lib.itoa;rw[ai hn];simp
theorem T6(n:Int):ij n=some (Lib.itoa n):=by
 unfold ij sK;rfl
end Go.Cx
namespace Go.Cx
open Go.RowKit Go.Proofs Tryz
end Go.Cx
namespace Go.Cx
open Go.RowKit Go.Proofs Tryz
def Ba(c:aT):aD:=bif decide (c.kind=1)then fX c.pat.args else []
theorem KS{c:aT}:(Ba c).length<=c.wt:=by
 unfold Ba;have h2:=og c.pat.args;have h3:=aJ.mj (aT.jQ (bM c.wt));cases decide (c.kind=1)<;>simp;omega
def qJ(r:aZ)(n:Int):aD:=(r.conds.take n.toNat).flatMap Ba
theorem Di{α:Type}(x:α)(xs:List α)(n:Int)(i:Nat):(x::xs).take (n-(i:Int)).toNat=if(i:Int)<n then x::xs.take (n-((i+1:Nat):Int)).toNat else []:=by
 by_cases h:(i:Int)<n
 ·rw[av h];obtain⟨m,hm⟩:∃m,(n-(i:Int)).toNat=m+1:=⟨(n-(i:Int)).toNat -1,by omega⟩
  have:(n-((i+1:Nat):Int)).toNat=m:=by omega
  rw[hm,this];rfl
 ·rw[ai h,show(n-(i:Int)).toNat=0 from by omega];rfl
theorem wR{α β:Type}{f:α->List β}{w:α->Nat}(l:List α)(h:∀x∈l,(f x).length<=w x+2):(l.flatMap f).length<=3*v8 w l:=by
 induction l with
 |nil=>simp[v8]
 |cons x l ih=>
  rw[cy,af,mP];have h1:=h x (by simp);have h2:=ih (fun y hy=>h y (by simp[hy]));omega
theorem KT{r:aZ}{n:Nat}(h:r.wt<=n)(m:Int):(qJ r m).length<=3*n:=by
 unfold qJ;have h1:=wR (w:=aT.wt) (f:=Ba) (r.conds.take m.toNat) (fun c _=>by have:= @KS c;omega);have h2:v8 aT.wt (r.conds.take m.toNat)<=v8 aT.wt r.conds:=by
  conv=>rhs;rw[<-bR m.toNat r.conds]
  rw[Hh];omega
 have h3:=aZ.td h;omega
theorem MF(a:aZ)(n:Int)(i:Nat)(y:aD)(k:aD->Option aD):∀(l:aD) (j:Nat) (w:aD),w.length+l.length<=1099511627770->fo a n i y k l j w=k (l.foldl qj w):=by
 intro l
 induction l with
 |nil=>intro j w _;rfl
 |cons x l ih=>
  intro j w hw;simp only[aO]at hw;have:=sN w x;rw[fo,HU w x (by omega),aA,ih _ _ (by omega)];rfl
theorem OA(a:aZ)(n:Int)(k:aD->Option aD):∀(l:bN) (i:Nat) (acc:aD),(∀c∈l,c.wt<=1048576)->acc.length+v8 aT.wt l<=2097152->
 dl a n k l i (cc acc)=k (cc (acc++(l.take (n-(i:Int)).toNat).flatMap Ba)):=by
 intro l
 induction l with
 |nil=>intro i acc _ _;simp[dl]
 |cons c l ih=>
  intro i acc hc hb;rw[mP]at hb;have LI:=hc c (by simp);have hv:=og c.pat.args;have ha:=aJ.mj (aT.jQ (bM c.wt));have hu:=kV (fX c.pat.args);have Mu:=kV acc;rw[dl,Di];by_cases hi:(i:Int)<n
  ·have e1:decide (((i:Int):Int)<n)=true:=by simp[hi]
   rw[e1,aK,av hi];by_cases hk:c.kind=1
   ·have e2:((c.kind:Int)==1)=true:=by simp[hk]
    rw[e2,aK,AB _ (aT.jQ LI),aA,uC (by omega),aK,MF _ _ _ _ _ _ _ _ (by omega),x6,ih _ _ (fun x hx=>hc x (by simp[hx])) (by simp;omega)];simp[Ba,hk]
   ·have e2:((c.kind:Int)==1)=false:=by simp[hk]
    rw[e2,aP,ih _ _ (fun x hx=>hc x (by simp[hx])) (by omega)];simp[Ba,hk]
  ·have e1:decide (((i:Int):Int)<n)=false:=by simp[hi]
   rw[e1,aP,ai hi];simp
theorem HR(r:aZ)(n:Int)(h:r.wt<=1048576):gY r n=some (cc (qJ r n)):=by
 unfold gY;have:=OA r n (fun q=>some q) r.conds 0 [] (fun c hc=>aZ.qB h hc) (by have:=aZ.td h;simp;omega);rw[show cc []=[]from rfl]at this;rw[this];simp[qJ]
theorem Nj(a:aZ)(n:Int)(k:aD->Option aD):∀(l:bN) (i:Nat) (w:aD),(∀c∈l,c.wt<=1048576)->w.length+v8 aT.wt l<=2097152->
 dJ a n k l i w=k (w++(l.take (n-(i:Int)).toNat).flatMap Ba):=by
 intro l
 induction l with
 |nil=>intro i w _ _;simp[dJ]
 |cons c l ih=>
  intro i w hc hb;rw[mP]at hb;have LI:=hc c (by simp);have hv:=og c.pat.args;have ha:=aJ.mj (aT.jQ (bM c.wt));rw[dJ,Di];by_cases hi:(i:Int)<n
  ·have e1:decide (((i:Int):Int)<n)=true:=by simp[hi]
   rw[e1,aK,av hi];by_cases hk:c.kind=1
   ·have e2:((c.kind:Int)==1)=true:=by simp[hk]
    rw[e2,aK,LV _ (by omega) (fun x hx=>aJ.rZ (aT.jQ LI) hx),aA,Pf (by omega) (by decide),aK,ih _ _ (fun x hx=>hc x (by simp[hx])) (by simp;omega)];simp[Ba,hk]
   ·have e2:((c.kind:Int)==1)=false:=by simp[hk]
    rw[e2,aP,ih _ _ (fun x hx=>hc x (by simp[hx])) (by omega)];simp[Ba,hk]
  ·have e1:decide (((i:Int):Int)<n)=false:=by simp[hi]
   rw[e1,aP,ai hi,ih _ _ (fun x hx=>hc x (by simp[hx])) (by omega),show(n-((i+1:Nat):Int)).toNat=0 from by omega];simp
theorem LL(r:aZ)(n:Int)(h:r.wt<=1048576):jz r n=some (cc (qJ r n)):=by
 unfold jz;have hl:=KT h n;rw[Nj r n _ r.conds 0 [] (fun c hc=>aZ.qB h hc) (by have:=aZ.td h;simp;omega)];have e:([]:aD)++(r.conds.take (n-((0:Nat):Int)).toNat).flatMap Ba=qJ r n:=by simp[qJ]
 rw[e,EP _ (by omega)];rfl
def w5(l:bN):aD:=l.flatMap kF
def NJ(l:iD):aD:=l.flatMap fun a=>fX a.pat.args
def RN(r:aZ):aD:=w5 r.conds++NJ r.cJ
theorem KV(l:bN):(w5 l).length<=3*v8 aT.wt l:=wR l (fun c _=>pY (bM _))
theorem MN(a:aZ)(i:Nat)(y:aD)(k:aD->Option aD):∀(l:aD) (j:Nat) (w:aD),w.length+l.length<=1099511627770->gO a i y k l j w=k (l.foldl qj w):=by
 intro l
 induction l with
 |nil=>intro j w _;rfl
 |cons x l ih=>
  intro j w hw;simp only[aO]at hw;have:=sN w x;rw[gO,HU w x (by omega),aA,ih _ _ (by omega)];rfl
theorem MP(a:aZ)(i:Nat)(y:aD)(k:aD->Option aD):∀(l:aD) (j:Nat) (w:aD),w.length+l.length<=1099511627770->gP a i y k l j w=k (l.foldl qj w):=by
 intro l
 induction l with
 |nil=>intro j w _;rfl
 |cons x l ih=>
  intro j w hw;simp only[aO]at hw;have:=sN w x;rw[gP,HU w x (by omega),aA,ih _ _ (by omega)];rfl
theorem MM(a:aZ)(k:aD->Option aD):∀(l:bN) (i:Nat) (acc:aD),(∀c∈l,c.wt<=1048576)->acc.length+3*v8 aT.wt l<=16777216->
 fH a k l i (cc acc)=k (cc (acc++w5 l)):=by
 intro l
 induction l with
 |nil=>intro i acc _ _;simp[fH,w5]
 |cons c l ih=>
  intro i acc hc hb;rw[mP]at hb;have LI:=hc c (by simp);have h1:=pY (bM c.wt);have hu:=kV (kF c);have Mu:=kV acc;rw[fH,HS c LI,aA,uC (by omega),aK,MN _ _ _ _ _ _ _ (by omega),x6,ih _ _ (fun x hx=>hc x (by simp[hx])) (by simp;omega)];simp[w5]
theorem MO(a:aZ)(k:aD->Option aD):∀(l:iD) (i:Nat) (acc:aD),(∀c∈l,c.wt<=1048576)->acc.length+3*v8 Action.wt l<=16777216->
 eX a k l i (cc acc)=k (cc (acc++NJ l)):=by
 intro l
 induction l with
 |nil=>intro i acc _ _;simp[eX,NJ]
 |cons c l ih=>
  intro i acc hc hb;rw[mP]at hb;have LI:=hc c (by simp);have h1:=og c.pat.args;have h2:=aJ.mj (Action.jQ (bM c.wt));have hu:=kV (fX c.pat.args);have Mu:=kV acc;rw[eX,AB _ (Action.jQ LI),aA,uC (by omega),aK,MP _ _ _ _ _ _ _ (by omega),x6,ih _ _ (fun x hx=>hc x (by simp[hx])) (by simp;omega)];simp[NJ]
theorem RU(r:aZ)(h:r.wt<=1048576):mL r=some (cc (RN r)):=by
 unfold mL;have h3:=aZ.td h;have h4:=aZ.Hu h;have hl:=KV r.conds;have:=MM r (fun q=>eX r (fun q=>some q) r.cJ 0 q) r.conds 0 [] (fun c hc=>aZ.qB h hc) (by simp;omega);rw[show cc []=[]from rfl]at this;rw[this];simp only[iQ];rw[MO r _ r.cJ 0 _ (fun c hc=>aZ.E1 h hc) (by omega)];rfl
theorem T4(l:bN)(hc:∀c∈l,c.wt<=1048576)(hb:v8 aT.wt l<=1048576):kj l=some (l.flatMap fun c=>cc (kF c)):=by
 unfold kj;have:∀(r:bN) (i:Nat) (w:aD),(∀c∈r,c.wt<=1048576)->w.length+3*v8 aT.wt r<=16777216->eU l (fun q=>some q) r i w=some (w++r.flatMap fun c=>cc (kF c)):=by
  intro r
  induction r with
  |nil=>intro i w _ _;simp[eU]
  |cons c r ih=>
   intro i w hc hb;rw[mP]at hb;have h1:=pY (bM c.wt);have hu:=kV (kF c);rw[eU,Gz c (hc c (by simp)),aA,Pf (by omega) (by decide),aK,ih _ _ (fun x hx=>hc x (by simp[hx])) (by simp;omega)];simp
 exact this l 0 [] hc (by simp;omega)
theorem KU(l:bN):(l.flatMap fun c=>cc (kF c)).length<=3*v8 aT.wt l:=wR l (fun c _=>by
 have h1:=pY (bM c.wt);have hu:=kV (kF c);omega)
theorem Ui(l:bN)(b:aD):cc ((l.flatMap fun c=>cc (kF c))++b)=cc (w5 l++b):=wz (fun x=>by simp[w5,kW])
def E9(v:Bytes)(k:Int):bN->Nat->Bool
 | [],_=>false
 |c::cs,i=>(decide (((i:Nat):Int)≠k)&&(kF c).contains v)||E9 v k cs (i+1)
def E8(r:aZ)(k:Int)(v:Bytes):Bool:=E9 v k r.conds 0||r.cJ.any fun a=>(fX a.pat.args).contains v
theorem D4{l:aD}{v:Bytes}(h:kR v=true):l.contains v=(fX l).contains v:=by
 rw[bP];simp[fX,h]
theorem Tn(r:aZ)(k:Int)(v:Bytes)(h:r.wt<=1048576):j8 r k v=some (E8 r k v):=by
 unfold j8 E8;have k2:∀(l:iD) (i:Nat),(∀c∈l,c.wt<=1048576)->er r v (some false) l i=some (l.any fun a=>(fX a.pat.args).contains v):=by
  intro l
  induction l with
  |nil=>intro i _;rfl
  |cons a l ih=>
   intro i hc;rw[er,AB _ (Action.jQ (hc a (by simp))),aA,Ja,aA,jJ,ih _ (fun x hx=>hc x (by simp[hx])),List.any_cons];cases(fX a.pat.args).contains v<;>rfl
 have k1:∀(l:bN) (i:Nat),(∀c∈l,c.wt<=1048576)->dX r k v (some (r.cJ.any fun a=>(fX a.pat.args).contains v)) l i=some (E9 v k l i||r.cJ.any fun a=>(fX a.pat.args).contains v):=by
  intro l
  induction l with
  |nil=>intro i _;rfl
  |cons c l ih=>
   intro i hc;rw[dX,HS _ (hc c (by simp)),aA,Ja,aA,jJ,ih _ (fun x hx=>hc x (by simp[hx]))];simp only[E9,bne,mo];by_cases hi:((i:Nat):Int)=k
   ·simp[hi]
   ·cases(kF c).contains v<;>simp[hi]
 rw[k2 _ _ (fun c hc=>aZ.E1 h hc),k1 _ _ (fun c hc=>aZ.qB h hc)]
theorem Vu(r:aZ)(k:Int)(v:Bytes)(hv:kR v=true)(h:r.wt<=1048576):gz r k v=some (E8 r k v):=by
 unfold gz E8;have k2:∀(l:iD) (i:Nat),dK r v (some false) l i=some (l.any fun a=>(fX a.pat.args).contains v):=by
  intro l
  induction l with
  |nil=>intro i;rfl
  |cons a l ih=>
   intro i;rw[dK,Nk,aA,D4 hv,ih,List.any_cons];cases(fX a.pat.args).contains v<;>rfl
 have k1:∀(l:bN) (i:Nat),(∀c∈l,c.wt<=1048576)->cY r k v (some (r.cJ.any fun a=>(fX a.pat.args).contains v)) l i=some (E9 v k l i||r.cJ.any fun a=>(fX a.pat.args).contains v):=by
  intro l
  induction l with
  |nil=>intro i _;rfl
  |cons c l ih=>
   intro i hc;rw[cY,Gz _ (hc c (by simp)),aA,Nk,aA,jJ,ih _ (fun x hx=>hc x (by simp[hx]))];simp only[E9,bne,mo];by_cases hi:((i:Nat):Int)=k
   ·simp[hi]
   ·cases(kF c).contains v<;>simp[hi]
 rw[k2,k1 _ _ (fun c hc=>aZ.qB h hc)]
def ur(r:aZ)(i:Nat)(c:aT)(v:Bytes):Bool:=decide (c.kind=1)||(qJ r i).contains v||(decide (c.kind=2)&& !E8 r i v)
def mY(r:aZ):bN->Nat->Bool
 | [],_=>true
 |c::cs,i=>(o9 c&&(!decide (i=0)||decide (c.kind=1))&&(cc (kF c)).all (ur r i c))&&mY r cs (i+1)
def yD(r:aZ):Bool:=r.cJ.all fun a=>C4 a&&(fX a.pat.args).all fun v=>(qJ r r.conds.length).contains v
def jg(r:aZ):Bool:=uD r.name&&(decide (0<=r.prio)&&decide (r.prio<=9))&&(decide (1<=(r.conds.length:Int))&&decide ((r.conds.length:Int)<=4))&&(decide (1<=(r.cJ.length:Int))&&decide ((r.cJ.length:Int)<=2))&&
 (mY r r.conds 0&&(yD r&&decide (((cc (w5 r.conds)).length:Int)<=6)))
theorem DK(l:aD)(p:Bytes->Bool):(cc l).all p=l.all p:=by
 rw[bP];simp[aQ,kW]
theorem NL(r:aZ)(n:Int){v:Bytes}(h:v∈qJ r n):v∈w5 r.conds:=by
 unfold qJ at h;obtain⟨c,hc,hv⟩:=bI.1 h;refine bI.2 ⟨c,bC hc,?_⟩;unfold Ba at hv;cases hk:decide (c.kind=1)with
 |false=>rw[hk]at hv;cases hv
 |true=>
  rw[hk]at hv;simp only[aK]at hv;unfold kF;rw[Dl];exact aH.2 (.inl hv)
theorem GS{r:aZ}(h:yD r=true):cc (RN r)=cc (w5 r.conds):=by
 refine wz (fun x=>?_);unfold RN;simp only[aH];constructor
 ·rintro(hx|hx)
  ·exact hx
  ·obtain⟨a,ha,hv⟩:=bI.1 hx;unfold yD at h;have:=aQ.1 h a ha;simp only[aN,aQ]at this;have:=this.2 x hv;exact NL r _ (by simpa using this)
 ·exact .inl
theorem OI(r:aZ)(y:aD)(i:Nat)(c:aT)(l:aD)(k:Option Bool)(hc:c.wt<=1048576)(hr:r.wt<=1048576)(hcb:o9 c=true):∀(rest:aD) (j:Nat),eH r y i c (cc (qJ r i)) l k rest j=bif rest.all (ur r i c)then k else some false:=by
 have hk:=yN hcb;intro rest
 induction rest with
 |nil=>intro j;rfl
 |cons v rest ih=>
  intro j;rw[eH,Ja,aA,jJ,Pr c hc,aA,Tn r _ v hr,aA,ih,cm];unfold BX ur;rw[hcb];by_cases h1:c.kind=1
  ·simp[h1]
  by_cases h2:c.kind=2
  ·cases(qJ r i).contains v<;>cases E8 r i v<;>simp[h2]
  have h3:c.kind>=3:=by omega
  cases(qJ r i).contains v<;>simp[h1,h2,h3]
theorem OJ(r:aZ)(y:aD)(i:Nat)(c:aT)(l:aD)(k:Option Bool)(hc:c.wt<=1048576)(hr:r.wt<=1048576)(hcb:o9 c=true):∀(rest:aD) (j:Nat),eL r y i c (cc (qJ r i)) l k rest j=bif rest.all (ur r i c)then k else some false:=by
 have hk:=yN hcb;intro rest
 induction rest with
 |nil=>intro j;rfl
 |cons v rest ih=>
  intro j;rw[eL,Ja,aA,jJ,Pr c hc,aA,Tn r _ v hr,aA,ih,cm];unfold BX ur;rw[hcb];by_cases h1:c.kind=1
  ·simp[h1]
  by_cases h2:c.kind=2
  ·cases(qJ r i).contains v<;>cases E8 r i v<;>simp[h2]
  have h3:c.kind>=3:=by omega
  cases(qJ r i).contains v<;>simp[h1,h2,h3]
theorem OH(r:aZ)(y:aD)(k:Option Bool)(hr:r.wt<=1048576):∀(rest:bN) (i:Nat),(∀c∈rest,c.wt<=1048576)->gZ r y k rest i=bif mY r rest i then k else some false:=by
 intro rest
 induction rest with
 |nil=>intro i _;rfl
 |cons c rest ih=>
  intro i h;have hc:=h c (by simp);have hl:=pY hc;have hu:=kV (kF c);rw[gZ,Pj c hc,aA,mY];cases hcb:o9 c with
  |false=>rfl
  |true=>
   rw[HR r _ hr,HS c hc,ih _ (fun x hx=>h x (by simp[hx]))];simp only[aA,uC (show(cc (kF c)).length<=1099511627776 by omega),aK];rw[OI r y i c _ _ hc hr hcb,OJ r y i c _ _ hc hr hcb];simp only[bne,mo];have e0:decide (((i:Int):Int)=0)=decide (i=0):=by rw[bP];simp
   rw[e0];cases decide (i=0)<;>cases decide (c.kind=1)<;>cases(cc (kF c)).all (ur r i c)<;>simp
theorem OL(r:aZ)(y:aD)(i:Nat)(l:aD)(k:Option Bool):∀(rest:aD) (j:Nat),j4 r y i l k rest j=bif rest.all (fun v=>y.contains v)then k else some false:=
 fun rest j=>KJ (f:=fun v=>eM y v) (L:=j4 r y i l k) (fun _=>rfl) (fun _ _ _=>rfl) rest j (fun v _=>Ja y v)
theorem OK(r:aZ)(b:aD)(k:Option Bool):∀(rest:iD) (i:Nat),(∀a∈rest,a.wt<=1048576)->j3 r (cc b) k rest i=bif rest.all (fun a=>C4 a&&(fX a.pat.args).all fun v=>b.contains v)then k else some false:=by
 intro rest
 induction rest with
 |nil=>intro i _;rfl
 |cons a rest ih=>
  intro i h;have ha:=h a (by simp);have h1:=og a.pat.args;have h2:=aJ.mj (Action.jQ ha);have hu:=kV (fX a.pat.args);rw[j3,WK a ha,aA,AB _ (Action.jQ ha),aA,uC (by omega),ih _ (fun x hx=>h x (by simp[hx])),OL,cm,DK];have e:((fX a.pat.args).all fun v=>(cc b).contains v)=(fX a.pat.args).all fun v=>b.contains v:=by
   congr 1;funext v;exact jJ b v
  rw[e];cases C4 a<;>cases(fX a.pat.args).all (fun v=>b.contains v)<;>simp
theorem Pp(r:aZ)(h:r.wt<=1048576):jC r=some (jg r):=by
 unfold jC;simp only[Pm _ (aZ.IU h),aA,DV,az];rw[HR r _ h];simp only[aA];rw[OH r _ _ h _ _ (fun c hc=>aZ.qB h hc),OK r _ _ _ _ (fun a ha=>aZ.E1 h ha),RU r h];simp only[aA,az];have hab:(r.cJ.all fun a=>C4 a&&(fX a.pat.args).all fun v=>(qJ r r.conds.length).contains v)=yD r:=rfl;rw[hab];unfold jg;have g1:decide (r.prio>=0)=decide (0<=r.prio):=rfl;have g2:decide ((r.conds.length:Int)>=1)=decide (1<=(r.conds.length:Int)):=rfl;have g3:decide ((r.cJ.length:Int)>=1)=decide (1<=(r.cJ.length:Int)):=rfl;rw[g1,g2,g3];cases ha:yD r with
 |false=>cases uD r.name<;>cases(decide (0<=r.prio)&&decide (r.prio<=9))<;>cases(decide (1<=(r.conds.length:Int))&&decide ((r.conds.length:Int)<=4))<;>cases(decide (1<=(r.cJ.length:Int))&&decide ((r.cJ.length:Int)<=2))<;>cases mY r r.conds 0<;>rfl
 |true=>
  rw[GS ha];cases uD r.name<;>cases(decide (0<=r.prio)&&decide (r.prio<=9))<;>cases(decide (1<=(r.conds.length:Int))&&decide ((r.conds.length:Int)<=4))<;>cases(decide (1<=(r.cJ.length:Int))&&decide ((r.cJ.length:Int)<=2))<;>cases mY r r.conds 0<;>simp
theorem Qs(r:aZ)(i:Nat)(c:aT)(l:aD)(k:Option Bool)(hr:r.wt<=1048576)(hcb:o9 c=true):∀(rest:aD) (j:Nat),(∀v∈rest,kR v=true)->eV r (i:Int) c (cc (qJ r i)) l k rest j=bif rest.all (ur r i c)then k else some false:=by
 have hk:=yN hcb;intro rest
 induction rest with
 |nil=>intro j _;rfl
 |cons v rest ih=>
  intro j hv;rw[eV,Nk,aA,jJ,Vu r _ v (hv v (by simp)) hr,aA,ih _ (fun x hx=>hv x (by simp[hx])),cm];unfold ur;simp only[bne,mo];by_cases h1:c.kind=1
  ·simp[h1]
  by_cases h2:c.kind=2
  ·cases(qJ r i).contains v<;>cases E8 r i v<;>simp[h2]
  cases(qJ r i).contains v<;>simp[h1,h2]
theorem T5(r:aZ)(i:Nat)(c:aT)(hr:r.wt<=1048576)(hi:r.conds[i]?=some c)(hcb:o9 c=true):kT r (i:Int)=some ((cc (kF c)).all (ur r i c)):=by
 unfold kT;have hc:=aZ.qB hr (aE hi);have hl:=pY hc;have hu:=kV (kF c);have e:lG r.conds (i:Int)=some c:=by unfold lG;simp[hi]
 rw[e,aA,LL r _ hr,aA,Gz c hc,aA,uC (by omega),aK,Qs r i c _ _ hr hcb _ _ (fun v hv=>by
  rw[kW]at hv;unfold kF fX at hv;exact(eA.1 hv).2)]
 cases(cc (kF c)).all (ur r i c)<;>rfl
theorem Nl(r:aZ)(k:Option Bool)(hr:r.wt<=1048576):∀(rest pre:bN),r.conds=pre++rest->fS r k rest pre.length=bif mY r rest pre.length then k else some false:=by
 intro rest
 induction rest with
 |nil=>intro pre _;rfl
 |cons c rest ih=>
  intro pre h;have hm:c∈r.conds:=by rw[h];simp
  have hc:=aZ.qB hr hm;have hi:r.conds[pre.length]?=some c:=by rw[h];simp
  have t:=ih (pre++[c]) (by rw[h];simp);simp only[af,aO,bH]at t;rw[fS,LM c hc,aA,mY];cases hcb:o9 c with
  |false=>rfl
  |true=>
   rw[T5 r _ c hr hi hcb,aA,t];simp only[bne,mo];have e0:decide ((((pre.length:Nat):Int):Int)=0)=decide (pre.length=0):=by rw[bP];simp
   rw[e0];cases decide (pre.length=0)<;>cases decide (c.kind=1)<;>cases(cc (kF c)).all (ur r pre.length c)<;>simp
theorem No(r:aZ)(y:aD)(i:Nat)(l:aD)(k:Option Bool):∀(rest:aD) (j:Nat),iv r y i l k rest j=bif rest.all (fun v=>y.contains v)then k else some false:=
 fun rest j=>KJ (f:=fun v=>gx y v) (L:=iv r y i l k) (fun _=>rfl) (fun _ _ _=>rfl) rest j (fun v _=>Nk y v)
theorem Nn(r:aZ)(b:aD)(k:Option Bool):∀(rest:iD) (i:Nat),(∀a∈rest,a.wt<=1048576)->ir r (cc b) k rest i=bif rest.all (fun a=>C4 a&&(fX a.pat.args).all fun v=>b.contains v)then k else some false:=by
 intro rest
 induction rest with
 |nil=>intro i _;rfl
 |cons a rest ih=>
  intro i h;have ha:=h a (by simp);have h1:=og a.pat.args;have h2:=aJ.mj (Action.jQ ha);rw[ir,Vt a ha,aA,LV _ (by omega) (fun x hx=>aJ.rZ (Action.jQ ha) hx),aA,uC (by omega),ih _ (fun x hx=>h x (by simp[hx])),No,cm];have e:((fX a.pat.args).all fun v=>(cc b).contains v)=(fX a.pat.args).all fun v=>b.contains v:=by
   congr 1;funext v;exact jJ b v
  rw[e];cases C4 a<;>cases(fX a.pat.args).all (fun v=>b.contains v)<;>simp
theorem P5(r:aZ)(h:r.wt<=1048576):mS r=some (jg r):=by
 unfold mS;have Z6:=KU r.conds;have hcl:=aZ.td h;rw[show fS r _ r.conds 0=_ from Nl r _ h r.conds [] rfl,LL r _ h,aA,Nn r _ _ _ _ (fun a ha=>aZ.E1 h ha),T4 _ (fun c hc=>aZ.qB h hc) hcl,aA,EP _ (by omega),LP _ (aZ.IU h)];have e:=Ui r.conds [];simp only[dM]at e;rw[e];simp only[aA,az,bH];have hab:(r.cJ.all fun a=>C4 a&&(fX a.pat.args).all fun v=>(qJ r r.conds.length).contains v)=yD r:=rfl;rw[hab];unfold jg;have g1:decide (0<=r.prio)= !decide (r.prio<0):=by rw[bP];simp
 have g2:decide (r.prio<=9)= !decide (r.prio>9):=by rw[bP];simp
 have g3:decide (1<=(r.conds.length:Int))= !decide ((r.conds.length:Int)<1):=by rw[bP];simp
 have g4:decide ((r.conds.length:Int)<=4)= !decide ((r.conds.length:Int)>4):=by rw[bP];simp
 have g5:decide (1<=(r.cJ.length:Int))= !decide ((r.cJ.length:Int)<1):=by rw[bP];simp
 have g6:decide ((r.cJ.length:Int)<=2)= !decide ((r.cJ.length:Int)>2):=by rw[bP];simp
 rw[g1,g2,g3,g4,g5,g6];cases uD r.name
 ·rfl
 cases decide (r.prio<0)
 case true=>rfl
 cases decide (r.prio>9)
 case true=>rfl
 cases decide ((r.conds.length:Int)<1)
 case true=>rfl
 cases decide ((r.conds.length:Int)>4)
 case true=>rfl
 cases decide ((r.cJ.length:Int)<1)
 case true=>rfl
 cases decide ((r.cJ.length:Int)>2)
 case true=>rfl
 cases mY r r.conds 0
 ·rfl
 cases yD r
 ·rfl
 simp
end Go.Cx
namespace Go.Cx
open Go.RowKit Go.Proofs Tryz
theorem M3(x y:aj):((x.var:Bytes)==y.var&&(x.value:Bytes)==y.value)=decide (x=y):=by
 obtain⟨x0,x1⟩:=x;obtain⟨y0,y1⟩:=y;simp only[mo];by_cases h0:x0=y0<;>by_cases h1:x1=y1<;>simp[h0,h1]
theorem RV(a b:ah):jM a b=some (decide (a=b)):=by
 unfold jM;exact Uo (c:=aj.c) (f:=fun x y=>some (decide (x=y))) (fun k=>eN a b k) (fun _ _=>rfl) (fun k x xs i=>by rw[eN];congr 1;funext y;rw[M3];rfl) (fun _ _=>rfl)
end Go.Cx
namespace Go.Cx
open Go.RowKit Go.Proofs Tryz
def qR(s:Bytes):Option Nat:=if 1<=s.length/\s.length<=4 then(match Lib.decFrom 0 s with|some n=>if Lib.decDigits n=s then some n else none|none=>none)else none
def pI(s:Bytes):Int×Bool:=match qR s with|some n=>((n:Int),true)|none=>(0,false)
theorem KY:∀(u:Nat),∀b∈Lib.decDigits u,48<=b.toNat/\b.toNat<=57:=by
 intro u
 induction u using Nat.strongRecOn with
 |_ u ih=>
  have hb:∀v:Nat,v<10->48<=(UInt8.ofNat (48+v)).toNat/\(UInt8.ofNat (48+v)).toNat<=57:=by
   intro v hv;have:(UInt8.ofNat (48+v)).toNat=48+v:=by simp;omega
   omega
  intro b hm;rw[Lib.decDigits]at hm;split at hm
  ·rename_i h10;simp only[cO]at hm;subst hm;exact hb u h10
  ·rename_i h10;rcases aH.1 hm with hm|hm
   ·exact ih (u/10) (by omega) b hm
   ·simp only[cO]at hm;subst hm;exact hb (u%10) (by omega)
theorem OE(a:Bytes)(k:Int->Option (Int×Bool))(ha:a.length<=4):∀(rest pre:Bytes) (acc:Nat),a=pre++rest->acc<10^pre.length->∀n,rest.length<n->
 fG a k n (acc:Int) (pre.length:Int)=(match Lib.decFrom acc rest with|some m=>k (m:Int)|none=>some (0,false)):=by
 intro rest
 induction rest with
 |nil=>
  intro pre acc h _ n hn;obtain⟨m,rfl⟩:∃m,n=m+1:=⟨n-1,by simp at hn;omega⟩
  have e1:decide ((pre.length:Int)<(a.length:Int))=false:=by simp[h]
  rw[fG,e1];rfl
 |cons x xs ih=>
  intro pre acc h hacc n hn;obtain⟨m,rfl⟩:∃m,n=m+1:=⟨n-1,by simp at hn;omega⟩
  have hl:a.length=pre.length+(xs.length+1):=by rw[h];simp
  have e1:decide ((pre.length:Int)<(a.length:Int))=true:=by rw[hl];simp;omega
  have e4:IntKind.i64.wrap ((pre.length:Int)+1)=((pre++[x]).length:Int):=by rw[Mp (by omega)];simp
  have h10:acc<10000:=cK hacc (nB (by omega) (show pre.length<=4 by omega));have hx:=x.toNat_lt;rw[fG,e1,aK,sw h,aA,e4];by_cases c1:(x.toNat:Int)<48
  ·have:Lib.digitVal x=none:=by unfold Lib.digitVal;rw[ai (by omega)]
   simp only[Lib.decFrom,this];rw[bW c1,aK]
  ·by_cases c2:(x.toNat:Int)>57
   ·have:Lib.digitVal x=none:=by unfold Lib.digitVal;rw[ai (by omega)]
    simp only[Lib.decFrom,this];rw[cA c1,aP,bW c2,aK]
   ·have hd:Lib.digitVal x=some (x.toNat-48):=by unfold Lib.digitVal;rw[av (by omega)]
    have e5:IntKind.i64.wrap ((IntKind.i64.wrap (10*(acc:Int)))+(IntKind.i64.wrap (IntKind.u8.wrap ((x.toNat:Int)-48))))=((acc*10+(x.toNat-48):Nat):Int):=by
     rw[iC (k:=.u8) (nk.u8.2 (by omega)),iC (n:=(10:Int)*(acc:Int)) (nk.i64.2 (by omega)),iC (n:=(x.toNat:Int)-48) (nk.i64.2 (by omega)),iC (nk.i64.2 (by omega))];omega
    simp only[Lib.decFrom,hd];rw[cA c1,aP,cA c2,aP,e5];refine ih (pre++[x]) _ (by simp[h]) ?_ m (by simp at hn;omega);rw[af,ia,rB];omega
theorem ML(s:Bytes):ja s=some (pI s):=by
 unfold ja;rw[DV,aA];by_cases hl:1<=s.length/\s.length<=4
 ·have e1:(decide ((s.length:Int)>=1)&&decide ((s.length:Int)<=4))=true:=by simp;omega
  have t:=OE s (fun z=>((iz z).bind fun Ho=>(bif !((Ho:Bytes)==s)then(some (0,false))else(some (z,true))))) hl.2 s [] 0 rfl (by simp) fuel (by unfold fuel;omega);rw[e1,bX,aP];refine t.trans ?_;unfold pI qR;rw[av hl];cases hd:Lib.decFrom 0 s with
  |none=>rfl
  |some m=>
   have hm:=Lib.decFrom_lt s 0 m hd;have h10:m<10000:=by
    have:=nB (n:=10) (by omega) hl.2;omega
   simp only;rw[To _ (nk.i64.2 (by omega)),aA];have e2:Lib.itoa (m:Int)=Lib.decDigits m:=by unfold Lib.itoa;rw[ai (by omega)];simp
   rw[e2];by_cases he:Lib.decDigits m=s
   ·rw[av he,he];simp
   ·rw[ai he];have:(Lib.decDigits m==s)=false:=by simpa using he
    rw[this];rfl
 ·have e1:(decide ((s.length:Int)>=1)&&decide ((s.length:Int)<=4))=false:=by
   rw[vJ,lP,lP];omega
  rw[e1];unfold pI qR;rw[ai hl];rfl
theorem EO(s:Bytes):iU s=some (pI s):=by
 unfold iU pI qR;by_cases hl:1<=s.length/\s.length<=4
 ·have e1:decide ((s.length:Int)<1)=false:=by simp;omega
  have e2:decide ((s.length:Int)>4)=false:=by simp;omega
  rw[av hl,e1,aP,e2,aP];unfold sJ EQ;rw[av (by omega)];cases s with
  |nil=>simp at hl
  |cons b t=>
   have fin:∀(m:Nat),Lib.decFrom 0 (b::t)=some m->(bif decide ((m:Int)<0)then some ((0:Int),false)else bif decide ((m:Int)>9999)then some (0,false)else(ij (m:Int)).bind fun y8=>bif !((y8:Bytes)==(b::t))then some (0,false)else some ((m:Int),true))=
    some (match(if Lib.decDigits m=b::t then some m else none)with|some n=>((n:Int),true)|none=>(0,false)):=by
    intro m hd;have hm:=Lib.decFrom_lt (b::t) 0 m hd;have h10:m<10000:=by
     have:=nB (n:=10) (by omega) hl.2;omega
    have e3:decide ((m:Int)<0)=false:=by simp
    have e4:decide ((m:Int)>9999)=false:=by simp;omega
    have e5:Lib.itoa (m:Int)=Lib.decDigits m:=by unfold Lib.itoa;rw[ai (by omega)];simp
    rw[e3,aP,e4,aP,T6,aA,e5];by_cases he:Lib.decDigits m=b::t
    ·rw[av he,he];simp
    ·rw[ai he];have:(Lib.decDigits m==(b::t))=false:=by simpa using he
     rw[this];rfl
   have sign:∀(n:Int),b.toNat<48->(bif decide (n<0)then some ((0:Int),false)else bif decide (n>9999)then some (0,false)else(ij n).bind fun y8=>bif !((y8:Bytes)==(b::t))then some (0,false)else some (n,true))=some (0,false):=by
    intro n hb;by_cases hn:n<0
    ·rw[bW hn];rfl
    rw[cA hn,aP,T6,aA];cases decide (n>9999)with
    |true=>rfl
    |false=>
     have e5:Lib.itoa n=Lib.decDigits n.toNat:=by unfold Lib.itoa;rw[ai hn]
     have:(Lib.itoa n==(b::t))=false:=by
      rw[e5,cZ];intro h;have:=KY n.toNat b (by rw[h];simp);omega
     rw[this];rfl
   simp only[Lib.atoi];by_cases hb:b=45
   ·subst hb;have hd:Lib.decFrom 0 ((45:UInt8)::t)=none:=by simp[Lib.decFrom,Lib.digitVal]
    rw[av (by decide),hd];cases Lib.decNat t with
    |none=>rfl
    |some m=>exact sign _ (by decide)
   ·rw[ai (by simpa using hb)];by_cases GJ:b=43
    ·subst GJ;have hd:Lib.decFrom 0 ((43:UInt8)::t)=none:=by simp[Lib.decFrom,Lib.digitVal]
     rw[av (by decide),hd];cases Lib.decNat t with
     |none=>rfl
     |some m=>exact sign (m:Int) (by decide)
    ·rw[ai (by simpa using GJ)];have hdn:Lib.decNat (b::t)=Lib.decFrom 0 (b::t):=by simp[Lib.decNat]
     rw[hdn];cases hd:Lib.decFrom 0 (b::t)with
     |none=>rfl
     |some m=>exact fin m hd
 ·rw[ai hl];by_cases h1:(s.length:Int)<1
  ·rw[bW h1];rfl
  ·have h2:(s.length:Int)>4:=by omega
   rw[cA h1,aP,bW h2];rfl
def oh(a b:Bytes):Int:=if Op.bytesLess a b=true then-1 else if a=b then 0 else 1
def yM(x y:Int):Int:=if x<y then-1 else if x>y then 1 else 0
def tJ(a b:Bytes):Int:=match qR a,qR b with
 |some x,some y=>yM x y
 |some _,none=> -1
 |none,some _=>1
 |none,none=>oh a b
def nK{α:Type}(g:α->α->Int):List α->List α->Option Int
 |x::xs,y::ys=>if g x y≠0 then some (g x y)else nK g xs ys
 |_,_=>none
def cmpL{α:Type}(g:α->α->Int)(a b:List α):Int:=match nK g a b with|some z=>z|none=>yM a.length b.length
def o8(a b:aJ):Int:=if a.rel≠b.rel then oh a.rel b.rel else cmpL tJ a.args b.args
theorem E6{a b:Bytes}(h:a≠b):oh a b≠0:=by
 unfold oh;split
 ·omega
 ·first|omega| (rw[ai h];omega)
theorem DR(a:Bytes):oh a a=0:=by
 unfold oh;rw[jy];simp
theorem I1:∀(a b:Bytes),Lib.compareBytes a b=oh a b
 | [],[]=>by simp[Lib.compareBytes,oh,Op.bytesLess]
 | [],_::_=>by simp[Lib.compareBytes,oh,Op.bytesLess]
 |_::_,[]=>by simp[Lib.compareBytes,oh,Op.bytesLess]
 |a::xs,b::ys=>by
  have ih:=I1 xs ys;simp only[Lib.compareBytes,oh,Op.bytesLess];by_cases h1:a<b
  ·simp[h1]
  ·by_cases h2:b<a
   ·have hne:a≠b:=fun e=>by subst e;exact h1 h2
    simp[h1,h2,hne]
   ·have e:a=b:=by
     rw[vO]at h1 h2;exact UInt8.toNat_inj.1 (by omega)
    subst e;rw[ai h1,ai h1,ih];simp[oh,h1]
theorem I4{α:Type}{f:α->α->Option Int}{g:α->α->Int}{c:α->aG}{L:List α->Nat->Option Int}{k:Option Int}{b:List α}(oF:∀i,L [] i=k)
 (oa:∀x xs i,L (x::xs) i=bif decide (((i:Int):Int)<((b.map c).length:Int))then((lG b (i:Int)).bind fun y=>((f x y).bind fun z=>(bif (z:Int) != 0 then(some z)else(L xs (i+1)))))else k):
 ∀(l pre rest:List α),b=pre++rest->(∀x∈l,∀y∈rest,f x y=some (g x y))->L l pre.length=(match nK g l rest with|some z=>some z|none=>k):=by
 intro l
 induction l with
 |nil=>intro pre rest h _;rw[oF];cases rest<;>rfl
 |cons x xs ih=>
  intro pre rest h hf;rw[oa];cases rest with
  |nil=>
   have e1:decide ((pre.length:Int)<((b.map c).length:Int))=false:=by simp[h]
   rw[e1];rfl
  |cons y ys=>
   have e1:decide ((pre.length:Int)<((b.map c).length:Int))=true:=by simp[h];omega
   rw[e1,aK,sw h,aA,hf x (by simp) y (by simp),aA];simp only[nK];have t:=ih (pre++[y]) ys (by simp[h]) (fun x' hx y' hy=>hf x' (by simp[hx]) y' (by simp[hy]));rw[af,ia]at t;by_cases hz:g x y=0
   ·have e2:(g x y != 0)=false:=by simp[hz]
    rw[e2,aP,t,ai (by simp[hz])]
   ·have e2:(g x y != 0)=true:=by simp[hz]
    rw[e2,aK,av hz]
theorem E5(x y:Int):(bif decide (x<y)then some (-1:Int)else bif decide (x>y)then some 1 else some 0)=some (yM x y):=by
 unfold yM;by_cases h1:x<y
 ·simp[h1]
 ·by_cases h2:x>y
  ·simp[h1,h2]
  ·simp[h1,h2]
theorem Ph(a b:Bytes):lq a b=some (oh a b):=by
 unfold lq oh;cases h:Op.bytesLess a b with
 |true=>rfl
 |false=>
  by_cases e:a=b
  ·simp[e]
  ·have e':(a==b)=false:=by simpa using e
   simp[e,e']
theorem Tl(a b:Bytes):iK a b=some (tJ a b):=by
 unfold iK tJ;rw[ML,ML,aA,aA,Ph];unfold pI;cases qR a with
 |none=>cases qR b<;>rfl
 |some x=>
  cases qR b with
  |none=>rfl
  |some y=>
   simp only[aK,bX,aP];exact E5 _ _
theorem P3(x y:Int):iw x y=some (yM x y):=by
 unfold iw;exact E5 x y
theorem P0(a b:Bytes):kx a b=some (oh a b):=by
 unfold kx;show some (Lib.compareBytes a b)=_;rw[I1]
theorem T0(a b:Bytes):iG a b=some (tJ a b):=by
 unfold iG tJ;rw[EO,EO,aA,aA,P0];unfold pI;cases qR a with
 |none=>cases qR b<;>rfl
 |some x=>
  cases qR b with
  |none=>rfl
  |some y=>
   simp only[aK,P3,aA]
theorem Tm(a b:aJ):iL a b=some (o8 a b):=by
 unfold iL o8;by_cases h:a.rel=b.rel
 ·have e:(a.rel==b.rel)=true:=by simpa using h
  rw[e,bX,aP,ai (by simpa using h)];have t:=fun k=>I4 (f:=iK) (g:=tJ) (c:=tx) (L:=fT a b k) (b:=b.args) (k:=k) (fun _=>rfl) (fun _ _ _=>rfl) a.args [] b.args rfl (fun x _ y _=>Tl x y)
  refine(t _).trans ?_;unfold cmpL;cases nK tJ a.args b.args with
  |some z=>rfl
  |none=>simp only[az];exact E5 _ _
 ·have e:(a.rel==b.rel)=false:=by simpa using h
  rw[e,eZ,aK,av h,Ph];rfl
theorem T3(a b:aJ):iH a b=some (o8 a b):=by
 unfold iH o8;rw[P0,aA];by_cases h:a.rel=b.rel
 ·have e:(oh a.rel b.rel != 0)=false:=by rw[h,DR];rfl
  rw[e,aP,ai (by simpa using h)];have t:=fun k=>I4 (f:=iG) (g:=tJ) (c:=tx) (L:=fQ a b k) (b:=b.args) (k:=k) (fun _=>rfl) (fun _ _ _=>rfl) a.args [] b.args rfl (fun x _ y _=>T0 x y)
  refine(t _).trans ?_;unfold cmpL;cases nK tJ a.args b.args with
  |some z=>rfl
  |none=>simp only[az,P3,aA]
 ·have e:(oh a.rel b.rel != 0)=true:=by simpa using E6 h
  rw[e,aK,av h]
def chainB:Option aJ->aU->Bool
 |_,[]=>true
 |p,x::xs=>vF x&&(match p with|some q=>decide (o8 q x<0)|none=>true)&&chainB (some x) xs
def oy(l:aU):Bool:=chainB none l&&decide (l.length<=24)
theorem J0{Vx:aJ->Option Bool}{cmp:aJ->aJ->Option Int}{a:aU}{L:aU->Nat->Option Bool}{k:Option Bool}(ha:a.length<=1099511627770)(hc:∀x y,cmp x y=some (o8 x y))(oF:∀i,L [] i=k)
 (oa:∀x xs i,L (x::xs) i=((Vx x).bind fun y=>(bif !(y)then(some false)else(bif decide (((i:Int):Int)>0)then((lG a (IntKind.i64.wrap ((i:Int)-1))).bind fun q=>((cmp q x).bind fun z=>(bif decide ((z:Int)>=0)then(some false)else(L xs (i+1)))))else(L xs (i+1)))))):
 ∀(l pre:aU),a=pre++l->(∀x∈l,Vx x=some (vF x))->L l pre.length=bif chainB pre.getLast? l then k else some false:=by
 intro l
 induction l with
 |nil=>intro pre _ _;rw[oF];rfl
 |cons x xs ih=>
  intro pre h hf;have hl:a.length=pre.length+(xs.length+1):=by rw[h];simp
  have t:=ih (pre++[x]) (by simp[h]) (fun y hy=>hf y (by simp[hy]));rw[af,ia,jF]at t;rw[oa,hf x (by simp),aA,t];simp only[chainB];cases vF x with
  |false=>rfl
  |true=>
   rw[bX,aP,j9];rcases pO pre with rfl|⟨p,z,Mt⟩
   ·simp
   ·rw[pN]at Mt;subst Mt;have e0:decide (((p++[z]).length:Int)>0)=true:=by simp<;>omega
    have e1:IntKind.i64.wrap (((p++[z]).length:Int)-1)=(p.length:Int):=by
     rw[iC (nk.i64.2 (by simp at hl⊢;omega))];simp
    have e2:lG a (p.length:Int)=some z:=sw (xs:=x::xs) (by rw[h];simp);rw[e0,aK,e1,e2,aA,hc,aA,jF];by_cases hz:o8 z x<0
    ·have e3:decide (o8 z x>=0)=false:=by simp;omega
     rw[e3,aP];show _=bif (decide (o8 z x<0)&&chainB (some x) xs)then k else some false
     rw[bW hz,j9]
    ·have e3:decide (o8 z x>=0)=true:=by simp;omega
     rw[e3,aK];show _=bif (decide (o8 z x<0)&&chainB (some x) xs)then k else some false
     rw[cA hz];rfl
theorem Sz(l:aU)(h:v8 aJ.wt l<=1048576):mG l=some (oy l):=by
 unfold mG oy;have hl:=Es aJ.wt l;have t:=J0 (Vx:=l7) (cmp:=iH) (a:=l) (L:=fE l (some true)) (k:=_) (by omega) T3 (fun _=>rfl) (fun _ _ _=>rfl) l [] rfl (fun x hx=>P4 x (by have:=AH (w:=aJ.wt) hx;omega));rw[show fE l (some true) l 0=_ from t];by_cases h24:l.length<=24
 ·have e:decide (((l.map aJ.c).length:Int)>24)=false:=by rw[az];simp;omega
  rw[e,aP,bW h24,tF];show(bif chainB none l then _ else _)=_;cases chainB none l<;>rfl
 ·have e:decide (((l.map aJ.c).length:Int)>24)=true:=by rw[az];simp;omega
  rw[e,aK,cA h24,Bool.and_false]
end Go.Cx
namespace Go.Cx
open Go.RowKit Go.Proofs Tryz
def PB(b:ah):Prop:=b.length<=1048576/\∀x∈b,x.var.length<=1048576/\x.value.length<=1048576
theorem PB.nil:PB []:=⟨by simp,by simp⟩
def kE:Option aj->ah->Bool
 |_,[]=>true
 |p,x::xs=>kR x.var&&(gE x.value&&((match p with|some q=>Op.bytesLess q.var x.var|none=>true)&&kE (some x) xs))
def o7(b:ah):Bool:=kE none b&&decide (b.length<=6)
theorem Ab{b:ah}(h:o7 b=true):b.length<=6:=by
 unfold o7 at h;simp only[aN,bJ]at h;exact h.2
theorem KP{Vy R1:Bytes->Option Bool}{a:ah}{L:ah->Nat->Option Bool}{k:Option Bool}(ha:a.length<=1099511627770)(hV:∀x:Bytes,x.length<=1048576->Vy x=some (kR x))(hA:∀x:Bytes,x.length<=1048576->R1 x=some (gE x))(oF:∀i,L [] i=k)
 (oa:∀x xs i,L (x::xs) i=((Vy x.var).bind fun y=>(bif !(y)then(some false)else((R1 x.value).bind fun z=>(bif !(z)then(some false)else(bif decide (((i:Int):Int)>0)then((lG a (IntKind.i64.wrap ((i:Int)-1))).bind fun q=>(bif !(Op.bytesLess q.var x.var)then(some false)else(L xs (i+1))))else(L xs (i+1)))))))):
 ∀(l pre:ah),a=pre++l->(∀x∈l,x.var.length<=1048576/\x.value.length<=1048576)->L l pre.length=bif kE pre.getLast? l then k else some false:=by
 intro l
 induction l with
 |nil=>intro pre _ _;rw[oF];rfl
 |cons x xs ih=>
  intro pre h hf;have hl:a.length=pre.length+(xs.length+1):=by rw[h];simp
  have t:=ih (pre++[x]) (by simp[h]) (fun y hy=>hf y (by simp[hy]));rw[af,ia,jF]at t;rw[oa,hV _ (hf x (by simp)).1,aA,hA _ (hf x (by simp)).2,aA,t];simp only[kE];cases kR x.var with
  |false=>rfl
  |true=>
   cases gE x.value with
   |false=>rfl
   |true=>
    simp only[bX,aP,j9];rcases pO pre with rfl|⟨p,z,Mt⟩
    ·simp
    ·rw[pN]at Mt;subst Mt;have e0:decide (((p++[z]).length:Int)>0)=true:=by simp<;>omega
     have e1:IntKind.i64.wrap (((p++[z]).length:Int)-1)=(p.length:Int):=by
      rw[iC (nk.i64.2 (by simp at hl⊢;omega))];simp
     have e2:lG a (p.length:Int)=some z:=sw (xs:=x::xs) (by rw[h];simp);rw[e0,aK,e1,e2,aA,jF];show _=bif (Op.bytesLess z.var x.var&&kE (some x) xs)then k else some false
     cases Op.bytesLess z.var x.var<;>rfl
theorem IP(b:ah)(h:PB b):gV b=some (o7 b):=by
 unfold gV o7;have t:=fun k=>KP (Vy:=jB) (R1:=dR) (a:=b) (L:=ed b k) (k:=k) (by have:=h.1;omega) LU BO (fun _=>rfl) (fun _ _ _=>rfl) b [] rfl h.2
 rw[show ed b (some true) b 0=_ from t _];by_cases h6:b.length<=6
 ·have e:decide (((b.map aj.c).length:Int)>6)=false:=by rw[az];simp;omega
  rw[e,aP,bW h6,tF];show(bif kE none b then _ else _)=_;cases kE none b<;>rfl
 ·have e:decide (((b.map aj.c).length:Int)>6)=true:=by rw[az];simp;omega
  rw[e,aK,cA h6,Bool.and_false]
def cU(t:Bytes):ah->Option Bytes
 | []=>none
 |x::xs=>bif x.var==t then some x.value else cU t xs
def xz(b:ah)(t:Bytes):Bytes×Bool:=bif gE t then(t,true)else bif kR t then(match cU t b with|some v=>(v,true)|none=>([],false))else([],false)
theorem Qw(b:ah)(t:Bytes)(ht:t.length<=1048576):kH b t=some (xz b t):=by
 unfold kH xz;have key:∀(l:ah) (i:Nat),gw b t (some ([],false)) l i=some (match cU t l with|some v=>(v,true)|none=>([],false)):=by
  intro l
  induction l with
  |nil=>intro i;rfl
  |cons x xs ih=>
   intro i;rw[gw,ih];simp only[cU];cases x.var==t<;>rfl
 rw[BO t ht,aA,LU t ht,aA,key];cases gE t<;>cases kR t<;>rfl
theorem LO(b:ah)(h:b.length<=1099511627776):k9 b=some b:=by
 unfold k9;rw[Ia h (by decide)];simp
def qk(v val:Bytes):ah->ah
 | []=>[⟨v,val⟩]
 |x::xs=>bif !(Op.bytesLess x.var v||x.var==v)then⟨v,val⟩::x::xs else x::qk v val xs
theorem G6(v val:Bytes)(b:ah):(qk v val b).length=b.length+1:=by
 induction b with
 |nil=>rfl
 |cons x xs ih=>simp only[qk];cases !(Op.bytesLess x.var v||x.var==v)<;>simp[ih]
theorem G7(v val:Bytes)(b:ah){x:aj}(h:x∈qk v val b):x=⟨v,val⟩\/x∈b:=by
 induction b with
 |nil=>simp[qk]at h;exact .inl h
 |cons y ys ih=>
  simp only[qk]at h;cases hc: !(Op.bytesLess y.var v||y.var==v)with
  |true=>
   rw[hc,aK]at h;rcases au.1 h with h|h
   ·exact .inl h
   ·exact .inr h
  |false=>
   rw[hc,aP]at h;rcases au.1 h with h|h
   ·exact .inr (by simp[h])
   ·rcases ih h with h|h
    ·exact .inl h
    ·exact .inr (by simp[h])
theorem ON{γ:Type}{v val:Bytes}{L:ah->Nat->Bool->ah->Option γ}{k:Bool->ah->Option γ}{K:ah->Option γ}(hk1:∀w,k true w=K w)(hk2:∀w:ah,w.length<1099511627770->k false w=K (w++[⟨v,val⟩]))(oF:∀i d w,L [] i d w=k d w)
 (oa:∀x xs i d w,L (x::xs) i d w=(bif !(d)then(bif !(Op.bytesLess x.var v||(x.var:Bytes)==v)then(bif room ((w.map aj.c).length+([[D.str v,D.str val]]).length) 32 then(bif room (((w.map aj.c)++([[D.str v,D.str val]])).length+([[D.str x.var,D.str x.value]]).length) 32 then(L xs (i+1) true ((w++([(⟨v,val⟩:aj)]))++([x])))else none)else none)else(bif room ((w.map aj.c).length+([[D.str x.var,D.str x.value]]).length) 32 then(L xs (i+1) d (w++([x])))else none))else(bif room ((w.map aj.c).length+([[D.str x.var,D.str x.value]]).length) 32 then(L xs (i+1) d (w++([x])))else none))):
 ∀(l:ah) (i:Nat) (w:ah),w.length+l.length<1099511627760->L l i false w=K (w++qk v val l):=by
 have c1:∀(l:ah) (i:Nat) (w:ah),w.length+l.length<1099511627765->L l i true w=K (w++l):=by
  intro l
  induction l with
  |nil=>intro i w _;rw[oF,hk1,dM]
  |cons x xs ih=>
   intro i w hw;simp only[aO]at hw;rw[oa,bX,aP,lV (by omega) (by decide),aK,ih (i+1) (w++[x]) (by simp;omega)];simp
 intro l
 induction l with
 |nil=>intro i w hw;simp only[bH]at hw;rw[oF,hk2 _ (by omega)];rfl
 |cons x xs ih=>
  intro i w hw;simp only[aO]at hw;have r1:∀y:aG,room ((w.map aj.c).length+([y]).length) 32=true:=fun y=>lV (by omega) (by decide)
  have r2:room (((w.map aj.c)++([[D.str v,D.str val]])).length+([[D.str x.var,D.str x.value]]).length) 32=true:=A8 (by simp;omega) (by decide);have t1:=ih (i+1) (w++[x]) (by simp;omega);have t2:=c1 xs (i+1) ((w++[⟨v,val⟩])++[x]) (by simp;omega);rw[oa,eZ,aK,r1,r1,r2];simp only[aK,qk];cases !(Op.bytesLess x.var v||x.var==v)with
  |true=>rw[aK,aK,t2];simp
  |false=>rw[aP,aP,t1];simp
def Be(b:ah)(v val:Bytes):ah×Bool:=bif o7 b&&(kR v&&gE val)then(match cU v b with|some o=>bif o==val then(b,true)else([],false)|none=>bif decide (b.length=6)then([],false)else(qk v val b,true))else([],false)
theorem I7{b:ah}{v val:Bytes}(h:PB b)(hv:v.length<=1048576)(hl:val.length<=1048576):PB (Be b v val).1:=by
 unfold Be;cases hb:o7 b&&(kR v&&gE val)with
 |false=>exact PB.nil
 |true=>
  rw[aK];have h6:b.length<=6:=Ab (by simp only[aN]at hb;exact hb.1);cases cU v b with
  |some o=>simp only;cases o==val<;>first|exact h|exact PB.nil
  |none=>
   simp only;cases decide (b.length=6)with
   |true=>exact PB.nil
   |false=>
    refine⟨by simp only[aP,G6];omega,fun x hx=>?_⟩;rcases G7 _ _ _ hx with rfl|hx
    ·exact⟨hv,hl⟩
    ·exact h.2 x hx
theorem Vv(b:ah)(v val:Bytes)(h:PB b)(hv:v.length<=1048576)(hl:val.length<=1048576):mR b v val=some (Be b v val):=by
 unfold mR Be;have hlen:=h.1;have t:=(ON (v:=v) (val:=val) (K:=fun w=>some ((w,true):ah×Bool)) (L:=gU b v val (fun(z:Bool) (q:ah)=>(bif !(z)then(bif room ((q.map aj.c).length+([[D.str v,D.str val]]).length) 32 then(some (q++([(⟨v,val⟩:aj)]),true))else none)else(some (q,true))))) (fun w=>rfl) (fun w hw=>by show(bif !false then _ else _)=_;rw[lV (by omega) (by decide)];rfl) (fun _ _ _=>rfl) (fun _ _ _ _ _=>rfl) b 0 [] (by simp;omega))
 rw[IP b h,aA,LU v hv,aA,BO val hl,aA,Qw b v hv,aA,LO b (by omega),aA,t];cases hb:o7 b with
 |false=>rfl
 |true=>
  have h6:=Ab hb;have e6:decide ((((b.map aj.c).length:Int):Int)>=6)=decide (b.length=6):=by
   rw[az];congr 1;rw[uW];omega
  rw[e6];cases UT:kR v with
  |false=>rfl
  |true=>
   cases gE val with
   |false=>rfl
   |true=>
    have GL:xz b v=(match cU v b with|some o=>(o,true)|none=>([],false)):=by unfold xz;rw[rL UT,UT];rfl
    rw[GL];simp only[bX,aP,j9,tF,aK];cases cU v b with
    |some o=>simp only[aK];cases o==val<;>rfl
    |none=>simp only[aP];cases decide (b.length=6)<;>rfl
def qP:aD->aD->ah->ah×Bool
 | [],_,w=>(w,true)
 |_::_,[],_=>([],false)
 |x::xs,y::ys,w=>bif gE x then(bif x==y then qP xs ys w else([],false))else(bif (Be w x y).2 then qP xs ys (Be w x y).1 else([],false))
def kz(p f:aJ)(b:ah):ah×Bool:=bif si p&&(vF f&&(o7 b&&(p.rel==f.rel&&decide (p.args.length=f.args.length))))then qP p.args f.args b else([],false)
theorem EU:∀(l r:aD) (w:ah),PB w->(∀x∈l,x.length<=1048576)->(∀x∈r,x.length<=1048576)->PB (qP l r w).1
 | [],_,w,h,_,_=>h
 |_::_,[],_,_,_,_=>PB.nil
 |x::xs,y::ys,w,h,hl,hr=>by
  simp only[qP];have i1:=EU xs ys w h (fun z hz=>hl z (by simp[hz])) (fun z hz=>hr z (by simp[hz]));have i2:=EU xs ys (Be w x y).1 (I7 h (hl x (by simp)) (hr y (by simp))) (fun z hz=>hl z (by simp[hz])) (fun z hz=>hr z (by simp[hz]));cases gE x with
  |true=>cases x==y<;>first|exact i1|exact PB.nil
  |false=>cases(Be w x y).2<;>first|exact i2|exact PB.nil
theorem O0{p f:aJ}{b:ah}(hb:PB b)(hp:p.wt<=1048576)(hf:f.wt<=1048576):PB (kz p f b).1:=by
 unfold kz;cases si p&&(vF f&&(o7 b&&(p.rel==f.rel&&decide (p.args.length=f.args.length))))with
 |false=>exact PB.nil
 |true=>exact EU _ _ _ hb (fun x hx=>aJ.rZ hp hx) (fun x hx=>aJ.rZ hf hx)
theorem O1{R1:Bytes->Option Bool}{ext:ah->Bytes->Bytes->Option (ah×Bool)}{fa:aD}{L:aD->Nat->ah->Option (ah×Bool)}(hA:∀x:Bytes,x.length<=1048576->R1 x=some (gE x))(hE:∀w x y,PB w->x.length<=1048576->y.length<=1048576->ext w x y=some (Be w x y))(oF:∀i w,L [] i w=some (w,true))
 (oa:∀x xs i w,L (x::xs) i w=((R1 x).bind fun y=>(bif y then((lG fa (i:Int)).bind fun z=>(bif !((x:Bytes)==z)then(some ([],false))else(L xs (i+1) w)))else((lG fa (i:Int)).bind fun z=>((ext w x z).bind fun q=>(bif !(q.2)then(some ([],false))else(L xs (i+1) q.1))))))):
 ∀(l pre rest:aD) (w:ah),fa=pre++rest->l.length=rest.length->(∀x∈l,x.length<=1048576)->(∀x∈rest,x.length<=1048576)->PB w->L l pre.length w=some (qP l rest w):=by
 intro l
 induction l with
 |nil=>intro pre rest w _ _ _ _ _;rw[oF];simp[qP]
 |cons x xs ih=>
  intro pre rest w h hl hx hr hw;cases rest with
  |nil=>simp at hl
  |cons y ys=>
   have t:=fun w' hw'=>ih (pre++[y]) ys w' (by simp[h]) (by simpa using hl) (fun z hz=>hx z (by simp[hz])) (fun z hz=>hr z (by simp[hz])) hw'
   simp only[af,ia]at t;rw[oa,hA x (hx x (by simp)),aA,sw h,aA,aA,hE w x y hw (hx x (by simp)) (hr y (by simp)),aA];simp only[qP];cases gE x with
   |true=>
    simp only[aK];cases x==y with
    |true=>simp only[bX,aP,aK];exact t w hw
    |false=>rfl
   |false=>
    simp only[aP];cases hq:(Be w x y).2 with
    |true=>simp only[bX,aP,aK];exact t _ (I7 hw (hx x (by simp)) (hr y (by simp)))
    |false=>rfl
theorem R8(a b:aD):((((a.map tx).length:Int):Int) != ((b.map tx).length:Int))= !decide (a.length=b.length):=by
 rw[az,az];by_cases h:a.length=b.length
 ·simp[h]
 ·rw[cA h];simp;omega
theorem T9(p f:aJ)(b:ah)(hp:p.wt<=1048576)(hf:f.wt<=1048576)(hb:PB b):gW p f b=some (kz p f b):=by
 unfold gW kz;have hlen:=hb.1;rw[Qt p hp,aA,P4 f hf,aA,IP b hb,aA,LO b (by omega),aA,R8];cases si p with
 |false=>rfl
 |true=>
  cases vF f with
  |false=>rfl
  |true=>
   cases o7 b with
   |false=>rfl
   |true=>
    cases p.rel==f.rel with
    |false=>rfl
    |true=>
     by_cases h:p.args.length=f.args.length
     ·rw[bW h];have t:=O1 (R1:=dR) (ext:=mR) (fa:=f.args) (L:=ff p f (fun(q:ah)=>(some (q,true)))) BO (fun w x y hw hx hy=>Vv w x y hw hx hy) (fun _ _=>rfl) (fun _ _ _ _=>rfl) p.args [] f.args b rfl h (fun x hx=>aJ.rZ hp hx) (fun x hx=>aJ.rZ hf hx) hb;exact t
     ·rw[cA h];rfl
def X3(l r:Bytes):Bool:=match qR l,qR r with|some x,some y=>decide (x<y)|_,_=>false
def QX(c:aT)(b:ah):Bool:=BX c&&(o7 b&&((xz b c.left).2&&((xz b c.right).2&&(bif decide (c.kind=3)then(xz b c.left).1==(xz b c.right).1 else bif decide (c.kind=4)then !((xz b c.left).1==(xz b c.right).1)else X3 (xz b c.left).1 (xz b c.right).1))))
theorem xE(a b:Int):(a==b)=decide (a=b):=by rw[bP];simp
theorem T8(c:aT)(b:ah)(hc:c.wt<=1048576)(hb:PB b):lR c b=some (QX c b):=by
 unfold lR QX;rw[TB c hc,aA,IP b hb,aA,Qw b c.left (aT.zl hc),aA,Qw b c.right (aT.wu hc),aA,xE,xE];cases BX c with
 |false=>rfl
 |true=>
  cases o7 b with
  |false=>rfl
  |true=>
   cases(xz b c.left).2 with
   |false=>rfl
   |true=>
    cases(xz b c.right).2 with
    |false=>rfl
    |true=>
     cases decide (c.kind=3)with
     |true=>rfl
     |false=>
      cases decide (c.kind=4)with
      |true=>rfl
      |false=>
       simp only[bX,aP,j9];unfold X3;rw[EO,aA,EO,aA];unfold pI;cases qR (xz b c.left).1 with
       |none=>rfl
       |some x=>
        cases qR (xz b c.right).1 with
        |none=>rfl
        |some y=>
         simp only[aK]
         congr 1
         by_cases h:x<y
         ·simp[h]
         ·simp[h]
def EA(p:aJ)(b:ah)(fs:aU):aU:=fs.filter fun f=>(kz p f b).2
def FS(fs:aU):Prop:=fs.length<=1048576/\∀f∈fs,f.wt<=1048576
theorem FS.of{fs:aU}(h:v8 aJ.wt fs<=1048576):FS fs:=⟨by have:=Es aJ.wt fs;omega,fun f hf=>by have:=AH (w:=aJ.wt) hf;omega⟩
theorem Na{γ:Type}{mf:aJ->Option (ah×Bool)}{cp:aJ->Option aJ}{p:aJ}{b:ah}{L:aU->Nat->aU->Option γ}{k:aU->Option γ}(hm:∀f:aJ,f.wt<=1048576->mf f=some (kz p f b))(hc:∀f:aJ,f.wt<=1048576->cp f=some f)(oF:∀i w,L [] i w=k w)
 (oa:∀x xs i w,L (x::xs) i w=((mf x).bind fun y=>(bif y.2 then((cp x).bind fun z=>(bif room ((w.map aJ.c).length+([[D.str z.rel,D.sl (z.args.map tx)]]).length) 40 then(L xs (i+1) (w++([z])))else none))else(L xs (i+1) w)))):
 ∀(l:aU) (i:Nat) (w:aU),(∀f∈l,f.wt<=1048576)->w.length+l.length<1099511627700->L l i w=k (w++EA p b l):=by
 intro l
 induction l with
 |nil=>intro i w _ _;rw[oF];simp[EA]
 |cons x xs ih=>
  intro i w hl hw;simp only[aO]at hw;have hx:=hl x (by simp);rw[oa,hm x hx,aA,hc x hx,aA,lV (by omega) (by decide),aK];have e:EA p b (x::xs)=bif (kz p x b).2 then x::EA p b xs else EA p b xs:=by
   unfold EA;rw[List.filter_cons];cases(kz p x b).2<;>rfl
  rw[e];cases(kz p x b).2 with
  |true=>rw[aK,aK,ih _ _ (fun f hf=>hl f (by simp[hf])) (by simp;omega)];simp
  |false=>rw[aP,aP,ih _ _ (fun f hf=>hl f (by simp[hf])) (by omega)]
theorem Vw(p:aJ)(b:ah)(fs:aU)(hp:p.wt<=1048576)(hb:PB b)(hf:FS fs):gX p b fs=some (EA p b fs):=by
 unfold gX;have h1:=hf.1;refine(Na (mf:=fun f=>gW p f b) (cp:=fN) (p:=p) (b:=b) (L:=eG p b fs _) (k:=fun q=>some q) (fun f h=>T9 p f b hp h hb) (fun f h=>H6 f (by have:=aJ.mj h;omega)) (fun _ _=>rfl) (fun _ _ _ _=>rfl) fs 0 [] hf.2 (by simp;omega)).trans ?_;simp
def D9(c:aT)(b:ah)(fs:aU):Bool:=o9 c&&(o7 b&&(bif decide (c.kind=1)then decide (0<(EA c.pat b fs).length)else bif decide (c.kind=2)then decide ((EA c.pat b fs).length=0)else QX c b))
theorem R7(l:aU):decide ((((l.map aJ.c).length:Int):Int)>0)=decide (0<l.length):=by rw[az];congr 1;rw[uW];omega
theorem len_eq(l:aU):((((l.map aJ.c).length:Int):Int)==0)=decide (l.length=0):=by rw[az,xE];congr 1;rw[uW];omega
theorem T7(c:aT)(b:ah)(fs:aU)(hc:c.wt<=1048576)(hb:PB b)(hf:FS fs):lQ c b fs=some (D9 c b fs):=by
 unfold lQ D9;rw[LM c hc,aA,IP b hb,aA,Vw c.pat b fs (aT.jQ hc) hb hf,aA,aA,T8 c b hc hb,aA,xE,xE,R7,len_eq];cases o9 c with
 |false=>rfl
 |true=>
  cases o7 b with
  |false=>rfl
  |true=>cases decide (c.kind=1)<;>cases decide (c.kind=2)<;>rfl
end Go.Cx
namespace Go.Cx
open Go.RowKit Go.Proofs Tryz
def QA(h:Bytes->Bytes):Prop:=∀y,gE y=true->h y=y
theorem zc{t v val:Bytes}(h:v≠t):∀(w:ah),cU t (qk v val w)=cU t w
 | []=>by
  have:(v==t)=false:=by simpa using h
  simp only[qk,cU,this,aP]
 |x::xs=>by
  have hv:(v==t)=false:=by simpa using h
  rw[qk];cases !(Op.bytesLess x.var v||x.var==v)with
  |true=>rw[aK,cU];simp only[hv,aP]
  |false=>rw[aP,cU,cU,zc h xs]
theorem B0{v val:Bytes}:∀(w:ah),cU v w=none->cU v (qk v val w)=some val
 | [],_=>by simp[qk,cU]
 |x::xs,h=>by
  rw[cU]at h;rw[qk];cases hx:x.var==v with
  |true=>rw[hx]at h;cases h
  |false=>
   rw[hx,aP]at h;cases !(Op.bytesLess x.var v||false)with
   |true=>rw[aK,cU];simp
   |false=>rw[aP,cU,hx,aP];exact B0 xs h
theorem u9{t o:Bytes}:∀ {w:ah},cU t w=some o->∃p∈w,p.var=t/\p.value=o
 |x::xs,h=>by
  rw[cU]at h;cases hx:x.var==t with
  |true=>rw[hx,aK]at h;cases h;exact⟨x,by simp,by simpa using hx,rfl⟩
  |false=>
   rw[hx,aP]at h;obtain⟨p,hp,h1⟩:=u9 h;exact⟨p,by simp[hp],h1⟩
theorem CF{t:Bytes}:∀ {w:ah},cU t w=none->∀p∈w,p.var≠t
 |x::xs,h,p,hp=>by
  rw[cU]at h;cases hx:x.var==t with
  |true=>rw[hx]at h;cases h
  |false=>
   rw[hx,aP]at h;rcases au.1 hp with rfl|hp
   ·simpa using hx
   ·exact CF h p hp
theorem kZ(p:Option aj)(x:aj)(xs:ah):kE p (x::xs)=(kR x.var&&(gE x.value&&((match p with|some q=>Op.bytesLess q.var x.var|none=>true)&&kE (some x) xs))):=by
 cases p<;>rfl
theorem DO{v val:Bytes}(hv:kR v=true)(ha:gE val=true):∀(w:ah) (p:Option aj),kE p w=true->cU v w=none->(∀q,p=some q->Op.bytesLess q.var v=true)->kE p (qk v val w)=true
 | [],p,_,_,hp=>by
  simp only[qk,kE,hv,ha,j9,tF];cases p with
  |none=>rfl
  |some q=>exact hp q rfl
 |x::xs,p,hc,hf,hp=>by
  rw[kZ]at hc;simp only[aN]at hc;obtain⟨c1,c2,c3,c4⟩:=hc;rw[cU]at hf;cases hx:x.var==v with
  |true=>rw[hx]at hf;cases hf
  |false=>
   rw[hx,aP]at hf;rw[qk,hx,ny];cases hl:Op.bytesLess x.var v with
   |true=>
    rw[bX,aP,kZ];simp only[aN];exact⟨c1,c2,c3,DO hv ha xs (some x) c4 hf (fun q hq=>by cases hq;exact hl)⟩
   |false=>
    have h2:Op.bytesLess v x.var=true:=by
     cases h3:Op.bytesLess v x.var with
     |true=>rfl
     |false=>
      have:=vv hl h3;rw[this]at hx;simp at hx
    rw[eZ,aK,kZ];simp only[aN];refine⟨hv,ha,?_,?_⟩
    ·cases p with
     |none=>rfl
     |some q=>exact hp q rfl
    ·rw[kZ];simp only[aN];exact⟨c1,c2,h2,c4⟩
theorem KR{v val:Bytes}{w:ah}(hv:kR v=true)(ha:gE val=true)(hb:o7 w=true)(hf:cU v w=none)(hl:w.length≠6):o7 (qk v val w)=true:=by
 have h6:=Ab hb;unfold o7 at hb⊢;rw[aN]at hb⊢;exact⟨DO hv ha w none hb.1 hf (fun q h=>by cases h),by rw[G6];simp;omega⟩
theorem Ie{p:aJ}(h:si p=true):∀t∈p.args,nN t=true:=by
 unfold si at h;rw[aN]at h;exact fun t ht=>aQ.1 h.1 t ht
end Go.Cx
namespace Go.Cx
open Go.RowKit Go.Proofs Tryz
theorem LN(l:aU)(h:l.length<=1048576)(hf:∀f∈l,f.args.length<=1048576):k8 l=some l:=by
 unfold k8;refine(TI (c:=aJ.c) (b:=40) (f:=fN) (g:=fun x=>x) (L:=iJ l _) (k:=fun q=>some q) (by decide) (fun _ _=>rfl) (fun _ _ _ _=>rfl) l 0 [] (fun f h=>H6 f (by have:=hf f h;omega)) (by simp;omega)).trans ?_;simp
def TK(n:Nat)(t:bA):Prop:=t.facts.length<=n/\(∀f∈t.facts,f.wt<=1048576)/\PB t.bind
theorem TK.le{n m:Nat}{t:bA}(h:TK n t)(hm:n<=m):TK m t:=⟨by have:=h.1;omega,h.2⟩
def ext1(c:aT)(t:bA)(f:aJ):bz:=bif (kz c.pat f t.bind).2 then [⟨t.facts++[f],(kz c.pat f t.bind).1⟩]else []
def B5(c:aT)(fs:aU)(t:bA):bz:=bif decide (c.kind=1)then fs.flatMap (ext1 c t)else bif D9 c t.bind fs then [t]else []
def ym(fs:aU)(l:bz)(c:aT):bz:=l.flatMap (B5 c fs)
def GA(cs:bN)(fs:aU):bz:=cs.foldl (ym fs) [⟨[],[]⟩]
theorem Kf(c:aT)(t:bA)(f:aJ):(ext1 c t f).length<=1:=by unfold ext1;cases(kz c.pat f t.bind).2<;>simp
theorem FO(c:aT)(t:bA)(fs:aU):(fs.flatMap (ext1 c t)).length<=fs.length:=by
 induction fs with
 |nil=>simp
 |cons f fs ih=>rw[cy,af];have:=Kf c t f;simp only[aO];omega
theorem Fv(c:aT)(fs:aU)(t:bA):(B5 c fs t).length<=fs.length+1:=by
 unfold B5;cases decide (c.kind=1)with
 |true=>have:=FO c t fs;rw[aK];omega
 |false=>cases D9 c t.bind fs<;>simp
theorem Fw(fs:aU)(l:bz)(c:aT):(ym fs l c).length<=l.length*(fs.length+1):=by
 unfold ym
 induction l with
 |nil=>simp
 |cons t l ih=>rw[cy,af,aO,Nat.succ_mul];have:=Fv c fs t;omega
theorem O4{c:aT}{fs:aU}{t:bA}{n:Nat}(h:TK n t)(hc:c.wt<=1048576)(hf:FS fs):∀u∈B5 c fs t,TK (n+1) u:=by
 intro u hu;unfold B5 at hu;cases hk:decide (c.kind=1)with
 |false=>
  rw[hk,aP]at hu;cases hh:D9 c t.bind fs with
  |false=>rw[hh]at hu;cases hu
  |true=>
   rw[hh,aK,cO]at hu;subst hu;exact h.le (by omega)
 |true=>
  rw[hk,aK]at hu;obtain⟨f,UP,hu⟩:=bI.1 hu;unfold ext1 at hu;cases hm:(kz c.pat f t.bind).2 with
  |false=>rw[hm]at hu;cases hu
  |true=>
   rw[hm,aK,cO]at hu;subst hu;refine⟨by have:=h.1;simp;omega,?_,O0 h.2.2 (aT.jQ hc) (hf.2 f UP)⟩;intro g hg;rcases aH.1 hg with hg|hg
   ·exact h.2.1 g hg
   ·rw[cO]at hg;rw[hg];exact hf.2 f UP
theorem O6{c:aT}{fs:aU}{l:bz}{n:Nat}(h:∀t∈l,TK n t)(hc:c.wt<=1048576)(hf:FS fs):∀u∈ym fs l c,TK (n+1) u:=by
 intro u hu;obtain⟨t,ht,hu⟩:=bI.1 hu;exact O4 (h t ht) hc hf u hu
theorem NZ{γ:Type}{mf:aJ->Option (ah×Bool)}{Uj:Option aU}{cp:aJ->Option aJ}{c:aT}{t:bA}{L:aU->Nat->bz->Option γ}{k:bz->Option γ}(hm:∀f:aJ,f.wt<=1048576->mf f=some (kz c.pat f t.bind))(hcs:Uj=some t.facts)(hc:∀f:aJ,f.wt<=1048576->cp f=some f)(ht:t.facts.length<=1048576)(oF:∀i w,L [] i w=k w)
 (oa:∀x xs i w,L (x::xs) i w=((mf x).bind fun y=>(bif y.2 then(Uj.bind fun q=>((cp x).bind fun z=>(bif room ((q.map aJ.c).length+([[D.str z.rel,D.sl (z.args.map tx)]]).length) 40 then(bif room ((w.map bA.c).length+([[D.sl ((q.map aJ.c)++([[D.str z.rel,D.sl (z.args.map tx)]])),D.sl (y.1.map aj.c)]]).length) 48 then(L xs (i+1) (w++([(⟨q++([z]),y.1⟩:bA)])))else none)else none)))else(L xs (i+1) w)))):
 ∀(l:aU) (i:Nat) (w:bz),(∀f∈l,f.wt<=1048576)->w.length+l.length<1099511627770->L l i w=k (w++l.flatMap (ext1 c t)):=by
 intro l
 induction l with
 |nil=>intro i w _ _;rw[oF];simp
 |cons x xs ih=>
  intro i w hl hw;simp only[aO]at hw;have hx:=hl x (by simp);rw[oa,hm x hx,aA,hcs,aA,hc x hx,aA,lV (by omega) (by decide),aK,lV (by omega) (by decide),aK,cy];rw[show ext1 c t x=bif (kz c.pat x t.bind).2 then [⟨t.facts++[x],(kz c.pat x t.bind).1⟩]else []from rfl];cases(kz c.pat x t.bind).2 with
  |true=>rw[aK,aK,ih _ _ (fun f hf=>hl f (by simp[hf])) (by simp;omega)];simp
  |false=>rw[aP,aP,ih _ _ (fun f hf=>hl f (by simp[hf])) (by omega)];simp
theorem Nt(c:aT):((c.kind:Int) != 1)= !decide (c.kind=1):=by
 show(!((c.kind:Int)==1))=_;rw[xE]
theorem RF:∀t∈[(⟨[],[]⟩:bA)],TK 0 t:=by
 intro t ht;rw[cO]at ht;subst ht;exact⟨by simp,by simp,PB.nil⟩
theorem Pb{n:Nat}(h:n<=4):[(⟨[],[]⟩:bA)].length*25^n<=390625:=by
 have:=nB (n:=25) (by decide) h;simp only[ia,jG];exact this
theorem Np(c0:bN)(fs:aU)(w0:bz)(i1:Nat)(c:aT)(k:bz->Option bz)(hc:c.wt<=1048576)(hf:FS fs):∀(l:bz) (i:Nat) (w:bz),(∀t∈l,TK 1048576 t)->w.length+l.length*(fs.length+1)<1099511627700->dS c0 fs w0 i1 c k l i w=k (w++ym fs l c):=by
 intro l;have h1:=hf.1
 induction l with
 |nil=>intro i w _ _;rw[dS];simp[ym]
 |cons t l ih=>
  intro i w hl hw;rw[aO,Nat.succ_mul]at hw;have ht:=hl t (by simp);have e:ym fs (t::l) c=B5 c fs t++ym fs l c:=by simp[ym]
  have hn:=Fv c fs t;have he:=FO c t fs;rw[dS,Nt,T7 c t.bind fs hc ht.2.2 hf,aA,lV (by omega) (by decide),aK,uC (by omega),aK,e];rw[NZ (mf:=fun f=>gW c.pat f t.bind) (Uj:=k8 t.facts) (cp:=fN) (c:=c) (t:=t) (L:=gL c0 fs i w0 t i1 c _) (k:=_) (fun f h=>T9 c.pat f t.bind (aT.jQ hc) h ht.2.2) (LN t.facts ht.1 (fun f hf=>by have:=aJ.mj (ht.2.1 f hf);omega)) (fun f h=>H6 f (by have:=aJ.mj h;omega)) ht.1 (fun _ _=>rfl) (fun _ _ _ _=>rfl) fs 0 w hf.2 (by omega)];unfold B5;cases decide (c.kind=1)with
  |true=>simp only[bX,aP,aK];rw[ih _ _ (fun u hu=>hl u (by simp[hu])) (by rw[af];omega)];simp
  |false=>
   simp only[eZ,aK,aP];cases D9 c t.bind fs with
   |true=>simp only[aK];rw[ih _ _ (fun u hu=>hl u (by simp[hu])) (by rw[af];simp;omega)];simp
   |false=>simp only[aP];rw[ih _ _ (fun u hu=>hl u (by simp[hu])) (by omega)];simp
theorem Qv(c0:bN)(fs:aU)(k:bz->Option bz)(hf:FS fs)(h24:fs.length<=24):∀(cs:bN) (i:Nat) (w:bz) (n:Nat),(∀c∈cs,c.wt<=1048576)->(∀t∈w,TK n t)->n+cs.length<=1048576->w.length*25^cs.length<=390625->gK c0 fs k cs i w=k (cs.foldl (ym fs) w):=by
 intro cs
 induction cs with
 |nil=>intro i w n _ _ _ _;rfl
 |cons c cs ih=>
  intro i w n hc hw hn hl;simp only[aO]at hn;rw[aO,rB,z6 (25^cs.length) 25,<-Nat.mul_assoc]at hl;have hp:1<=25^cs.length:=Nat.one_le_pow _ _ (by decide);have uP:w.length*25<=390625:=dZ (Nat.le_mul_of_pos_right _ hp) hl;have h25:w.length*(fs.length+1)<=w.length*25:=fe _ (by omega);rw[gK,uC (by omega),aK,Np c0 fs w i c _ (hc c (by simp)) hf w 0 [] (fun t ht=>(hw t ht).le (by omega)) (by simp only[bH];omega),iQ];refine ih _ _ (n+1) (fun x hx=>hc x (by simp[hx])) (O6 hw (hc c (by simp)) hf) (by omega) ?_;exact dZ (cr _ (dZ (Fw fs w c) h25)) hl
theorem TC(cs:bN)(fs:aU)(hc:∀c∈cs,c.wt<=1048576)(h4:cs.length<=4)(hf:FS fs)(h24:fs.length<=24):mI cs fs=some (GA cs fs):=by
 unfold mI;exact Qv cs fs _ hf h24 cs 0 _ 0 hc RF (by omega) (Pb h4)
theorem xH{r:aZ}(h:jg r=true):r.conds.length<=4:=by
 unfold jg at h;simp only[aN,bJ]at h;omega
theorem Aa{l:aU}(h:oy l=true):l.length<=24:=by
 unfold oy at h;simp only[aN,bJ]at h;exact h.2
def Pt(r:aZ)(n:Int)(fs:aU):bz:=bif jg r&&(oy fs&&(decide (n>=0)&&decide (n<=(r.conds.length:Int))))then GA (r.conds.take n.toNat) fs else []
theorem Me{r:aZ}{fs:aU}(h1:jg r=true)(h2:oy fs=true){j:Nat}(hj:j<=r.conds.length):Pt r (j:Int) fs=GA (r.conds.take j) fs:=by
 unfold Pt;rw[h1,h2];have e1:decide ((j:Int)>=0)=true:=by simp
 have e2:decide ((j:Int)<=(r.conds.length:Int))=true:=by simp;omega
 rw[e1,e2];simp
def Cv(r:aZ)(fs:aU):fA:=(Pt r (r.conds.length:Int) fs).map fun t=>⟨r.name,t.facts,t.bind⟩
theorem GB{cs:bN}{fs:aU}(h4:cs.length<=4)(h24:fs.length<=24):(GA cs fs).length<=390625:=by
 have key:∀(cs:bN) (w:bz),w.length*25^cs.length<=390625->(cs.foldl (ym fs) w).length<=390625:=by
  intro cs
  induction cs with
  |nil=>intro w h;simpa using h
  |cons c cs ih=>
   intro w h;rw[aO,rB,z6 (25^cs.length) 25,<-Nat.mul_assoc]at h;refine ih _ ?_;have h25:w.length*(fs.length+1)<=w.length*25:=fe _ (by omega);exact dZ (cr _ (dZ (Fw fs w c) h25)) h
 exact key cs _ (Pb h4)
theorem OT(r:aZ)(n:Int)(fs:aU):(Pt r n fs).length<=390625:=by
 unfold Pt;cases h1:jg r with
 |false=>simp
 |true=>
  cases h2:oy fs with
  |false=>simp
  |true=>
   have h4:=xH h1;cases(decide (n>=0)&&decide (n<=(r.conds.length:Int)))with
   |false=>simp
   |true=>exact GB (by rw[bK];omega) (Aa h2)
theorem TA(r:aZ)(fs:aU)(hr:r.wt<=1048576)(hf:v8 aJ.wt fs<=1048576):k7 r fs=some (Cv r fs):=by
 unfold k7 nT Cv;rw[P5 r hr,aA,Sz fs hf,aA];cases h1:jg r with
 |false=>unfold Pt;rw[h1];rfl
 |true=>
  cases h2:oy fs with
  |false=>unfold Pt;rw[h1,h2];rfl
  |true=>
   have h4:=xH h1;have hl:=GB (cs:=r.conds) h4 (Aa h2);simp only[bX,aP];rw[TC r.conds fs (fun c hc=>aZ.qB hr hc) h4 (FS.of hf) (Aa h2),aA,uC (by omega),aK,Me h1 h2 (bM _),nO];rw[show fk r (GA r.conds fs) (fun q=>some q) (GA r.conds fs) 0 []=_ from TI (c:=bE.c) (b:=64) (f:=fun t:bA=>some (⟨r.name,t.facts,t.bind⟩:bE)) (g:=fun t=>⟨r.name,t.facts,t.bind⟩) (L:=fk r _ _) (k:=fun q=>some q) (by decide) (fun _ _=>rfl) (fun _ _ _ _=>rfl) _ 0 [] (fun _ _=>rfl) (by simp;omega)];simp
theorem JM(a b:bE):((a.rule==b.rule)&&(decide (a.facts=b.facts)&&decide (a.bind=b.bind)))=decide (a=b):=by
 cases a;cases b;rw[bP];simp
theorem RX(a b:bE):lU a b=some (decide (a=b)):=by
 unfold lU;rw[OM,aA,RV,aA,<-JM];cases a.rule==b.rule<;>cases decide (a.facts=b.facts)<;>rfl
end Go.Cx
namespace Go.Cx
open Go.RowKit Go.Proofs Tryz
theorem B4:∀(a b:aD),a.Nodup->(∀x∈a,x∈b)->a.length<=b.length
 | [],b,_,_=>sr _
 |x::xs,b,hn,hs=>by
  rw[cz]at hn;have h1:=B4 xs (b.erase x) hn.2 fun y hy=>(List.mem_erase_of_ne (fun e=>hn.1 (by rw[<-e];exact hy))).2 (hs y (by simp[hy]))
  have h2:=jA (hs x (by simp));have h3:0<b.length:=oo (hs x (by simp));simp only[aO];omega
theorem MV{l:aD}(h:SS l):l.Nodup:=by
 unfold SS at h;exact h.imp fun hab e=>by rw[e,jy]at hab;cases hab
theorem E2{x:Bytes}(h:gE x=true):kR x=false:=by
 cases hv:kR x with
 |false=>rfl
 |true=>rw[rL hv]at h;cases h
theorem JY{r:aZ}(h:jg r=true):(cc (w5 r.conds)).length<=6:=by
 unfold jg at h;simp only[aN,bJ]at h;omega
theorem DT{c:aT}(hc:o9 c=true)(hk:c.kind=1\/c.kind=2):si c.pat=true/\c.left=[]/\c.right=[]:=by
 unfold o9 at hc;have:(decide (c.kind=1)||decide (c.kind=2))=true:=by simpa using hk
 rw[this,aK]at hc;simp only[aN,cD]at hc;exact⟨hc.1,hc.2.1,hc.2.2⟩
theorem BI{p:Option aj}{b:ah}(h:kE p b=true):kE none b=true:=by
 cases b with
 |nil=>rfl
 |cons x xs=>
  rw[kZ]at h⊢;simp only[aN]at h⊢
  first|exact⟨h.1,h.2.1,rfl,h.2.2.2⟩|exact⟨h.1,h.2.1,h.2.2.2⟩|exact⟨h.1,h.2.1,trivial,h.2.2.2⟩
theorem zE:∀ {b:ah} {p:aj},kE (some p) b=true->∀x∈b,Op.bytesLess p.var x.var=true
 |y::ys,p,h,x,hx=>by
  rw[kZ]at h;simp only[aN]at h;rcases au.1 hx with rfl|hx
  ·exact h.2.2.1
  ·exact qI h.2.2.1 (zE h.2.2.2 x hx)
theorem BJ:∀ {b:ah} {p:Option aj},kE p b=true->(b.map aj.var).Nodup
 | [],_,_=>by simp
 |x::xs,p,h=>by
  rw[kZ]at h;simp only[aN]at h;rw[b8,cz];refine⟨fun hm=>?_,BJ h.2.2.2⟩;obtain⟨q,hq,e⟩:=cG.1 hm;have:=zE h.2.2.2 q hq;rw[e,jy]at this;cases this
theorem qH{b:ah}(h:o7 b=true):kE none b=true:=by
 unfold o7 at h;rw[aN]at h;exact h.1
theorem Ad:∀ {b:ah} {p:Option aj},kE p b=true->∀x∈b,kR x.var=true/\gE x.value=true
 |y::ys,p,h,x,hx=>by
  rw[kZ]at h;simp only[aN]at h;rcases au.1 hx with rfl|hx
  ·exact⟨h.1,h.2.1⟩
  ·exact Ad h.2.2.2 x hx
theorem DN:∀ {a b:ah},kE none a=true->kE none b=true->(∀v,cU v a=cU v b)->a=b
 | [],[],_,_,_=>rfl
 | [],y::ys,_,_,h=>by have:=h y.var;simp[cU]at this
 |x::xs,[],_,_,h=>by have:=h x.var;simp[cU]at this
 |x::xs,y::ys,ha,hb,h=>by
  have ha0:=ha;have hb0:=hb;rw[kZ]at ha hb;simp only[aN]at ha hb;have key:∀ {u v:aj} {us vs:ah},kE (some u) us=true->kE (some v) vs=true->(∀t,cU t (u::us)=cU t (v::vs))->Op.bytesLess u.var v.var=false:=by
   intro u v us vs hu hv ht;cases hl:Op.bytesLess u.var v.var with
   |false=>rfl
   |true=>
    have h1:=ht u.var;rw[show cU u.var (u::us)=some u.value by simp[cU]]at h1;obtain⟨q,hq,e,_⟩:=u9 h1.symm;rcases au.1 hq with rfl|hq
    ·rw[e,jy]at hl;cases hl
    ·have:=qI hl (zE hv q hq);rw[e,jy]at this;cases this
  have e1:=key ha.2.2.2 hb.2.2.2 h;have e2:=key hb.2.2.2 ha.2.2.2 (fun t=>(h t).symm);have ev:x.var=y.var:=vv e1 e2;have e3:x.value=y.value:=by
   have:=h x.var;rw[show cU x.var (x::xs)=some x.value by simp[cU],show cU x.var (y::ys)=some y.value by simp[cU,ev]]at this;exact mE this
  have e4:x=y:=by cases x;cases y;cases ev;cases e3;rfl
  subst e4
  congr 1
  refine DN (BI ha.2.2.2) (BI hb.2.2.2) fun v=>?_
  by_cases hv:x.var=v
  ·have n1:∀ {l:ah},kE (some x) l=true->cU v l=none:=by
    intro l hl;cases hf:cU v l with
    |none=>rfl
    |some o=>
     obtain⟨q,hq,e,_⟩:=u9 hf;have:=zE hl q hq;rw[hv,e,jy]at this;cases this
   rw[n1 ha.2.2.2,n1 hb.2.2.2]
  ·have:=h v;have hne:(x.var==v)=false:=by rw[cZ];exact hv
   rw[cU,cU,hne,aP,aP]at this;exact this
structure WB(U:List Bytes)(b:List aj):Prop where
 ok:o7 b=true
 sub:∀p∈b,p.var∈U
theorem WB.nil(U:aD):WB U []:=⟨rfl,fun p h=>by cases h⟩
theorem WB.room{U:aD}(hU:U.length<=6){b:ah}(h:WB U b){x:Bytes}(hx:x∈U)(hf:cU x b=none):b.length≠6:=by
 have h1:(x::b.map aj.var).length<=U.length:=B4 _ _ (by
  rw[cz];refine⟨fun hm=>?_,BJ (qH h.ok)⟩;obtain⟨p,hp,e⟩:=cG.1 hm;exact CF hf p hp e) (fun y hy=>by
  rcases au.1 hy with rfl|hy
  ·exact hx
  ·obtain⟨p,hp,rfl⟩:=cG.1 hy;exact h.sub p hp)
 simp only[aO,az]at h1;omega
theorem WB.set{U:aD}(hU:U.length<=6){b:ah}(h:WB U b){x y:Bytes}(hx:x∈U)(hv:kR x=true)(ha:gE y=true)(hf:cU x b=none):WB U (qk x y b):=
 ⟨KR hv ha h.ok hf (h.room hU hx hf),fun p hp=>by
  rcases G7 x y b hp with e|e
  ·rw[e];exact hx
  ·exact h.sub p e⟩
theorem WB.ext{U:aD}{a b:ah}(ha:WB U a)(hb:WB U b)(h:∀v,cU v a=cU v b):a=b:=DN (qH ha.ok) (qH hb.ok) h
theorem NY{U:aD}(hU:U.length<=6){b:ah}(h:WB U b){x y:Bytes}(hx:x∈U)(hv:kR x=true):Be b x y=if gE y=true then(match cU x b with|some o=>bif o==y then(b,true)else([],false)|none=>(qk x y b,true))else([],false):=by
 unfold Be;rw[h.ok,hv];simp only[j9];cases ha:gE y with
 |false=>rfl
 |true=>
  rw[aK,av rfl];cases hf:cU x b with
  |some o=>rfl
  |none=>dsimp only;rw[cA (h.room hU hx hf),aP]
def Says(h:Bytes->Bytes)(b:ah):Prop:=∀v o,cU v b=some o->h v=o
theorem pJ{x y v:Bytes}{b:ah}(hf:cU x b=none):cU v (qk x y b)=if v=x then some y else cU v b:=by
 by_cases e:v=x
 ·subst e;rw[av rfl,B0 _ hf]
 ·rw[ai e,zc (fun e2=>e e2.symm)]
theorem Lm{U:aD}(hU:U.length<=6):∀(l r:aD) (b:ah),WB U b->(∀x∈l,nN x=true)->(∀x∈l,kR x=true->x∈U)->(∀y∈r,gE y=true)->l.length=r.length->
 ((qP l r b).2=true↔∃h,Says h b/\QA h/\r=l.map h)/\((qP l r b).2=true->WB U (qP l r b).1/\∀v o,(cU v (qP l r b).1=some o↔cU v b=some o\/(v∈l/\kR v=true/\∀h,Says h b->QA h->r=l.map h->h v=o))):=by
 intro l
 induction l with
 |nil=>
  intro r b hb _ _ _ hl;have hr:r=[]:=by cases r with|nil=>rfl|cons _ _=>simp at hl
  subst hr;refine⟨⟨fun _=>?_,fun _=>rfl⟩,fun _=>⟨hb,fun v o=>⟨fun h=>.inl h,fun h=>?_⟩⟩⟩
  ·refine⟨fun y=>(cU y b).getD y,fun v o ho=>by simp[ho],fun y hy=>?_,rfl⟩;cases hf:cU y b with
   |none=>simp[hf]
   |some o=>
    obtain⟨p,hp,h1,_⟩:=u9 hf;have:=(Ad (qH hb.ok) p hp).1;rw[h1]at this;rw[rL this]at hy;cases hy
  ·rcases h with h|⟨h,_⟩
   ·exact h
   ·cases h
 |cons x xs ih=>
  intro r b hb ht hv ID hl;cases r with
  |nil=>simp at hl
  |cons y ys=>
   have ht':∀z∈xs,nN z=true:=fun z hz=>ht z (by simp[hz])
   have Mv:∀z∈xs,kR z=true->z∈U:=fun z hz=>hv z (by simp[hz])
   have ha':∀z∈ys,gE z=true:=fun z hz=>ID z (by simp[hz])
   have hl':xs.length=ys.length:=by simpa using hl
   have Wh:=ID y (by simp);cases hx:gE x with
   |true=>
    have Fb:=E2 hx;cases hxy:x==y with
    |false=>
     have e:qP (x::xs) (y::ys) b=([],false):=by simp only[qP,hx,hxy,aK,aP]
     rw[e];refine⟨⟨fun h=>(by cases h),?_⟩,fun h=>(by cases h)⟩;rintro⟨h,_,h2,h3⟩;rw[b8,h2 x hx]at h3;have:x=y:=(o4 h3).1.symm;rw[this]at hxy;simp at hxy
    |true=>
     have SG:x=y:=by simpa using hxy
     have e:qP (x::xs) (y::ys) b=qP xs ys b:=by simp only[qP,hx,hxy,aK]
     rw[e];obtain⟨i1,i2⟩:=ih ys b hb ht' Mv ha' hl';have hh:∀h:Bytes->Bytes,QA h->(y::ys=(x::xs).map h↔ys=xs.map h):=by
      intro h hf;rw[b8,hf x hx,SG];exact⟨fun q=>(o4 q).2,fun q=>by rw[<-q]⟩
     refine⟨⟨fun h=>?_,?_⟩,fun h=>?_⟩
     ·obtain⟨g,g1,g2,g3⟩:=i1.1 h;exact⟨g,g1,g2,(hh g g2).2 g3⟩
     ·rintro⟨g,g1,g2,g3⟩;exact i1.2 ⟨g,g1,g2,(hh g g2).1 g3⟩
     ·obtain⟨k1,k2⟩:=i2 h;refine⟨k1,fun v o=>(k2 v o).trans ⟨?_,?_⟩⟩
      ·rintro(q|⟨q1,q2,q3⟩)
       ·exact .inl q
       ·exact .inr ⟨by simp[q1],q2,fun g g1 g2 g3=>q3 g g1 g2 ((hh g g2).1 g3)⟩
      ·rintro(q|⟨q1,q2,q3⟩)
       ·exact .inl q
       ·rcases au.1 q1 with rfl|q1
        ·rw[Fb]at q2;cases q2
        ·exact .inr ⟨q1,q2,fun g g1 g2 g3=>q3 g g1 g2 ((hh g g2).2 g3)⟩
   |false=>
    have Fb:kR x=true:=by have:=ht x (by simp);unfold nN at this;rw[hx]at this;simpa using this
    have X2:=hv x (by simp) Fb;have ee:=NY hU hb (y:=y) X2 Fb;rw[av Wh]at ee;cases hf:cU x b with
    |some o=>
     rw[hf]at ee;dsimp only at ee;cases ho:o==y with
     |false=>
      rw[ho,aP]at ee;have e:qP (x::xs) (y::ys) b=([],false):=by simp only[qP,hx,aP,ee]
      rw[e];refine⟨⟨fun h=>(by cases h),?_⟩,fun h=>(by cases h)⟩;rintro⟨h,h1,h2,h3⟩;rw[b8,h1 x o hf]at h3;have:o=y:=(o4 h3).1.symm;rw[this]at ho;simp at ho
     |true=>
      have eo:o=y:=by simpa using ho
      rw[ho,aK]at ee;have e:qP (x::xs) (y::ys) b=qP xs ys b:=by simp only[qP,hx,aP,ee,aK]
      rw[e];obtain⟨i1,i2⟩:=ih ys b hb ht' Mv ha' hl';have hh:∀h:Bytes->Bytes,Says h b->(y::ys=(x::xs).map h↔ys=xs.map h):=by
       intro h h1;rw[b8,h1 x o hf,eo];exact⟨fun q=>(o4 q).2,fun q=>by rw[<-q]⟩
      refine⟨⟨fun h=>?_,?_⟩,fun h=>?_⟩
      ·obtain⟨g,g1,g2,g3⟩:=i1.1 h;exact⟨g,g1,g2,(hh g g1).2 g3⟩
      ·rintro⟨g,g1,g2,g3⟩;exact i1.2 ⟨g,g1,g2,(hh g g1).1 g3⟩
      ·obtain⟨k1,k2⟩:=i2 h;refine⟨k1,fun v q=>(k2 v q).trans ⟨?_,?_⟩⟩
       ·rintro(q1|⟨q1,q2,q3⟩)
        ·exact .inl q1
        ·exact .inr ⟨by simp[q1],q2,fun g g1 g2 g3=>q3 g g1 g2 ((hh g g1).1 g3)⟩
       ·rintro(q1|⟨q1,q2,q3⟩)
        ·exact .inl q1
        ·rcases au.1 q1 with rfl|q1
         ·obtain⟨g,g1,g2,g3⟩:=i1.1 h;have:=q3 g g1 g2 ((hh g g1).2 g3);rw[g1 v o hf]at this;subst this;exact .inl hf
         ·exact .inr ⟨q1,q2,fun g g1 g2 g3=>q3 g g1 g2 ((hh g g1).2 g3)⟩
    |none=>
     rw[hf]at ee;dsimp only at ee;have e:qP (x::xs) (y::ys) b=qP xs ys (qk x y b):=by simp only[qP,hx,aP,ee,aK]
     rw[e];obtain⟨i1,i2⟩:=ih ys (qk x y b) (hb.set hU X2 Fb Wh hf) ht' Mv ha' hl';have hs:∀h:Bytes->Bytes,Says h (qk x y b)↔Says h b/\h x=y:=by
      intro h;constructor
      ·intro q;refine⟨fun v o ho=>q v o ?_,q x y (B0 _ hf)⟩;rw[pJ hf,ai (fun e=>by rw[e,hf]at ho;cases ho)];exact ho
      ·rintro⟨q1,q2⟩ v o ho;rw[pJ hf]at ho;by_cases e:v=x
       ·rw[av e]at ho;cases ho;rw[e];exact q2
       ·rw[ai e]at ho;exact q1 v o ho
     have hh:∀h:Bytes->Bytes,(y::ys=(x::xs).map h↔h x=y/\ys=xs.map h):=by
      intro h;rw[b8];exact⟨fun q=>⟨(o4 q).1.symm,(o4 q).2⟩,fun q=>by rw[q.1,<-q.2]⟩
     refine⟨⟨fun h=>?_,?_⟩,fun h=>?_⟩
     ·obtain⟨g,g1,g2,g3⟩:=i1.1 h;obtain⟨g1,g4⟩:=(hs g).1 g1;exact⟨g,g1,g2,(hh g).2 ⟨g4,g3⟩⟩
     ·rintro⟨g,g1,g2,g3⟩;obtain⟨g4,g3⟩:=(hh g).1 g3;exact i1.2 ⟨g,(hs g).2 ⟨g1,g4⟩,g2,g3⟩
     ·obtain⟨k1,k2⟩:=i2 h;refine⟨k1,fun v q=>(k2 v q).trans ⟨?_,?_⟩⟩
      ·rintro(q1|⟨q1,q2,q3⟩)
       ·rw[pJ hf]at q1;by_cases ev:v=x
        ·rw[av ev]at q1;cases q1;refine .inr ⟨by simp[ev],by rw[ev];exact Fb,fun g g1 g2 g3=>by rw[ev];exact((hh g).1 g3).1⟩
        ·rw[ai ev]at q1;exact .inl q1
       ·refine .inr ⟨by simp[q1],q2,fun g g1 g2 g3=>?_⟩;obtain⟨g4,g3⟩:=(hh g).1 g3;exact q3 g ((hs g).2 ⟨g1,g4⟩) g2 g3
      ·rintro(q1|⟨q1,q2,q3⟩)
       ·left
        rw[pJ hf,ai (fun e=>by rw[e,hf]at q1;cases q1)];exact q1
       ·by_cases ev:v=x
        ·left
         obtain⟨g,g1,g2,g3⟩:=i1.1 h;obtain⟨g1,g4⟩:=(hs g).1 g1;have:=q3 g g1 g2 ((hh g).2 ⟨g4,g3⟩);rw[ev,g4]at this;rw[pJ hf,av ev,this]
        ·rcases au.1 q1 with q1|q1
         ·exact absurd q1 ev
         ·refine .inr ⟨q1,q2,fun g g1 g2 g3=>?_⟩;obtain⟨g1,g4⟩:=(hs g).1 g1;exact q3 g g1 g2 ((hh g).2 ⟨g4,g3⟩)
def Fits(p f:aJ)(h:Bytes->Bytes):Prop:=vF f=true/\p.rel=f.rel/\f.args=p.args.map h
theorem qQ{U:aD}(hU:U.length<=6){p f:aJ}{b:ah}(hb:WB U b)(hp:si p=true)(hv:∀x∈p.args,kR x=true->x∈U):
 ((kz p f b).2=true↔∃h,Says h b/\QA h/\Fits p f h)/\((kz p f b).2=true->WB U (kz p f b).1/\∀v o,(cU v (kz p f b).1=some o↔cU v b=some o\/(v∈p.args/\kR v=true/\∀h,Says h b->QA h->Fits p f h->h v=o))):=by
 cases hc:si p&&(vF f&&(o7 b&&(p.rel==f.rel&&decide (p.args.length=f.args.length))))with
 |false=>
  have e:kz p f b=([],false):=by unfold kz;rw[hc];rfl
  rw[e];refine⟨⟨fun h=>(by cases h),?_⟩,fun h=>(by cases h)⟩;rintro⟨h,_,_,h1,h2,h3⟩;rw[hp,h1,hb.ok,h2,jx,bW (by rw[h3];simp)]at hc;cases hc
 |true=>
  have e:kz p f b=qP p.args f.args b:=by unfold kz;rw[hc];rfl
  simp only[aN,cD,bJ]at hc;obtain⟨_,c2,_,c4,c5⟩:=hc;have ID:∀y∈f.args,gE y=true:=by
   unfold vF at c2;rw[aN]at c2;exact aQ.1 c2.1
  obtain⟨i1,i2⟩:=Lm hU p.args f.args b hb (Ie hp) hv ID c5;rw[e];have hf:∀h,Fits p f h↔f.args=p.args.map h:=fun h=>⟨fun q=>q.2.2,fun q=>⟨c2,c4,q⟩⟩
  refine⟨⟨fun h=>?_,?_⟩,fun h=>?_⟩
  ·obtain⟨g,g1,g2,g3⟩:=i1.1 h;exact⟨g,g1,g2,(hf g).2 g3⟩
  ·rintro⟨g,g1,g2,g3⟩;exact i1.2 ⟨g,g1,g2,(hf g).1 g3⟩
  ·obtain⟨k1,k2⟩:=i2 h;refine⟨k1,fun v o=>(k2 v o).trans ⟨?_,?_⟩⟩
   ·rintro(q|⟨q1,q2,q3⟩)
    ·exact .inl q
    ·exact .inr ⟨q1,q2,fun g g1 g2 g3=>q3 g g1 g2 ((hf g).1 g3)⟩
   ·rintro(q|⟨q1,q2,q3⟩)
    ·exact .inl q
    ·exact .inr ⟨q1,q2,fun g g1 g2 g3=>q3 g g1 g2 ((hf g).2 g3)⟩
theorem xF{U:aD}(hU:U.length<=6){p f:aJ}{b:ah}(hb:WB U b)(hp:si p=true)(hv:∀x∈p.args,kR x=true->x∈U)(hm:(kz p f b).2=true){h:Bytes->Bytes}(hx:QA h):Says h (kz p f b).1↔Says h b/\Fits p f h:=by
 obtain⟨i1,i2⟩:=qQ hU hb hp hv (f:=f);obtain⟨k1,k2⟩:=i2 hm;obtain⟨g,g1,g2,g3⟩:=i1.1 hm;constructor
 ·intro hs;refine⟨fun v o ho=>hs v o ((k2 v o).2 (.inl ho)),g3.1,g3.2.1,?_⟩;rw[g3.2.2];refine iF fun x hx2=>?_
  cases Fb:kR x with
  |false=>
   have Wg:gE x=true:=by have:=Ie hp x hx2;unfold nN at this;rw[Fb,ny]at this;exact this
   rw[g2 x Wg,hx x Wg]
  |true=>
   refine(hs x (g x) ((k2 x (g x)).2 (.inr ⟨hx2,Fb,fun q q1 q2 q3=>?_⟩))).symm;have:=q3.2.2;rw[g3.2.2]at this;exact(List.map_inj_left.1 this x hx2).symm
 ·rintro⟨h1,h2⟩ v o ho;rcases(k2 v o).1 ho with q|⟨_,_,q⟩
  ·exact h1 v o q
  ·exact q h h1 hx h2
theorem zo{U:aD}(hU:U.length<=6){p f:aJ}{b:ah}(hb:WB U b)(hp:si p=true)(hv:∀x∈p.args,kR x=true->x∈U)(hm:(kz p f b).2=true)(v:Bytes):(∃o,cU v (kz p f b).1=some o)↔(∃o,cU v b=some o)\/v∈fX p.args:=by
 obtain⟨i1,i2⟩:=qQ hU hb hp hv (f:=f);obtain⟨k1,k2⟩:=i2 hm;obtain⟨g,g1,g2,g3⟩:=i1.1 hm;constructor
 ·rintro⟨o,ho⟩;rcases(k2 v o).1 ho with q|⟨q1,q2,_⟩
  ·exact .inl ⟨o,q⟩
  ·exact .inr (eA.2 ⟨q1,q2⟩)
 ·rintro(⟨o,ho⟩|h)
  ·exact⟨o,(k2 v o).2 (.inl ho)⟩
  ·obtain⟨q1,q2⟩:=eA.1 h;refine⟨g v,(k2 v _).2 (.inr ⟨q1,q2,fun q w1 w2 w3=>?_⟩)⟩;have:=w3.2.2;rw[g3.2.2]at this;exact(List.map_inj_left.1 this v q1).symm
theorem Says.of{b:ah}{U:aD}(hb:WB U b):Says (fun y=>(cU y b).getD y) b/\QA (fun y=>(cU y b).getD y):=by
 refine⟨fun v o ho=>by simp[ho],fun y hy=>?_⟩;cases hf:cU y b with
 |none=>simp[hf]
 |some o=>
  obtain⟨p,hp,h1,_⟩:=u9 hf;have:=(Ad (qH hb.ok) p hp).1;rw[h1]at this;rw[rL this]at hy;cases hy
theorem WB.one{U:aD}{a b:ah}(ha:WB U a)(hb:WB U b)(hd:∀v,(∃o,cU v a=some o)↔(∃o,cU v b=some o)){h:Bytes->Bytes}(h1:Says h a)(h2:Says h b):a=b:=by
 refine ha.ext hb fun v=>?_
 cases hf:cU v a with
 |some o=>
  obtain⟨q,hq⟩:=(hd v).1 ⟨o,hf⟩;rw[hq,<-h1 v o hf,<-h2 v q hq]
 |none=>
  cases hg:cU v b with
  |none=>rfl
  |some q=>
   obtain⟨o,ho⟩:=(hd v).2 ⟨q,hg⟩;rw[hf]at ho;cases ho
theorem C9{c:aT}{x:Bytes}(h:x∈c.pat.args)(hv:kR x=true):x∈kF c:=eA.2 ⟨by simp[h],hv⟩
theorem ud{r:aZ}:∀ {pre rest:bN} {c:aT} {i:Nat},mY r (pre++c::rest) i=true->o9 c=true/\(i+pre.length=0->c.kind=1)/\∀v∈kF c,ur r (i+pre.length) c v=true
 | [],rest,c,i,h=>by
  rw[iQ]at h;unfold mY at h;rw[DK]at h;simp only[aN,iP,jT,lP,bJ]at h;refine⟨h.1.1.1,fun e=>?_,fun v hv=>aQ.1 h.1.2 v hv⟩;rcases h.1.1.2 with q|q
  ·exact absurd (by simpa using e) q
  ·exact q
 |x::pre,rest,c,i,h=>by
  rw[lN]at h;unfold mY at h;rw[aN]at h;have:=ud h.2;rw[aO,show i+(pre.length+1)=i+1+pre.length by omega];exact this
theorem uy{r:aZ}(h:jg r=true):mY r r.conds 0=true:=by
 unfold jg at h;simp only[aN]at h;exact h.2.1
end Go.Cx
namespace Go.Cx
open Go.RowKit Go.Proofs Tryz
def cv(c:bt):Prop:=0<=c.i/\c.b.length<=4096
theorem Hw(x:Int):0<=yE .i64 x 255/\yE .i64 x 255<=255:=by
 unfold yE;have h:(BitVec.ofInt IntKind.i64.bits x&&& BitVec.ofInt IntKind.i64.bits 255).toNat<=255:=by
  rw[BitVec.toNat_and];exact dZ Nat.and_le_right (by decide)
 rw[iC (nk.i64.2 (by omega))];omega
theorem Tk(c:bt)(h:cv c):∃c' x,js c=some (c',x)/\cv c'/\0<=x/\x<=255:=by
 obtain⟨h1,h2⟩:=h;unfold js;rw[az];by_cases hi:c.i<(c.b.length:Int)
 ·have hlt:c.i.toNat<c.b.length:=by omega
  have e:lG c.b c.i=some c.b[c.i.toNat]:=by unfold lG;rw[bW h1,aK];exact aR hlt
  rw[bW hi,aK,e,aA];refine⟨_,_,rfl,⟨?_,h2⟩,Hw _⟩;show 0<=IntKind.i64.wrap (c.i+1);rw[iC (nk.i64.2 (by omega))];omega
 ·rw[cA hi,aP];exact⟨_,_,rfl,⟨h1,h2⟩,Hw _⟩
theorem nL(c:bt)(n:Int)(h:cv c)(h0:0<n)(h1:n<=256):∃c' r,cH c n=some (c',r)/\cv c'/\0<=r/\r<n:=by
 obtain⟨c',x,e,hc,hx,hx2⟩:=Tk c h;unfold cH;have e1:decide (n<=0)=false:=by simp;omega
 have e2:decide (n<=256)=true:=by simp;omega
 have e3:(decide (0<=x)&&decide (0<n))=true:=by simp;omega
 rw[e1,aP,e2,aK,e,aA,e3,aK];exact⟨_,_,rfl,hc,Int.emod_nonneg _ (by omega),Int.emod_lt_of_pos _ h0⟩
theorem G4(c:bt)(n:Int)(h:cv c)(h0:0<n)(h1:n<=256):∃c' b,gG c n=some (c',b)/\cv c':=by
 obtain⟨c',x,e,hc,_⟩:=nL c n h h0 h1;unfold gG;rw[e,aA];exact⟨_,_,rfl,hc⟩
theorem MQ(c:bt)(l:aD)(h:cv c)(h0:0<l.length)(h1:l.length<=256):∃c' s,ji c l=some (c',s)/\cv c'/\s∈l:=by
 obtain⟨c',x,e,hc,hx,hx2⟩:=nL c (l.length:Int) h (by omega) (by omega);unfold ji;rw[az,e,aA];have hlt:x.toNat<l.length:=by omega
 have e2:lG l x=some l[x.toNat]:=by unfold lG;rw[bW hx,aK];exact aR hlt
 rw[e2,aA];exact⟨_,_,rfl,hc,pW hlt⟩
theorem HQ(c:bt)(h:cv c):∃c' s,gm c=some (c',s)/\cv c'/\s.length<=16:=by
 unfold gm;obtain⟨c',s,e,hc,hs⟩:=MQ c ([[97],[98],[99],[49],[50]]:aD) h (by decide) (by decide);rw[e,aA];have:∀s∈([[97],[98],[99],[49],[50]]:aD),s.length<=16:=by decide
 exact⟨_,_,rfl,hc,this s hs⟩
theorem BB(c:bt)(h:cv c):∃c' s,gq c=some (c',s)/\cv c'/\s.length<=16:=by
 unfold gq;generalize hl:([[97],[98],[111,110],[55],[49,48],[57,57,57,57],[49,48,48,48,48],[48,48,55],[48],[],[65],[63,120],[63,63],[63],[97,98,99,100,101,102,103,104],[97,98,99,100,101,102,103,104,105],[63,97,98,99,100,101,102,103,104],[97,45,98],[120,49],[49,120],[45,51]]:aD)=l;have h0:0<l.length/\l.length<=256/\∀s∈l,s.length<=16:=by subst hl;decide
 obtain⟨c',s,e,hc,hs⟩:=MQ c l h h0.1 h0.2.1;rw[e,aA];exact⟨_,_,rfl,hc,h0.2.2 s hs⟩
theorem HV(c:bt)(h:cv c):∃c' s,jt c=some (c',s)/\cv c'/\s.length<=16:=by
 unfold jt;obtain⟨c1,b,e,hc⟩:=G4 c 4 h (by decide) (by decide);rw[e,aA];cases b with
 |true=>
  obtain⟨c2,s,e2,qW,hs⟩:=HQ c1 hc;rw[aK,e2,aA];exact⟨_,_,rfl,qW,hs⟩
 |false=>
  obtain⟨c2,s,e2,qW,hs⟩:=MQ c1 ([[63,120],[63,121],[63,122]]:aD) hc (by decide) (by decide);rw[aP,e2,aA];have:∀s∈([[63,120],[63,121],[63,122]]:aD),s.length<=16:=by decide
  exact⟨_,_,rfl,qW,this s hs⟩
theorem Tu(c:bt)(h:cv c):∃c' r n,kp c=some (c',(r,n))/\cv c'/\r.length<=16/\0<=n/\n<=2:=by
 unfold kp;obtain⟨c1,x,e,hc,hx,hx2⟩:=nL c 6 h (by decide) (by decide);rw[e,aA];have key:x=0\/x=1\/x=2\/x=3\/x=4\/x=5:=by omega
 rcases key with rfl|rfl|rfl|rfl|rfl|rfl<;>exact⟨c1,_,_,rfl,hc,by decide,by decide,by decide⟩
def jY(k:Nat)(p:aJ):Prop:=p.rel.length<=16/\p.args.length<=k/\∀x∈p.args,x.length<=16
theorem Dn:∀(l:aD),(∀x∈l,x.length<=16)->v8 tw l<=17*l.length
 | [],_=>by simp[v8]
 |x::l,h=>by
  have h1:=Dn l fun y hy=>h y (by simp[hy])
  have h2:=h x (by simp);rw[mP,aO];unfold tw at*;omega
theorem OC(y:bt×(Bytes×Int))(k:bw->Int->Int->aD->Option (bt×aJ)):∀(m:Nat) (fu:Nat) (v:Int) (c:bt) (w:aD),y.2.2-v=(m:Int)->m<fu->0<=v->y.2.2<=100->w.length+m<=1000->cv c->(∀x∈w,x.length<=16)->
 ∃c' w',gi y k fu v c.b c.i c.h w=k c'.b c'.i c'.h w'/\cv c'/\w'.length<=w.length+m/\∀x∈w',x.length<=16:=by
 intro m
 induction m with
 |zero=>
  intro fu v c w hv hf h0 hy hw hc hx;cases fu with
  |zero=>omega
  |succ fu=>
   have e:decide (v<y.2.2)=false:=by simp;omega
   rw[gi,e,aP];exact⟨c,w,rfl,hc,by omega,hx⟩
 |succ m ih=>
  intro fu v c w hv hf h0 hy hw hc hx;cases fu with
  |zero=>omega
  |succ fu=>
   have e:decide (v<y.2.2)=true:=by simp;omega
   obtain⟨c1,s,e2,hc1,hs⟩:=HV c hc;have NX:jt (⟨c.b,c.i,c.h⟩:bt)=some (c1,s):=e2;have e3:IntKind.i64.wrap (v+1)=v+1:=iC (nk.i64.2 (by omega));rw[gi,e,aK,NX,aA,lV (by omega) (by decide),aK,e3];obtain⟨c',w',q1,q2,q3,q4⟩:=ih fu (v+1) c1 (w++[s]) (by omega) (by omega) (by omega) hy (by simp;omega) hc1 (fun x JE=>by
    rcases aH.1 JE with h|h
    ·exact hx x h
    ·simp at h;subst h;exact hs)
   exact⟨c',w',q1,q2,by simp at q3;omega,q4⟩
theorem Ei(c:bt)(h:cv c):∃c' p,fP c=some (c',p)/\cv c'/\jY 2 p:=by
 unfold fP;obtain⟨c1,r,n,e,hc,hr,hn,hn2⟩:=Tu c h;rw[e,aA];obtain⟨c',w',q1,q2,q3,q4⟩:=OC (c1,(r,n)) (fun a b d q=>some ((⟨a,b,d⟩:bt),(⟨r,q⟩:aJ))) n.toNat fuel 0 c1 [] (by simp;omega) (by unfold fuel;omega) (by omega) (by simp;omega) (by simp;omega) hc (by simp);exact⟨_,_,q1,q2,hr,by show w'.length<=2;simp at q3;omega,q4⟩
theorem Pg(c:bt)(h:cv c):∃c' p,nV c=some (c',p)/\cv c'/\jY 4 p:=by
 unfold nV;obtain⟨c1,p,e,hc,hp1,hp2,Qg⟩:=Ei c h;obtain⟨c2,x,e2,qW,hx,hx2⟩:=nL c1 10 hc (by decide) (by decide);rw[e,aA,e2,aA];cases(x==(0:Int))with
 |true=>
  obtain⟨c3,s,e3,uO,hs⟩:=BB c2 qW;rw[aK,e3,aA];exact⟨_,_,rfl,uO,hs,by show p.args.length<=4;omega,Qg⟩
 |false=>
  rw[aP];cases(x==(1:Int))with
  |true=>
   obtain⟨c3,s,e3,uO,hs⟩:=BB c2 qW;rw[aK,e3,aA,lV (w:=p.args) (by omega) (by decide),aK];refine⟨_,_,rfl,uO,hp1,by simp;omega,fun y hy=>?_⟩;rcases aH.1 hy with h|h
   ·exact Qg y h
   ·simp at h;subst h;exact hs
  |false=>
   rw[aP];cases(x==(2:Int))with
   |true=>
    obtain⟨c3,z,e3,uO,hz,Gx⟩:=nL c2 5 qW (by decide) (by decide);have e4:(decide (0<=z)&&decide (z.toNat<=(([[63,120],[63,120],[63,121],[63,120]]:aD).map tx).length))=true:=by simp;omega
    rw[aK,e3,aA,e4,aK];refine⟨_,_,rfl,uO,hp1,by simp[bK];omega,fun y hy=>?_⟩;have:∀s∈([[63,120],[63,120],[63,121],[63,120]]:aD),s.length<=16:=by decide
    exact this y (bC hy)
   |false=>exact⟨_,_,rfl,qW,hp1,by show p.args.length<=4;omega,Qg⟩
theorem Tq(code:bw)(h:code.length<=4096):∃c,p9 code=some c/\cv c:=by
 unfold p9;have key:∀(k:Int->Option bt) (r:bw) (i:Nat) (v:Int),∃z,jb code k r i v=k z:=by
  intro k r
  induction r with
  |nil=>intro i v;exact⟨v,rfl⟩
  |cons x r ih=>
   intro i v;rw[jb];cases decide ((i:Int)<4000)with
   |true=>exact ih _ _
   |false=>exact⟨v,rfl⟩
 obtain⟨z,e⟩:=key (fun z=>some (⟨code,0,z⟩:bt)) code 0 (IntKind.i64.wrap (851207+(IntKind.i64.wrap (3*((code.map yx).length:Int)))));rw[uC (by omega),aK,e];exact⟨_,rfl,by show(0:Int)<=0;omega,h⟩
end Go.Cx
namespace Go.Cx
open Go.RowKit Go.Proofs Tryz
theorem Cm(c:bt)(l:bw)(h:cv c)(h0:0<l.length)(h1:l.length<=256):∃c' s,ez c l=some (c',s)/\cv c'/\s∈l:=by
 obtain⟨c',x,e,hc,hx,hx2⟩:=nL c (l.length:Int) h (by omega) (by omega);unfold ez;rw[az,e,aA];have hlt:x.toNat<l.length:=by omega
 have e2:lG l x=some l[x.toNat]:=by unfold lG;rw[bW hx,aK];exact aR hlt
 rw[e2,aA];exact⟨_,_,rfl,hc,pW hlt⟩
theorem OB(y:bt×(Bytes×Int))(k:bw->Int->Int->aD->Option (bt×aJ)):∀(m:Nat) (fu:Nat) (v:Int) (c:bt) (w:aD),y.2.2-v=(m:Int)->m<fu->0<=v->y.2.2<=100->w.length+m<=1000->cv c->(∀x∈w,x.length<=16)->
 ∃c' w',gb y k fu v c.b c.i c.h w=k c'.b c'.i c'.h w'/\cv c'/\w'.length<=w.length+m/\∀x∈w',x.length<=16:=by
 intro m
 induction m with
 |zero=>
  intro fu v c w hv hf h0 hy hw hc hx;cases fu with
  |zero=>omega
  |succ fu=>
   have e:decide (v<y.2.2)=false:=by simp;omega
   rw[gb,e,aP];exact⟨c,w,rfl,hc,by omega,hx⟩
 |succ m ih=>
  intro fu v c w hv hf h0 hy hw hc hx;cases fu with
  |zero=>omega
  |succ fu=>
   have e:decide (v<y.2.2)=true:=by simp;omega
   obtain⟨c1,s,e2,hc1,hs⟩:=HQ c hc;have NX:gm (⟨c.b,c.i,c.h⟩:bt)=some (c1,s):=e2;have e3:IntKind.i64.wrap (v+1)=v+1:=iC (nk.i64.2 (by omega));rw[gb,e,aK,NX,aA,lV (by omega) (by decide),aK,e3];obtain⟨c',w',q1,q2,q3,q4⟩:=ih fu (v+1) c1 (w++[s]) (by omega) (by omega) (by omega) hy (by simp;omega) hc1 (fun x JE=>by
    rcases aH.1 JE with h|h
    ·exact hx x h
    ·simp at h;subst h;exact hs)
   exact⟨c',w',q1,q2,by simp at q3;omega,q4⟩
theorem Tv(c:bt)(h:cv c):∃c' r n,kp c=some (c',(r,n))/\cv c'/\r.length<=16/\0<=n/\n<=2/\r≠[110]:=by
 unfold kp;obtain⟨c1,x,e,hc,hx,hx2⟩:=nL c 6 h (by decide) (by decide);rw[e,aA];have key:x=0\/x=1\/x=2\/x=3\/x=4\/x=5:=by omega
 rcases key with rfl|rfl|rfl|rfl|rfl|rfl<;>exact⟨c1,_,_,rfl,hc,by decide,by decide,by decide,by decide⟩
theorem MI(c:bt)(h:cv c):∃c' p,lC c=some (c',p)/\cv c'/\jY 2 p/\p.rel≠[110]:=by
 unfold lC;obtain⟨c1,r,n,e,hc,hr,hn,hn2,YM⟩:=Tv c h;rw[e,aA];obtain⟨c',w',q1,q2,q3,q4⟩:=OB (c1,(r,n)) (fun a b d q=>some ((⟨a,b,d⟩:bt),(⟨r,q⟩:aJ))) n.toNat fuel 0 c1 [] (by simp;omega) (by unfold fuel;omega) (by omega) (by simp;omega) (by simp;omega) hc (by simp);exact⟨_,_,q1,q2,⟨hr,by show w'.length<=2;simp at q3;omega,q4⟩,YM⟩
theorem Tj(c:bt)(h:cv c):∃c' p,pE c=some (c',p)/\cv c'/\jY 4 p:=by
 unfold pE;obtain⟨c1,p,e,hc,⟨hp1,hp2,Qg⟩,_⟩:=MI c h;obtain⟨c2,x,e2,qW,hx,hx2⟩:=nL c1 10 hc (by decide) (by decide);rw[e,aA,e2,aA];cases(x==(0:Int))with
 |true=>
  obtain⟨c3,s,e3,uO,hs⟩:=BB c2 qW;rw[aK,e3,aA];exact⟨_,_,rfl,uO,hs,by show p.args.length<=4;omega,Qg⟩
 |false=>
  rw[aP];cases(x==(1:Int))with
  |true=>
   obtain⟨c3,s,e3,uO,hs⟩:=BB c2 qW;rw[aK,e3,aA,lV (w:=p.args) (by omega) (by decide),aK];refine⟨_,_,rfl,uO,hp1,by simp;omega,fun y hy=>?_⟩;rcases aH.1 hy with h|h
   ·exact Qg y h
   ·simp at h;subst h;exact hs
  |false=>
   rw[aP];cases(x==(2:Int))with
   |true=>
    obtain⟨c3,z,e3,uO,hz,Gx⟩:=nL c2 5 qW (by decide) (by decide);have e4:(decide (0<=z)&&decide (z.toNat<=(([[97],[98],[99],[97]]:aD).map tx).length))=true:=by simp;omega
    rw[aK,e3,aA,e4,aK];refine⟨_,_,rfl,uO,hp1,by simp[bK];omega,fun y hy=>?_⟩;have:∀s∈([[97],[98],[99],[97]]:aD),s.length<=16:=by decide
    exact this y (bC hy)
   |false=>exact⟨_,_,rfl,qW,hp1,by show p.args.length<=4;omega,Qg⟩
def nq(n:Nat)(l:aU):Prop:=l.length<=n/\∀f∈l,jY 4 f
theorem jY.le{k m:Nat}{p:aJ}(h:jY k p)(hm:k<=m):jY m p:=⟨h.1,by have:=h.2.1;omega,h.2.2⟩
theorem jY.copy{k:Nat}{p:aJ}(h:jY k p)(hk:k<=1000):p.args.length<=1099511627776:=by have:=h.2.1;omega
theorem RT(a:aU)(f:aJ)(K:Bool->aU->Option aU)(hf:jY 4 f):∀(rest:aU) (i:Nat) (v:Bool) (w:aU),(∀x∈rest,jY 4 x)->w.length+2*rest.length<=1000->
 ∃v' w',eb a f K rest i v w=K v' w'/\(∀x∈w',x∈w\/x∈rest\/x=f)/\w.length+rest.length<=w'.length/\
  (bif v then v'=true/\w'.length=w.length+rest.length else bif v' then w'.length<=w.length+rest.length+1/\((∀x∈rest,o8 x f≠0)->w'.length=w.length+rest.length+1)else w'.length=w.length+rest.length):=by
 intro rest
 induction rest with
 |nil=>
  intro i v w _ _;refine⟨v,w,rfl,fun x hx=>.inl hx,by simp,?_⟩;cases v<;>simp
 |cons x xs ih=>
  intro i v w hs hl;simp only[aO]at hl;have hx:=hs x (by simp);have hs':∀y∈xs,jY 4 y:=fun y hy=>hs y (by simp[hy])
  have cx:=HT x (hx.copy (by decide));have cf:=HT f (hf.copy (by decide));have nx:=fun w':aU=>fun h:w'.length<1099511627776=>lV (w:=w') (c:=aJ.c) (y:=[D.str x.rel,D.sl (x.args.map tx)]) (b:=40) h (by decide)
  have nf:=fun w':aU=>fun h:w'.length<1099511627776=>lV (w:=w') (c:=aJ.c) (y:=[D.str f.rel,D.sl (f.args.map tx)]) (b:=40) h (by decide)
  cases v with
  |true=>
   obtain⟨v',w',q1,q2,q3,q4⟩:=ih (i+1) true (w++[x]) hs' (by simp;omega);simp only[af,aO,bH,aK]at q3 q4;refine⟨v',w',?_,fun z hz=>?_,by simp only[aO];omega,?_⟩
   ·rw[eb,bX,aP,cx,aA,nx w (by omega),aK];exact q1
   ·rcases q2 z hz with h|h|h
    ·rcases aH.1 h with h|h
     ·exact .inl h
     ·simp at h;subst h;exact .inr (.inl (by simp))
    ·exact .inr (.inl (by simp[h]))
    ·exact .inr (.inr h)
   ·simp only[aK,aO];exact⟨q4.1,by omega⟩
  |false=>
   rw[eb,eZ,aK,Tm,aA];by_cases hge:o8 x f>=0
   ·rw[bW hge,aK,aA];by_cases hgt:o8 x f>0
    ·obtain⟨v',w',q1,q2,q3,q4⟩:=ih (i+1) true (w++[f]++[x]) hs' (by simp;omega);simp only[af,aO,bH,aK]at q3 q4;have e2:room (((w.map aJ.c)++[[D.str f.rel,D.sl (f.args.map tx)]]).length+[[D.str x.rel,D.sl (x.args.map tx)]].length) 40=true:=by
      have:=nx (w++[f]) (by simp;omega);rw[ar]at this;exact this
     refine⟨v',w',?_,fun z hz=>?_,by simp only[aO];omega,?_⟩
     ·rw[bW hgt,aK,cf,aA,nf w (by omega),aK,cx,aA,e2,aK];exact q1
     ·rcases q2 z hz with h|h|h
      ·rcases aH.1 h with h|h
       ·rcases aH.1 h with h|h
        ·exact .inl h
        ·simp at h;exact .inr (.inr h)
       ·simp at h;subst h;exact .inr (.inl (by simp))
      ·exact .inr (.inl (by simp[h]))
      ·exact .inr (.inr h)
     ·rw[q4.1];simp only[aP,aK,aO];exact⟨by omega,fun _=>by omega⟩
    ·have hz:o8 x f=0:=by omega
     obtain⟨v',w',q1,q2,q3,q4⟩:=ih (i+1) true (w++[x]) hs' (by simp;omega);simp only[af,aO,bH,aK]at q3 q4;refine⟨v',w',?_,fun z hz=>?_,by simp only[aO];omega,?_⟩
     ·rw[cA hgt,aP,cx,aA,nx w (by omega),aK];exact q1
     ·rcases q2 z hz with h|h|h
      ·rcases aH.1 h with h|h
       ·exact .inl h
       ·simp at h;subst h;exact .inr (.inl (by simp))
      ·exact .inr (.inl (by simp[h]))
      ·exact .inr (.inr h)
     ·rw[q4.1];simp only[aP,aK,aO];exact⟨by omega,fun h=>absurd hz (h x (by simp))⟩
   ·obtain⟨v',w',q1,q2,q3,q4⟩:=ih (i+1) false (w++[x]) hs' (by simp;omega);simp only[af,aO,bH,aP]at q3 q4;refine⟨v',w',?_,fun z hz=>?_,by simp only[aO];omega,?_⟩
    ·rw[cA hge,aP,cx,aA,nx w (by omega),aK];exact q1
    ·rcases q2 z hz with h|h|h
     ·rcases aH.1 h with h|h
      ·exact .inl h
      ·simp at h;subst h;exact .inr (.inl (by simp))
     ·exact .inr (.inl (by simp[h]))
     ·exact .inr (.inr h)
    ·cases v' with
     |true=>
      simp only[aK,aP,aO]at q4⊢;exact⟨by omega,fun h=>by have:=q4.2 (fun y hy=>h y (by simp[hy]));omega⟩
     |false=>simp only[aP,aO]at q4⊢;omega
theorem Pn(l:aU)(f:aJ){n:Nat}(hl:nq n l)(hn:n<=100)(hf:jY 4 f):∃l',lz l f=some l'/\nq (n+1) l'/\(∀x∈l',x∈l\/x=f)/\((∀x∈l,o8 x f≠0)->l'.length=l.length+1):=by
 unfold lz;obtain⟨v',w',q1,q2,q3,q4⟩:=RT l f (fun(vA:Bool) (n7:aU)=>(bif !(vA)then((gH f).bind fun DG=>(bif room ((n7.map aJ.c).length+([[D.str DG.rel,D.sl (DG.args.map tx)]]).length) 40 then(some (n7++([DG])))else none))else(some n7))) hf l 0 false [] hl.2 (by have:=hl.1;simp;omega);have Z7:=hl.1;simp only[bH,cP,aP]at q3 q4;have WI:∀x∈w',x∈l\/x=f:=fun x hx=>by
  rcases q2 x hx with h|h|h
  ·cases h
  ·exact .inl h
  ·exact .inr h
 have sm:∀x∈w',jY 4 x:=fun x hx=>by
  rcases WI x hx with h|h
  ·exact hl.2 x h
  ·rw[h];exact hf
 cases v' with
 |true=>
  simp only[aK]at q4;exact⟨w',q1,⟨by omega,sm⟩,WI,q4.2⟩
 |false=>
  simp only[aP]at q4;refine⟨w'++[f],?_,⟨by simp;omega,fun x hx=>?_⟩,fun x hx=>?_,fun _=>by simp;omega⟩
  ·rw[q1];show(bif !false then _ else _)=_;rw[eZ,aK,HT f (hf.copy (by decide)),aA,lV (w:=w') (c:=aJ.c) (y:=[D.str f.rel,D.sl (f.args.map tx)]) (by omega) (by decide),aK]
  ·rcases aH.1 hx with h|h
   ·exact sm x h
   ·simp at h;subst h;exact hf
  ·rcases aH.1 hx with h|h
   ·exact WI x h
   ·simp at h;exact .inr h
theorem Tw(k:bw->Int->Int->aU->Option (bt×aU)):∀(m:Nat) (fu:Nat) (v:Int) (c:bt) (w:aU) (n:Nat),v=(m:Int)->m<fu->m<=50->n+m<=60->cv c->nq n w->(∀x∈w,x.rel≠[110])->
 ∃c' w',iX k fu v c.b c.i c.h w=k c'.b c'.i c'.h w'/\cv c'/\nq (n+m) w'/\∀x∈w',x.rel≠[110]:=by
 intro m
 induction m with
 |zero=>
  intro fu v c w n hv hf hm hn hc hw hr;cases fu with
  |zero=>omega
  |succ fu=>
   have e:decide (v>0)=false:=by simp;omega
   rw[iX,e,aP];exact⟨c,w,rfl,hc,hw,hr⟩
 |succ m ih=>
  intro fu v c w n hv hf hm hn hc hw hr;cases fu with
  |zero=>omega
  |succ fu=>
   have e:decide (v>0)=true:=by simp;omega
   obtain⟨c1,f,e2,hc1,UP,SV⟩:=MI c hc;have NX:lC (⟨c.b,c.i,c.h⟩:bt)=some (c1,f):=e2;obtain⟨w1,e4,hw1,hm1,_⟩:=Pn w f hw (by omega) (UP.le (by decide));have e3:IntKind.i64.wrap (v-1)=v-1:=iC (nk.i64.2 (by omega));rw[iX,e,aK,NX,aA,e4,aA,e3];obtain⟨c',w',q1,q2,q3,q4⟩:=ih fu (v-1) c1 w1 (n+1) (by omega) (by omega) (by omega) (by omega) hc1 hw1 (fun x hx=>by
    rcases hm1 x hx with h|h
    ·exact hr x h
    ·rw[h];exact SV)
   exact⟨c',w',q1,q2,⟨by have:=q3.1;omega,q3.2⟩,q4⟩
theorem Pq(c:bt)(n:Int)(h:cv c)(h0:0<=n)(hn:n<=40):∃c' l,kq c n=some (c',l)/\cv c'/\nq 40 l/\∀x∈l,x.rel≠[110]:=by
 unfold kq;have e3:IntKind.i64.wrap (n+1)=n+1:=iC (nk.i64.2 (by omega));obtain⟨c1,x,e,hc,hx,hx2⟩:=nL c (n+1) h (by omega) (by omega);rw[e3,e,aA];obtain⟨c',w',q1,q2,q3,q4⟩:=Tw (fun a b d q=>some ((⟨a,b,d⟩:bt),q)) x.toNat fuel x c1 [] 0 (by omega) (by unfold fuel;omega) (by omega) (by omega) hc ⟨by simp,by simp⟩ (by simp);exact⟨_,_,q1,q2,⟨by have:=q3.1;omega,q3.2⟩,q4⟩
def KX(j:Nat):Bytes:=if j<10 then [UInt8.ofNat (48+j)]else [UInt8.ofNat (48+j/10),UInt8.ofNat (48+j%10)]
theorem E7{j:Nat}(h:j<100):Lib.decDigits j=KX j:=by
 unfold KX;by_cases h1:j<10
 ·rw[av h1,Lib.decDigits,dif_pos h1]
 ·rw[ai h1,Lib.decDigits,dif_neg h1,Lib.decDigits,dif_pos (by omega)];rfl
theorem FK:∀j,j<25->Lib.decFrom 0 (KX j)=some j/\1<=(KX j).length/\(KX j).length<=4:=by decide
theorem Fu{j:Nat}(h:j<25):qR (Lib.decDigits j)=some j:=by
 rw[E7 (by omega)];obtain⟨h1,h2,h3⟩:=FK j h;unfold qR;rw[av ⟨h2,h3⟩,h1];simp only;rw[av (E7 (by omega))]
def zw(j:Nat):aJ:=⟨[110],[Lib.decDigits j]⟩
theorem Lw{i j:Nat}(hi:i<25)(hj:j<25)(h:i≠j):o8 (zw i) (zw j)≠0:=by
 have:tJ (Lib.decDigits i) (Lib.decDigits j)≠0:=by
  unfold tJ;rw[Fu hi,Fu hj];unfold yM;simp only;split
  ·omega
  ·split<;>omega
 unfold o8 zw cmpL nK;simp only[ne_eq,not_true_eq_false,rW,this,not_false_eq_true,kM]
theorem Fq{j:Nat}(h:j<25):jY 4 (zw j):=by
 refine⟨by simp[zw],by simp[zw],fun x hx=>?_⟩;simp only[zw,cO]at hx;subst hx;rw[E7 (by omega)];have:=(FK j h).2.2;omega
theorem RS(y:bt×Int)(k:aU->Option (bt×aU))(n0:Nat):∀(m:Nat) (fu:Nat) (j:Nat) (w:aU),j+m=25->m<fu->n0<=40->nq (n0+j) w->j<=w.length->(∀x∈w,x.rel≠[110]\/∃i,i<j/\x=zw i)->
 ∃w',gh y k fu (j:Int) w=k w'/\nq (n0+25) w'/\25<=w'.length:=by
 intro m
 induction m with
 |zero=>
  intro fu j w hj hf hn hw hl hx;cases fu with
  |zero=>omega
  |succ fu=>
   have e:decide ((j:Int)<25)=false:=by simp;omega
   rw[gh,e,aP];exact⟨w,rfl,by rw[show n0+25=n0+j from by omega];exact hw,by omega⟩
 |succ m ih=>
  intro fu j w hj hf hn hw hl hx;cases fu with
  |zero=>omega
  |succ fu=>
   have e:decide ((j:Int)<25)=true:=by simp;omega
   have e1:iz (j:Int)=some (Lib.decDigits j):=by
    rw[To _ (nk.i64.2 (by omega))];unfold Lib.itoa;rw[ai (by omega)];rfl
   obtain⟨w1,e4,hw1,hm1,hlen⟩:=Pn w (zw j) hw (by omega) (Fq (by omega));have Xc:lz w (⟨[110],[Lib.decDigits j]⟩:aJ)=some w1:=e4;have e3:IntKind.i64.wrap ((j:Int)+1)=((j+1:Nat):Int):=by rw[iC (nk.i64.2 (by omega))];rfl
   have hlen:=hlen (fun x JE=>by
    rcases hx x JE with h|⟨i,hi,rfl⟩
    ·unfold o8;rw[av (by exact h)];exact E6 h
    ·exact Lw (by omega) (by omega) (by omega))
   rw[gh,e,aK,e1,aA,Xc,aA,e3];exact ih fu (j+1) w1 (by omega) (by omega) hn hw1 (by omega) (fun x JE=>by
    rcases hm1 x JE with h|h
    ·rcases hx x h with h|⟨i,hi,rfl⟩
     ·exact .inl h
     ·exact .inr ⟨i,by omega,rfl⟩
    ·exact .inr ⟨j,by omega,h⟩)
theorem RR(c:bt)(h:cv c):∃c' l,lD c=some (c',l)/\cv c'/\nq 65 l:=by
 unfold lD;obtain⟨c1,l,e,hc,hl,hr⟩:=Pq c 6 h (by decide) (by decide);obtain⟨c2,x,e2,qW,hx,hx2⟩:=nL c1 8 hc (by decide) (by decide);rw[e,aA,e2,aA];have hl1:=hl.1;cases(x==(0:Int))with
 |true=>
  obtain⟨c3,f,e3,uO,hf⟩:=Tj c2 qW;rw[aK,e3,aA,lV (w:=l) (c:=aJ.c) (y:=[D.str f.rel,D.sl (f.args.map tx)]) (by omega) (by decide),aK];refine⟨_,_,rfl,uO,by simp;omega,fun y hy=>?_⟩;rcases aH.1 hy with h|h
  ·exact hl.2 y h
  ·simp at h;subst h;exact hf
 |false=>
  rw[aP];cases(x==(1:Int))with
  |true=>
   rw[aK];obtain⟨w',q1,q2,q3⟩:=RS (c2,x) (fun(n7:aU)=>((ez c2 ([23,24,25]:bw)).bind fun yw=>(bif decide (0<=(yw.2:Int))&&decide (yw.2.toNat<=(n7.map aJ.c).length)then(some (yw.1,n7.take yw.2.toNat))else none))) 40 25 fuel 0 l (by omega) (by unfold fuel;omega) (by omega) hl (by omega) (fun y hy=>.inl (hr y hy));obtain⟨c3,z,e3,uO,hz⟩:=Cm c2 [23,24,25] qW (by decide) (by decide);have Gx:0<=z/\z<=25:=by
    have:∀s∈([23,24,25]:bw),0<=s/\s<=25:=by decide
    exact this z hz
   have e4:(decide (0<=z)&&decide (z.toNat<=(w'.map aJ.c).length))=true:=by simp;omega
   refine⟨c3,w'.take z.toNat,?_,uO,by have:=q2.1;simp;omega,fun y hy=>q2.2 y (bC hy)⟩;refine Eq.trans q1 ?_;show((ez c2 [23,24,25]).bind _)=_;rw[e3,aA,e4,aK]
  |false=>exact⟨_,_,rfl,qW,by show l.length<=65;omega,hl.2⟩
end Go.Cx
namespace Go.Cx
open Go.RowKit Go.Proofs Tryz
def ua(c:aT):Prop:=jY 4 c.pat/\c.left.length<=16/\c.right.length<=16
def E0(a:Action):Prop:=jY 4 a.pat
def ou(n:Nat)(r:aZ):Prop:=r.name.length<=16/\(r.conds.length<=n/\∀c∈r.conds,ua c)/\(r.cJ.length<=n/\∀a∈r.cJ,E0 a)
theorem By{α:Type}{w:α->Nat}{B:Nat}:∀(l:List α),(∀x∈l,w x<=B)->v8 w l<=(B+1)*l.length
 | [],_=>by simp[v8]
 |x::l,h=>by
  have h1:=By l fun y hy=>h y (by simp[hy])
  have h2:=h x (by simp);rw[mP,aO,Nat.mul_add];omega
theorem jY.WR{p:aJ}(h:jY 4 p):tw p.rel+v8 tw p.args<=100:=by
 have:=Dn p.args h.2.2;have h1:=h.1;have h2:=h.2.1;unfold tw at*;omega
theorem ua.wt{c:aT}(h:ua c):c.wt<=200:=by
 have h1:=h.1.WR;have h2:=h.2.1;have h3:=h.2.2;unfold aT.wt;unfold tw at*;omega
theorem E0.wt{a:Action}(h:E0 a):a.wt<=200:=by
 have h1:=jY.WR h;unfold Action.wt;unfold tw at*;omega
theorem ou.wt{n:Nat}{r:aZ}(h:ou n r)(hn:n<=1000):r.wt<=1048576:=by
 obtain⟨h1,⟨h2,h3⟩,h4,h5⟩:=h;have c1:=By (w:=aT.wt) (B:=200) r.conds (fun x hx=>(h3 x hx).wt);have c2:=By (w:=Action.wt) (B:=200) r.cJ (fun x hx=>(h5 x hx).wt);have d1:(200+1)*r.conds.length<=201*1000:=fe _ (by omega);have d2:(200+1)*r.cJ.length<=201*1000:=fe _ (by omega);unfold aZ.wt;unfold tw at*;omega
def Bu(p:aJ):Bool:=decide (p.rel.length<=16)&&(decide (p.args.length<=4)&&p.args.all fun x=>decide (x.length<=16))
theorem Df{p:aJ}(h:Bu p=true):jY 4 p:=by
 unfold Bu at h;simp only[aN,bJ,aQ]at h;exact h
def El(r:aZ):Bool:=(decide (r.name.length<=16)&&((decide (r.conds.length<=4)&&r.conds.all fun c=>Bu c.pat&&(decide (c.left.length<=16)&&decide (c.right.length<=16)))&&(decide (r.cJ.length<=4)&&r.cJ.all fun a=>Bu a.pat)))&&(decide (1<=r.conds.length)&&decide (1<=r.cJ.length))
theorem Jb{r:aZ}(h:El r=true):ou 4 r/\1<=r.conds.length/\1<=r.cJ.length:=by
 unfold El at h;simp only[aN,bJ,aQ]at h;obtain⟨⟨h1,⟨h2,h3⟩,h4,h5⟩,h6,h7⟩:=h;exact⟨⟨h1,⟨h2,fun c hc=>⟨Df (h3 c hc).1,(h3 c hc).2⟩⟩,h4,fun a ha=>Df (h5 a ha)⟩,h6,h7⟩
theorem RZ(c:bt)(l r:Bytes)(h:cv c)(hl:l.length<=16)(hr:r.length<=16):∃c' x,oC c l r=some (c',x)/\cv c'/\ua x:=by
 unfold oC;obtain⟨c1,k,e,hc,_⟩:=Cm c [3,4,4,5] h (by decide) (by decide);rw[e,aA];exact⟨_,_,rfl,hc,⟨by simp,by simp,by simp⟩,hl,hr⟩
theorem MG(c:bt)(h:cv c):∃c' x,lE c=some (c',x)/\cv c'/\ua x:=by
 unfold lE;obtain⟨c1,k,e,hc,_,_⟩:=nL c 5 h (by decide) (by decide);rw[e,aA];have one:∀k:Int,∃c' x,((fP c1).bind fun y4=>(some (y4.1,(⟨k,y4.2,[],[]⟩:aT))))=some (c',x)/\cv c'/\ua x:=fun k=>by
  obtain⟨c2,p,e2,qW,hp⟩:=Ei c1 hc;rw[e2,aA];exact⟨_,_,rfl,qW,⟨hp.1,by have:=hp.2.1;show p.args.length<=4;omega,hp.2.2⟩,by simp,by simp⟩
 cases(k==(0:Int))with
 |true=>rw[aK];exact one 1
 |false=>
  rw[aP];cases(k==(1:Int))with
  |true=>rw[aK];exact one 1
  |false=>
   rw[aP];cases(k==(2:Int))with
   |true=>rw[aK];exact one 2
   |false=>
    obtain⟨c2,l,e2,qW,hl⟩:=HV c1 hc;obtain⟨c3,r,e3,uO,hr⟩:=HV c2 qW;obtain⟨c4,x,e4,Ko,hx⟩:=RZ c3 l r uO hl hr;rw[aP,e2,aA,e3,aA,e4,aA];exact⟨_,_,rfl,Ko,hx⟩
theorem Th(c:bt)(h:cv c):∃c' x,pG c=some (c',x)/\cv c'/\ua x:=by
 unfold pG;obtain⟨c1,x,e,hc,hx⟩:=MG c h;obtain⟨c2,k,e2,qW,_,_⟩:=nL c1 12 hc (by decide) (by decide);rw[e,aA,e2,aA];cases(k==(0:Int))with
 |true=>
  obtain⟨c3,n,e3,uO,_⟩:=Cm c2 [0,1,3,5,6, -1] qW (by decide) (by decide);rw[aK,e3,aA];exact⟨_,_,rfl,uO,hx⟩
 |false=>
  rw[aP];cases(k==(1:Int))with
  |true=>
   obtain⟨c3,s,e3,uO,hs⟩:=BB c2 qW;rw[aK,e3,aA];exact⟨_,_,rfl,uO,hx.1,hs,hx.2.2⟩
  |false=>
   rw[aP];cases(k==(2:Int))with
   |true=>
    obtain⟨c3,p,e3,uO,hp⟩:=Pg c2 qW;rw[aK,e3,aA];exact⟨_,_,rfl,uO,hp,hx.2⟩
   |false=>exact⟨_,_,rfl,qW,hx⟩
def IS(s:Bytes):Bool:=match kB s with
 |some (r,_)=>El r&&jg r
 |none=>false
def F2(r:aZ):Prop:=ou 4 r/\jg r=true/\1<=r.conds.length/\1<=r.cJ.length
theorem OD(K:aD)(c:bt)(m:Int)(h:cv c)(hm:0<m)(h0:0<K.length)(h1:K.length<=256)(hK:K.all IS=true):
 ∃c' r,((cH c (EN m ((K.map tx).length:Int))).bind fun y1=>((lG K y1.2).bind fun x3=>((kB x3).bind fun y5=>(some (y1.1,y5.1)))))=some (c',r)/\cv c'/\F2 r:=by
 have hlen:((K.map tx).length:Int)=(K.length:Int):=by simp
 have hmin:0<EN m ((K.map tx).length:Int)/\EN m ((K.map tx).length:Int)<=(K.length:Int):=by
  unfold EN;rw[hlen];split<;>omega
 obtain⟨c1,x,e,hc,hx,hx2⟩:=nL c _ h hmin.1 (by omega);have hlt:x.toNat<K.length:=by omega
 have e2:lG K x=some K[x.toNat]:=by unfold lG;rw[bW hx,aK];exact aR hlt
 have hk:=aQ.1 hK _ (pW hlt);unfold IS at hk;rw[e,aA,e2,aA];cases hp:kB K[x.toNat]with
 |none=>rw[hp]at hk;cases hk
 |some p=>
  rw[hp]at hk;simp only[aN]at hk;obtain⟨q1,q2,q3⟩:=Jb hk.1;exact⟨_,_,rfl,hc,q1,hk.2,q2,q3⟩
theorem MK(c:bt)(m:Int)(h:cv c)(hm:0<m):∃c' r,jL c m=some (c',r)/\cv c'/\F2 r:=by
 unfold jL;refine OD _ c m h hm ?_ ?_ ?_
 ·decide
 ·decide
 ·kernel_rfl
theorem OF(y1:bt×Int):∀(m:Nat) (fu:Nat) (v:Int) (c:bt) (w:bN),v=(m:Int)->m<fu->m<=50->w.length+m<=100->cv c->(∀x∈w,ua x)->
 ∃c' w',(∀k,fJ y1 k fu v c.b c.i c.h w=k c'.b c'.i c'.h w')/\cv c'/\w'.length=w.length+m/\∀x∈w',ua x:=by
 intro m
 induction m with
 |zero=>
  intro fu v c w hv hf hm hn hc hw;cases fu with
  |zero=>omega
  |succ fu=>
   have e:decide (v>0)=false:=by simp;omega
   exact⟨c,w,fun k=>by rw[fJ,e,aP],hc,rfl,hw⟩
 |succ m ih=>
  intro fu v c w hv hf hm hn hc hw;cases fu with
  |zero=>omega
  |succ fu=>
   have e:decide (v>0)=true:=by simp;omega
   obtain⟨c1,x,e2,hc1,hx⟩:=MG c hc;have NX:lE (⟨c.b,c.i,c.h⟩:bt)=some (c1,x):=e2;have e3:IntKind.i64.wrap (v-1)=v-1:=iC (nk.i64.2 (by omega));obtain⟨c',w',q1,q2,q3,q4⟩:=ih fu (v-1) c1 (w++[x]) (by omega) (by omega) (by omega) (by simp;omega) hc1 (fun y hy=>by
    rcases aH.1 hy with h|h
    ·exact hw y h
    ·simp at h;subst h;exact hx)
   exact⟨c',w',fun k=>by rw[fJ,e,aK,NX,aA,lV (by omega) (by decide),aK,e3];exact q1 k,q2,by simp at q3;omega,q4⟩
theorem OG(y1:bt×Int)(q:bN)(y:aD)(rM:bt×aJ):∀(m:Nat) (fu:Nat) (v:Nat) (c:bt) (w:aD),w.length=v+m->m<fu->w.length<=100->cv c->(∀x∈w,x.length<=16)->
 ∃c' w',(∀k,cQ y1 q y rM k fu (v:Int) c.b c.i c.h w=k c'.b c'.i c'.h w')/\cv c'/\w'.length=w.length/\∀x∈w',x.length<=16:=by
 intro m
 induction m with
 |zero=>
  intro fu v c w hv hf hm hc hw;cases fu with
  |zero=>omega
  |succ fu=>
   have e:decide ((v:Int)<((w.map tx).length:Int))=false:=by simp;omega
   exact⟨c,w,fun k=>by rw[cQ,e,aP],hc,rfl,hw⟩
 |succ m ih=>
  intro fu v c w hv hf hm hc hw;cases fu with
  |zero=>omega
  |succ fu=>
   have e:decide ((v:Int)<((w.map tx).length:Int))=true:=by simp;omega
   have hlt:v<w.length:=by omega
   have e1:lG w (v:Int)=some w[v]:=by unfold lG;rw[bW (by omega),aK];exact aR hlt
   have hx:=hw w[v] (pW hlt);have e4:IntKind.i64.wrap ((v:Int)+1)=((v+1:Nat):Int):=by rw[iC (nk.i64.2 (by omega))];rfl
   have st:∀k,cQ y1 q y rM k (fu+1) (v:Int) c.b c.i c.h w=(bif kR w[v]then(bif !(y.contains w[v])then((gm (⟨c.b,c.i,c.h⟩:bt)).bind fun UY=>cQ y1 q y rM k fu ((v+1:Nat):Int) UY.1.b UY.1.i UY.1.h (w.set (v:Int).toNat UY.2))else cQ y1 q y rM k fu ((v+1:Nat):Int) c.b c.i c.h w)else cQ y1 q y rM k fu ((v+1:Nat):Int) c.b c.i c.h w):=by
    intro k;rw[cQ,e,aK,e1,aA,MS w[v] (by omega),aA,e4,Ja,aA]
   obtain⟨c0,w0,p1,p2,p3,p4⟩:=ih fu (v+1) c w (by omega) (by omega) hm hc hw;cases Su:kR w[v]with
   |false=>exact⟨c0,w0,fun k=>by rw[st k,Su,aP];exact p1 k,p2,p3,p4⟩
   |true=>
    cases GL:y.contains w[v]with
    |true=>exact⟨c0,w0,fun k=>by rw[st k,Su,GL,aK,bX,aP];exact p1 k,p2,p3,p4⟩
    |false=>
     obtain⟨c1,s,e2,hc1,hs⟩:=HQ c hc;have NX:gm (⟨c.b,c.i,c.h⟩:bt)=some (c1,s):=e2;obtain⟨c',w',q1,q2,q3,q4⟩:=ih fu (v+1) c1 (w.set (v:Int).toNat s) (by simp;omega) (by omega) (by simpa using hm) hc1 (fun x JE=>by
      rcases ng JE with h|h
      ·exact hw x h
      ·subst h;exact hs)
     exact⟨c',w',fun k=>by rw[st k,Su,GL,aK,eZ,aK,NX,aA];exact q1 k,q2,by simpa using q3,q4⟩
theorem Tt(c:bt)(h:cv c):∃c' r,mO c=some (c',r)/\cv c'/\F2 r:=by
 unfold mO;obtain⟨c1,n,e1,hc1,_,_⟩:=nL c 4 h (by decide) (by decide);obtain⟨c2,p,e2,qW,hp⟩:=Ei c1 hc1;obtain⟨c3,m,e3,uO,hm,hm2⟩:=nL c2 3 qW (by decide) (by decide);rw[e1,aA,e2,aA,e3,aA];have YH:jY 4 p:=⟨hp.1,by have:=hp.2.1;omega,hp.2.2⟩
 obtain⟨c4,cs,q1,Ko,Gj,Wx⟩:=OF (c1,n) m.toNat fuel m c3 [(⟨1,p,[],[]⟩:aT)] (by omega) (by unfold fuel;omega) (by omega) (by simp;omega) uO (fun x hx=>by
  simp at hx;subst hx;exact⟨YH,by simp,by simp⟩)
 have hcs:1<=cs.length/\cs.length<=3:=by simp at Gj;omega
 rw[q1];dsimp only;have hw0:(⟨[114],n,cs,[]⟩:aZ).wt<=1048576:=ou.wt (n:=4) ⟨by simp,⟨by show cs.length<=4;omega,Wx⟩,by simp,by simp⟩ (by decide);obtain⟨c5,q,e5,V2,hq⟩:=Ei c4 Ko;have Xd:fP (⟨c4.b,c4.i,c4.h⟩:bt)=some (c5,q):=e5;rw[HR (⟨[114],n,cs,[]⟩:aZ) _ hw0,aA,Xd,aA];dsimp only;obtain⟨c6,qa,r1,Xu,r3,r4⟩:=OG (c1,n) cs (cc (qJ (⟨[114],n,cs,[]⟩:aZ) ((cs.map aT.c).length:Int))) (c5,q) q.args.length fuel 0 c5 q.args (by simp) (by have:=hq.2.1;unfold fuel;omega) (by have:=hq.2.1;omega) V2 hq.2.2;have X4:=r1;rw[show((0:Nat):Int)=0 from rfl]at X4;rw[X4];obtain⟨c7,k,e7,Xv,_⟩:=Cm c6 [1,1,2] Xu (by decide) (by decide);have Xe:ez (⟨c6.b,c6.i,c6.h⟩:bt) [1,1,2]=some (c7,k):=e7;obtain⟨c8,b,e8,Wi⟩:=G4 c7 6 Xv (by decide) (by decide);have MB:∀n,n<=4->room n 48=true:=fun n hn=>A8 (by omega) (by decide)
 rw[Xe,aA];dsimp only;rw[MB _ (by simp),aK,e8,aA];have Wt:jY 4 (⟨q.rel,qa⟩:aJ):=⟨hq.1,by show qa.length<=4;have:=hq.2.1;omega,r4⟩
 have fin:∀(al:iD),1<=al.length->al.length<=2->(∀a∈al,E0 a)->∃c' r,((jC (⟨[114],n,cs,al⟩:aZ)).bind fun Yz=>(bif !(Yz)then((jL c8 99).bind fun XW=>(some (XW.1,XW.2)))else(some (c8,(⟨[114],n,cs,al⟩:aZ)))))=some (c',r)/\cv c'/\F2 r:=by
  intro al Xq Z5 ha;have Wz:ou 4 (⟨[114],n,cs,al⟩:aZ):=⟨by simp,⟨by show cs.length<=4;omega,Wx⟩,by show al.length<=4;omega,ha⟩
  rw[Pp _ (Wz.wt (by decide)),aA];cases hr:jg (⟨[114],n,cs,al⟩:aZ)with
  |true=>exact⟨_,_,rfl,Wi,Wz,hr,hcs.1,Xq⟩
  |false=>
   obtain⟨c9,r,e9,Xw,YI⟩:=MK c8 99 Wi (by decide);rw[eZ,aK,e9,aA];exact⟨_,_,rfl,Xw,YI⟩
 cases b with
 |true=>
  dsimp only;rw[aK,MB _ (by simp),aK];exact fin _ (by simp) (by simp) (fun a ha=>by
   simp at ha;rcases ha with rfl|rfl
   ·exact Wt
   ·exact⟨by simp,by simp,by simp⟩)
 |false=>
  dsimp only;rw[aP];exact fin _ (by simp) (by simp) (fun a ha=>by
   simp at ha;subst ha;exact Wt)
theorem MH(c:bt)(h:cv c):∃c' r,mW c=some (c',r)/\cv c'/\F2 r:=by
 unfold mW;obtain⟨c1,b,e,hc⟩:=G4 c 3 h (by decide) (by decide);rw[e,aA];cases b with
 |true=>
  obtain⟨c2,r,e2,qW,hr⟩:=Tt c1 hc;rw[aK,e2,aA];exact⟨_,_,rfl,qW,hr⟩
 |false=>
  obtain⟨c2,r,e2,qW,hr⟩:=MK c1 99 hc (by decide);rw[aP,e2,aA];exact⟨_,_,rfl,qW,hr⟩
theorem ou.le{n m:Nat}{r:aZ}(h:ou n r)(hm:n<=m):ou m r:=⟨h.1,⟨by have:=h.2.1.1;omega,h.2.1.2⟩,by have:=h.2.2.1;omega,h.2.2.2⟩
theorem Ti(c:bt)(h:cv c):∃c' r,pH c=some (c',r)/\cv c'/\ou 5 r:=by
 unfold pH;obtain⟨c1,r,e,hc,hg,_,g1,g2⟩:=MH c h;obtain⟨c2,x,e2,qW,_,_⟩:=nL c1 14 hc (by decide) (by decide);have hr:=hg.le (m:=5) (by decide);have hl1:=hg.2.1.1;have uP:=hg.2.2.1;rw[e,aA,e2,aA];cases(x==(0:Int))with
 |true=>
  obtain⟨c3,s,e3,uO,hs⟩:=BB c2 qW;rw[aK,e3,aA];exact⟨_,_,rfl,uO,hs,hr.2⟩
 |false=>
  rw[aP];cases(x==(1:Int))with
  |true=>
   obtain⟨c3,s,e3,uO,_⟩:=Cm c2 [-1,0,9,10] qW (by decide) (by decide);rw[aK,e3,aA];exact⟨_,_,rfl,uO,hr⟩
  |false=>
   rw[aP];cases(x==(2:Int))with
   |true=>
    obtain⟨c3,k,e3,uO,hk⟩:=Th c2 qW;rw[aK,e3,aA,lV (by show r.conds.length<_;omega) (by decide),aK];refine⟨_,_,rfl,uO,hr.1,⟨by simp;omega,fun y hy=>?_⟩,hr.2.2⟩;rcases aH.1 hy with h|h
    ·exact hr.2.1.2 y h
    ·simp at h;subst h;exact hk
   |false=>
    rw[aP];cases(x==(3:Int))with
    |true=>
     obtain⟨c3,k,e3,uO,_⟩:=Cm c2 [0,1,2,3,4] qW (by decide) (by decide);obtain⟨c4,p,e4,Ko,hp⟩:=Pg c3 uO;rw[aK,e3,aA,e4,aA,lV (by show r.cJ.length<_;omega) (by decide),aK];refine⟨_,_,rfl,Ko,hr.1,hr.2.1,by simp;omega,fun y hy=>?_⟩;rcases aH.1 hy with h|h
     ·exact hr.2.2.2 y h
     ·simp at h;subst h;exact hp
    |false=>
     rw[aP];cases(x==(4:Int))with
     |true=>
      rw[aK,IW (by simpa using g1),aA];exact⟨_,_,rfl,qW,hr.1,⟨by rw[jv,bK];show min _ r.conds.length-1<=5;omega,fun y hy=>hr.2.1.2 y (bC (cM hy))⟩,hr.2.2⟩
     |false=>
      rw[aP];cases(x==(5:Int))with
      |true=>
       rw[aK,IW (by simpa using g2),aA];exact⟨_,_,rfl,qW,hr.1,hr.2.1,by rw[jv,bK];show min _ r.cJ.length-1<=5;omega,fun y hy=>hr.2.2.2 y (bC (cM hy))⟩
      |false=>
       rw[aP];cases(x==(6:Int))with
       |true=>
        obtain⟨c3,s,e3,uO,hs⟩:=MQ c2 [[63,102],[63,97],[63,103]] qW (by decide) (by decide);obtain⟨c4,k,e4,Ko,_⟩:=Cm c3 [1,2] uO (by decide) (by decide);obtain⟨c5,t,e5,V2,ht⟩:=MQ c4 [[63,102],[63,120]] Ko (by decide) (by decide);have hs2:s.length<=16:=by
         have:∀s∈([[63,102],[63,97],[63,103]]:aD),s.length<=16:=by decide
         exact this s hs
        have ht2:t.length<=16:=by
         have:∀s∈([[63,102],[63,120]]:aD),s.length<=16:=by decide
         exact this t ht
        rw[aK,e3,aA,e4,aA,e5,aA];refine⟨_,_,rfl,V2,hr.1,⟨by simp,fun y hy=>?_⟩,by simp,fun y hy=>?_⟩
        ·simp at hy;rcases hy with rfl|rfl|rfl
         ·exact⟨⟨by simp,by simp,by simp⟩,by simp,by simp⟩
         ·exact⟨⟨by simp,by simp,by simpa using hs2⟩,by simp,by simp⟩
         ·exact⟨⟨by simp,by simp,by simpa using ht2⟩,by simp,by simp⟩
        ·simp at hy;subst hy;exact⟨by simp,by simp,by simp⟩
       |false=>exact⟨_,_,rfl,qW,hr⟩
end Go.Cx
namespace Go.Cx
open Go.RowKit Go.Proofs Tryz
theorem DQ{a b:Bytes}(h:oh a b>0):oh b a<0:=by
 unfold oh at h⊢;by_cases h1:Op.bytesLess a b=true
 ·rw[av h1]at h;omega
 ·rw[ai h1]at h;by_cases h2:a=b
  ·rw[av h2]at h;omega
  ·have h3:Op.bytesLess b a=true:=by
    cases hb:Op.bytesLess b a with
    |true=>rfl
    |false=>exact absurd (vv (by simpa using h1) hb) h2
   rw[av h3];omega
theorem DS{a b:Bytes}(h:oh a b=0):a=b:=cS fun hne=>E6 hne h
theorem C7{a b:Bytes}(h:oh a b<0):oh b a>0:=by
 unfold oh at h⊢;by_cases h1:Op.bytesLess a b=true
 ·have h3:=zC h1;have h4:¬(Op.bytesLess b a=true):=by rw[h3];simp
  have h5:¬b=a:=fun e=>by subst e;rw[jy]at h1;cases h1
  rw[ai h4,ai h5];omega
 ·rw[ai h1]at h;by_cases h2:a=b
  ·rw[av h2]at h;omega
  ·rw[ai h2]at h;omega
theorem DP(a b:Bytes):(tJ a b>0->tJ b a<0)/\(tJ a b=0->a=b)/\(tJ a b<0->tJ b a>0):=by
 have num:∀ {s:Bytes} {n:Nat},qR s=some n->Lib.decDigits n=s:=by
  intro s n h;unfold qR at h;split at h
  ·split at h
   ·split at h
    ·rename_i h2;cases h;exact h2
    ·cases h
   ·cases h
  ·cases h
 unfold tJ;cases ha:qR a with
 |none=>
  cases hb:qR b with
  |none=>exact⟨DQ,DS,C7⟩
  |some y=>simp
 |some x=>
  cases hb:qR b with
  |none=>simp
  |some y=>
   simp only[yM];refine⟨fun h=>?_,fun h=>?_,fun h=>?_⟩
   ·split at h
    ·omega
    ·split at h
     ·rw[av (by omega)];omega
     ·omega
   ·split at h
    ·omega
    ·split at h
     ·omega
     ·have:x=y:=by omega
      rw[<-num ha,<-num hb,this]
   ·split at h
    ·rw[ai (by omega),av (by omega)];omega
    ·split at h<;>omega
theorem CB{α:Type}{g:α->α->Int}(hg:∀a b,(g a b>0->g b a<0)/\(g a b=0->a=b)/\(g a b<0->g b a>0)):∀(a b:List α),
 (∀z,nK g a b=some z->z≠0/\∃y,nK g b a=some y/\(z>0->y<0)/\(z<0->y>0))/\(nK g a b=none->nK g b a=none/\(a.length=b.length->a=b))
 | [],[]=>⟨fun z h=>(by simp[nK]at h),fun _=>⟨rfl,fun _=>rfl⟩⟩
 | [],y::ys=>⟨fun z h=>(by simp[nK]at h),fun _=>⟨by simp[nK],fun h=>by simp at h⟩⟩
 |x::xs,[]=>⟨fun z h=>(by simp[nK]at h),fun _=>⟨by simp[nK],fun h=>by simp at h⟩⟩
 |x::xs,y::ys=>by
  obtain⟨i1,i2⟩:=CB hg xs ys;obtain⟨g1,g2,g3⟩:=hg x y;by_cases h0:g x y=0
  ·have e:=g2 h0;subst e;simp only[nK,h0,ne_eq,not_true_eq_false,rW];exact⟨i1,fun h=>⟨(i2 h).1,fun hl=>by rw[(i2 h).2 (by simpa using hl)]⟩⟩
  ·have h1:g y x≠0:=by
    intro e;by_cases hp:g x y>0
    ·have:=g1 hp;omega
    ·have:=g3 (by omega);omega
   simp only[nK,ne_eq,h0,h1,not_false_eq_true,kM];refine⟨fun z h=>?_,fun h=>by cases h⟩;cases h;exact⟨h0,_,rfl,g1,g3⟩
theorem J3{α:Type}{g:α->α->Int}(hg:∀a b,(g a b>0->g b a<0)/\(g a b=0->a=b)/\(g a b<0->g b a>0))(a b:List α):(cmpL g a b>0->cmpL g b a<0)/\(cmpL g a b=0->a=b)/\(cmpL g a b<0->cmpL g b a>0):=by
 obtain⟨h1,h2⟩:=CB hg a b;unfold cmpL;cases hd:nK g a b with
 |some z=>
  obtain⟨hz,y,hy,p,q⟩:=h1 z hd;rw[hy];exact⟨p,fun e=>absurd e hz,q⟩
 |none=>
  obtain⟨h3,h4⟩:=h2 hd;rw[h3];simp only[yM];refine⟨fun h=>?_,fun h=>?_,fun h=>?_⟩
  ·split at h
   ·omega
   ·split at h
    ·rw[av (by omega)];omega
    ·omega
  ·split at h
   ·omega
   ·split at h
    ·omega
    ·exact h4 (by omega)
  ·split at h
   ·rw[ai (by omega),av (by omega)];omega
   ·split at h<;>omega
theorem J2(a b:aJ):(o8 a b>0->o8 b a<0)/\(o8 a b=0->a=b)/\(o8 a b<0->o8 b a>0):=by
 obtain⟨h1,h2,h3⟩:=J3 DP a.args b.args;unfold o8;by_cases hr:a.rel=b.rel
 ·rw[ai (by simpa using hr),ai (by simpa using hr.symm)];refine⟨h1,fun h=>?_,h3⟩;cases a;cases b;simp only at hr h2 h;rw[hr,h2 h]
 ·have hr2:b.rel≠a.rel:=fun e=>hr e.symm
  rw[av hr,av hr2];exact⟨DQ,fun h=>absurd (DS h) hr,C7⟩
theorem C8{a b c:Bytes}(h1:oh a b<0)(h2:oh b c<0):oh a c<0:=by
 have lt:∀ {x y:Bytes},oh x y<0->Op.bytesLess x y=true:=by
  intro x y h;unfold oh at h;split at h
  ·assumption
  ·split at h<;>omega
 have:=qI (lt h1) (lt h2);unfold oh;rw[av this];omega
theorem NS{x y:Int}:yM x y<0↔x<y:=by
 unfold yM;split
 ·omega
 ·split<;>omega
theorem GX{a b c:Bytes}(h1:tJ a b<0)(h2:tJ b c<0):tJ a c<0:=by
 unfold tJ at*;cases ha:qR a<;>cases hb:qR b<;>cases hc:qR c<;>simp only[ha,hb,hc]at h1 h2⊢ <;>first|omega|exact C8 h1 h2| (rw[NS]at*;omega)
theorem NR{α:Type}(g:α->α->Int):cmpL g [] []=0:=rfl
theorem NQ{α:Type}(g:α->α->Int)(y:α)(ys:List α):cmpL g [] (y::ys)= -1:=by
 unfold cmpL nK yM;simp<;>omega
theorem I3{α:Type}(g:α->α->Int)(x:α)(xs:List α):cmpL g (x::xs) []=1:=by
 unfold cmpL nK yM;simp<;>omega
theorem NP{α:Type}(g:α->α->Int)(x y:α)(xs ys:List α):cmpL g (x::xs) (y::ys)=if g x y≠0 then g x y else cmpL g xs ys:=by
 unfold cmpL;rw[nK];by_cases h:g x y≠0
 ·rw[av h,av h]
 ·rw[ai h,ai h,aO,aO];cases nK g xs ys with
  |some z=>rfl
  |none=>
   show yM _ _=yM _ _;unfold yM
   congr 1
   ·rw[uW];omega
   ·congr 1
    rw[uW];omega
theorem C6{α:Type}{g:α->α->Int}(h0:∀a b,g a b=0->a=b)(ht:∀a b c,g a b<0->g b c<0->g a c<0):∀(a b c:List α),cmpL g a b<0->cmpL g b c<0->cmpL g a c<0
 | [],[],c,h1,_=>by rw[NR]at h1;omega
 |_::_,[],c,h1,_=>by rw[I3]at h1;omega
 |_,y::ys,[],_,h2=>by rw[I3]at h2;omega
 | [],y::ys,z::zs,_,_=>by rw[NQ];omega
 |x::xs,y::ys,z::zs,h1,h2=>by
  rw[NP]at*;by_cases e1:g x y=0
  ·have:=h0 _ _ e1;subst this;rw[ai (by omega)]at h1;by_cases e2:g x z=0
   ·rw[ai (by omega)]at h2⊢;exact C6 h0 ht xs ys zs h1 h2
   ·rw[av e2]at h2⊢;exact h2
  ·rw[av e1]at h1;by_cases e2:g y z=0
   ·have:=h0 _ _ e2;subst this;rw[av e1];exact h1
   ·rw[av e2]at h2;have:=ht x y z h1 h2;rw[av (by omega)];exact this
theorem GY{a b c:aJ}(h1:o8 a b<0)(h2:o8 b c<0):o8 a c<0:=by
 unfold o8 at*;by_cases e1:a.rel=b.rel
 ·by_cases e2:b.rel=c.rel
  ·rw[ai (by simpa using e1)]at h1;rw[ai (by simpa using e2)]at h2;rw[ai (by simpa using e1.trans e2)];exact C6 (fun a b=>(DP a b).2.1) (fun _ _ _=>GX) _ _ _ h1 h2
  ·rw[av e2]at h2;rw[e1,av e2];exact h2
 ·rw[av e1]at h1;by_cases e2:b.rel=c.rel
  ·rw[<-e2,av e1];exact h1
  ·rw[av e2]at h2;have:=C8 h1 h2;have hne:a.rel≠c.rel:=fun e=>by rw[e,DR]at this;omega
   rw[av hne];exact this
theorem J1(a:aJ):¬o8 a a<0:=by
 intro h;have:=(J2 a a).2.2 h;omega
theorem BH{p:Option aJ}{x:aJ}{xs:aU}(h:chainB p (x::xs)=true):vF x=true/\(∀q,p=some q->o8 q x<0)/\chainB (some x) xs=true:=by
 cases p with
 |none=>simp[chainB]at h;exact⟨h.1,by simp,h.2⟩
 |some q=>
  simp only[chainB,aN,bJ]at h;exact⟨h.1.1,fun q' e=>by cases e;exact h.1.2,h.2⟩
theorem DM:∀ {l:aU} {p:aJ},chainB (some p) l=true->∀x∈l,o8 p x<0
 | [],_,_,_,h=>by cases h
 |y::ys,p,h,x,hx=>by
  obtain⟨_,h2,h3⟩:=BH h;have hp:=h2 p rfl;rcases au.1 hx with rfl|hx
  ·exact hp
  ·exact GY hp (DM h3 x hx)
theorem zD:∀ {l:aU} {p:Option aJ},chainB p l=true->l.Nodup
 | [],_,_=>List.nodup_nil
 |x::xs,p,h=>by
  obtain⟨_,_,h3⟩:=BH h;rw[cz];exact⟨fun hx=>J1 x (DM h3 x hx),zD h3⟩
theorem FB{l:aU}(h:oy l=true):l.Nodup:=by
 unfold oy at h;simp only[aN]at h;exact zD h.1
end Go.Cx
namespace Go.Cx
open Go.RowKit Go.Proofs Tryz
theorem nq.wt{n:Nat}{l:aU}(h:nq n l)(hn:n<=1000):v8 aJ.wt l<=1048576:=by
 have c1:=By (w:=aJ.wt) (B:=200) l (fun x hx=>by
  have:=jY.WR (h.2 x hx);unfold aJ.wt;unfold tw at*;omega)
 have d1:(200+1)*l.length<=201*1000:=fe _ (by have:=h.1;omega);omega
theorem nq.le{n m:Nat}{l:aU}(h:nq n l)(hm:n<=m):nq m l:=⟨by have:=h.1;omega,h.2⟩
theorem RQ(c:bt)(h:cv c):∃c' r l,oD c=some (c',(r,l))/\cv c'/\ou 5 r/\nq 65 l:=by
 unfold oD;obtain⟨c1,r,e1,hc1,hr,_⟩:=MH c h;obtain⟨c2,b,e2,qW⟩:=G4 c1 8 hc1 (by decide) (by decide);rw[e1,aA,e2,aA];have fin:∀(r:aZ) (c2:bt),cv c2->ou 5 r->∃c' r' l,((gG c2 8).bind fun yL=>(bif yL.2 then((lD yL.1).bind fun Px=>(some (Px.1,(r,Px.2))))else((kq yL.1 9).bind fun XL=>(some (XL.1,(r,XL.2))))))=some (c',(r',l))/\cv c'/\ou 5 r'/\nq 65 l:=by
  intro r c2 qW hr;obtain⟨c3,b2,e3,uO⟩:=G4 c2 8 qW (by decide) (by decide);rw[e3,aA];cases b2 with
  |true=>
   obtain⟨c4,l,e4,Ko,hl⟩:=RR c3 uO;rw[aK,e4,aA];exact⟨_,_,_,rfl,Ko,hr,hl⟩
  |false=>
   obtain⟨c4,l,e4,Ko,hl,_⟩:=Pq c3 9 uO (by decide) (by decide);rw[aP,e4,aA];exact⟨_,_,_,rfl,Ko,hr,hl.le (by decide)⟩
 cases b with
 |true=>
  obtain⟨c3,r2,e3,uO,hr2⟩:=Ti c2 qW;rw[aK,e3,aA];exact fin r2 c3 uO hr2
 |false=>
  rw[aP];exact fin r c2 qW (hr.le (by decide))
theorem MJ(code:bw)(h:code.length<=4096):∃r l,jK code=some (r,l)/\ou 5 r/\nq 65 l:=by
 unfold jK;obtain⟨c,e,hc⟩:=Tq code h;obtain⟨c2,r,l,e2,_,hr,hl⟩:=RQ c hc;rw[e,aA,e2,aA];exact⟨_,_,rfl,hr,hl⟩
end Go.Cx
namespace Go.Cx
open Go.RowKit Go.Proofs Tryz
def runT(fs:aU):bN->aU->ah->Option ah
 | [],[],b=>some b
 | [],_::_,_=>none
 |c::cs,F,b=>if c.kind=1 then(match F with| []=>none|f::F'=>if f∈fs/\(kz c.pat f b).2=true then runT fs cs F' (kz c.pat f b).1 else none)else if D9 c b fs=true then runT fs cs F b else none
theorem Ig(fs:aU):∀(cs:bN) (A:bz) (u:bA),u∈cs.foldl (ym fs) A↔∃t∈A,∃F,u.facts=t.facts++F/\runT fs cs F t.bind=some u.bind:=by
 intro cs
 induction cs with
 |nil=>
  intro A u;constructor
  ·intro h;exact⟨u,h,[],by simp,rfl⟩
  ·rintro⟨t,ht,F,h1,h2⟩;cases F with
   |nil=>
    have e:t.bind=u.bind:=by simpa[runT]using h2
    have e2:u.facts=t.facts:=by simpa using h1
    have:u=t:=by cases u;cases t;cases e;cases e2;rfl
    rw[this];exact ht
   |cons f F=>simp[runT]at h2
 |cons c cs ih=>
  intro A u;rw[qZ,ih];constructor
  ·rintro⟨t',ht',F,h1,h2⟩;obtain⟨t,ht,hn⟩:=bI.1 ht';refine⟨t,ht,?_⟩;unfold B5 at hn;by_cases hk:c.kind=1
   ·rw[bW hk,aK]at hn;obtain⟨f,hf,hn⟩:=bI.1 hn;unfold ext1 at hn;cases hm:(kz c.pat f t.bind).2 with
    |false=>rw[hm]at hn;cases hn
    |true=>
     rw[hm,aK]at hn;have:=cO.1 hn;subst this;exact⟨f::F,by rw[h1];simp,by simp only[runT];rw[av hk,av ⟨hf,hm⟩];exact h2⟩
   ·rw[cA hk,aP]at hn;cases hh:D9 c t.bind fs with
    |false=>rw[hh]at hn;cases hn
    |true=>
     rw[hh,aK]at hn;have:=cO.1 hn;subst this;exact⟨F,h1,by simp only[runT];rw[ai hk,av hh];exact h2⟩
  ·rintro⟨t,ht,F,h1,h2⟩;simp only[runT]at h2;by_cases hk:c.kind=1
   ·rw[av hk]at h2;cases F with
    |nil=>cases h2
    |cons f F=>
     dsimp only at h2;split at h2
     ·rename_i hc;refine⟨⟨t.facts++[f],(kz c.pat f t.bind).1⟩,bI.2 ⟨t,ht,?_⟩,F,by rw[h1];simp,h2⟩;unfold B5;rw[bW hk,aK];refine bI.2 ⟨f,hc.1,?_⟩;unfold ext1;rw[hc.2,aK];exact cO.2 rfl
     ·cases h2
   ·rw[ai hk]at h2;split at h2
    ·rename_i hh;refine⟨t,bI.2 ⟨t,ht,?_⟩,F,h1,h2⟩;unfold B5;rw[cA hk,aP,hh,aK];exact cO.2 rfl
    ·cases h2
theorem Lo{r:aZ}{fs:aU}(h1:jg r=true)(h2:oy fs=true):Cv r fs=(GA r.conds fs).map fun t=>⟨r.name,t.facts,t.bind⟩:=by
 unfold Cv;rw[Me h1 h2 (bM _),nO]
theorem O2{r:aZ}{fs:aU}(h:¬(jg r=true/\oy fs=true)):Cv r fs=[]:=by
 unfold Cv Pt;cases h1:jg r with
 |false=>rfl
 |true=>
  cases h2:oy fs with
  |false=>rfl
  |true=>exact absurd ⟨h1,h2⟩ h
theorem EV{r:aZ}{fs:aU}(h1:jg r=true)(h2:oy fs=true)(m:bE):m∈Cv r fs↔m.rule=r.name/\runT fs r.conds m.facts []=some m.bind:=by
 rw[Lo h1 h2];constructor
 ·intro h;obtain⟨t,ht,e⟩:=cG.1 h;obtain⟨t0,ht0,F',q1,q2⟩:=(Ig fs r.conds _ t).1 ht;rw[cO.1 ht0]at q1 q2;subst e;rw[iQ]at q1;refine⟨rfl,?_⟩;show runT fs r.conds t.facts []=some t.bind;rw[q1];exact q2
 ·rintro⟨e,h⟩;exact cG.2 ⟨⟨m.facts,m.bind⟩,(Ig fs r.conds _ _).2 ⟨⟨[],[]⟩,by simp,m.facts,by simp,h⟩,by cases m;cases e;rfl⟩
def KD(A:bz):Prop:=A.Pairwise fun t u=>t.facts≠u.facts
theorem yf{c:aT}{t u:bA}{f:aJ}(h:u∈ext1 c t f):u.facts=t.facts++[f]:=by
 unfold ext1 at h;cases hm:(kz c.pat f t.bind).2 with
 |false=>rw[hm]at h;cases h
 |true=>rw[hm,aK]at h;rw[cO.1 h]
theorem Ce{c:aT}{fs:aU}{t u:bA}(h:u∈B5 c fs t):(c.kind=1/\∃f∈fs,u.facts=t.facts++[f])\/(c.kind≠1/\u=t):=by
 unfold B5 at h;by_cases hk:c.kind=1
 ·rw[bW hk,aK]at h;obtain⟨f,hf,hu⟩:=bI.1 h;exact .inl ⟨hk,f,hf,yf hu⟩
 ·rw[cA hk,aP]at h;cases hh:D9 c t.bind fs with
  |false=>rw[hh]at h;cases h
  |true=>rw[hh,aK]at h;exact .inr ⟨hk,cO.1 h⟩
theorem O5{c:aT}{fs:aU}{A:bz}(hf:fs.Nodup)(hA:KD A):KD (ym fs A c):=by
 unfold KD ym;rw[vM];refine⟨fun t _=>?_,?_⟩
 ·unfold B5;cases decide (c.kind=1)with
  |true=>
   rw[aK,vM];refine⟨fun f _=>?_,?_⟩
   ·unfold ext1;cases(kz c.pat f t.bind).2<;>simp
   ·exact List.Pairwise.imp (fun {f g} hne x hx y hy e=>by
     rw[yf hx,yf hy]at e;exact hne (by simpa using e)) hf
  |false=>cases D9 c t.bind fs<;>simp
 ·exact List.Pairwise.imp (fun {t u} hne x hx y hy e=>by
   rcases Ce hx with⟨k,f,_,e1⟩|⟨k,e1⟩<;>rcases Ce hy with⟨k',g,_,e2⟩|⟨k',e2⟩
   ·rw[e1,e2]at e;exact hne (List.append_inj' e rfl).1
   ·exact k' k
   ·exact k k'
   ·rw[e1,e2]at e;exact hne e) hA
theorem KD.one(t:bA):KD [t]:=List.pairwise_singleton _ _
theorem I9{fs:aU}(hf:fs.Nodup):∀(cs:bN) {A:bz},KD A->KD (cs.foldl (ym fs) A)
 | [],_,h=>h
 |c::cs,_,h=>I9 hf cs (O5 hf h)
theorem OU{cs:bN}{fs:aU}(hf:fs.Nodup):KD (GA cs fs):=I9 hf cs (KD.one _)
theorem Lr{r:aZ}{fs:aU}(h1:jg r=true)(h2:oy fs=true):(Cv r fs).Nodup:=by
 rw[Lo h1 h2];have h:=OU (cs:=r.conds) (FB h2);unfold KD at h;unfold List.Nodup;rw[List.pairwise_map];exact h.imp fun hne e=>hne (bE.mk.inj e).2.1
theorem FG{r x:aZ}{c0 c1:aT}{cs:bN}(h:r.conds=c0::c1::cs)(hx:x.conds=c1::c0::cs)(j:Nat)(v:Bytes):(qJ x ((j+2:Nat):Int)).contains v=(qJ r ((j+2:Nat):Int)).contains v:=by
 unfold qJ;rw[h,hx,sj,fc,fc,fc,fc,bP];simp only[cy,vK,aH];constructor
 ·rintro(q|q|q)
  ·exact .inr (.inl q)
  ·exact .inl q
  ·exact .inr (.inr q)
 ·rintro(q|q|q)
  ·exact .inr (.inl q)
  ·exact .inl q
  ·exact .inr (.inr q)
theorem Ke{c0 c1:aT}{cs:bN}(j:Nat)(v:Bytes):E9 v ((j+2:Nat):Int) (c1::c0::cs) 0=E9 v ((j+2:Nat):Int) (c0::c1::cs) 0:=by
 simp only[E9];rw[bW (show((0:Nat):Int)≠((j+2:Nat):Int)by omega),bW (show((0+1:Nat):Int)≠((j+2:Nat):Int)by omega),j9,j9];cases(kF c0).contains v<;>cases(kF c1).contains v<;>rfl
theorem Kg{r x:aZ}{c0 c1:aT}{cs:bN}(h:r.conds=c0::c1::cs)(hx:x.conds=c1::c0::cs)(ha:x.cJ=r.cJ)(j:Nat)(c:aT)(v:Bytes):ur x (j+2) c v=ur r (j+2) c v:=by
 have e1:=FG h hx j v;have e2:=Ke (c0:=c0) (c1:=c1) (cs:=cs) j v;unfold ur E8;rw[show(↑(j+2):Int)=((j+2:Nat):Int)from rfl,e1,h,hx,e2,ha]
theorem CA{r x:aZ}{c0 c1:aT}{cs:bN}(h:r.conds=c0::c1::cs)(hx:x.conds=c1::c0::cs)(ha:x.cJ=r.cJ):∀(l:bN) (j:Nat),mY x l (j+2)=mY r l (j+2)
 | [],_=>rfl
 |c::l,j=>by
  have e:ur x (j+2) c=ur r (j+2) c:=funext fun v=>Kg h hx ha j c v
  have e2:=CA h hx ha l (j+1);rw[show j+1+2=j+2+1 by omega]at e2;simp only[mY];rw[e,e2]
theorem Mg{a b:aD}(h:∀x,x∈a↔x∈b):(cc a).length<=(cc b).length:=
 B4 _ _ (MV (AE a)) fun x hx=>kW.2 ((h x).1 (kW.1 hx))
theorem JZ{r x:aZ}{c0 c1:aT}{cs:bN}(hr:jg r=true)(h:r.conds=c0::c1::cs)(hx:x.conds=c1::c0::cs)(ha:x.cJ=r.cJ)(hn:x.name=r.name)(hp:x.prio=r.prio)(k1:c1.kind=1):jg x=true:=by
 have hl:x.conds.length=r.conds.length:=by rw[h,hx];rfl
 have hc:mY x x.conds 0=true:=by
  have hc0:=uy hr;rw[h]at hc0;rw[hx];have e:=CA h hx ha cs 0;simp only[mY,aN]at hc0⊢;obtain⟨⟨⟨a1,a2⟩,a3⟩,⟨⟨b1,b2⟩,b3⟩,b4⟩:=hc0;refine⟨⟨⟨b1,by rw[bW k1];simp⟩,aQ.2 fun v _=>by unfold ur;rw[bW k1];rfl⟩,⟨⟨a1,by simp⟩,aQ.2 fun v hv=>?_⟩,by rw[cP]at e;exact e.trans b4⟩;have hk0:c0.kind=1:=by simpa using a2
  unfold ur;rw[bW hk0];rfl
 have hac:yD x=true:=by
  have h0:yD r=true:=by unfold jg at hr;simp only[aN]at hr;exact hr.2.2.1
  unfold yD at h0⊢;rw[ha,hl];rw[aQ]at h0⊢;intro a hm;have:=h0 a hm;rw[aN]at this⊢;refine⟨this.1,aQ.2 fun v hv=>?_⟩;have q:=aQ.1 this.2 v hv;have el:r.conds.length=cs.length+2:=by rw[h];rfl
  rw[el]at q⊢;rw[FG h hx cs.length v];exact q
 have hu:(cc (w5 x.conds)).length<=(cc (w5 r.conds)).length:=Mg fun y=>by
  rw[h,hx];unfold w5;simp only[cy,aH];constructor
  ·rintro(q|q|q)
   ·exact .inr (.inl q)
   ·exact .inl q
   ·exact .inr (.inr q)
  ·rintro(q|q|q)
   ·exact .inr (.inl q)
   ·exact .inl q
   ·exact .inr (.inr q)
 unfold jg at hr⊢;simp only[aN,bJ]at hr⊢;obtain⟨⟨⟨⟨g1,g2⟩,g3⟩,g4⟩,g5,g6,g7⟩:=hr;rw[hn,hp,hl,ha];exact⟨⟨⟨⟨g1,g2⟩,g3⟩,g4⟩,hc,hac,by omega⟩
theorem MD{r:aZ}{c0 c1:aT}{cs:bN}(hr:jg r=true)(h:r.conds=c0::c1::cs)(k0:c0.kind=1)(k1:c1.kind=1){fs F:aU}{f0 f1:aJ}{b:ah}(hrun:runT fs (c0::c1::cs) (f0::f1::F) []=some b):
 runT fs (c1::c0::cs) (f1::f0::F) []=some b:=by
 have hU:=JY hr;have hC:=uy hr;rw[h]at hC;have p0:si c0.pat=true:=(DT (ud (pre:=[]) hC).1 (.inl k0)).1;have p1:si c1.pat=true:=(DT (ud (pre:=[c0]) hC).1 (.inl k1)).1;have v0:∀x∈c0.pat.args,kR x=true->x∈cc (w5 r.conds):=fun x hx hv=>kW.2 (bI.2 ⟨c0,by rw[h];simp,C9 hx hv⟩)
 have v1:∀x∈c1.pat.args,kR x=true->x∈cc (w5 r.conds):=fun x hx hv=>kW.2 (bI.2 ⟨c1,by rw[h];simp,C9 hx hv⟩)
 have wn:=WB.nil (cc (w5 r.conds));simp only[runT]at hrun;rw[av k0]at hrun;split at hrun
 ·rename_i m0
  try rw[av k1]at hrun
  split at hrun
  ·rename_i m1;have w1:=((qQ hU wn p0 v0 (f:=f0)).2 m0.2).1;have w2:=((qQ hU w1 p1 v1 (f:=f1)).2 m1.2).1;obtain⟨hs2,Gm⟩:=Says.of w2;generalize(fun y=>(cU y (kz c1.pat f1 (kz c0.pat f0 []).1).1).getD y)=g at hs2 Gm;obtain⟨hs1,WY⟩:=(xF hU w1 p1 v1 m1.2 Gm).1 hs2;obtain⟨hs0,WX⟩:=(xF hU wn p0 v0 m0.2 Gm).1 hs1;have n1:(kz c1.pat f1 []).2=true:=(qQ hU wn p1 v1 (f:=f1)).1.2 ⟨g,hs0,Gm,WY⟩;have x1:=((qQ hU wn p1 v1 (f:=f1)).2 n1).1;have s1:=(xF hU wn p1 v1 n1 Gm).2 ⟨hs0,WY⟩;have n0:(kz c0.pat f0 (kz c1.pat f1 []).1).2=true:=(qQ hU x1 p0 v0 (f:=f0)).1.2 ⟨g,s1,Gm,WX⟩;have x2:=((qQ hU x1 p0 v0 (f:=f0)).2 n0).1;have s2:=(xF hU x1 p0 v0 n0 Gm).2 ⟨s1,WX⟩;have e:(kz c0.pat f0 (kz c1.pat f1 []).1).1=(kz c1.pat f1 (kz c0.pat f0 []).1).1:=WB.one x2 w2 (fun v=>by
    rw[zo hU x1 p0 v0 n0,zo hU wn p1 v1 n1,zo hU w1 p1 v1 m1.2,zo hU wn p0 v0 m0.2];constructor
    ·rintro((q|q)|q)
     ·exact .inl (.inl q)
     ·exact .inr q
     ·exact .inl (.inr q)
    ·rintro((q|q)|q)
     ·exact .inl (.inl q)
     ·exact .inr q
     ·exact .inl (.inr q)) s2 hs2
   simp only[runT];rw[av k1,av ⟨m1.1,n1⟩,av k0,av ⟨m0.1,n0⟩,e];exact hrun
  ·cases hrun
 ·cases hrun
theorem O9{fs:aU}{c0 c1:aT}{cs:bN}(k0:c0.kind=1)(k1:c1.kind=1){F:aU}{b:ah}(hrun:runT fs (c0::c1::cs) F []=some b):∃f0 f1 G,F=f0::f1::G:=by
 match F,hrun with
 | [],hrun=>simp only[runT]at hrun;rw[av k0]at hrun;cases hrun
 | [f0],hrun=>
  simp only[runT]at hrun;rw[av k0]at hrun;split at hrun
  ·(try rw[av k1]at hrun);cases hrun
  ·cases hrun
 |f0::f1::G,_=>exact⟨f0,f1,G,rfl⟩
def OS(m:bE):bE:=match m.facts with
 |f0::f1::F=>⟨m.rule,f1::f0::F,m.bind⟩
 |_=>m
theorem Ic(m:bE):OS (OS m)=m:=by
 cases m with
 |mk a F b=>
  match F with
  | []=>rfl
  | [_]=>rfl
  |_::_::_=>rfl
theorem IT{r x:aZ}{c0 c1:aT}{cs:bN}{fs:aU}(hr:jg r=true)(Oz:jg x=true)(hfs:oy fs=true)(h:r.conds=c0::c1::cs)(hx:x.conds=c1::c0::cs)(hn:x.name=r.name)(k0:c0.kind=1)(k1:c1.kind=1){m:bE}(hm:m∈Cv r fs):
 (∃f0 f1 F,m.facts=f0::f1::F)/\OS m∈Cv x fs:=by
 obtain⟨e1,e2⟩:=(EV hr hfs m).1 hm;rw[h]at e2;obtain⟨f0,f1,F,e3⟩:=O9 k0 k1 e2;refine⟨⟨f0,f1,F,e3⟩,(EV Oz hfs _).2 ?_⟩;rw[e3]at e2;unfold OS;rw[e3];refine⟨e1.trans hn.symm,?_⟩;rw[hx];exact MD hr h k0 k1 e2
theorem Cd:∀(a b:fA),a.Nodup->(∀x∈a,x∈b)->a.length<=b.length
 | [],b,_,_=>sr _
 |x::xs,b,hn,hs=>by
  rw[cz]at hn;have h1:=Cd xs (b.erase x) hn.2 fun y hy=>(List.mem_erase_of_ne (fun e=>hn.1 (by rw[<-e];exact hy))).2 (hs y (by simp[hy]))
  have h2:=jA (hs x (by simp));have h3:0<b.length:=oo (hs x (by simp));simp only[aO];omega
theorem Cb{r x:aZ}{c0 c1:aT}{cs:bN}{fs:aU}(hr:jg r=true)(Oz:jg x=true)(hfs:oy fs=true)(h:r.conds=c0::c1::cs)(hx:x.conds=c1::c0::cs)(hn:x.name=r.name)(k0:c0.kind=1)(k1:c1.kind=1):(Cv r fs).length<=(Cv x fs).length:=by
 have hnd:=Lr hr hfs;have:=Cd ((Cv r fs).map OS) (Cv x fs) (by
  unfold List.Nodup;rw[List.pairwise_map];exact hnd.imp fun {a b} hne e=>hne (by have:=congrArg OS e;rwa[Ic,Ic]at this)) (fun y hy=>by
   obtain⟨m,hm,rfl⟩:=cG.1 hy;exact(IT hr Oz hfs h hx hn k0 k1 hm).2)
 rwa[az]at this
theorem RC(r:aZ)(fs:aU):(Cv r fs).length<=390625:=by unfold Cv;rw[az];exact OT r _ fs
theorem Eh{fs:aU}:∀(cs:bN) (F:aU) (b b':ah),runT fs cs F b=some b'->F.length<=cs.length
 | [],[],_,_,_=>bM _
 | [],_::_,_,_,h=>by simp[runT]at h
 |c::cs,F,b,b',h=>by
  simp only[runT]at h;split at h
  ·cases F with
   |nil=>cases h
   |cons f F=>
    dsimp only at h;split at h
    ·have:=Eh cs F _ _ h;simp only[aO];omega
    ·cases h
  ·split at h
   ·have:=Eh cs F _ _ h;simp only[aO];omega
   ·cases h
theorem Lp{r:aZ}{fs:aU}(h1:jg r=true)(h2:oy fs=true)(m:bE)(hm:m∈Cv r fs):m.facts.length<=1000000:=by
 have:=Eh _ _ _ _ ((EV h1 h2 m).1 hm).2;have:=xH h1;omega
end Go.Cx
namespace Go.Cx
open Go.RowKit Go.Proofs Tryz
set_option maxRecDepth 100000
variable{Γ:oK}{N:Nat->St->Prop}
def uh(aF:bw):Option Bool:=(some (decide ((((aF.map yx).length:Int):Int)>4096)))
theorem vD{aF:bw}{r:Bool}(h:uh aF=some r):Good prog 5 [D.sl (aF.map yx)] (D.bool r):=by
 refine gd func5 [[none]] 6 fun hr Γ hΓ=>?_
 rw[uh]at h;cases h;exact aW.ret hΓ
def gM(aF:fA)(ay:bE)(k1:Option Bool):fA->Nat->Option Bool
 | [],i1=>(k1)
 |bu::fY,i1=>((lU bu ay).bind fun Js=>(bif Js then(some true)else(gM aF ay k1 fY (i1+1))))
def mJ(aF:fA)(ay:bE):Option Bool:=(gM aF ay (some false) aF 0)
def yT(aF:fA)(ay:bE)(jc:Int):St:=⟨[(0,D.sl (aF.map bE.c)),(3,D.ptr 0 0),(5,D.int .i64 jc)],[Ob.box (bE.c ay)]⟩
theorem xW(hΓ:Γ.nt=18){aF:fA}{ay:bE}{r:Bool}{k1:Option Bool}(ju:k1=some r->Ax Γ N f14 (.q [[none]] (D.bool r)) [1,1] ⟨[],[]⟩)(hm1:aF.length<=maxLen):∀(rest:fA) (i1:Nat),aF.drop i1=rest->gM aF ay k1 rest i1=some r->Ar Γ N f14 (.q [[none]] (D.bool r)) [1,0,1,0] (rest.length+1) (yT aF ay (i1:Int)):=by
 intro rest
 induction rest with
 |nil=>
  intro i1 bL h;rw[gM]at h;refine aa fun N1 hN1 eT=>?_
  exact((aW.ge bE.c bL).a [.hl 0 [] []]).ex hΓ hN1 (ju h)
 |cons bu fY ih1=>
  intro i1 bL h;rw[gM]at h;refine aa fun N1 hN1 eT=>?_
  obtain⟨Js,h22,h⟩:=aC h;have kN:=((((aW.lt bE.c bL).a [.n 5]).l (cI bE.c 3 (dc bL) rfl)).g (vc h22))
  obtain⟨h23,h⟩|⟨h23,h⟩:=aL h
  ·have h:=aM h;subst h;exact(kN.b h23).ret hΓ
  ·exact((kN.b h23).a [.cn [0,3,5] [0]]).ct hΓ eT (iS bL hm1) (ih1 (i1+1) (dn bL) h)
theorem dP{aF:fA}{ay:bE}{r:Bool}(h:mJ aF ay=some r):Good prog 14 [D.sl (aF.map bE.c),D.agg (bE.c ay)] (D.bool r):=by
 refine gd func14 [[none]] 18 fun hr Γ hΓ=>?_
 rw[mJ]at h;refine(aW.a [.cn [0,3,5] [0]]).lp hΓ (xW hΓ (fun h=>?_) (by have:=(n9.sl (hr _ (aE (i:=0) rfl))).1;simpa using this) aF 0 rfl h);have h:=aM h;subst h;exact aW.ret hΓ
end Go.Cx
namespace Go.Cx
open Go.RowKit Go.Proofs Tryz
set_option maxRecDepth 100000
variable{Γ:oK}{N:Nat->St->Prop}
def fm(y4:aZ×aU)(rM:fA)(uQ:fA)(k1:Option Bool):fA->Nat->Option Bool
 | [],i1=>(k1)
 |bu::fY,i1=>(bif decide ((((bu.facts.map aJ.c).length:Int):Int)<2)then(some false)else((lG bu.facts 1).bind fun x139=>((lG bu.facts 0).bind fun x141=>((oH (bu.facts.map aJ.c).length (some (D.int .i64 2)) none).bind fun p=>(fun uB uK=>(bif room (([[D.str x139.rel,D.sl (x139.args.map tx)],[D.str x141.rel,D.sl (x141.args.map tx)]]).length+(((bu.facts.map aJ.c).take uK).drop uB).length) 40 then((mJ uQ (⟨y4.1.name,([x139,x141])++((bu.facts.take uK).drop uB),bu.bind⟩:bE)).bind fun nw=>(bif !(nw)then(some false)else(fm y4 rM uQ k1 fY (i1+1))))else none)) p.1 p.2))))
def nU(aF:bw):Option Bool:=((uh aF).bind fun y1=>(bif y1 then(some true)else((jK aF).bind fun y4=>((jC y4.1).bind fun y6=>(bif !(y6)then(some true)else(bif decide ((((y4.1.conds.map aT.c).length:Int):Int)<2)then(some true)else((lG y4.1.conds 1).bind fun x10=>(bif (x10.kind:Int) != 1 then(some true)else((lG y4.1.conds 0).bind fun x19=>((oH (y4.1.conds.map aT.c).length (some (D.int .i64 2)) none).bind fun p=>(fun Bs Bw=>(bif room (([[D.int .i64 x10.kind,D.str x10.pat.rel,D.sl (x10.pat.args.map tx),D.str x10.left,D.str x10.right],[D.int .i64 x19.kind,D.str x19.pat.rel,D.sl (x19.pat.args.map tx),D.str x19.left,D.str x19.right]]).length+(((y4.1.conds.map aT.c).take Bw).drop Bs).length) 80 then((k7 y4.1 y4.2).bind fun rM=>((k7 (⟨y4.1.name,y4.1.prio,([x10,x19])++((y4.1.conds.take Bw).drop Bs),y4.1.cJ⟩:aZ) y4.2).bind fun uQ=>((mS (⟨y4.1.name,y4.1.prio,([x10,x19])++((y4.1.conds.take Bw).drop Bs),y4.1.cJ⟩:aZ)).bind fun Ho=>(bif !(Ho)then(some false)else(bif (((rM.map bE.c).length:Int):Int) != ((uQ.map bE.c).length:Int)then(some false)else(bif decide (rM.length<=maxLen)then(fm y4 rM uQ (some true) rM 0)else none))))))else none)) p.1 p.2))))))))))
def xV(y4:aZ×aU)(rM:fA)(uQ:fA)(jc:Int):St:=⟨[(3,D.ptr 0 0),(6,D.acc 1),(7,D.acc 2),(8,D.int .i64 jc)],[Ob.box [D.str y4.1.name,D.int .i64 y4.1.prio,D.sl (y4.1.conds.map aT.c),D.sl (y4.1.cJ.map Action.c)],Ob.row .uq 46 3 (rM.map bE.c),Ob.row .uq 46 3 (uQ.map bE.c)]⟩
theorem nH(hΓ:Γ.nt=117){y4:aZ×aU}{rM:fA}{uQ:fA}{r:Bool}{k1:Option Bool}(ju:k1=some r->Ax Γ N f4 (.q [[none]] (D.bool r)) [1,1,1,1,1,1,1,1,1] ⟨[],[]⟩)(hm1:rM.length<=maxLen):∀(rest:fA) (i1:Nat),rM.drop i1=rest->fm y4 rM uQ k1 rest i1=some r->Ar Γ N f4 (.q [[none]] (D.bool r)) [1,1,1,1,1,1,1,1,0,1,0] (rest.length+1) (xV y4 rM uQ (i1:Int)):=by
 intro rest
 induction rest with
 |nil=>
  intro i1 bL h;rw[fm]at h;refine aa fun N1 hN1 eT=>?_
  exact((aW.ge bE.c bL).a [.hl 0 [] []]).ex hΓ hN1 (ju h)
 |cons bu fY ih1=>
  intro i1 bL h;rw[fm]at h;refine aa fun N1 hN1 eT=>?_
  have qy:=(((aW.lt bE.c bL).i (fC bE.c 3 (dc bL))).o 3 2 .uq (cB bE.c (dc bL)))
  obtain⟨h130,h⟩|⟨h130,h⟩:=aL h
  ·have h:=aM h;subst h;exact(qy.b h130).ret hΓ
  ·refine((qy.b h130).a [.hl 5 [3,6,7,8] [0,1,2]]).ex (N:=N1) (c':=(lc f4 [1,1,1,1,1,1,1,1,0,1,0,0,1,0,0,1])) (K':=(Ry f4 [1,1,1,1,1,1,1,1,0,1,0,0,1,0,0,1])) (K0:=(Ry f4 [1,1,1,1,1,1,1,1,0,1,0,0,1,0,0,1])) hΓ (fun _ _=>rfl) (Oc (st:=⟨[(3,D.ptr 0 0),(6,D.acc 1),(7,D.acc 2),(8,D.int .i64 (i1:Int))],[Ob.box [D.str y4.1.name,D.int .i64 y4.1.prio,D.sl (y4.1.conds.map aT.c),D.sl (y4.1.cJ.map Action.c)],Ob.row .uq 46 3 (rM.map bE.c),Ob.row .uq 46 3 (uQ.map bE.c)]⟩) My 30 23 (by kernel_rfl) (by kernel_rfl) ?_ ?_)
   ·obtain⟨x139,h140,h⟩:=aC h;obtain⟨x141,h142,h⟩:=aC h;obtain⟨⟨uB,uK⟩,h145,h⟩:=aC h;obtain⟨h146,h⟩:=bY h;obtain⟨nw,h148,h⟩:=aC h;have uE:=(((((((((((((((((aW.a [.n2 [0,1,2,3,4,5,6,7,8,9,10,11,12,13,14,15,16,17,18,19,20,21,22,24,25,26,27,28,30,23,29,31] [0,1,2,3,4,5,6,7,8,9,10,11,12,13,14,15,16,17,18,19,20,21,22,29,23,24,25,26,27,30,28,31] 29 30 [0,1,23,24,25,26,27] [3]]).i (fC bE.c 3 (dc bL))).o 3 2 .uq (cB bE.c (dc bL))).l (jI aJ.c 2 h140 rfl)).i (fC bE.c 3 (dc bL))).o 3 2 .uq (cB bE.c (dc bL))).l (jI aJ.c 2 h142 rfl)).i (fC bE.c 3 (dc bL))).o 3 2 .uq (cB bE.c (dc bL))).w (show oH (bu.facts.map aJ.c).length (some (D.int .i64 2)) none=some (uB,uK)/\((bu.facts.map aJ.c).all fun r=>r.length==2)=true from⟨h145,by simp[aQ]⟩)).a [.cut uB uK]).i (fC bE.c 3 (dc bL))).o 3 3 .uq (cB bE.c (dc bL))).w (cE h146)).w (show(∀r∈(((bu.facts.map aJ.c).take uK).drop uB),r.length=2)/\(false=true->D.fK (((bu.facts.map aJ.c).take uK).drop uB)=true)from⟨by first|simp| (intro r hr;obtain⟨x,_,rfl⟩:=cG.1 (bC (cM hr));rfl),by simp[D.fK,D.flat]⟩)).a [.fl false,.d (D.bool nw)]).w (show Good prog 14 [D.sl (uQ.map bE.c),D.agg [D.str y4.1.name,D.sl (([[D.str x139.rel,D.sl (x139.args.map tx)],[D.str x141.rel,D.sl (x141.args.map tx)]])++(((bu.facts.map aJ.c).take uK).drop uB)),D.sl (bu.bind.map aj.c)]] (D.bool nw)from by first| (simpa only[ar,b8,bV,bD,bG]using dP h148)|exact dP h148| (have t:=dP h148;simp only[ar,bD,bG,bE.c]at t;exact t)))
    obtain⟨h149,h⟩|⟨h149,h⟩:=aL h
    ·have h:=aM h;subst h;exact(uE.b h149).Ef hΓ
    ·exact((uE.b h149).a [.cn [3,6,7,8] [0,1,2]]).Ul hΓ eT (iS bL hm1) (ih1 (i1+1) (dn bL) h)
   ·refine o6.or (x:=30) (y:=29) (by kernel_rfl) ?_ ?_
    ·obtain⟨x139,h140,h⟩:=aC h;obtain⟨x141,h142,h⟩:=aC h;obtain⟨⟨uB,uK⟩,h145,h⟩:=aC h;obtain⟨h146,h⟩:=bY h;obtain⟨nw,h148,h⟩:=aC h;have yp:=(((((((((((((((((aW.a [.n2 [0,1,2,3,4,5,6,7,8,9,10,11,12,13,14,15,16,17,18,19,20,21,22,24,25,26,27,28,23,30,29,31] [0,1,2,3,4,5,6,7,8,9,10,11,12,13,14,15,16,17,18,19,20,21,22,28,23,24,25,26,27,30,29,31] 28 30 [0,1,23,24,25,26,27] [3]]).i (fC bE.c 3 (dc bL))).o 3 2 .uq (cB bE.c (dc bL))).l (jI aJ.c 2 h140 rfl)).i (fC bE.c 3 (dc bL))).o 3 2 .uq (cB bE.c (dc bL))).l (jI aJ.c 2 h142 rfl)).i (fC bE.c 3 (dc bL))).o 3 2 .uq (cB bE.c (dc bL))).w (show oH (bu.facts.map aJ.c).length (some (D.int .i64 2)) none=some (uB,uK)/\((bu.facts.map aJ.c).all fun r=>r.length==2)=true from⟨h145,by simp[aQ]⟩)).a [.cut uB uK]).i (fC bE.c 3 (dc bL))).o 3 3 .uq (cB bE.c (dc bL))).w (cE h146)).w (show(∀r∈(((bu.facts.map aJ.c).take uK).drop uB),r.length=2)/\(false=true->D.fK (((bu.facts.map aJ.c).take uK).drop uB)=true)from⟨by first|simp| (intro r hr;obtain⟨x,_,rfl⟩:=cG.1 (bC (cM hr));rfl),by simp[D.fK,D.flat]⟩)).a [.fl false,.d (D.bool nw)]).w (show Good prog 14 [D.sl (uQ.map bE.c),D.agg [D.str y4.1.name,D.sl (([[D.str x139.rel,D.sl (x139.args.map tx)],[D.str x141.rel,D.sl (x141.args.map tx)]])++(((bu.facts.map aJ.c).take uK).drop uB)),D.sl (bu.bind.map aj.c)]] (D.bool nw)from by first| (simpa only[ar,b8,bV,bD,bG]using dP h148)|exact dP h148| (have t:=dP h148;simp only[ar,bD,bG,bE.c]at t;exact t)))
     obtain⟨h149,h⟩|⟨h149,h⟩:=aL h
     ·have h:=aM h;subst h;exact(yp.b h149).Ef hΓ
     ·exact((yp.b h149).a [.cn [3,6,7,8] [0,1,2]]).Ul hΓ eT (iS bL hm1) (ih1 (i1+1) (dn bL) h)
    ·obtain⟨x139,h140,h⟩:=aC h;obtain⟨x141,h142,h⟩:=aC h;obtain⟨⟨uB,uK⟩,h145,h⟩:=aC h;obtain⟨h146,h⟩:=bY h;obtain⟨nw,h148,h⟩:=aC h;have Ch:=(((((((((((((((((aW.a [.n2 [0,1,2,3,4,5,6,7,8,9,10,11,12,13,14,15,16,17,18,19,20,21,22,24,25,26,27,28,23,29,30,31] [0,1,2,3,4,5,6,7,8,9,10,11,12,13,14,15,16,17,18,19,20,21,22,28,23,24,25,26,27,29,30,31] 28 29 [0,1,23,24,25,26,27] [3]]).i (fC bE.c 3 (dc bL))).o 3 2 .uq (cB bE.c (dc bL))).l (jI aJ.c 2 h140 rfl)).i (fC bE.c 3 (dc bL))).o 3 2 .uq (cB bE.c (dc bL))).l (jI aJ.c 2 h142 rfl)).i (fC bE.c 3 (dc bL))).o 3 2 .uq (cB bE.c (dc bL))).w (show oH (bu.facts.map aJ.c).length (some (D.int .i64 2)) none=some (uB,uK)/\((bu.facts.map aJ.c).all fun r=>r.length==2)=true from⟨h145,by simp[aQ]⟩)).a [.cut uB uK]).i (fC bE.c 3 (dc bL))).o 3 3 .uq (cB bE.c (dc bL))).w (cE h146)).w (show(∀r∈(((bu.facts.map aJ.c).take uK).drop uB),r.length=2)/\(false=true->D.fK (((bu.facts.map aJ.c).take uK).drop uB)=true)from⟨by first|simp| (intro r hr;obtain⟨x,_,rfl⟩:=cG.1 (bC (cM hr));rfl),by simp[D.fK,D.flat]⟩)).a [.fl false,.d (D.bool nw)]).w (show Good prog 14 [D.sl (uQ.map bE.c),D.agg [D.str y4.1.name,D.sl (([[D.str x139.rel,D.sl (x139.args.map tx)],[D.str x141.rel,D.sl (x141.args.map tx)]])++(((bu.facts.map aJ.c).take uK).drop uB)),D.sl (bu.bind.map aj.c)]] (D.bool nw)from by first| (simpa only[ar,b8,bV,bD,bG]using dP h148)|exact dP h148| (have t:=dP h148;simp only[ar,bD,bG,bE.c]at t;exact t)))
     obtain⟨h149,h⟩|⟨h149,h⟩:=aL h
     ·have h:=aM h;subst h;exact(Ch.b h149).Ef hΓ
     ·exact((Ch.b h149).a [.cn [3,6,7,8] [0,1,2]]).Ul hΓ eT (iS bL hm1) (ih1 (i1+1) (dn bL) h)
theorem vW{aF:bw}{r:Bool}(h:nU aF=some r):Good prog 4 [D.sl (aF.map yx)] (D.bool r):=by
 refine gd func4 [[none]] 117 fun hr Γ hΓ=>?_
 rw[nU]at h;obtain⟨y1,h2,h⟩:=aC h;obtain⟨h3,h⟩|⟨h3,h⟩:=aL h
 ·have h:=aM h;subst h;exact((aW.g (vD h2)).b h3).ret hΓ
 ·obtain⟨y4,h5,h⟩:=aC h;obtain⟨y6,h7,h⟩:=aC h;have Fy:=((((aW.g (vD h2)).b h3).g (sY h5)).g (dU h7))
  obtain⟨h8,h⟩|⟨h8,h⟩:=aL h
  ·have h:=aM h;subst h;exact((Fy.r 5 h8).T 8).ret hΓ
  ·have zz:=(Fy.r 5 h8)
   obtain⟨h9,h⟩|⟨h9,h⟩:=aL h
   ·have h:=aM h;subst h;exact((zz.r 7 h9).T 1).ret hΓ
   ·obtain⟨x10,h11,h⟩:=aC h;have Cf:=(((zz.r 3 h9).l (jI aT.c 5 h11 rfl)).r 4 h9)
    obtain⟨h12,h⟩|⟨h12,h⟩:=aL h
    ·have h:=aM h;subst h;exact(Cf.b h12).ret hΓ
    ·refine((Cf.b h12).a [.hl 0 [3,4] [1,0]]).ex (c':=(lc f4 [1,1,1,1])) (K':=(Ry f4 [1,1,1,1])) (K0:=(Ry f4 [1,1,1,1])) hΓ (fun _ _=>rfl) (Oc (st:=⟨[(3,D.ptr 0 0),(4,D.acc 1)],[Ob.box [D.str y4.1.name,D.int .i64 y4.1.prio,D.sl (y4.1.conds.map aT.c),D.sl (y4.1.cJ.map Action.c)],Ob.row .uq 47 2 (y4.2.map aJ.c)]⟩) My 20 16 (by kernel_rfl) (by kernel_rfl) ?_ ?_)
     ·obtain⟨x19,h20,h⟩:=aC h;obtain⟨⟨Bs,Bw⟩,h23,h⟩:=aC h;obtain⟨h24,h⟩:=bY h;obtain⟨rM,h26,h⟩:=aC h;obtain⟨uQ,h28,h⟩:=aC h;obtain⟨Ho,h30,h⟩:=aC h;have yo:=((((((((((((aW.a [.n2 [0,1,2,3,4,5,6,7,8,9,10,11,12,13,14,15,17,18,20,16,19,21] [0,1,2,3,4,5,6,7,8,9,10,11,12,13,14,15,19,16,17,20,18,21] 19 20 [0,1,2,3,16,17] [2]]).l (jI aT.c 5 h11 rfl)).l (jI aT.c 5 h20 rfl)).w (show oH (y4.1.conds.map aT.c).length (some (D.int .i64 2)) none=some (Bs,Bw)/\((y4.1.conds.map aT.c).all fun r=>r.length==5)=true from⟨h23,by simp[aQ]⟩)).w (cE h24)).w (show(∀r∈(((y4.1.conds.map aT.c).take Bw).drop Bs),r.length=5)/\(false=true->D.fK (((y4.1.conds.map aT.c).take Bw).drop Bs)=true)from⟨by first|simp| (intro r hr;obtain⟨x,_,rfl⟩:=cG.1 (bC (cM hr));rfl),by simp[D.fK,D.flat]⟩)).a [.cut Bs Bw,.fl false]).g (cN h26)).a [.d (D.fr 46 3 (uQ.map bE.c))]).w (show Good prog 12 [D.agg [D.str y4.1.name,D.int .i64 y4.1.prio,D.sl (([[D.int .i64 x10.kind,D.str x10.pat.rel,D.sl (x10.pat.args.map tx),D.str x10.left,D.str x10.right],[D.int .i64 x19.kind,D.str x19.pat.rel,D.sl (x19.pat.args.map tx),D.str x19.left,D.str x19.right]])++(((y4.1.conds.map aT.c).take Bw).drop Bs)),D.sl (y4.1.cJ.map Action.c)],D.sl (y4.2.map aJ.c)] (D.fr 46 3 (uQ.map bE.c))from by first| (simpa only[ar,b8,bV,bD,bG]using cN h28)|exact cN h28| (have t:=cN h28;simp only[ar,bD,bG,aZ.c]at t;exact t))).a [.d (D.bool Ho)]).w (show Good prog 13 [D.agg [D.str y4.1.name,D.int .i64 y4.1.prio,D.sl (([[D.int .i64 x10.kind,D.str x10.pat.rel,D.sl (x10.pat.args.map tx),D.str x10.left,D.str x10.right],[D.int .i64 x19.kind,D.str x19.pat.rel,D.sl (x19.pat.args.map tx),D.str x19.left,D.str x19.right]])++(((y4.1.conds.map aT.c).take Bw).drop Bs)),D.sl (y4.1.cJ.map Action.c)]] (D.bool Ho)from by first| (simpa only[ar,b8,bV,bD,bG]using dF h30)|exact dF h30| (have t:=dF h30;simp only[ar,bD,bG,aZ.c]at t;exact t)))
      obtain⟨h31,h⟩|⟨h31,h⟩:=aL h
      ·have h:=aM h;subst h;exact((yo.r 6 h31).T 1).Ef hΓ
      ·have Cg:=(yo.r 6 h31)
       obtain⟨h32,h⟩|⟨h32,h⟩:=aL h
       ·have h:=aM h;subst h;exact(Cg.b h32).Ef hΓ
       ·obtain⟨h150,h⟩:=bY h;refine((Cg.b h32).a [.cn [3,6,7,8] [0,5,6]]).WA hΓ (nH hΓ (fun h=>?_) (bn h150) rM 0 rfl h);have h:=aM h;subst h;exact aW.ret hΓ
     ·refine o6.or (x:=20) (y:=19) (by kernel_rfl) ?_ ?_
      ·obtain⟨x19,h20,h⟩:=aC h;obtain⟨⟨Bs,Bw⟩,h23,h⟩:=aC h;obtain⟨h24,h⟩:=bY h;obtain⟨rM,h26,h⟩:=aC h;obtain⟨uQ,h28,h⟩:=aC h;obtain⟨Ho,h30,h⟩:=aC h;have Fx:=((((((((((((aW.a [.n2 [0,1,2,3,4,5,6,7,8,9,10,11,12,13,14,15,17,18,16,20,19,21] [0,1,2,3,4,5,6,7,8,9,10,11,12,13,14,15,18,16,17,20,19,21] 18 20 [0,1,2,3,16,17] [2]]).l (jI aT.c 5 h11 rfl)).l (jI aT.c 5 h20 rfl)).w (show oH (y4.1.conds.map aT.c).length (some (D.int .i64 2)) none=some (Bs,Bw)/\((y4.1.conds.map aT.c).all fun r=>r.length==5)=true from⟨h23,by simp[aQ]⟩)).w (cE h24)).w (show(∀r∈(((y4.1.conds.map aT.c).take Bw).drop Bs),r.length=5)/\(false=true->D.fK (((y4.1.conds.map aT.c).take Bw).drop Bs)=true)from⟨by first|simp| (intro r hr;obtain⟨x,_,rfl⟩:=cG.1 (bC (cM hr));rfl),by simp[D.fK,D.flat]⟩)).a [.cut Bs Bw,.fl false]).g (cN h26)).a [.d (D.fr 46 3 (uQ.map bE.c))]).w (show Good prog 12 [D.agg [D.str y4.1.name,D.int .i64 y4.1.prio,D.sl (([[D.int .i64 x10.kind,D.str x10.pat.rel,D.sl (x10.pat.args.map tx),D.str x10.left,D.str x10.right],[D.int .i64 x19.kind,D.str x19.pat.rel,D.sl (x19.pat.args.map tx),D.str x19.left,D.str x19.right]])++(((y4.1.conds.map aT.c).take Bw).drop Bs)),D.sl (y4.1.cJ.map Action.c)],D.sl (y4.2.map aJ.c)] (D.fr 46 3 (uQ.map bE.c))from by first| (simpa only[ar,b8,bV,bD,bG]using cN h28)|exact cN h28| (have t:=cN h28;simp only[ar,bD,bG,aZ.c]at t;exact t))).a [.d (D.bool Ho)]).w (show Good prog 13 [D.agg [D.str y4.1.name,D.int .i64 y4.1.prio,D.sl (([[D.int .i64 x10.kind,D.str x10.pat.rel,D.sl (x10.pat.args.map tx),D.str x10.left,D.str x10.right],[D.int .i64 x19.kind,D.str x19.pat.rel,D.sl (x19.pat.args.map tx),D.str x19.left,D.str x19.right]])++(((y4.1.conds.map aT.c).take Bw).drop Bs)),D.sl (y4.1.cJ.map Action.c)]] (D.bool Ho)from by first| (simpa only[ar,b8,bV,bD,bG]using dF h30)|exact dF h30| (have t:=dF h30;simp only[ar,bD,bG,aZ.c]at t;exact t)))
       obtain⟨h31,h⟩|⟨h31,h⟩:=aL h
       ·have h:=aM h;subst h;exact((Fx.r 6 h31).T 1).Ef hΓ
       ·have Lz:=(Fx.r 6 h31)
        obtain⟨h32,h⟩|⟨h32,h⟩:=aL h
        ·have h:=aM h;subst h;exact(Lz.b h32).Ef hΓ
        ·obtain⟨h150,h⟩:=bY h;refine((Lz.b h32).a [.cn [3,6,7,8] [0,5,6]]).WA hΓ (nH hΓ (fun h=>?_) (bn h150) rM 0 rfl h);have h:=aM h;subst h;exact aW.ret hΓ
      ·obtain⟨x19,h20,h⟩:=aC h;obtain⟨⟨Bs,Bw⟩,h23,h⟩:=aC h;obtain⟨h24,h⟩:=bY h;obtain⟨rM,h26,h⟩:=aC h;obtain⟨uQ,h28,h⟩:=aC h;obtain⟨Ho,h30,h⟩:=aC h;have M0:=((((((((((((aW.a [.n2 [0,1,2,3,4,5,6,7,8,9,10,11,12,13,14,15,17,18,16,19,20,21] [0,1,2,3,4,5,6,7,8,9,10,11,12,13,14,15,18,16,17,19,20,21] 18 19 [0,1,2,3,16,17] [2]]).l (jI aT.c 5 h11 rfl)).l (jI aT.c 5 h20 rfl)).w (show oH (y4.1.conds.map aT.c).length (some (D.int .i64 2)) none=some (Bs,Bw)/\((y4.1.conds.map aT.c).all fun r=>r.length==5)=true from⟨h23,by simp[aQ]⟩)).w (cE h24)).w (show(∀r∈(((y4.1.conds.map aT.c).take Bw).drop Bs),r.length=5)/\(false=true->D.fK (((y4.1.conds.map aT.c).take Bw).drop Bs)=true)from⟨by first|simp| (intro r hr;obtain⟨x,_,rfl⟩:=cG.1 (bC (cM hr));rfl),by simp[D.fK,D.flat]⟩)).a [.cut Bs Bw,.fl false]).g (cN h26)).a [.d (D.fr 46 3 (uQ.map bE.c))]).w (show Good prog 12 [D.agg [D.str y4.1.name,D.int .i64 y4.1.prio,D.sl (([[D.int .i64 x10.kind,D.str x10.pat.rel,D.sl (x10.pat.args.map tx),D.str x10.left,D.str x10.right],[D.int .i64 x19.kind,D.str x19.pat.rel,D.sl (x19.pat.args.map tx),D.str x19.left,D.str x19.right]])++(((y4.1.conds.map aT.c).take Bw).drop Bs)),D.sl (y4.1.cJ.map Action.c)],D.sl (y4.2.map aJ.c)] (D.fr 46 3 (uQ.map bE.c))from by first| (simpa only[ar,b8,bV,bD,bG]using cN h28)|exact cN h28| (have t:=cN h28;simp only[ar,bD,bG,aZ.c]at t;exact t))).a [.d (D.bool Ho)]).w (show Good prog 13 [D.agg [D.str y4.1.name,D.int .i64 y4.1.prio,D.sl (([[D.int .i64 x10.kind,D.str x10.pat.rel,D.sl (x10.pat.args.map tx),D.str x10.left,D.str x10.right],[D.int .i64 x19.kind,D.str x19.pat.rel,D.sl (x19.pat.args.map tx),D.str x19.left,D.str x19.right]])++(((y4.1.conds.map aT.c).take Bw).drop Bs)),D.sl (y4.1.cJ.map Action.c)]] (D.bool Ho)from by first| (simpa only[ar,b8,bV,bD,bG]using dF h30)|exact dF h30| (have t:=dF h30;simp only[ar,bD,bG,aZ.c]at t;exact t)))
       obtain⟨h31,h⟩|⟨h31,h⟩:=aL h
       ·have h:=aM h;subst h;exact((M0.r 6 h31).T 1).Ef hΓ
       ·have TN:=(M0.r 6 h31)
        obtain⟨h32,h⟩|⟨h32,h⟩:=aL h
        ·have h:=aM h;subst h;exact(TN.b h32).Ef hΓ
        ·obtain⟨h150,h⟩:=bY h;refine((TN.b h32).a [.cn [3,6,7,8] [0,5,6]]).WA hΓ (nH hΓ (fun h=>?_) (bn h150) rM 0 rfl h);have h:=aM h;subst h;exact aW.ret hΓ
end Go.Cx
namespace Go.Cx
open Go.RowKit Go.Proofs Tryz
namespace LawFnSwapped
theorem Pa{n:Nat}(h:2<=n):oH n (some (D.int .i64 2)) none=some (2,n):=by
 unfold oH;have:(0:Int)<=2/\(2:Int).toNat<=n:=⟨by decide,h⟩
 simp only[av this];rfl
theorem QM(l:fA)(m:bE)(h:m∈l):mJ l m=some true:=by
 unfold mJ;have main:∀(r:fA) (i:Nat),m∈r->gM l m (some false) r i=some true:=by
  intro r
  induction r with
  |nil=>intro i h;cases h
  |cons x r ih=>
   intro i h;rw[gM,RX,aA];by_cases e:x=m
   ·rw[bW e,aK]
   ·rw[cA e,aP];rcases au.1 h with q|q
    ·exact absurd q.symm e
    ·exact ih (i+1) q
 exact main l 0 h
theorem loop(y:aZ×aU)(a b:fA)(k:Option Bool):∀(l:fA) (i:Nat),(∀m∈l,m.rule=y.1.name/\m.facts.length<=1000000/\(∃f0 f1 F,m.facts=f0::f1::F)/\OS m∈b)->fm y a b k l i=k
 | [],_,_=>rfl
 |m::l,i,h=>by
  obtain⟨e1,e2,⟨f0,f1,F,e3⟩,e4⟩:=h m (by simp);have hl:m.facts.length=F.length+2:=by rw[e3];rfl
  have a1:lG m.facts 1=some f1:=by rw[e3];rfl
  have a0:lG m.facts 0=some f0:=by rw[e3];rfl
  have e5:(⟨y.1.name,[f1,f0]++(m.facts.take m.facts.length).drop 2,m.bind⟩:bE)=OS m:=by
   unfold OS;rw[nO,e3,e1];rfl
  rw[fm,az,cA (by omega),aP,a1,aA,a0,aA,Pa (by omega),aA];dsimp only;rw[A8 (by simp;omega) (by decide),aK,e5,QM b _ e4,aA,bX,aP];exact loop y a b k l (i+1) fun x hx=>h x (by simp[hx])
theorem R6(code:bw):nU code=some true:=by
 unfold nU uh;rw[aA,az];by_cases hc:code.length<=4096
 ·rw[cA (by omega),aP];obtain⟨r,fs,e1,hr,hfs⟩:=MJ code hc;have w:r.wt<=1048576:=hr.wt (by decide);have wf:v8 aJ.wt fs<=1048576:=hfs.wt (by decide);rw[e1,aA];dsimp only;rw[Pp r w,aA];cases h1:jg r with
  |false=>rfl
  |true=>
   rw[bX,aP,az];by_cases h2:r.conds.length<2
   ·rw[bW (by omega),aK]
   ·rw[cA (by omega),aP]
    match hcs:r.conds with
    | []=>rw[hcs]at h2;simp at h2
    | [_]=>rw[hcs]at h2;simp at h2
    |c0::c1::cs=>
     have a1:lG (c0::c1::cs) 1=some c1:=rfl;have a0:lG (c0::c1::cs) 0=some c0:=rfl;rw[a1,aA];by_cases k1:c1.kind=1
     ·have hC:=uy h1;rw[hcs]at hC;have k0:c0.kind=1:=(ud (pre:=[]) hC).2.1 rfl;have h4:=xH h1;rw[hcs]at h4;simp only[aO]at h4;rw[show((c1.kind:Int) != 1)=false by rw[k1];rfl,aP,a0,aA,Pa (by simp),aA];dsimp only;rw[A8 (by simp;omega) (by decide),aK];have ex:[c1,c0]++((c0::c1::cs).take (c0::c1::cs).length).drop 2=c1::c0::cs:=by
       rw[nO];rfl
      rw[ex];generalize hx:(⟨r.name,r.prio,c1::c0::cs,r.cJ⟩:aZ)=x;have x1:x.conds=c1::c0::cs:=by rw[<-hx]
      have x2:x.cJ=r.cJ:=by rw[<-hx]
      have x3:x.name=r.name:=by rw[<-hx]
      have x4:x.prio=r.prio:=by rw[<-hx]
      have Oz:=JZ h1 hcs x1 x2 x3 x4 k1;have wx:x.wt<=1048576:=by
       have e:x.wt=r.wt:=by
        unfold aZ.wt;rw[x1,x2,x3,hcs];simp only[mP];omega
       omega
      rw[TA r fs w wf,aA,TA x fs wx wf,aA,P5 x wx,aA,Oz,bX,aP,az,az];by_cases hF:oy fs=true
      ·have l1:=Cb h1 Oz hF hcs x1 x3 k0 k1;have l2:=Cb Oz h1 hF x1 hcs x3.symm k1 k0;have hlen:(Cv r fs).length=(Cv x fs).length:=by omega
       rw[show(((Cv r fs).length:Int) != ((Cv x fs).length:Int))=false by rw[hlen];simp,aP];have hb:=RC r fs;rw[uC (by omega),aK];refine loop _ _ _ _ _ _ fun m hm=>?_
       obtain⟨q1,q2⟩:=IT h1 Oz hF hcs x1 x3 k0 k1 hm;refine⟨((EV h1 hF m).1 hm).1,?_,q1,q2⟩;exact Lp h1 hF m hm
      ·have z:∀q:aZ,Cv q fs=[]:=fun q=>O2 fun h=>hF h.2
       rw[z r,z x];rfl
     ·rw[show((c1.kind:Int) != 1)=true by simpa using k1,aK]
 ·rw[bW (by omega),aK]
theorem La(code:bw):Good prog 4 [D.sl (code.map yx)] (.bool true):=vW (R6 code)
end LawFnSwapped
end Go.Cx
namespace Go.Cx
open Go.RowKit
inductive Sh where
 |int (k:IntKind)
 |str
 |bool
 |sl (row:List Sh)
mutual
inductive D0:Sh->D->Prop
 |int (k:IntKind) (n:Int):D0 (.int k) (.int k n)
 |str (s:Bytes):D0 .str (.str s)
 |bool (b:Bool):D0 .bool (.bool b)
 |sl (row:List Sh) (rows:List aG):(∀r∈rows,nh row r)->D0 (.sl row) (.sl rows)
inductive nh:List Sh->List D->Prop
 |nil:nh [] []
 |cons (s:Sh) (ss:List Sh) (d:D) (ds:aG):D0 s d->nh ss ds->nh (s::ss) (d::ds)
end
theorem nh.app{s1 s2:List Sh}{d1 d2:aG}(h1:nh s1 d1)(h2:nh s2 d2):nh (s1++s2) (d1++d2):=by
 induction s1 generalizing d1 with
 |nil=>cases h1;exact h2
 |cons s s1 ih=>cases h1 with|cons _ _ d ds h h'=>exact .cons _ _ _ _ h (ih h')
theorem nh.length{s:List Sh}{d:aG}(h:nh s d):d.length=s.length:=by
 induction s generalizing d with
 |nil=>cases h;rfl
 |cons s ss ih=>cases h with|cons _ _ d ds h h'=>simp[ih h']
def EY(P:Program):Nat->List Field->List (List Sh)->Bool
 |_,[],[]=>true
 |off,f::fs,r::rs=>(f.offset==off)&&(r.length==P.cellsOf f.type)&&EY P (off+r.length) fs rs
 |_,_,_=>false
def tC(P:Program):Nat->TypeId->Option (List Sh)
 |0,_=>none
 |n+1,t=>match P.underlying t with
  |some .bool=>some [.bool]
  |some (.int k)=>some [.int k]
  |some .string=>some [.str]
  |some (.slice e)=>(tC P n e).bind fun r=>if r.length=P.cellsOf e/\0<r.length then some [.sl r]else none
  |some (.struct fs)=>(fs.toList.mapM fun f=>tC P n f.type).bind fun rs=>if EY P 0 fs.toList rs=true/\rs.flatten.length=P.cellsOf t then some rs.flatten else none
  |_=>none
theorem Fl{α β:Type}{f:α->Option β}:∀ {l:List α} {ys:List β},l.mapM f=some ys->ys.length=l.length/\∀(i:Nat) x,l[i]?=some x->∃y,ys[i]?=some y/\f x=some y:=by
 intro l
 induction l with
 |nil=>intro ys h;simp at h;subst h;simp
 |cons a l ih=>
  intro ys h;simp only[vp,Option.bind_eq_bind,Option.pure_def]at h;cases ha:f a with
  |none=>simp[ha]at h
  |some b=>
   cases hl:l.mapM f with
   |none=>simp[ha,hl]at h
   |some bs=>
    simp[ha,hl]at h;subst h;obtain⟨h1,h2⟩:=ih hl;refine⟨by simp[h1],fun i x hx=>?_⟩;cases i with
    |zero=>simp at hx;subst hx;exact⟨b,by simp,ha⟩
    |succ i=>simp at hx;obtain⟨y,k1,k2⟩:=h2 i x hx;exact⟨y,by simpa using k1,k2⟩
section
variable{P:Program}{w:World}{H:Type}{enc:TypeId×Value->H}{base:Nat}{sp:Nat->Bool}{held:Bool}
theorem C5{a:Addr}{n:Nat}{cs:b9}(h:w.cells? base a n=some cs):cs.length=n/\∀(j:Nat) c,cs[j]?=some c->w.cell? (a.add j)=some c:=by
 unfold World.cells? at h;split at h
 ·obtain⟨h1,h2⟩:=Fl h;refine⟨by simpa using h1,fun j c hj=>?_⟩;have hlt:j<n:=by have:=(aB.1 hj).1;rw[h1]at this;simpa using this
  obtain⟨y,k1,k2⟩:=h2 j j (by simp[hlt]);rw[hj]at k1;cases k1;exact k2
 ·cases h
theorem R9{k:IntKind}{n:Int}(h:(Lit.int k n).wf=true):nk k n:=by
 simpa[Lit.wf,nk]using h
theorem Ij:∀(fuel:Nat) {t:TypeId} {cs:b9} {d:DataW H} {ps:List MemPlace} {n:Nat} {OO:List Sh},
 DataW.trod enc P w base sp held fuel t cs=some (d,ps)->tC P n t=some OO->∃ds bs,iT w cs ds bs/\nh OO ds:=by
 intro fuel
 induction fuel with
 |zero=>intro t cs d ps n OO h;simp[DataW.trod]at h
 |succ fuel ih=>
  intro t cs d ps n OO h hf;cases n with
  |zero=>simp[tC]at hf
  |succ n=>
   simp only[tC]at hf;simp only[DataW.trod]at h;split at hf
   ·rename_i hu;cases hf;simp only[hu]at h;split at h<;>rename_i h1<;>try(simp at h1;done)
    all_goals try(cases h;done)
    all_goals simp at h1
    exact⟨[.bool _],[],.cons _ _ _ _ [] [] rfl (.bool _) .nil,.cons _ _ _ _ (.bool _) .nil⟩
   ·rename_i k hu;cases hf;simp only[hu]at h;split at h<;>rename_i h1<;>try(simp at h1;done)
    all_goals try(cases h;done)
    all_goals simp at h1
    rename_i k1 k2 m _;subst h1;split at h
    ·rename_i hc;obtain⟨rfl,hwf⟩:=hc;exact⟨[.int _ _],[],.cons _ _ _ _ [] [] rfl (.int _ _ (R9 hwf)) .nil,.cons _ _ _ _ (.int _ _) .nil⟩
    ·cases h
   ·rename_i hu;cases hf;simp only[hu]at h;split at h<;>rename_i h1<;>try(simp at h1;done)
    all_goals try(cases h;done)
    all_goals simp at h1
    split at h
    ·rename_i hc;exact⟨[.str _],[],.cons _ _ _ _ [] [] rfl (.str _ hc) .nil,.cons _ _ _ _ (.str _) .nil⟩
    ·cases h
   ·rename_i e hu;cases hr:tC P n e with
    |none=>simp[hr]at hf
    |some r=>
     simp only[hr,aA]at hf;split at hf
     ·rename_i hsz;cases hf;simp only[hu]at h;split at h<;>rename_i h1<;>try(simp at h1;done)
      all_goals try(cases h;done)
      all_goals simp at h1
      ·exact⟨[.sl []],[],.cons _ _ _ _ [] [] rfl .qz .nil,.cons _ _ _ _ (.sl _ _ (by simp)) .nil⟩
      ·rename_i a len cap
       try subst h1
       split at h
       ·rename_i hc;cases hm:(List.range len).mapM (fun i=>(w.cells? base (a.add (i*P.cellsOf e)) (P.cellsOf e)).bind (DataW.trod enc P w base sp held fuel e))with
        |none=>simp[hm]at h
        |some elems=>
         obtain⟨_,hall⟩:=Fl hm;have hel:∀i,i<len->∃cs ds bs,w.cells? base (a.add (i*P.cellsOf e)) (P.cellsOf e)=some cs/\iT w cs ds bs/\nh r ds:=by
          intro i hi;obtain⟨y,_,hy⟩:=hall i i (by simp[hi]);obtain⟨cs,hcs,hy⟩:=jU.1 hy;obtain⟨ds,bs,k1,k2⟩:=ih (d:=y.1) (ps:=y.2) hy hr;exact⟨cs,ds,bs,hcs,k1,k2⟩
         by_cases hl0:len=0
         ·subst hl0;exact⟨[.sl []],[],.cons _ _ _ _ [] [] rfl (.jo a cap hc.2.2) .nil,.cons _ _ _ _ (.sl _ _ (by simp)) .nil⟩
         ·
          obtain⟨cs0,Om,SF,Gj,Jn,Xy⟩:=hel 0 (by omega);obtain⟨hl1,ID⟩:=C5 Gj;have hpos:0<cs0.length:=by rw[hl1];omega
          have hc0:=ID 0 cs0[0] (aR hpos);have ha0:(a.add (0*P.cellsOf e)).add 0=a:=by simp[Addr.add]
          rw[ha0]at hc0;obtain⟨b,off,spot⟩:=a;have Ss:spot=none:=by
           cases spot with
           |none=>rfl
           |some x=>
            unfold World.cell? at hc0;split at hc0
            ·simp at hc0
            ·cases hc0
          subst Ss;have hb:b<w.heap.size:=World.block_lt_of_cell? w _ hc0;have build:∀m,m<=len->∃(rows:List aG) (cs:b9) (bs:aI),rows.length=m/\cs.length=m*P.cellsOf e/\(∀(j:Nat) c,cs[j]?=some c->w.cell? ⟨b,off+j,none⟩=some c)/\
           iT w cs rows.flatten bs/\∀x∈rows,nh r x:=by
           intro m
           induction m with
           |zero=>intro _;exact⟨[],[],[],rfl,by simp,by simp,.nil,by simp⟩
           |succ m YW=>
            intro hm1;obtain⟨rows,cs,bs,q1,q2,q3,q4,q5⟩:=YW (by omega);obtain⟨cs',ds',bs',g1,g2,g3⟩:=hel m (by omega);obtain⟨g4,g5⟩:=C5 g1;refine⟨rows++[ds'],cs++cs',bs++bs',by simp[q1],by simp[q2,g4,gT],?_,?_,?_⟩
            ·intro j c hj;by_cases hlt:j<cs.length
             ·rw[aV hlt]at hj;exact q3 j c hj
             ·rw[aY (by omega)]at hj;have:=g5 _ c hj;rw[Addr.add_lit,Addr.add_lit,q2]at this;have e1:off+m*P.cellsOf e+(j-m*P.cellsOf e)=off+j:=by omega
              rw[e1]at this;exact this
            ·rw[fZ];have:=q4.app g2;simpa using this
            ·intro x hx;rcases aH.1 hx with hx|hx
             ·exact q5 x hx
             ·simp at hx;subst hx;exact g3
          obtain⟨rows,cs,bs,q1,q2,q3,q4,q5⟩:=build len (bM _);subst q1;refine⟨[.sl rows],b::bs,?_,.cons _ _ _ _ (.sl _ _ q5) .nil⟩;have:=iT.cons (w:=w) _ [] _ [] _ [] rfl (Rd.sl b off cap r.length rows cs bs hb hc.2.1 hc.2.2 (fun x hx=>(q5 x hx).length) q3 q4) .nil;simpa using this
       ·cases h
     ·cases hf
   ·rename_i fs hu;cases hr:fs.toList.mapM (fun f=>tC P n f.type)with
    |none=>simp[hr]at hf
    |some rs=>
     simp only[hr,aA]at hf;split at hf
     ·rename_i hok;cases hf;simp only[hu]at h;split at h
      ·rename_i hlen;cases hm:fs.toList.mapM (fun f=>DataW.trod enc P w base sp held fuel f.type ((cs.drop f.offset).take (P.cellsOf f.type)))with
       |none=>simp[hm]at h
       |some xs=>
        have go:∀(fl:List Field) (rl:List (List Sh)) (xl:List (DataW H×List MemPlace)) (off:Nat),fl.mapM (fun f=>tC P n f.type)=some rl->
         fl.mapM (fun f=>DataW.trod enc P w base sp held fuel f.type ((cs.drop f.offset).take (P.cellsOf f.type)))=some xl->EY P off fl rl=true->
         ∃ds bs,iT w ((cs.drop off).take rl.flatten.length) ds bs/\nh rl.flatten ds:=by
         intro fl
         induction fl with
         |nil=>
          intro rl xl off h1 _ _;simp at h1;subst h1;exact⟨[],[],by simpa using iT.nil,.nil⟩
         |cons f fl YU=>
          intro rl xl off h1 h2 h3;simp only[vp,Option.bind_eq_bind,Option.pure_def]at h1 h2;cases a1:tC P n f.type with
          |none=>simp[a1]at h1
          |some r1=>
           cases a2:fl.mapM (fun f=>tC P n f.type)with
           |none=>simp[a1,a2]at h1
           |some WJ=>
            simp[a1,a2]at h1;subst h1;cases b1:DataW.trod enc P w base sp held fuel f.type ((cs.drop f.offset).take (P.cellsOf f.type))with
            |none=>simp[b1]at h2
            |some x1=>
             cases b2:fl.mapM (fun f=>DataW.trod enc P w base sp held fuel f.type ((cs.drop f.offset).take (P.cellsOf f.type)))with
             |none=>simp[b1,b2]at h2
             |some Yy=>
              simp only[EY,aN,cD]at h3;obtain⟨⟨o1,o2⟩,o3⟩:=h3;obtain⟨Ew,NM,k1,k2⟩:=ih (d:=x1.1) (ps:=x1.2) b1 a1;obtain⟨Xa,Mr,k3,k4⟩:=YU WJ Yy (off+r1.length) a2 b2 o3;refine⟨Ew++Xa,NM++Mr,?_,by simpa using k2.app k4⟩;have e1:(cs.drop off).take (r1::WJ).flatten.length=(cs.drop f.offset).take (P.cellsOf f.type)++(cs.drop (off+r1.length)).take WJ.flatten.length:=by
               rw[o1,<-o2,dO,af,<-eC,List.take_add]
              rw[e1];exact k1.app k3
        obtain⟨ds,bs,k1,k2⟩:=go fs.toList rs xs 0 hr hm hok.1;rw[List.drop_zero,hok.2,<-hlen,nO]at k1;exact⟨ds,bs,k1,k2⟩
      ·cases h
     ·cases hf
   ·cases hf
def KE(P:Program)(n:Nat)(t:TypeId)(d:D):Prop:=
 (sQ P t=some true/\∃OO cells,tC P n t=some OO/\d=.agg cells/\nh OO cells)\/(sQ P t=some false/\∃sh,tC P n t=some [sh]/\D0 sh d)
inductive DJ(P:Program)(n:Nat):List TypeId->List D->Prop
 |nil:DJ P n [] []
 |cons (t:TypeId) (ts:List TypeId) (d:D) (ds:aG):KE P n t d->DJ P n ts ds->DJ P n (t::ts) (d::ds)
def FC(P:Program)(n:Nat)(t:TypeId):Bool:=
 match sQ P t,tC P n t with
 |some true,some _=>(match P.underlying t with|some (.struct _)=>true|_=>false)
 |some false,some [_]=>true
 |_,_=>false
theorem M1{n:Nat}{t:TypeId}{v:Value}{d:DataW H}{ps:List MemPlace}(hok:FC P n t=true)(hval:Value.okWide P w .any base t v)(h:DataW.Trod enc P w 0 sp held t v d ps):
 ∃x bs,Rd w v x bs/\KE P n t x:=by
 obtain⟨fuel,h⟩:=h;unfold FC at hok;split at hok
 ·rename_i OO ht hf;split at hok
  ·rename_i fs hu;unfold Value.okWide at hval;simp only[hu]at hval;obtain⟨cs,rfl,_⟩:=hval;obtain⟨ds,bs,k1,k2⟩:=Ij fuel h hf;refine⟨.agg ds,bs,?_,.inl ⟨ht,OO,ds,hf,rfl,k2⟩⟩;have:=Rd.agg (w:=w) cs.toList ds bs k1;simpa using this
  ·cases hok
 ·rename_i sh ht hf;have hone:v.oneCell'=true:=by
   unfold sQ at ht;split at ht<;>first
    | (cases ht;done)
    |skip
   rename_i WW h1 h2 hu;unfold Value.okWide at hval;rw[hu]at hval;cases v with
   |agg cs=>
    cases WW<;>first
     | (exfalso;exact h1 _ rfl)
     | (exfalso;exact h2 _ _ rfl)
     | (simp[Cell.okWide,Cell.ok,hu]at hval)
   |tuple vs=>
    cases WW<;>first
     | (exfalso;exact h1 _ rfl)
     | (exfalso;exact h2 _ _ rfl)
     | (simp[Cell.okWide,Cell.ok,hu]at hval)
   |_=>rfl
  rw[Dd hone]at h;obtain⟨ds,bs,k1,k2⟩:=Ij fuel h hf;cases k2 with
  |cons _ _ x ds' hx hn=>
   cases hn;cases k1 with
   |cons _ _ _ _ b1 b2 _ hrd hn=>exact⟨x,b1,hrd,.inr ⟨ht,sh,hf,hx⟩⟩
 ·cases hok
theorem JP{n:Nat}:∀ {ts:List TypeId} {vs:b9} {ds:List (DataW H)} {ps:List MemPlace},(∀t∈ts,FC P n t=true)->
 (∀(j:Nat) t v,ts[j]?=some t->vs[j]?=some v->Value.okWide P w .any base t v)->DataW.TrodAll enc P w 0 sp held ts vs ds ps->
 ∃xs bs,Hs w vs xs bs/\DJ P n ts xs/\ds.length=ts.length:=by
 intro ts
 induction ts with
 |nil=>
  intro vs ds ps _ _ h;cases vs with
  |nil=>cases ds with
   |nil=>exact⟨[],[],.nil,.nil,rfl⟩
   |cons=>cases h
  |cons=>cases ds<;>cases h
 |cons t ts ih=>
  intro vs ds ps hok hval h;cases vs with
  |nil=>cases h
  |cons v vs=>
   cases ds with
   |nil=>cases h
   |cons d ds=>
    obtain⟨p,q,h1,h2,rfl⟩:=h;obtain⟨x,b1,k1,k2⟩:=M1 (hok t (by simp)) (hval 0 t v rfl rfl) h1;obtain⟨xs,b2,k3,k4,k5⟩:=ih (fun u hu=>hok u (by simp[hu])) (fun j u y hj hv=>hval (j+1) u y (by simpa using hj) (by simpa using hv)) h2;exact⟨x::xs,b1++b2,.cons _ _ _ _ _ _ k1 k3,.cons _ _ _ _ k2 k4,by simp[k5]⟩
theorem DF{W W':World}(hl:laidOutB P=true)(hb:Below W.heap.size W W')(N6:Nat->Bool):∀ {ts:List TypeId} {vs:b9} {ds:List (DataW H)} {ps:List MemPlace},
 (∀t∈ts,P.readableRec t=true/\t<P.types.size)->DataW.TrodAll enc P W 0 (fun _=>true) true ts vs ds ps->(∀x∈ps,x.block<W.heap.size)->(∀x∈ps,N6 x.block=true)->
 DataW.TrodAll enc P W' 0 N6 true ts vs ds ps:=by
 intro ts
 induction ts with
 |nil=>intro vs ds ps _ h _ _;cases vs<;>cases ds<;>first|exact h|cases h
 |cons t ts ih=>
  intro vs ds ps ht h hlt hsp;cases vs with
  |nil=>cases h
  |cons v vs=>
   cases ds with
   |nil=>cases h
   |cons d ds=>
    obtain⟨p,q,h1,h2,rfl⟩:=h;refine⟨p,q,?_,ih (fun u hu=>ht u (by simp[hu])) h2 (fun x hx=>hlt x (by simp[hx])) (fun x hx=>hsp x (by simp[hx])),rfl⟩;exact WideElems.Trod_stays hl (ht t (by simp)).1 (ht t (by simp)).2 h1 (fun x hx=>hb.same (hlt x (by simp[hx]))) (fun x hx=>hsp x (by simp[hx]))
theorem tH.oz{w:World}{v:Value}{b:Bool}{bs ts us:aI}(h:tH w v (.bool b) bs ts us):v=.bool b:=by
 cases h with|v h=>cases h with|cell h=>cases h with|pure h=>cases h;rfl
theorem ER{f:FuncId}{fn:Func}{s:ChangeSpec}{n rt:Nat}{W:World}{args:Array Value}{ds gs:List (DataW H)}{before:List MemPlace}
 (hl:laidOutB P=true) (IJ:∀t∈fn.params.toList,FC P n t=true/\P.readableRec t=true/\t<P.types.size) (hres:fn.resultTypes= #[rt]) (YN:P.underlying rt=some .bool)
 (hv:s.vars=[]) (hfn:∀ds:List (DataW H),ds.length=fn.params.toList.length->s.fn H ds= {results:=[.lit (.bool true)],args:=ds})
 (hvs:D1 W fun _=>False) (jO:∀xs,DJ P n fn.params.toList xs->Good P f xs (.bool true))
 (hval:∀(j:Nat) t v,fn.params[j]?=some t->args[j]?=some v->Value.okWide P W .any base t v)
 (hW:DataW.Whole enc P fn.params.toList s.vars false W args.toList ds gs before):
 Calls P f args W fun e W'=>∃v,e=.returned v/\s.post enc P fn false true false false W args v W':=by
 have Wf:=hW;obtain⟨p,q,hA,hV,hpq,hz,_⟩:=hW;have Y4:gs=[]/\q=[]:=by
  rw[hv]at hV;cases gs with
  |nil=>exact⟨rfl,hV⟩
  |cons=>cases hV
 obtain⟨rfl,rfl⟩:=Y4;rw[dM]at hpq;subst hpq;obtain⟨xs,bs,k1,k2,k3⟩:=JP (fun t ht=>(IJ t ht).1) (fun j t v hj hv=>hval j t v (by simpa using hj) (by simpa using hv)) hA;have hc:=(jO xs k2).2 W (fun _=>0) args.toList bs hvs k1 (fun _ _=>rfl) (fun b hb=>absurd rfl hb) (fun _=>sr _);rw[gQ]at hc;refine hc.mono ?_;rintro e W' ⟨v,bs',ts,us,rfl,hb,hr,_⟩;refine⟨v,rfl,?_⟩;obtain rfl:=hr.oz;have hlt:=Wf.lt;have VA:=hfn ds k3;have LB:∀(b:Nat) (sp:Nat->Bool) (hd:Bool),DataW.TrodAll enc P W' b sp hd fn.resultTypes.toList ((Value.bool true).resultList fn.resultTypes.size) [.lit (.bool true)] []:=by
  intro b sp hd;rw[hres];exact⟨[],[],⟨1,by simp[DataW.trod,YN,Value.cells]⟩,rfl,rfl⟩
 have hargs:∀N6:Nat->Bool,(∀x∈before,N6 x.block=true)->DataW.TrodAll enc P W' 0 N6 true fn.params.toList args.toList ds before:=
  fun N6 hsp=>DF hl hb N6 (fun t ht=>(IJ t ht).2) hA hlt hsp
 have hvars:∀N6:Nat->Bool,DataW.TrodVars enc P W' N6 s.vars [] []:=fun N6=>by rw[hv];rfl
 unfold ChangeSpec.post;refine⟨ds,[],before,[],before,[],Wf,?_,?_,?_,hb.frame _,fun h=>by cases h⟩
 ·rw[dM,VA];exact LB _ _ _
 ·rw[dM,VA];exact hargs _ (fun x hx=>by simpa using hlt x hx)
 ·rw[dM,VA];exact hvars _
end
end Go.Cx
namespace Go.Cx
open Go.RowKit
abbrev qm:=List Sh
theorem J4{α:Type}{c:α->aG}{row:qm}(hc:∀r,nh row r->∃x,r=c x):∀ {rows:List aG},(∀r∈rows,nh row r)->∃l:List α,rows=l.map c:=by
 intro rows
 induction rows with
 |nil=>intro _;exact⟨[],rfl⟩
 |cons r rows ih=>
  intro h;obtain⟨x,rfl⟩:=hc r (h r (by simp));obtain⟨l,rfl⟩:=ih (fun s hs=>h s (by simp[hs]));exact⟨x::l,rfl⟩
theorem NT{α:Type}{c:α->aG}{row:qm}(hc:∀r,nh row r->∃x,r=c x){d:D}(h:D0 (.sl row) d):∃l:List α,d=.sl (l.map c):=by
 cases h with
 |sl _ rows hr=>
  obtain⟨l,rfl⟩:=J4 hc hr;exact⟨l,rfl⟩
theorem KW{k:IntKind}{d:D}(h:D0 (.int k) d):∃n,d=.int k n:=by cases h;exact⟨_,rfl⟩
theorem GZ{s:Sh}{ss:qm}{ds:aG}(h:nh (s::ss) ds):∃d r,ds=d::r/\D0 s d/\nh ss r:=by
 cases h with|cons _ _ d r h1 h2=>exact⟨d,r,rfl,h1,h2⟩
theorem J5{ds:aG}(h:nh [] ds):ds=[]:=by cases h;rfl
theorem NU(r:aG)(h:nh [.int .u8] r):∃s,r=yx s:=by
 obtain⟨_,_,rfl,h1,h⟩:=GZ h;cases J5 h;obtain⟨s,rfl⟩:=KW h1;exact⟨s,rfl⟩
section
variable{P:Program}{n:Nat}{t:TypeId}{d:D}
theorem KE.cell{sh:Sh}(ha:sQ P t=some false)(hf:tC P n t=some [sh])(h:KE P n t d):D0 sh d:=by
 rcases h with⟨h1,_⟩|⟨_,ZD,h1,h2⟩
 ·rw[ha]at h1;cases h1
 ·rw[hf]at h1;cases h1;exact h2
end
end Go.Cx
namespace Go.Cx
open Go.ChangeShapes Go.WideShapes Go.ChangeAt Go.RowKit
def Vz(P:Program)(f:FuncId)(fn:Func)(s:ChangeSpec)(c:OpenClaim):Bool:=(c.wf (OpenSpec.ofChange s)&&laidOutB P&&mapsRowed P)
def W3(P:Program)(f:FuncId)(fn:Func)(s:ChangeSpec)(c:OpenClaim):Bool:=(fn.params.all (P.readableRec ·)&&namedTie P c.named s.vars)&&((c.stops==[])&&(P.stops==[])&&(c.knobs==[])&&(P.stopKnobs==[]))&&((c.maps==(fn.params.toList++s.plain.varTypes P).any (P.mapsRec ·))&&(c.ifaces==(fn.params.toList++s.plain.varTypes P).any (P.ifacesRec ·))&&(c.mapsOut==P.mapsAmong fn.resultTypes.toList))&&((c.loops==(fn.params.toList++s.plain.varTypes P).any (P.loopsFrom ·))&&(c.wideKeys==(fn.params.toList++s.plain.varTypes P++fn.resultTypes.toList).any (P.wideKeysFrom ·)))&&(s.vars.all (P.varReadable ·)&&fn.resultTypes.all (fun t=>P.readableRec t&&decide (t<P.types.size))&&(c.ifacesOut==fn.resultTypes.toList.any (P.ifacesRec ·))&&(c.loopsOut==fn.resultTypes.toList.any (P.loopsFrom ·)))&&((c.kinds==(if c.domain.isEmpty then []else fn.params.toList.map fun t=>match P.underlying t with|some (.int k)=>some k|_=>none))&&(c.pinned==c.pinnedBy))&&((c.veiled==(fn.params.toList++s.plain.varTypes P++fn.resultTypes.toList).any (P.veiledRec ·))&&c.veiledFits P fn.params.toList (fn.params.toList++s.plain.varTypes P++fn.resultTypes.toList))
def W5(P:Program)(f:FuncId)(fn:Func)(s:ChangeSpec)(c:OpenClaim):Bool:=(c.inPlace==P.inPlace f)&&(c.unfollowed==P.unfollowed f)&&(c.recurses==P.recurses f)&&(c.named==P.varsNamed f)
def W6(P:Program)(f:FuncId)(fn:Func)(s:ChangeSpec)(c:OpenClaim):Bool:=(c.plainKeys==P.plainKeys)&&(c.shortTexts.isNone&&P.stopsHeard)&&P.mayEnter&&(c.lifted==P.liftsFinal)&&(P.make==some c.make)
theorem JI{P:Program}{f:FuncId}{fn:Func}{s:ChangeSpec}{c:OpenClaim}(h0:Vz P f fn s c=true)(h1:W3 P f fn s c=true)(h2:W5 P f fn s c=true)(h3:W6 P f fn s c=true):joinedFacts P f fn s c=true:=by
 unfold Vz at h0;unfold W3 at h1;unfold W5 at h2;unfold W6 at h3;unfold joinedFacts;simp only[aN]at h0 h1 h2 h3⊢;obtain⟨⟨Yc,Yd⟩,Ye⟩:=h0;obtain⟨⟨⟨⟨⟨⟨⟨Yf,Yg⟩,⟨⟨⟨Yh,Yi⟩,Yj⟩,Yk⟩⟩,⟨⟨Yp,Yq⟩,Yr⟩⟩,⟨Ys,Yt⟩⟩,⟨⟨⟨Yu,Yv⟩,Yw⟩,Yx⟩⟩,⟨XF,XG⟩⟩,⟨XH,XI⟩⟩:=h1;obtain⟨⟨⟨Yl,Ym⟩,Yn⟩,Yo⟩:=h2;obtain⟨⟨⟨⟨X9,⟨XA,XB⟩⟩,XC⟩,XD⟩,XE⟩:=h3
 and_intros<;>assumption
end Go.Cx

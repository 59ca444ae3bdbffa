/- Chapter 1 in plain words: what the functions on texts and lists of texts compute, of the program and of the reference. No condition but bounds on lengths. -/
import Derived.Test.YtolgbnoielbngaaGreatDoorPFnSharedG3
import Derived.Test.YtolgbnoielbngaaGreatDoorPFnSharedG4
import Derived.Sort.Walk0
import Derived.Lib.ItoaNum
import Derived.Lib.ItoaLen
import Derived.Lib.Atoi
import Derived.ProofKit
set_option linter.unusedVariables false
set_option linter.unusedSimpArgs false
namespace Go.Cx
open Go.RowKit Go.Proofs Tryz
theorem D0{α:Type}{a pre xs:List α}{x:α}(h:a=pre++x::xs):lg a (pre.length:Int)=some x:=by
 unfold lg;have:a[pre.length]?=some x:=by rw[h];simp
 simp[this]
theorem zI{n b:Nat}(hn:n<=1099511627776)(hb:b<=128):room n b=true:=by
 unfold room maxLen;have:n*b<=1099511627776*128:=Nat.mul_le_mul hn hb;simp;omega
theorem n8{α:Type}{w:List α}{c:α->aG}{y:aG}{b:Nat}(h:w.length<1099511627776)(hb:b<=128):room ((w.map c).length+([y]).length) b=true:=zI (by simp;omega) hb
theorem Kp{α β:Type}{w:List α}{v:List β}{c:α->aG}{d:β->aG}{b:Nat}(h:w.length+v.length<=1099511627776)(hb:b<=128):room ((w.map c).length+(v.map d).length) b=true:=zI (by simp;omega) hb
theorem Kn{β:Type}{v:List β}{d:β->aG}{b:Nat}(h:v.length<=1099511627776)(hb:b<=128):room (([]:List aG).length+(v.map d).length) b=true:=zI (by simp;omega) hb
theorem tu{α:Type}{l:List α}(h:l.length<=1099511627776):decide (l.length<=maxLen)=true:=by unfold maxLen;simp;omega
theorem Ef{α β γ:Type}{c:β->aG}{b:Nat}{f:α->Option β}{g:α->β}{L:List α->Nat->List β->Option γ}{k:List β->Option γ}(hb:b<=128)(vX:∀i w,L [] i w=k w)
 (EQ:∀x xs i w,L (x::xs) i w=(f x).bind fun y=>bif room ((w.map c).length+([c y]).length) b then L xs (i+1) (w++[y])else none):
 ∀(l:List α) (i:Nat) (w:List β),(∀x∈l,f x=some (g x))->w.length+l.length<=1099511627776->L l i w=k (w++l.map g):=by
 intro l
 induction l with
 |nil=>intro i w _ _;simp[vX]
 |cons x xs ih=>
  intro i w hf hl;simp only[aT]at hl;rw[EQ,hf x (by simp),aA,n8 (by omega) hb,aN,ih _ _ (fun y hy=>hf y (by simp[hy])) (by simp;omega)];simp
theorem M1{α:Type}{f:α->Option Bool}{p:α->Bool}{L:List α->Nat->Option Bool}{k:Option Bool}(vX:∀i,L [] i=k)
 (EQ:∀x xs i,L (x::xs) i=(f x).bind fun y=>bif !y then some false else L xs (i+1)):∀(l:List α) (i:Nat),(∀x∈l,f x=some (p x))->L l i=bif l.all p then k else some false:=by
 intro l
 induction l with
 |nil=>intro i _;simp[vX]
 |cons x xs ih=>
  intro i hf;rw[EQ,hf x (by simp),aA,ih _ (fun y hy=>hf y (by simp[hy])),cv];cases p x<;>simp
theorem qR:∀(a:Bytes),Op.bytesLess a a=false
 | []=>rfl
 |x::a=>by simp[Op.bytesLess,qR a]
theorem uk:∀ {a b c:Bytes},Op.bytesLess a b=true->Op.bytesLess b c=true->Op.bytesLess a c=true
 | [],b,[],_,h2=>by cases b<;>simp[Op.bytesLess]at h2
 | [],b,_::_,_,_=>by simp[Op.bytesLess]
 |_::_,[],_,h1,_=>by simp[Op.bytesLess]at h1
 |_::_,_::_,[],_,h2=>by simp[Op.bytesLess]at h2
 |x::a,y::b,z::c,h1,h2=>by
  simp only[Op.bytesLess,hO,b8,aL,bq]at h1 h2⊢;rcases h1 with h1|⟨rfl,h1⟩
  ·rcases h2 with h2|⟨rfl,h2⟩
   ·exact .inl (UInt8.lt_trans h1 h2)
   ·exact .inl h1
  ·rcases h2 with h2|⟨rfl,h2⟩
   ·exact .inl h2
   ·exact .inr ⟨rfl,uk h1 h2⟩
theorem BB:∀ {a b:Bytes},Op.bytesLess a b=false->Op.bytesLess b a=false->a=b
 | [],[],_,_=>rfl
 | [],_::_,h,_=>by simp[Op.bytesLess]at h
 |_::_,[],_,h=>by simp[Op.bytesLess]at h
 |x::a,y::b,h1,h2=>by
  simp only[Op.bytesLess,Bool.or_eq_false_iff,decide_eq_false_iff_not,Bool.and_eq_false_iff,bu,ne_eq]at h1 h2;have e:x=y:=by
   have h3:=h1.1;have h4:=h2.1;rw[UInt8.lt_iff_toNat_lt]at h3 h4;exact UInt8.toNat_inj.1 (by omega)
  subst e;rw[BB (h1.2.resolve_left (by simp)) (h2.2.resolve_left (by simp))]
theorem BA{a b:Bytes}(h:Op.bytesLess a b=true):Op.bytesLess b a=false:=by
 cases hb:Op.bytesLess b a with
 |false=>rfl
 |true=>have:=uk h hb;rw[qR]at this;cases this
def SS(l:aC):Prop:=l.Pairwise fun a b=>Op.bytesLess a b=true
theorem za:∀ {a b:aC},SS a->SS b->(∀x,x∈a↔x∈b)->a=b
 | [],[],_,_,_=>rfl
 | [],y::b,_,_,h=>by have:=(h y).2 (by simp);cases this
 |x::a,[],_,_,h=>by have:=(h x).1 (by simp);cases this
 |x::a,y::b,h1,h2,h=>by
  obtain⟨p1,p2⟩:=iH.1 h1;obtain⟨q1,q2⟩:=iH.1 h2;have e:x=y:=by
   refine BB ?_ ?_
   ·cases hb:Op.bytesLess x y with
    |false=>rfl
    |true=>
     rcases aq.1 ((h x).1 (by simp))with rfl|hx
     ·exact(qR x▸hb).symm
     ·have:=BA (q1 x hx);rw[hb]at this;exact this
   ·cases hb:Op.bytesLess y x with
    |false=>rfl
    |true=>
     rcases aq.1 ((h y).2 (by simp))with rfl|hx
     ·exact(qR y▸hb).symm
     ·have:=BA (p1 y hx);rw[hb]at this;exact this
  subst e;rw[za p2 q2 (fun z=>?_)];constructor
  ·intro hz;rcases aq.1 ((h z).1 (by simp[hz]))with rfl|Bx
   ·have:=p1 z hz;rw[qR]at this;cases this
   ·exact Bx
  ·intro hz;rcases aq.1 ((h z).2 (by simp[hz]))with rfl|Bx
   ·have:=q1 z hz;rw[qR]at this;cases this
   ·exact Bx
def pU:aC->Bytes->aC
 | [],s=>[s]
 |x::xs,s=>bif Op.bytesLess x s then x::pU xs s else bif x==s then x::xs else s::x::xs
theorem Bc:∀ {l:aC} {s y:Bytes},y∈pU l s↔y=s\/y∈l
 | [],s,y=>by simp[pU]
 |x::xs,s,y=>by
  simp only[pU];cases Op.bytesLess x s with
  |true=>simp only[aN,aq,Bc (l:=xs)];constructor<;>(rintro(h|h|h)<;>simp[h])
  |false=>
   simp only[aa];cases hx:x==s with
   |true=>
    simp only[bq]at hx;subst hx;simp
   |false=>simp
theorem HF:∀ {l:aC} {s:Bytes},SS l->SS (pU l s)
 | [],s,_=>by simp[pU,SS]
 |x::xs,s,h=>by
  obtain⟨p1,p2⟩:=iH.1 h;simp only[pU];cases hb:Op.bytesLess x s with
  |true=>
   simp only[aN];refine iH.2 ⟨fun y hy=>?_,HF p2⟩;rcases Bc.1 hy with rfl|hy
   ·exact hb
   ·exact p1 y hy
  |false=>
   simp only[aa];cases hx:x==s with
   |true=>exact h
   |false=>
    have hs:Op.bytesLess s x=true:=by
     cases hc:Op.bytesLess s x with
     |true=>rfl
     |false=>have:=BB hb hc;subst this;simp at hx
    refine iH.2 ⟨fun y hy=>?_,h⟩;rcases aq.1 hy with rfl|hy
    ·exact hs
    ·exact uk hs (p1 y hy)
theorem r9:∀(l:aC) (s:Bytes),(pU l s).length<=l.length+1
 | [],s=>by simp[pU]
 |x::xs,s=>by
  have:=r9 xs s;simp only[pU];cases Op.bytesLess x s<;>simp only[aN,aa,aT]
  ·cases x==s<;>simp
  ·omega
def cz(l:aC):aC:=l.foldl pU []
theorem vW:∀(l a:aC) (y:Bytes),y∈l.foldl pU a↔y∈a\/y∈l
 | [],a,y=>by simp
 |x::l,a,y=>by
  rw[er,vW l,Bc];simp only[aq];constructor
  ·rintro((h|h)|h)<;>simp[h]
  ·rintro(h|h|h)<;>simp[h]
theorem xD:∀(l:aC) {a:aC},SS a->SS (l.foldl pU a)
 | [],a,h=>h
 |x::l,a,h=>xD l (HF h)
theorem vV:∀(l a:aC),(l.foldl pU a).length<=a.length+l.length
 | [],a=>by simp
 |x::l,a=>by
  have h1:=vV l (pU a x);have h2:=r9 a x;rw[er,aT];omega
theorem me{l:aC}{y:Bytes}:y∈cz l↔y∈l:=by unfold cz;rw[vW];simp
theorem Bo(l:aC):SS (cz l):=xD l (by simp[SS])
theorem k9(l:aC):(cz l).length<=l.length:=by have:=vV l [];simpa[cz]using this
theorem vr{a b:aC}(h:∀x,x∈a↔x∈b):cz a=cz b:=za (Bo a) (Bo b) (fun x=>by rw[me,me,h])
theorem GN(a:aC)(x:Bytes):pU (cz a) x=cz (a++[x]):=by simp[cz]
theorem GM(a b:aC):b.foldl pU (cz a)=cz (a++b):=by simp[cz]
theorem vu(a b:aC):(cz b).foldl pU (cz a)=cz (a++b):=by
 rw[GM];exact vr (fun x=>by simp[me])
theorem ig(l:aC)(v:Bytes):(cz l).contains v=l.contains v:=by
 rw[bO];simp[me]
def QE(x:UInt8):Bool:=decide ((x.toNat:Int)>=97)&&decide ((x.toNat:Int)<=122)
def QF(x:UInt8):Bool:=decide ((x.toNat:Int)>=48)&&decide ((x.toNat:Int)<=57)
def ab(x:UInt8):Bool:=QE x||QF x
def I2(s:Bytes):Bool:=decide ((s.length:Int)>=1)&&decide ((s.length:Int)<=8)
def pe(s:Bytes):Bool:=s.all ab&&I2 s
def NP:Bytes->Bool
 | []=>false
 |x::_=>decide ((x.toNat:Int)>=97)
def rA(s:Bytes):Bool:=pe s&&NP s
def nD:Bytes->Bool
 | []=>false
 |x::t=>decide ((x.toNat:Int)=63)&&pe t
def mK(s:Bytes):Bool:=pe s||nD s
theorem zb{s:Bytes}(h:pe s=true):1<=s.length/\s.length<=8:=by
 simp only[pe,I2,aL,b8]at h;omega
theorem I7{s:Bytes}(h:rA s=true):1<=s.length/\s.length<=8:=by
 simp only[rA,aL]at h;exact zb h.1
theorem LN{s:Bytes}(h:nD s=true):1<=s.length/\s.length<=9:=by
 cases s with
 |nil=>cases h
 |cons x t=>simp only[nD,aL]at h;have:=zb h.2;simp;omega
theorem IQ{s:Bytes}(h:mK s=true):1<=s.length/\s.length<=9:=by
 simp only[mK,hO]at h;rcases h with h|h
 ·have:=zb h;omega
 ·exact LN h
theorem OC(x:UInt8):IntKind.i64.wrap ((x.toNat:Nat):Int)=(x.toNat:Int):=fT (mL.i64.2 (by have:=x.toNat_lt;omega))
theorem OB{n:Nat}(h:n<=1099511627776):IntKind.i64.wrap ((n:Int)+1)=((n+1:Nat):Int):=by rw[fT (mL.i64.2 (by omega))];omega
theorem H9{n:Nat}(h:1<=n):rQ n (some (D.int .i64 1)) none=some (1,n):=by
 unfold rQ;have:(0:Int)<=1/\(1:Int).toNat<=n:=⟨by decide,h⟩
 simp only[bD this];rfl
theorem EY(a b c:Int):iD a b c=some (decide (a>=b)&&decide (a<=c)):=by
 unfold iD;cases decide (a>=b)<;>rfl
theorem Pc(a:Bytes)(k:Option Bool)(ha:a.length<=1048576):∀(rest pre:Bytes),a=pre++rest->∀n,rest.length<n->fF a k n (pre.length:Int)=bif rest.all ab then k else some false:=by
 intro rest
 induction rest with
 |nil=>
  intro pre h n hn;obtain⟨m,rfl⟩:∃m,n=m+1:=⟨n-1,by simp at hn;omega⟩
  have e1:decide ((pre.length:Int)<(a.length:Int))=false:=by simp[h]
  rw[fF,e1];rfl
 |cons x xs ih=>
  intro pre h n hn;obtain⟨m,rfl⟩:∃m,n=m+1:=⟨n-1,by simp at hn;omega⟩
  have hl:a.length=pre.length+(xs.length+1):=by rw[h];simp
  have e1:decide ((pre.length:Int)<(a.length:Int))=true:=by rw[hl];simp;omega
  have e4:IntKind.i64.wrap ((pre.length:Int)+1)=((pre++[x]).length:Int):=by rw[OB (by omega)];simp
  have t:=ih (pre++[x]) (by simp[h]) m (by simp at hn;omega);rw[fF,e1,aN,D0 h,aA,OC,EY,EY,aA,aA,e4,t,cv];show(bif !QE x then(bif !QF x then _ else _)else _)=bif (QE x||QF x)&&xs.all ab then k else some false
  cases QE x<;>cases QF x<;>simp
theorem Kr(a:Bytes)(ha:a.length<=1048576):kO a=some (pe a):=by
 unfold kO;refine(Pc a _ ha a [] rfl fuel (by unfold fuel;omega)).trans ?_;rw[EY,aA];show _=some (a.all ab&&I2 a);cases a.all ab<;>rfl
theorem P5(a:Bytes)(k:Option Bool)(ha:a.length<=1048576):∀(rest pre:Bytes),a=pre++rest->∀n,rest.length<n->dh a k n (pre.length:Int)=bif rest.all ab then k else some false:=by
 intro rest
 induction rest with
 |nil=>
  intro pre h n hn;obtain⟨m,rfl⟩:∃m,n=m+1:=⟨n-1,by simp at hn;omega⟩
  have e1:decide ((pre.length:Int)<(a.length:Int))=false:=by simp[h]
  rw[dh,e1];rfl
 |cons x xs ih=>
  intro pre h n hn;obtain⟨m,rfl⟩:∃m,n=m+1:=⟨n-1,by simp at hn;omega⟩
  have hl:a.length=pre.length+(xs.length+1):=by rw[h];simp
  have e1:decide ((pre.length:Int)<(a.length:Int))=true:=by rw[hl];simp;omega
  have e4:IntKind.i64.wrap ((pre.length:Int)+1)=((pre++[x]).length:Int):=by rw[OB (by omega)];simp
  have t:=ih (pre++[x]) (by simp[h]) m (by simp at hn;omega);rw[dh,e1,aN,D0 h,aA,e4,t,cv];have c1:decide ((x.toNat:Int)>=97)= !decide ((x.toNat:Int)<97):=by rw[bO];simp
  have c2:decide ((x.toNat:Int)<=122)= !decide ((x.toNat:Int)>122):=by rw[bO];simp
  have c3:decide ((x.toNat:Int)>=48)= !decide ((x.toNat:Int)<48):=by rw[bO];simp
  have c4:decide ((x.toNat:Int)<=57)= !decide ((x.toNat:Int)>57):=by rw[bO];simp
  rw[ab,QE,QF,c1,c2,c3,c4];cases decide ((x.toNat:Int)<97)<;>cases decide ((x.toNat:Int)>122)<;>cases decide ((x.toNat:Int)<48)<;>cases decide ((x.toNat:Int)>57)<;>simp
theorem Jw(a:Bytes)(ha:a.length<=1048576):kN a=some (pe a):=by
 unfold kN;rw[show dh a (some true) fuel 0=_ from P5 a _ ha a [] rfl fuel (by unfold fuel;omega)];have c1:decide ((a.length:Int)>=1)= !decide ((a.length:Int)<1):=by rw[bO];simp
 have c2:decide ((a.length:Int)<=8)= !decide ((a.length:Int)>8):=by rw[bO];simp
 rw[pe,I2,c1,c2];cases decide ((a.length:Int)<1)<;>cases decide ((a.length:Int)>8)<;>cases a.all ab<;>rfl
theorem O5(a:Bytes)(ha:a.length<=1048576):lq a=some (rA a):=by
 unfold lq;rw[Kr a ha,aA,rA];cases h:pe a with
 |false=>rfl
 |true=>
  cases a with
  |nil=>simp[pe,I2]at h
  |cons x xs=>
   rw[show lg (x::xs) 0=some x from rfl];simp only[aN,aA,OC,EY,x6,aP,NP];simp only[pe,cv,ab,QE,QF,aL,hO,b8]at h;rw[bO];simp only[aL,b8];omega
theorem NW(a:Bytes)(ha:a.length<=1048576):lm a=some (rA a):=by
 unfold lm;rw[Jw a ha,aA,rA];cases h:pe a with
 |false=>rfl
 |true=>
  cases a with
  |nil=>simp[pe,I2]at h
  |cons x xs=>rfl
theorem L5(a:Bytes)(ha:a.length<=1048576):iZ a=some (nD a):=by
 unfold iZ;cases a with
 |nil=>rfl
 |cons x t=>
  simp only[aT]at ha;rw[show lg (x::t) 0=some x from rfl,aA,H9 (by simp),aA];have e:(((x::t).take ((x::t).length)).drop 1)=t:=by simp
  simp only[e,Kr t (by omega),aA,nD,kW];cases t with
  |nil=>cases decide ((x.toNat:Int)=63)<;>rfl
  |cons y t=>
   have e2:decide ((((x::y::t).length:Int):Int)>1)=true:=by simp;omega
   rw[e2];cases decide ((x.toNat:Int)=63)<;>simp
theorem PE(a:Bytes)(ha:a.length<=1048576):lG a=some (nD a):=by
 unfold lG;cases a with
 |nil=>rfl
 |cons x t=>
  simp only[aT]at ha;rw[show lg (x::t) 0=some x from rfl,aA,H9 (by simp),aA];have e:(((x::t).take ((x::t).length)).drop 1)=t:=by simp
  simp only[e,Jw t (by omega),aA,nD,kW];cases t with
  |nil=>cases decide ((x.toNat:Int)=63)<;>rfl
  |cons y t=>
   have e2:decide ((((x::y::t).length:Int):Int)>1)=true:=by simp;omega
   rw[e2];cases decide ((x.toNat:Int)=63)<;>simp
theorem L4(a:Bytes)(ha:a.length<=1048576):fB a=some (mK a):=by
 unfold fB mK;rw[Kr a ha,L5 a ha];cases pe a<;>simp
theorem K6(a:Bytes)(ha:a.length<=1048576):fA a=some (mK a):=by
 unfold fA mK;rw[Jw a ha,PE a ha];cases pe a<;>simp
theorem Pm(l:aC)(h:l.length<=1099511627776):mT l=some l:=by
 unfold mT;rw[Kn h (by decide)];rfl
theorem Fj(l:aC)(h:l.length<=1099511627776):jb l=some l:=by
 unfold jb;rw[Kn h (by decide)];rfl
theorem PC(a b:aC):kx a b=some (decide (a=b)):=by
 unfold kx;exact Vr (c:=tx) (f:=fun x y=>some (x==y)) (fun k=>gy a b k) (fun _ _=>rfl) (fun _ _ _ _=>rfl) (fun x y=>by rw[aP,bO];simp)
theorem IM(l:aC)(v:Bytes):dw l v=some (l.contains v):=by
 unfold dw;have:∀(r:aC) (i:Nat),fQ l v (some false) r i=some (r.contains v):=by
  intro r
  induction r with
  |nil=>intro i;rfl
  |cons x r ih=>
   intro i;rw[fQ,ih,List.contains_cons];have:(x==v)=(v==x):=by rw[bO,bq,bq];exact eq_comm
   rw[this];cases v==x<;>rfl
 exact this l 0
theorem MS(l:aC)(v:Bytes):gZ l v=some (l.contains v):=by
 unfold gZ;have:∀(r:aC) (i:Nat),ga l v (some false) r i=some (r.contains v):=by
  intro r
  induction r with
  |nil=>intro i;rfl
  |cons x r ih=>
   intro i;rw[ga,ih,List.contains_cons];have:(x==v)=(v==x):=by rw[bO,bq,bq];exact eq_comm
   rw[this];cases v==x<;>rfl
 exact this l 0
theorem O6(a:aC)(s:Bytes)(k:Bool->aC->Option aC):∀(l:aC) (i:Nat) (w:aC),w.length+l.length<1099511627776->
 cj a s k l i true w=k true (w++l):=by
 intro l
 induction l with
 |nil=>intro i w _;simp[cj]
 |cons x xs ih=>
  intro i w h;simp only[aT]at h;rw[cj,cX,aa,n8 (by omega) (by decide),aN,ih _ _ (by simp;omega)];simp
theorem SF(a:aC)(s:Bytes)(k:Bool->aC->Option aC)(hk:∀w,w.length<1099511627776->k false w=some (w++[s]))(hk2:∀w,k true w=some w):∀(l:aC) (i:Nat) (w:aC),w.length+l.length+1<1099511627776->
 cj a s k l i false w=some (w++pU l s):=by
 intro l
 induction l with
 |nil=>intro i w h;rw[cj,hk w (by omega)];rfl
 |cons x xs ih=>
  intro i w h;simp only[aT]at h;rw[cj,ji,aN,pU];cases Op.bytesLess x s with
  |true=>
   simp only[cX,aa,aN];rw[n8 (by omega) (by decide),aN,ih _ _ (by simp;omega)];simp
  |false=>
   simp only[ji,aN,aa];cases x==s with
   |true=>
    simp only[cX,aa,aN];rw[n8 (by omega) (by decide),aN,O6 _ _ _ _ _ _ (by simp;omega),hk2];simp
   |false=>
    simp only[ji,aN,aa];rw[n8 (by omega) (by decide),aN];have e:room (((w.map tx)++[[D.str s]]).length+([[D.str x]]).length) 16=true:=zI (by simp;omega) (by decide);rw[e,aN,O6 _ _ _ _ _ _ (by simp;omega),hk2];simp
theorem GD(l:aC)(s:Bytes)(h:l.length+1<1099511627776):gl l s=some (pU l s):=by
 unfold gl;rw[SF l s _ (fun w hw=>by simp only[ji,aN];rw[n8 hw (by decide)];rfl) (fun w=>by simp) l 0 [] (by simpa using h)];rfl
def dd:Option Bytes->aC->aC
 |_,[]=>[]
 |p,x::xs=>if p=some x then dd (some x) xs else x::dd (some x) xs
theorem FN:∀ {l:aC} {p:Option Bytes} {y:Bytes},y∈dd p l->y∈l
 | [],p,y,h=>by cases h
 |x::xs,p,y,h=>by
  simp only[dd]at h;split at h
  ·exact aq.2 (.inr (FN h))
  ·rcases aq.1 h with rfl|h
   ·simp
   ·exact aq.2 (.inr (FN h))
theorem KL:∀ {l:aC} {p:Option Bytes} {y:Bytes},y∈l->p=some y\/y∈dd p l
 |x::xs,p,y,h=>by
  simp only[dd];rcases aq.1 h with rfl|h
  ·by_cases hp:p=some y
   ·exact .inl hp
   ·rw[ai hp];exact .inr (by simp)
  ·have:=KL (p:=some x) h;split
   ·rename_i hp;rcases this with e|e
    ·exact .inl (hp.trans e)
    ·exact .inr e
   ·rcases this with e|e
    ·cases e;exact .inr (by simp)
    ·exact .inr (by simp[e])
theorem NI:∀ {l:aC} {p:Option Bytes},l.Pairwise (fun a b=>Op.bytesLess b a=false)->(∀q,p=some q->∀y∈l,Op.bytesLess y q=false)->SS (dd p l)/\∀q,p=some q->∀y∈dd p l,Op.bytesLess q y=true
 | [],p,_,_=>⟨by simp[dd,SS],by simp[dd]⟩
 |x::xs,p,h,hp=>by
  obtain⟨p1,p2⟩:=iH.1 h;obtain⟨i1,i2⟩:=NI (l:=xs) (p:=some x) p2 (fun q hq y hy=>by cases hq;exact p1 y hy);simp only[dd];split
  ·rename_i he;exact⟨i1,fun q hq y hy=>by rw[he]at hq;cases hq;exact i2 x rfl y hy⟩
  ·rename_i he;refine⟨iH.2 ⟨fun y hy=>i2 x rfl y hy,i1⟩,fun q hq y hy=>?_⟩;have V7:Op.bytesLess q x=true:=by
    cases hc:Op.bytesLess q x with
    |true=>rfl
    |false=>exact absurd (by rw[hq,BB hc (hp q hq x (by simp))]) he
   rcases aq.1 hy with rfl|hy
   ·exact V7
   ·exact uk V7 (i2 x rfl y hy)
theorem L8(l:aC):j8 l=l.mergeSort (fun x y=> !Op.bytesLess y x):=by
 unfold j8
 congr 1
 funext x y
 rw[Go.Proofs.bytesLess_eq];rw[bO];simp[List.not_lt]
theorem De(l:aC):(j8 l).Pairwise (fun a b=>Op.bytesLess b a=false):=by
 rw[L8];have:=List.pairwise_mergeSort (le:=fun x y=> !Op.bytesLess y x) (fun a b c h1 h2=>by
  simp only[j0]at h1 h2⊢;cases hc:Op.bytesLess c a with
  |false=>rfl
  |true=>
   cases hb:Op.bytesLess b a with
   |true=>rw[h1]at hb;cases hb
   |false=>
    cases Hq:Op.bytesLess a b with
    |true=>have:=uk hc Hq;rw[h2]at this;cases this
    |false=>have:=BB hb Hq;subst this;rw[h2]at hc;cases hc) (fun a b=>by
  cases hc:Op.bytesLess b a with
  |false=>simp
  |true=>simp[BA hc]) l
 exact this.imp (fun h=>by simpa using h)
theorem MD(l:aC):dd none (j8 l)=cz l:=by
 refine za (NI (De l) (by simp)).1 (Bo l) (fun x=>?_);rw[me];have hm:x∈j8 l↔x∈l:=(rC l).mem_iff;constructor
 ·intro h;exact hm.1 (FN h)
 ·intro h;rcases KL (p:=none) (hm.2 h)with h|h
  ·cases h
  ·exact h
theorem K5(a:aC)(k:aC->Option aC)(ha:a.length<=1099511627775):∀(rest pre:aC) (w:aC),j8 ([]++a)=pre++rest->w.length+rest.length<=1099511627775->
 cQ a k rest pre.length w=k (w++dd pre.getLast? rest):=by
 have hlen:(j8 ([]++a)).length=a.length:=(rC _).length_eq;intro rest
 induction rest with
 |nil=>intro pre w _ _;simp[cQ,dd]
 |cons x xs ih=>
  intro pre w h hw;simp only[aT]at hw;have hl:pre.length+(xs.length+1)=a.length:=by rw[<-hlen,h];simp
  have t:=fun w'=>ih (pre++[x]) w' (by rw[h];simp)
  simp only[af,aT,bH,List.getLast?_concat]at t;rw[cQ];rcases List.eq_nil_or_concat pre with rfl|⟨p,z,Sr⟩
  ·have e0:(((([]:aC).length:Int):Int)==0)=true:=rfl;rw[e0,aN,n8 (by omega) (by decide),aN,t _ (by simp;omega)];simp[dd]
  ·rw[List.concat_eq_append]at Sr;subst Sr;have e0:((((p++[z]).length:Int):Int)==0)=false:=by simp;omega
   have e1:IntKind.i64.wrap (((p++[z]).length:Int)-1)=(p.length:Int):=by
    rw[fT (mL.i64.2 (by simp at hl⊢;omega))];simp
   have e2:lg (j8 ([]++a)) (p.length:Int)=some z:=D0 (xs:=x::xs) (by rw[h];simp);rw[e0,aa,e1,e2,aA];simp only[dd,List.getLast?_concat];by_cases hz:z=x
   ·subst hz;have e3:((z:Bytes)==z)=true:=by simp
    rw[e3,cX,aa,t _ (by omega),bD rfl]
   ·have e3:((z:Bytes)==x)=false:=by simpa using hz
    rw[e3,ji,aN,n8 (by omega) (by decide),aN,t _ (by simp;omega),ai (by simpa using hz)];simp
theorem DL(l:aC)(h:l.length<1099511627775):fp l=some (cz l):=by
 have hlen:(j8 ([]++l)).length=l.length:=(rC _).length_eq;unfold fp;have e1:decide ((([]:aC)++l).length<4611686018427387904)=true:=by simp;omega
 rw[Kn (by omega) (by decide),aN,e1,aN,tu (by rw[hlen];omega),aN];have:=K5 l (fun q=>some q) (by omega) (j8 ([]++l)) [] [] rfl (by rw[hlen];simp;omega);rw[show([]:aC).length=0 from rfl]at this;rw[this,<-MD];simp
end Go.Cx
namespace Go.Cx
open Go.RowKit Go.Proofs Tryz
theorem ar.Kg{p:ar}{n:Nat}(h:p.wt<=n):p.rel.length<=n:=by unfold ar.wt tw at h;omega
theorem ar.js{p:ar}{n:Nat}(h:p.wt<=n):p.args.length<=n:=by unfold ar.wt at h;have:=rp tw p.args;omega
theorem ar.uh{p:ar}{n:Nat}(h:p.wt<=n){x:Bytes}(hx:x∈p.args):x.length<=n:=by unfold ar.wt at h;have:=oM (w:=tw) hx;have e:tw x=x.length:=rfl;omega
theorem aK.gV{c:aK}{n:Nat}(h:c.wt<=n):c.pat.wt<=n:=by simp only[aK.wt,ar.wt]at h⊢;omega
theorem aK.yy{c:aK}{n:Nat}(h:c.wt<=n):c.left.length<=n:=by simp only[aK.wt,tw]at h;omega
theorem aK.vp{c:aK}{n:Nat}(h:c.wt<=n):c.right.length<=n:=by simp only[aK.wt,tw]at h;omega
theorem Action.gV{c:Action}{n:Nat}(h:c.wt<=n):c.pat.wt<=n:=by simp only[Action.wt,ar.wt]at h⊢;omega
theorem aH.H7{r:aH}{n:Nat}(h:r.wt<=n):r.name.length<=n:=by simp only[aH.wt,tw]at h;omega
theorem aH.nI{r:aH}{n:Nat}(h:r.wt<=n):o6 aK.wt r.conds<=n:=by simp only[aH.wt]at h;omega
theorem aH.yK{r:aH}{n:Nat}(h:r.wt<=n):o6 Action.wt r.bR<=n:=by simp only[aH.wt]at h;omega
theorem aH.mJ{r:aH}{n:Nat}(h:r.wt<=n){c:aK}(hc:c∈r.conds):c.wt<=n:=by have:=aH.nI h;have:=oM (w:=aK.wt) hc;omega
theorem aH.Cz{r:aH}{n:Nat}(h:r.wt<=n){c:Action}(hc:c∈r.bR):c.wt<=n:=by have:=aH.yK h;have:=oM (w:=Action.wt) hc;omega
theorem K4(a b:ar):iL a b=some (decide (a=b)):=by
 obtain⟨a0,a1⟩:=a;obtain⟨b0,b1⟩:=b;unfold iL;simp only[PC,aA,kW];by_cases h0:a0=b0<;>by_cases h1:a1=b1<;>simp[h0,h1]
def zG(p:ar):Bool:=p.args.all mK&&(rA p.rel&&decide ((p.args.length:Int)<=3))
theorem SE(f:ar)(h:f.wt<=1048576):fG f=some (zG f):=by
 unfold fG;rw[M1 (f:=fB) (L:=gz f _) (fun _=>rfl) (fun _ _ _=>rfl) f.args 0 (fun x hx=>L4 x (ar.uh h hx)),O5 _ (ar.Kg h),aA,ay,zG];cases f.args.all mK<;>cases rA f.rel<;>rfl
theorem RW(f:ar)(h:f.wt<=1048576):gH f=some (zG f):=by
 unfold gH;rw[M1 (f:=fA) (L:=gu f _) (fun _=>rfl) (fun _ _ _=>rfl) f.args 0 (fun x hx=>K6 x (ar.uh h hx)),NW _ (ar.Kg h),aA,ay,zG];have c:decide ((f.args.length:Int)<=3)= !decide ((f.args.length:Int)>3):=by rw[bO];simp
 rw[c];cases f.args.all mK<;>cases rA f.rel<;>cases decide ((f.args.length:Int)>3)<;>rfl
def fJ(l:aC):aC:=l.filter nD
theorem nw(l:aC):(fJ l).length<=l.length:=List.length_filter_le _ _
theorem Cm(a b:aC):fJ (a++b)=fJ a++fJ b:=List.filter_append _ _
theorem zL(p:ar)(h:p.wt<=1048576):ia p=some (cz (fJ p.args)):=by
 unfold ia;have:∀(r:aC) (i:Nat) (w:aC),(∀x∈r,x.length<=1048576)->w.length+r.length<=2097152->gO p (fun q=>some q) r i w=some ((fJ r).foldl pU w):=by
  intro r
  induction r with
  |nil=>intro i w _ _;rfl
  |cons x r ih=>
   intro i w hr hw;simp only[aT]at hw;have hl:=r9 w x;rw[gO,L5 x (hr x (by simp)),aA,GD w x (by omega),aA,ih _ _ (fun y hy=>hr y (by simp[hy])) (by omega),ih _ _ (fun y hy=>hr y (by simp[hy])) (by omega)];cases hv:nD x<;>simp[fJ,hv]
 exact this p.args 0 [] (fun x hx=>ar.uh h hx) (by have:=ar.js h;simp;omega)
theorem K8(l:aC)(hl:l.length<=2097152)(h:∀x∈l,x.length<=1048576):iN l=some (fJ l):=by
 unfold iN;have:∀(r:aC) (i:Nat) (w:aC),(∀x∈r,x.length<=1048576)->w.length+r.length<=2097152->dQ l (fun q=>some q) r i w=some (w++fJ r):=by
  intro r
  induction r with
  |nil=>intro i w _ _;simp[dQ,fJ]
  |cons x r ih=>
   intro i w hr hw;simp only[aT]at hw;rw[dQ,PE x (hr x (by simp)),aA,n8 (by omega) (by decide),ih _ _ (fun y hy=>hr y (by simp[hy])) (by simp;omega),ih _ _ (fun y hy=>hr y (by simp[hy])) (by omega)];cases hv:nD x<;>simp[fJ,hv]
 exact this l 0 [] h (by simpa using hl)
def kU(c:aK):aC:=fJ (c.pat.args++[c.left,c.right])
theorem oU{c:aK}{n:Nat}(h:c.wt<=n):(kU c).length<=n+2:=by
 have h1:=nw (c.pat.args++[c.left,c.right]);have h2:=ar.js (aK.gV h);simp only[af,aT,bH]at h1;unfold kU;omega
theorem GB(c:aK)(h:c.wt<=1048576):iC c=some (cz (kU c)):=by
 unfold iC;have h1:=ar.js (aK.gV h);have h2:=k9 (fJ c.pat.args);have h3:=nw c.pat.args;have h4:=r9 (cz (fJ c.pat.args)) c.left;rw[zL _ (aK.gV h),aA,L5 _ (aK.yy h),aA,L5 _ (aK.vp h)];simp only[aA];rw[GD _ _ (by omega),GD _ _ (by omega),aA,GD _ _ (by omega)];simp only[aA,kU,Cm,GN];cases hl:nD c.left<;>cases hr:nD c.right<;>simp[fJ,hl,hr]
theorem K7(c:aK)(h:c.wt<=1048576):kz c=some (c.pat.args++[c.left,c.right]):=by
 unfold kz;have h1:=ar.js (aK.gV h);rw[Fj _ (by omega),aA];rw[zI (by simp;omega) (by decide)];rfl
theorem Fi(c:aK)(h:c.wt<=1048576):jA c=some (cz (kU c)):=by
 unfold jA;have h1:=ar.js (aK.gV h);have h5:=oU h;rw[K7 c h,aA,K8 _ (by simp;omega) (fun x hx=>by
  simp only[aJ,aq,List.not_mem_nil,or_false]at hx;rcases hx with hx|rfl|rfl
  ·exact ar.uh (aK.gV h) hx
  ·exact aK.yy h
  ·exact aK.vp h),aA]
 rw[show fJ (c.pat.args++[c.left,c.right])=kU c from rfl,DL _ (by omega)];rfl
def w5(p:ar):Bool:=p.rel==[]&&decide ((p.args.length:Int)=0)
def mw(c:aK):Bool:=bif decide (c.kind=1)||decide (c.kind=2)then zG c.pat&&(c.left==[]&&c.right==[])else bif decide (c.kind=3)||decide (c.kind=4)||decide (c.kind=5)then w5 c.pat&&(mK c.left&&mK c.right)else false
def HG(c:aK):Bool:=mw c&&decide (c.kind>=3)
theorem xL{c:aK}(h:mw c=true):1<=c.kind/\c.kind<=5:=by
 unfold mw at h;by_cases h1:c.kind=1
 ·omega
 by_cases h2:c.kind=2
 ·omega
 by_cases h3:c.kind=3
 ·omega
 by_cases h4:c.kind=4
 ·omega
 by_cases h5:c.kind=5
 ·omega
 simp[h1,h2,h3,h4,h5]at h
theorem O3(c:aK)(h:c.wt<=1048576):kP c=some (mw c):=by
 unfold kP mw w5;simp only[SE _ (aK.gV h),L4 _ (aK.yy h),L4 _ (aK.vp h),aA,ay,kW];by_cases h1:c.kind=1
 ·simp only[h1];cases zG c.pat<;>cases decide (c.left=[])<;>simp
 by_cases h2:c.kind=2
 ·simp only[h2];cases zG c.pat<;>cases decide (c.left=[])<;>simp
 by_cases h3:c.kind=3
 ·simp only[h3];cases decide (c.pat.rel=[])<;>cases decide ((c.pat.args.length:Int)=0)<;>cases mK c.left<;>simp
 by_cases h4:c.kind=4
 ·simp only[h4];cases decide (c.pat.rel=[])<;>cases decide ((c.pat.args.length:Int)=0)<;>cases mK c.left<;>simp
 by_cases h5:c.kind=5
 ·simp only[h5];cases decide (c.pat.rel=[])<;>cases decide ((c.pat.args.length:Int)=0)<;>cases mK c.left<;>simp
 simp[h1,h2,h3,h4,h5]
theorem NX(p:ar):eg p=some (w5 p):=by
 unfold eg w5;simp only[ay,kW];cases decide (p.rel=[])<;>rfl
theorem RT(c:aK)(h:c.wt<=1048576):nJ c=some (mw c):=by
 unfold nJ mw;simp only[RW _ (aK.gV h),K6 _ (aK.yy h),K6 _ (aK.vp h),NX,aA,kW];by_cases h1:c.kind=1
 ·simp only[h1];cases zG c.pat<;>cases decide (c.left=[])<;>simp
 by_cases h2:c.kind=2
 ·simp only[h2];cases zG c.pat<;>cases decide (c.left=[])<;>simp
 by_cases h3:c.kind=3
 ·simp only[h3];cases w5 c.pat<;>cases mK c.left<;>cases mK c.right<;>simp
 by_cases h4:c.kind=4
 ·simp only[h4];cases w5 c.pat<;>cases mK c.left<;>cases mK c.right<;>simp
 by_cases h5:c.kind=5
 ·simp only[h5];cases w5 c.pat<;>cases mK c.left<;>cases mK c.right<;>simp
 simp[h1,h2,h3,h4,h5]
theorem O8(c:aK)(h:c.wt<=1048576):lz c=some (HG c):=by
 unfold lz HG;rw[O3 c h];cases mw c<;>rfl
theorem PB(a b:aK):lU a b=some (decide (a=b)):=by
 obtain⟨a0,a1,a2,a3⟩:=a;obtain⟨b0,b1,b2,b3⟩:=b;unfold lU;simp only[K4,aA,kW];by_cases h0:a0=b0<;>by_cases h1:a1=b1<;>by_cases h2:a2=b2<;>by_cases h3:a3=b3<;>simp[h0,h1,h2,h3]
def B8(a:Action):Bool:=bif decide (a.kind=1)||decide (a.kind=2)then zG a.pat else bif decide (a.kind=3)then w5 a.pat else false
theorem Uf(a:Action)(h:a.wt<=1048576):lW a=some (B8 a):=by
 unfold lW B8 w5;simp only[SE _ (Action.gV h),aA,ay,kW];by_cases h1:a.kind=1
 ·simp[h1]
 by_cases h2:a.kind=2
 ·simp[h2]
 by_cases h3:a.kind=3
 ·simp only[h3];cases decide (a.pat.rel=[])<;>simp
 simp[h1,h2,h3]
theorem UL(a:Action)(h:a.wt<=1048576):lT a=some (B8 a):=by
 unfold lT B8;simp only[RW _ (Action.gV h),NX,aA,kW];by_cases h1:a.kind=1
 ·simp[h1]
 by_cases h2:a.kind=2
 ·simp[h2]
 by_cases h3:a.kind=3
 ·simp[h3]
 simp[h1,h2,h3]
end Go.Cx
namespace Go.Cx
open Go.RowKit Go.Proofs Tryz
def Ab(c:aK):aC:=bif decide (c.kind=1)then fJ c.pat.args else []
theorem JF{c:aK}:(Ab c).length<=c.wt:=by
 unfold Ab;have h2:=nw c.pat.args;have h3:=ar.js (aK.gV (b9 c.wt));cases decide (c.kind=1)<;>simp;omega
def qg(r:aH)(n:Int):aC:=(r.conds.take n.toNat).flatMap Ab
theorem Cj{α:Type}(x:α)(xs:List α)(n:Int)(i:Nat):(x::xs).take (n-(i:Int)).toNat=if(i:Int)<n then x::xs.take (n-((i+1:Nat):Int)).toNat else []:=by
 by_cases h:(i:Int)<n
 ·rw[bD h];obtain⟨m,hm⟩:∃m,(n-(i:Int)).toNat=m+1:=⟨(n-(i:Int)).toNat -1,by omega⟩
  have:(n-((i+1:Nat):Int)).toNat=m:=by omega
  rw[hm,this];rfl
 ·rw[ai h,show(n-(i:Int)).toNat=0 from by omega];rfl
theorem vS{α β:Type}{f:α->List β}{w:α->Nat}(l:List α)(h:∀x∈l,(f x).length<=w x+2):(l.flatMap f).length<=3*o6 w l:=by
 induction l with
 |nil=>simp[o6]
 |cons x l ih=>
  rw[fS,af,gT];have h1:=h x (by simp);have h2:=ih (fun y hy=>h y (by simp[hy]));omega
theorem JG{r:aH}{n:Nat}(h:r.wt<=n)(m:Int):(qg r m).length<=3*n:=by
 unfold qg;have h1:=vS (w:=aK.wt) (f:=Ab) (r.conds.take m.toNat) (fun c _=>by have:= @JF c;omega);have h2:o6 aK.wt (r.conds.take m.toNat)<=o6 aK.wt r.conds:=by
  conv=>rhs;rw[<-bJ m.toNat r.conds]
  rw[tW];omega
 have h3:=aH.nI h;omega
theorem Kt(a:aH)(n:Int)(i:Nat)(y:aC)(k:aC->Option aC):∀(l:aC) (j:Nat) (w:aC),w.length+l.length<=1099511627770->fO a n i y k l j w=k (l.foldl pU w):=by
 intro l
 induction l with
 |nil=>intro j w _;rfl
 |cons x l ih=>
  intro j w hw;simp only[aT]at hw;have:=r9 w x;rw[fO,GD w x (by omega),aA,ih _ _ (by omega)];rfl
theorem Mk(a:aH)(n:Int)(k:aC->Option aC):∀(l:aj) (i:Nat) (acc:aC),(∀c∈l,c.wt<=1048576)->acc.length+o6 aK.wt l<=2097152->
 dR a n k l i (cz acc)=k (cz (acc++(l.take (n-(i:Int)).toNat).flatMap Ab)):=by
 intro l
 induction l with
 |nil=>intro i acc _ _;simp[dR]
 |cons c l ih=>
  intro i acc hc hb;rw[gT]at hb;have Ik:=hc c (by simp);have hv:=nw c.pat.args;have ha:=ar.js (aK.gV (b9 c.wt));have hu:=k9 (fJ c.pat.args);have LZ:=k9 acc;rw[dR,Cj];by_cases hi:(i:Int)<n
  ·have e1:decide (((i:Int):Int)<n)=true:=by simp[hi]
   rw[e1,aN,bD hi];by_cases hk:c.kind=1
   ·have e2:((c.kind:Int)==1)=true:=by simp[hk]
    rw[e2,aN,zL _ (aK.gV Ik),aA,tu (by omega),aN,Kt _ _ _ _ _ _ _ _ (by omega),vu,ih _ _ (fun x hx=>hc x (by simp[hx])) (by simp;omega)];simp[Ab,hk]
   ·have e2:((c.kind:Int)==1)=false:=by simp[hk]
    rw[e2,aa,ih _ _ (fun x hx=>hc x (by simp[hx])) (by omega)];simp[Ab,hk]
  ·have e1:decide (((i:Int):Int)<n)=false:=by simp[hi]
   rw[e1,aa,ai hi];simp
theorem GA(r:aH)(n:Int)(h:r.wt<=1048576):gL r n=some (cz (qg r n)):=by
 unfold gL;have:=Mk r n (fun q=>some q) r.conds 0 [] (fun c hc=>aH.mJ h hc) (by have:=aH.nI h;simp;omega);rw[show cz []=[]from rfl]at this;rw[this];simp[qg]
theorem MR(a:aH)(n:Int)(k:aC->Option aC):∀(l:aj) (i:Nat) (w:aC),(∀c∈l,c.wt<=1048576)->w.length+o6 aK.wt l<=2097152->
 cw a n k l i w=k (w++(l.take (n-(i:Int)).toNat).flatMap Ab):=by
 intro l
 induction l with
 |nil=>intro i w _ _;simp[cw]
 |cons c l ih=>
  intro i w hc hb;rw[gT]at hb;have Ik:=hc c (by simp);have hv:=nw c.pat.args;have ha:=ar.js (aK.gV (b9 c.wt));rw[cw,Cj];by_cases hi:(i:Int)<n
  ·have e1:decide (((i:Int):Int)<n)=true:=by simp[hi]
   rw[e1,aN,bD hi];by_cases hk:c.kind=1
   ·have e2:((c.kind:Int)==1)=true:=by simp[hk]
    rw[e2,aN,K8 _ (by omega) (fun x hx=>ar.uh (aK.gV Ik) hx),aA,Kp (by omega) (by decide),aN,ih _ _ (fun x hx=>hc x (by simp[hx])) (by simp;omega)];simp[Ab,hk]
   ·have e2:((c.kind:Int)==1)=false:=by simp[hk]
    rw[e2,aa,ih _ _ (fun x hx=>hc x (by simp[hx])) (by omega)];simp[Ab,hk]
  ·have e1:decide (((i:Int):Int)<n)=false:=by simp[hi]
   rw[e1,aa,ai hi,ih _ _ (fun x hx=>hc x (by simp[hx])) (by omega),show(n-((i+1:Nat):Int)).toNat=0 from by omega];simp
theorem Jx(r:aH)(n:Int)(h:r.wt<=1048576):ja r n=some (cz (qg r n)):=by
 unfold ja;have hl:=JG h n;rw[MR r n _ r.conds 0 [] (fun c hc=>aH.mJ h hc) (by have:=aH.nI h;simp;omega)];have e:([]:aC)++(r.conds.take (n-((0:Nat):Int)).toNat).flatMap Ab=qg r n:=by simp[qg]
 rw[e,DL _ (by omega)];rfl
def uo(l:aj):aC:=l.flatMap kU
def Lz(l:cV):aC:=l.flatMap fun a=>fJ a.pat.args
def Pb(r:aH):aC:=uo r.conds++Lz r.bR
theorem JJ(l:aj):(uo l).length<=3*o6 aK.wt l:=vS l (fun c _=>oU (b9 _))
theorem Kx(a:aH)(i:Nat)(y:aC)(k:aC->Option aC):∀(l:aC) (j:Nat) (w:aC),w.length+l.length<=1099511627770->gB a i y k l j w=k (l.foldl pU w):=by
 intro l
 induction l with
 |nil=>intro j w _;rfl
 |cons x l ih=>
  intro j w hw;simp only[aT]at hw;have:=r9 w x;rw[gB,GD w x (by omega),aA,ih _ _ (by omega)];rfl
theorem Kz(a:aH)(i:Nat)(y:aC)(k:aC->Option aC):∀(l:aC) (j:Nat) (w:aC),w.length+l.length<=1099511627770->gC a i y k l j w=k (l.foldl pU w):=by
 intro l
 induction l with
 |nil=>intro j w _;rfl
 |cons x l ih=>
  intro j w hw;simp only[aT]at hw;have:=r9 w x;rw[gC,GD w x (by omega),aA,ih _ _ (by omega)];rfl
theorem Kw(a:aH)(k:aC->Option aC):∀(l:aj) (i:Nat) (acc:aC),(∀c∈l,c.wt<=1048576)->acc.length+3*o6 aK.wt l<=16777216->
 ei a k l i (cz acc)=k (cz (acc++uo l)):=by
 intro l
 induction l with
 |nil=>intro i acc _ _;simp[ei,uo]
 |cons c l ih=>
  intro i acc hc hb;rw[gT]at hb;have Ik:=hc c (by simp);have h1:=oU (b9 c.wt);have hu:=k9 (kU c);have LZ:=k9 acc;rw[ei,GB c Ik,aA,tu (by omega),aN,Kx _ _ _ _ _ _ _ (by omega),vu,ih _ _ (fun x hx=>hc x (by simp[hx])) (by simp;omega)];simp[uo]
theorem Ky(a:aH)(k:aC->Option aC):∀(l:cV) (i:Nat) (acc:aC),(∀c∈l,c.wt<=1048576)->acc.length+3*o6 Action.wt l<=16777216->
 eR a k l i (cz acc)=k (cz (acc++Lz l)):=by
 intro l
 induction l with
 |nil=>intro i acc _ _;simp[eR,Lz]
 |cons c l ih=>
  intro i acc hc hb;rw[gT]at hb;have Ik:=hc c (by simp);have h1:=nw c.pat.args;have h2:=ar.js (Action.gV (b9 c.wt));have hu:=k9 (fJ c.pat.args);have LZ:=k9 acc;rw[eR,zL _ (Action.gV Ik),aA,tu (by omega),aN,Kz _ _ _ _ _ _ _ (by omega),vu,ih _ _ (fun x hx=>hc x (by simp[hx])) (by simp;omega)];simp[Lz]
theorem Ph(r:aH)(h:r.wt<=1048576):lX r=some (cz (Pb r)):=by
 unfold lX;have h3:=aH.nI h;have h4:=aH.yK h;have hl:=JJ r.conds;have:=Kw r (fun q=>eR r (fun q=>some q) r.bR 0 q) r.conds 0 [] (fun c hc=>aH.mJ h hc) (by simp;omega);rw[show cz []=[]from rfl]at this;rw[this];simp only[j9];rw[Ky r _ r.bR 0 _ (fun c hc=>aH.Cz h hc) (by omega)];rfl
theorem RS(l:aj)(hc:∀c∈l,c.wt<=1048576)(hb:o6 aK.wt l<=1048576):kE l=some (l.flatMap fun c=>cz (kU c)):=by
 unfold kE;have:∀(r:aj) (i:Nat) (w:aC),(∀c∈r,c.wt<=1048576)->w.length+3*o6 aK.wt r<=16777216->eL l (fun q=>some q) r i w=some (w++r.flatMap fun c=>cz (kU c)):=by
  intro r
  induction r with
  |nil=>intro i w _ _;simp[eL]
  |cons c r ih=>
   intro i w hc hb;rw[gT]at hb;have h1:=oU (b9 c.wt);have hu:=k9 (kU c);rw[eL,Fi c (hc c (by simp)),aA,Kp (by omega) (by decide),aN,ih _ _ (fun x hx=>hc x (by simp[hx])) (by simp;omega)];simp
 exact this l 0 [] hc (by simp;omega)
theorem JI(l:aj):(l.flatMap fun c=>cz (kU c)).length<=3*o6 aK.wt l:=vS l (fun c _=>by
 have h1:=oU (b9 c.wt);have hu:=k9 (kU c);omega)
theorem T9(l:aj)(b:aC):cz ((l.flatMap fun c=>cz (kU c))++b)=cz (uo l++b):=vr (fun x=>by simp[uo,me])
def Ho(v:Bytes)(k:Int):aj->Nat->Bool
 | [],_=>false
 |c::cs,i=>(decide (((i:Nat):Int)≠k)&&(kU c).contains v)||Ho v k cs (i+1)
def EE(r:aH)(k:Int)(v:Bytes):Bool:=Ho v k r.conds 0||r.bR.any fun a=>(fJ a.pat.args).contains v
theorem C5{l:aC}{v:Bytes}(h:nD v=true):l.contains v=(fJ l).contains v:=by
 rw[bO];simp[fJ,h]
theorem S9(r:aH)(k:Int)(v:Bytes)(h:r.wt<=1048576):iV r k v=some (EE r k v):=by
 unfold iV EE;have k2:∀(l:cV) (i:Nat),(∀c∈l,c.wt<=1048576)->eZ r v (some false) l i=some (l.any fun a=>(fJ a.pat.args).contains v):=by
  intro l
  induction l with
  |nil=>intro i _;rfl
  |cons a l ih=>
   intro i hc;rw[eZ,zL _ (Action.gV (hc a (by simp))),aA,IM,aA,ig,ih _ (fun x hx=>hc x (by simp[hx])),x7];cases(fJ a.pat.args).contains v<;>rfl
 have k1:∀(l:aj) (i:Nat),(∀c∈l,c.wt<=1048576)->dN r k v (some (r.bR.any fun a=>(fJ a.pat.args).contains v)) l i=some (Ho v k l i||r.bR.any fun a=>(fJ a.pat.args).contains v):=by
  intro l
  induction l with
  |nil=>intro i _;rfl
  |cons c l ih=>
   intro i hc;rw[dN,GB _ (hc c (by simp)),aA,IM,aA,ig,ih _ (fun x hx=>hc x (by simp[hx]))];simp only[Ho,bne,kW];by_cases hi:((i:Nat):Int)=k
   ·simp[hi]
   ·cases(kU c).contains v<;>simp[hi]
 rw[k2 _ _ (fun c hc=>aH.Cz h hc),k1 _ _ (fun c hc=>aH.mJ h hc)]
theorem UP(r:aH)(k:Int)(v:Bytes)(hv:nD v=true)(h:r.wt<=1048576):gb r k v=some (EE r k v):=by
 unfold gb EE;have k2:∀(l:cV) (i:Nat),cx r v (some false) l i=some (l.any fun a=>(fJ a.pat.args).contains v):=by
  intro l
  induction l with
  |nil=>intro i;rfl
  |cons a l ih=>
   intro i;rw[cx,MS,aA,C5 hv,ih,x7];cases(fJ a.pat.args).contains v<;>rfl
 have k1:∀(l:aj) (i:Nat),(∀c∈l,c.wt<=1048576)->cT r k v (some (r.bR.any fun a=>(fJ a.pat.args).contains v)) l i=some (Ho v k l i||r.bR.any fun a=>(fJ a.pat.args).contains v):=by
  intro l
  induction l with
  |nil=>intro i _;rfl
  |cons c l ih=>
   intro i hc;rw[cT,Fi _ (hc c (by simp)),aA,MS,aA,ig,ih _ (fun x hx=>hc x (by simp[hx]))];simp only[Ho,bne,kW];by_cases hi:((i:Nat):Int)=k
   ·simp[hi]
   ·cases(kU c).contains v<;>simp[hi]
 rw[k2,k1 _ _ (fun c hc=>aH.mJ h hc)]
def BI(r:aH)(i:Nat)(c:aK)(v:Bytes):Bool:=decide (c.kind=1)||(qg r i).contains v||(decide (c.kind=2)&& !EE r i v)
def nW(r:aH):aj->Nat->Bool
 | [],_=>true
 |c::cs,i=>(mw c&&(!decide (i=0)||decide (c.kind=1))&&(cz (kU c)).all (BI r i c))&&nW r cs (i+1)
def B9(r:aH):Bool:=r.bR.all fun a=>B8 a&&(fJ a.pat.args).all fun v=>(qg r r.conds.length).contains v
def jq(r:aH):Bool:=rA r.name&&(decide (0<=r.prio)&&decide (r.prio<=9))&&(decide (1<=(r.conds.length:Int))&&decide ((r.conds.length:Int)<=4))&&(decide (1<=(r.bR.length:Int))&&decide ((r.bR.length:Int)<=2))&&
 (nW r r.conds 0&&(B9 r&&decide (((cz (uo r.conds)).length:Int)<=6)))
theorem Hg(l:aC)(p:Bytes->Bool):(cz l).all p=l.all p:=by
 rw[bO];simp[aR,me]
theorem M4(r:aH)(n:Int){v:Bytes}(h:v∈qg r n):v∈uo r.conds:=by
 unfold qg at h;obtain⟨c,hc,hv⟩:=bQ.1 h;refine bQ.2 ⟨c,bL hc,?_⟩;unfold Ab at hv;cases hk:decide (c.kind=1)with
 |false=>rw[hk]at hv;cases hv
 |true=>
  rw[hk]at hv;simp only[aN]at hv;unfold kU;rw[Cm];exact aJ.2 (.inl hv)
theorem FG{r:aH}(h:B9 r=true):cz (Pb r)=cz (uo r.conds):=by
 refine vr (fun x=>?_);unfold Pb;simp only[aJ];constructor
 ·rintro(hx|hx)
  ·exact hx
  ·obtain⟨a,ha,hv⟩:=bQ.1 hx;unfold B9 at h;have:=aR.1 h a ha;simp only[aL,aR]at this;have:=this.2 x hv;exact M4 r _ (by simpa using this)
 ·exact .inl
theorem Mr(r:aH)(y:aC)(i:Nat)(c:aK)(l:aC)(k:Option Bool)(hc:c.wt<=1048576)(hr:r.wt<=1048576)(hcb:mw c=true):∀(rest:aC) (j:Nat),di r y i c (cz (qg r i)) l k rest j=bif rest.all (BI r i c)then k else some false:=by
 have hk:=xL hcb;intro rest
 induction rest with
 |nil=>intro j;rfl
 |cons v rest ih=>
  intro j;rw[di,IM,aA,ig,O8 c hc,aA,S9 r _ v hr,aA,ih,cv];unfold HG BI;rw[hcb];by_cases h1:c.kind=1
  ·simp[h1]
  by_cases h2:c.kind=2
  ·cases(qg r i).contains v<;>cases EE r i v<;>simp[h2]
  have h3:c.kind>=3:=by omega
  cases(qg r i).contains v<;>simp[h1,h2,h3]
theorem Ms(r:aH)(y:aC)(i:Nat)(c:aK)(l:aC)(k:Option Bool)(hc:c.wt<=1048576)(hr:r.wt<=1048576)(hcb:mw c=true):∀(rest:aC) (j:Nat),dl r y i c (cz (qg r i)) l k rest j=bif rest.all (BI r i c)then k else some false:=by
 have hk:=xL hcb;intro rest
 induction rest with
 |nil=>intro j;rfl
 |cons v rest ih=>
  intro j;rw[dl,IM,aA,ig,O8 c hc,aA,S9 r _ v hr,aA,ih,cv];unfold HG BI;rw[hcb];by_cases h1:c.kind=1
  ·simp[h1]
  by_cases h2:c.kind=2
  ·cases(qg r i).contains v<;>cases EE r i v<;>simp[h2]
  have h3:c.kind>=3:=by omega
  cases(qg r i).contains v<;>simp[h1,h2,h3]
theorem Mq(r:aH)(y:aC)(k:Option Bool)(hr:r.wt<=1048576):∀(rest:aj) (i:Nat),(∀c∈rest,c.wt<=1048576)->gM r y k rest i=bif nW r rest i then k else some false:=by
 intro rest
 induction rest with
 |nil=>intro i _;rfl
 |cons c rest ih=>
  intro i h;have hc:=h c (by simp);have hl:=oU hc;have hu:=k9 (kU c);rw[gM,O3 c hc,aA,nW];cases hcb:mw c with
  |false=>rfl
  |true=>
   rw[GA r _ hr,GB c hc,ih _ (fun x hx=>h x (by simp[hx]))];simp only[aA,tu (show(cz (kU c)).length<=1099511627776 by omega),aN];rw[Mr r y i c _ _ hc hr hcb,Ms r y i c _ _ hc hr hcb];simp only[bne,kW];have e0:decide (((i:Int):Int)=0)=decide (i=0):=by rw[bO];simp
   rw[e0];cases decide (i=0)<;>cases decide (c.kind=1)<;>cases(cz (kU c)).all (BI r i c)<;>simp
theorem Mu(r:aH)(y:aC)(i:Nat)(l:aC)(k:Option Bool):∀(rest:aC) (j:Nat),iQ r y i l k rest j=bif rest.all (fun v=>y.contains v)then k else some false:=
 fun rest j=>M1 (f:=fun v=>dw y v) (L:=iQ r y i l k) (fun _=>rfl) (fun _ _ _=>rfl) rest j (fun v _=>IM y v)
theorem Mt(r:aH)(b:aC)(k:Option Bool):∀(rest:cV) (i:Nat),(∀a∈rest,a.wt<=1048576)->iP r (cz b) k rest i=bif rest.all (fun a=>B8 a&&(fJ a.pat.args).all fun v=>b.contains v)then k else some false:=by
 intro rest
 induction rest with
 |nil=>intro i _;rfl
 |cons a rest ih=>
  intro i h;have ha:=h a (by simp);have h1:=nw a.pat.args;have h2:=ar.js (Action.gV ha);have hu:=k9 (fJ a.pat.args);rw[iP,Uf a ha,aA,zL _ (Action.gV ha),aA,tu (by omega),ih _ (fun x hx=>h x (by simp[hx])),Mu,cv,Hg];have e:((fJ a.pat.args).all fun v=>(cz b).contains v)=(fJ a.pat.args).all fun v=>b.contains v:=by
   congr 1;funext v;exact ig b v
  rw[e];cases B8 a<;>cases(fJ a.pat.args).all (fun v=>b.contains v)<;>simp
theorem O7(r:aH)(h:r.wt<=1048576):iY r=some (jq r):=by
 unfold iY;simp only[O5 _ (aH.H7 h),aA,EY,ay];rw[GA r _ h];simp only[aA];rw[Mq r _ _ h _ _ (fun c hc=>aH.mJ h hc),Mt r _ _ _ _ (fun a ha=>aH.Cz h ha),Ph r h];simp only[aA,ay];have hab:(r.bR.all fun a=>B8 a&&(fJ a.pat.args).all fun v=>(qg r r.conds.length).contains v)=B9 r:=rfl;rw[hab];unfold jq;have g1:decide (r.prio>=0)=decide (0<=r.prio):=rfl;have g2:decide ((r.conds.length:Int)>=1)=decide (1<=(r.conds.length:Int)):=rfl;have g3:decide ((r.bR.length:Int)>=1)=decide (1<=(r.bR.length:Int)):=rfl;rw[g1,g2,g3];cases ha:B9 r with
 |false=>cases rA r.name<;>cases(decide (0<=r.prio)&&decide (r.prio<=9))<;>cases(decide (1<=(r.conds.length:Int))&&decide ((r.conds.length:Int)<=4))<;>cases(decide (1<=(r.bR.length:Int))&&decide ((r.bR.length:Int)<=2))<;>cases nW r r.conds 0<;>rfl
 |true=>
  rw[FG ha];cases rA r.name<;>cases(decide (0<=r.prio)&&decide (r.prio<=9))<;>cases(decide (1<=(r.conds.length:Int))&&decide ((r.conds.length:Int)<=4))<;>cases(decide (1<=(r.bR.length:Int))&&decide ((r.bR.length:Int)<=2))<;>cases nW r r.conds 0<;>simp
theorem P9(r:aH)(i:Nat)(c:aK)(l:aC)(k:Option Bool)(hr:r.wt<=1048576)(hcb:mw c=true):∀(rest:aC) (j:Nat),(∀v∈rest,nD v=true)->eN r (i:Int) c (cz (qg r i)) l k rest j=bif rest.all (BI r i c)then k else some false:=by
 have hk:=xL hcb;intro rest
 induction rest with
 |nil=>intro j _;rfl
 |cons v rest ih=>
  intro j hv;rw[eN,MS,aA,ig,UP r _ v (hv v (by simp)) hr,aA,ih _ (fun x hx=>hv x (by simp[hx])),cv];unfold BI;simp only[bne,kW];by_cases h1:c.kind=1
  ·simp[h1]
  by_cases h2:c.kind=2
  ·cases(qg r i).contains v<;>cases EE r i v<;>simp[h2]
  cases(qg r i).contains v<;>simp[h1,h2]
theorem RV(r:aH)(i:Nat)(c:aK)(hr:r.wt<=1048576)(hi:r.conds[i]?=some c)(hcb:mw c=true):jz r (i:Int)=some ((cz (kU c)).all (BI r i c)):=by
 unfold jz;have hc:=aH.mJ hr (aD hi);have hl:=oU hc;have hu:=k9 (kU c);have e:lg r.conds (i:Int)=some c:=by unfold lg;simp[hi]
 rw[e,aA,Jx r _ hr,aA,Fi c hc,aA,tu (by omega),aN,P9 r i c _ _ hr hcb _ _ (fun v hv=>by
  rw[me]at hv;unfold kU fJ at hv;exact(ew.1 hv).2)]
 cases(cz (kU c)).all (BI r i c)<;>rfl
theorem MT(r:aH)(k:Option Bool)(hr:r.wt<=1048576):∀(rest pre:aj),r.conds=pre++rest->fE r k rest pre.length=bif nW r rest pre.length then k else some false:=by
 intro rest
 induction rest with
 |nil=>intro pre _;rfl
 |cons c rest ih=>
  intro pre h;have hm:c∈r.conds:=by rw[h];simp
  have hc:=aH.mJ hr hm;have hi:r.conds[pre.length]?=some c:=by rw[h];simp
  have t:=ih (pre++[c]) (by rw[h];simp);simp only[af,aT,bH]at t;rw[fE,RT c hc,aA,nW];cases hcb:mw c with
  |false=>rfl
  |true=>
   rw[RV r _ c hr hi hcb,aA,t];simp only[bne,kW];have e0:decide ((((pre.length:Nat):Int):Int)=0)=decide (pre.length=0):=by rw[bO];simp
   rw[e0];cases decide (pre.length=0)<;>cases decide (c.kind=1)<;>cases(cz (kU c)).all (BI r pre.length c)<;>simp
theorem MV(r:aH)(y:aC)(i:Nat)(l:aC)(k:Option Bool):∀(rest:aC) (j:Nat),iK r y i l k rest j=bif rest.all (fun v=>y.contains v)then k else some false:=
 fun rest j=>M1 (f:=fun v=>gZ y v) (L:=iK r y i l k) (fun _=>rfl) (fun _ _ _=>rfl) rest j (fun v _=>MS y v)
theorem MU(r:aH)(b:aC)(k:Option Bool):∀(rest:cV) (i:Nat),(∀a∈rest,a.wt<=1048576)->iJ r (cz b) k rest i=bif rest.all (fun a=>B8 a&&(fJ a.pat.args).all fun v=>b.contains v)then k else some false:=by
 intro rest
 induction rest with
 |nil=>intro i _;rfl
 |cons a rest ih=>
  intro i h;have ha:=h a (by simp);have h1:=nw a.pat.args;have h2:=ar.js (Action.gV ha);rw[iJ,UL a ha,aA,K8 _ (by omega) (fun x hx=>ar.uh (Action.gV ha) hx),aA,tu (by omega),ih _ (fun x hx=>h x (by simp[hx])),MV,cv];have e:((fJ a.pat.args).all fun v=>(cz b).contains v)=(fJ a.pat.args).all fun v=>b.contains v:=by
   congr 1;funext v;exact ig b v
  rw[e];cases B8 a<;>cases(fJ a.pat.args).all (fun v=>b.contains v)<;>simp
theorem RY(r:aH)(h:r.wt<=1048576):nK r=some (jq r):=by
 unfold nK;have XZ:=JI r.conds;have Q9:=aH.nI h;rw[show fE r _ r.conds 0=_ from MT r _ h r.conds [] rfl,Jx r _ h,aA,MU r _ _ _ _ (fun a ha=>aH.Cz h ha),RS _ (fun c hc=>aH.mJ h hc) Q9,aA,DL _ (by omega),NW _ (aH.H7 h)];have e:=T9 r.conds [];simp only[dS]at e;rw[e];simp only[aA,ay,bH];have hab:(r.bR.all fun a=>B8 a&&(fJ a.pat.args).all fun v=>(qg r r.conds.length).contains v)=B9 r:=rfl;rw[hab];unfold jq;have g1:decide (0<=r.prio)= !decide (r.prio<0):=by rw[bO];simp
 have g2:decide (r.prio<=9)= !decide (r.prio>9):=by rw[bO];simp
 have g3:decide (1<=(r.conds.length:Int))= !decide ((r.conds.length:Int)<1):=by rw[bO];simp
 have g4:decide ((r.conds.length:Int)<=4)= !decide ((r.conds.length:Int)>4):=by rw[bO];simp
 have g5:decide (1<=(r.bR.length:Int))= !decide ((r.bR.length:Int)<1):=by rw[bO];simp
 have g6:decide ((r.bR.length:Int)<=2)= !decide ((r.bR.length:Int)>2):=by rw[bO];simp
 rw[g1,g2,g3,g4,g5,g6];cases rA r.name
 ·rfl
 cases decide (r.prio<0)
 case true=>rfl
 cases decide (r.prio>9)
 case true=>rfl
 cases decide ((r.conds.length:Int)<1)
 case true=>rfl
 cases decide ((r.conds.length:Int)>4)
 case true=>rfl
 cases decide ((r.bR.length:Int)<1)
 case true=>rfl
 cases decide ((r.bR.length:Int)>2)
 case true=>rfl
 cases nW r r.conds 0
 ·rfl
 cases B9 r
 ·rfl
 simp
def sR(name:Bytes):aZ->Nat->Int
 | [],_=> -1
 |r::rs,i=>bif r.name==name then(i:Int)else sR name rs (i+1)
def Aa(all:aZ):aZ->Nat->Bool
 | [],_=>true
 |r::rs,i=>(jq r&&decide (sR r.name all 0=(i:Int)))&&Aa all rs (i+1)
def uB(l:aZ):Bool:=Aa l l 0&&decide ((l.length:Int)<=6)
theorem SA(l:aZ)(n:Bytes):lV l n=some (sR n l 0):=by
 unfold lV;have:∀(r:aZ) (i:Nat),fy l n (some (-1)) r i=some (sR n r i):=by
  intro r
  induction r with
  |nil=>intro i;rfl
  |cons x r ih=>intro i;rw[fy,ih,sR];cases x.name==n<;>rfl
 exact this l 0
theorem RU(l:aZ)(n:Bytes):lS l n=some (sR n l 0):=by
 unfold lS;have:∀(r:aZ) (i:Nat),fm l n (some (-1)) r i=some (sR n r i):=by
  intro r
  induction r with
  |nil=>intro i;rfl
  |cons x r ih=>intro i;rw[fm,ih,sR];cases x.name==n<;>rfl
 exact this l 0
theorem S7(l:aZ)(h:o6 aH.wt l<=1048576):k7 l=some (uB l):=by
 unfold k7;have:∀(r:aZ) (i:Nat) (k:Option Bool),(∀x∈r,x.wt<=1048576)->fw l k r i=bif Aa l r i then k else some false:=by
  intro r
  induction r with
  |nil=>intro i k _;rfl
  |cons x r ih=>
   intro i k hx;rw[fw,O7 x (hx x (by simp)),aA,SA,aA,ih _ _ (fun y hy=>hx y (by simp[hy])),Aa];simp only[bne,kW];cases jq x<;>cases decide (sR x.name l 0=(i:Int))<;>simp
 rw[this _ _ _ (fun x hx=>by have:=oM (w:=aH.wt) hx;omega),ay,uB];cases Aa l l 0<;>rfl
theorem UN(l:aZ)(h:o6 aH.wt l<=1048576):lR l=some (uB l):=by
 unfold lR;have:∀(r:aZ) (i:Nat) (k:Option Bool),(∀x∈r,x.wt<=1048576)->fk l k r i=bif Aa l r i then k else some false:=by
  intro r
  induction r with
  |nil=>intro i k _;rfl
  |cons x r ih=>
   intro i k hx;rw[fk,RY x (hx x (by simp)),aA,RU,aA,ih _ _ (fun y hy=>hx y (by simp[hy])),Aa];simp only[bne,kW];cases jq x<;>cases decide (sR x.name l 0=(i:Int))<;>simp
 rw[this _ _ _ (fun x hx=>by have:=oM (w:=aH.wt) hx;omega),ay,uB];have g:decide ((l.length:Int)<=6)= !decide ((l.length:Int)>6):=by rw[bO];simp
 rw[g];cases Aa l l 0<;>cases decide ((l.length:Int)>6)<;>rfl
end Go.Cx
namespace Go.Cx
open Go.RowKit Go.Proofs Tryz
end Go.Cx
namespace Go.Cx
open Go.RowKit Go.Proofs Tryz
theorem Me:∀(k v:Nat),v<10^k->1<=k->Lib.nDigits v<=k:=by
 intro k
 induction k with
 |zero=>intro v _ h;omega
 |succ k ih=>
  intro v hv _;by_cases h10:v<10
  ·rw[Lib.nDigits_small h10];omega
  ·rw[Lib.nDigits_big h10];have h3:v/10<10^k:=by rw[Nat.pow_succ]at hv;omega
   have hk1:1<=k:=by
    cases k with
    |zero=>simp at hv;omega
    |succ k=>omega
   have:=ih (v/10) h3 hk1;omega
theorem Fw{u:Nat}(h:u<=9223372036854775808):Lib.nDigits u<=19:=Me 19 u (by omega) (by omega)
theorem TB(u:Nat):UInt8.ofNat (IntKind.u8.wrap (IntKind.i64.wrap (48+((u:Int)%10)))).toNat=UInt8.ofNat (48+u%10):=by
 rw[fT (k:=.i64) (mL.i64.2 (by omega)),fT (mL.u8.2 (by omega))]
 congr 1
theorem O4(k:Option Bytes):∀(n u:Nat) (acc:Bytes),Lib.nDigits u<=n->acc.length+Lib.nDigits u<=1000->eX k n (u:Int) acc=some (Lib.decDigits u++acc):=by
 intro n
 induction n with
 |zero=>intro u acc h _;have:=Lib.nDigits_pos u;omega
 |succ n ih=>
  intro u acc hn hl;have hp:=Lib.nDigits_pos u;have e0:(decide (0<=(u:Int))&&decide (0<(10:Int)))=true:=by simp
  have e1:decide (([UInt8.ofNat (48+u%10)]:Bytes).length+(acc:Bytes).length<=maxLen)=true:=by unfold maxLen;simp;omega
  rw[eX];simp only[TB,e0,e1,aN];by_cases h10:u<10
  ·have e2:(((u:Int)/10:Int)==0)=true:=by rw[bq];omega
   rw[e2,aN,Lib.decDigits,dif_pos h10,Nat.mod_eq_of_lt h10]
  ·have e2:(((u:Int)/10:Int)==0)=false:=by rw[bu];omega
   have e3:((u:Int)/10)=((u/10:Nat):Int):=by omega
   have hd:=Lib.nDigits_big h10;rw[e2,aa,e3,ih (u/10) _ (by omega) (by simp;omega)]
   conv=>rhs;rw[Lib.decDigits,dif_neg h10]
   simp
theorem SC(m u:Nat)(h:u<=9223372036854775807):eP (m+1) (u:Int)=some (Lib.decDigits u):=by
 rw[eP];have e1:((u:Int)==(-9223372036854775808))=false:=by rw[bu];omega
 have e2:decide ((u:Int)<0)=false:=by simp
 have:=Fw (u:=u) (by omega);rw[e1,aa,e2,aa,O4 _ _ _ _ (by unfold fuel;omega) (by simp;omega)];simp
theorem KC:Lib.itoa (-9223372036854775808)=[45,57,50,50,51,51,55,50,48,51,54,56,53,52,55,55,53,56,48,56]:=by
 unfold Lib.itoa;simp[Lib.decDigits]
theorem SB(n:Int)(h:mL .i64 n):jd n=some (Lib.itoa n):=by
 have h:=mL.i64.1 h;unfold jd;rw[show fuel=4194303+1 from rfl,eP];by_cases hm:n= -9223372036854775808
 ·subst hm;rw[KC];rfl
 have e1:((n:Int)==(-9223372036854775808))=false:=by rw[bu];exact hm
 rw[e1,aa];by_cases hn:n<0
 ·have e2:decide (n<0)=true:=by simpa using hn
  have e3:IntKind.i64.wrap (0-n)=((n.natAbs:Nat):Int):=by rw[fT (mL.i64.2 (by omega))];omega
  have hd:=Fw (u:=n.natAbs) (by omega);rw[e2,aN,e3,show(4194303:Nat)=4194302+1 from rfl,SC _ _ (by omega),aA];have e4:decide (([45]:Bytes).length+(Lib.decDigits n.natAbs:Bytes).length<=maxLen)=true:=by unfold maxLen;rw[Lib.decDigits_length];simp;omega
  rw[e4,aN];unfold Lib.itoa;rw[bD hn];rfl
 ·have e2:decide (n<0)=false:=by simpa using hn
  have e3:n=((n.toNat:Nat):Int):=by omega
  have:=Fw (u:=n.toNat) (by omega);rw[e2,aa]
  conv=>lhs;rw[e3]
  rw[O4 _ _ _ _ (by unfold fuel;omega) (by simp;omega)];unfold Lib.itoa;rw[ai hn];simp
theorem UQ(n:Int):kn n=some (Lib.itoa n):=by
 unfold kn qx;rfl
theorem Fk(n:Int)(h:mL .i64 n):(Lib.itoa n).length<=21:=by
 have:=mL.i64.1 h;exact Lib.itoa_length_le n this.1 this.2
def xw(to:bX)(s:Bytes):Bytes:=match to with
 | []=>s
 |p::r=>bif p.var==s then p.value else xw r s
def Et(to:bX)(x:aK):aK:=⟨x.kind,⟨x.pat.rel,x.pat.args.map (xw to)⟩,xw to x.left,xw to x.right⟩
theorem Uh(to:bX)(s:Bytes):gQ s to=some (xw to s):=by
 unfold gQ;have:∀(r:bX) (i:Nat),fR s to (some s) r i=some (xw r s):=by
  intro r
  induction r with
  |nil=>intro i;rfl
  |cons x r ih=>
   intro i;rw[fR,ih,xw];cases x.var==s<;>rfl
 exact this to 0
theorem UR(to:bX)(s:Bytes):ee s to=some (xw to s):=by
 unfold ee;have:∀(r:bX) (i:Nat),eW s to (some s) r i=some (xw r s):=by
  intro r
  induction r with
  |nil=>intro i;rfl
  |cons x r ih=>
   intro i;rw[eW,ih,xw];cases x.var==s<;>rfl
 exact this to 0
theorem Ug(x:aK)(to:bX)(h:x.pat.args.length<=1099511627770):kH x to=some (Et to x):=by
 unfold kH;rw[Uh,aA,Uh,aA];rw[Ef (c:=tx) (b:=16) (f:=fun a=>gQ a to) (g:=xw to) (L:=gN x to (xw to x.left) (xw to x.right) _) (k:=_) (by decide) (fun _ _=>rfl) (fun _ _ _ _=>rfl) _ _ _ (fun a _=>Uh to a) (by simp;omega)];rfl
theorem RX(x:aK)(to:bX)(h:x.pat.args.length<=1099511627770):gY x to=some (Et to x):=by
 unfold gY;rw[UR,aA,UR,aA];rw[Ef (c:=tx) (b:=16) (f:=fun a=>ee a to) (g:=xw to) (L:=gJ x to (xw to x.left) (xw to x.right) _) (k:=_) (by decide) (fun _ _=>rfl) (fun _ _ _ _=>rfl) _ _ _ (fun a _=>UR to a) (by simp;omega)];rfl
def zx(l:bX)(t:Bytes):Bool:=l.any fun p=>p.var==t
def n0(l:bX)(t:Bytes):bX:=bif nD t&& !zx l t then l++[⟨t,[63]++Lib.itoa ((l.length:Int)+1)⟩]else l
theorem Ee(x y:Bytes):∀(m:List (Bytes×Bool)),z7 false y (BZ x true m)=(y==x||z7 false y m)
 | []=>by simp only[BZ,z7];cases y==x<;>rfl
 |p::m=>by
  simp only[BZ];cases h:x==p.1 with
  |true=>
   have h':x=p.1:=by simpa using h
   subst h';simp only[aN,z7];cases y==p.1<;>simp
  |false=>
   simp only[aa,z7,Ee x y m];cases hy:y==p.1 with
   |true=>
    have h1:y=p.1:=by simpa using hy
    have h2:(y==x)=false:=by
     rw[bu]at h⊢;intro e;exact h (e.symm.trans h1)
    simp[h2]
   |false=>simp
theorem Hp(l:bX)(x y v:Bytes):zx (l++[⟨x,v⟩]) y=(y==x||zx l y):=by
 have:(x==y)=(y==x):=by rw[bO,bq,bq];exact eq_comm
 simp only[zx,List.any_append,x7,yG,nG,this];cases y==x<;>simp
theorem Gw(ts:aC)(hl:ts.length<=1099511627700)(h:∀x∈ts,x.length<=1048576):j5 ts=some (ts.foldl n0 []):=by
 unfold j5;have key:∀(r:aC) (i:Nat) (w:bX) (m:List (Bytes×Bool)),(∀x∈r,x.length<=1048576)->w.length+r.length<=1099511627700->(∀y,z7 false y m=zx w y)->
  dD ts (fun q=>some q) r i w m=some (r.foldl n0 w):=by
  intro r
  induction r with
  |nil=>intro i w m _ _ _;rfl
  |cons x r ih=>
   intro i w m hx hw hm;simp only[aT]at hw;have hr:mL .i64 ((w.length:Int)+1):=mL.i64.2 (by omega);have hi:=Fk _ hr;have e1:IntKind.i64.wrap (((w.map bh.c).length:Int)+1)=(w.length:Int)+1:=by rw[fT (mL.i64.2 (by simp;omega))];simp
   have e2:decide (([63]:Bytes).length+(Lib.itoa ((w.length:Int)+1):Bytes).length<=maxLen)=true:=by unfold maxLen;simp;omega
   rw[dD,PE x (hx x (by simp)),aA,er,n0,hm x];cases hv:nD x with
   |false=>simp only[aa,Bool.false_and];exact ih _ _ _ (fun y hy=>hx y (by simp[hy])) (by omega) hm
   |true=>
    cases hh:zx w x with
    |true=>simp only[aN,cX,aa,x6];exact ih _ _ _ (fun y hy=>hx y (by simp[hy])) (by omega) hm
    |false=>
     simp only[aN,ji,x6];rw[e1,UQ,aA,e2,aN,n8 (by omega) (by decide),aN];exact ih _ _ _ (fun y hy=>hx y (by simp[hy])) (by simp;omega) (fun y=>by rw[Ee,Hp,hm])
 exact key ts 0 [] [] h (by simpa using hl) (fun y=>rfl)
def L6(p:ar):ar:=(Et (p.args.foldl n0 []) ⟨0,p,[],[]⟩).pat
theorem PD(p:ar)(h:p.wt<=1048576):ko p=some (L6 p):=by
 have hl:=ar.js h;unfold ko;rw[Gw _ (by omega) (fun x hx=>ar.uh h hx),aA,RX _ _ (by simp;omega)];rfl
def sE(l:aj):aC:=l.flatMap fun c=>c.pat.args++[c.left,c.right]
theorem GI(l:aj):(sE l).length<=3*o6 aK.wt l:=by
 unfold sE
 induction l with
 |nil=>simp
 |cons x l ih=>
  rw[fS,af,gT];have:=ar.js (aK.gV (c:=x) (b9 _));simp only[af,aT,bH];omega
def mU(r:aH):bX:=(sE r.conds).foldl n0 []
def jo(r:aH):aj:=r.conds.map (Et (mU r))
theorem PA(r:aH)(h:r.wt<=1048576):kD r=some (mU r):=by
 unfold kD;have hw:=aH.nI h;have key:∀(k:aC->Option bX) (l:aj) (i:Nat) (w:aC),(∀c∈l,c.wt<=1048576)->w.length+3*o6 aK.wt l<=1099511627700->eH r k l i w=k (w++sE l):=by
  intro k l
  induction l with
  |nil=>intro i w _ _;simp[eH,sE]
  |cons c l ih=>
   intro i w hc hw;rw[gT]at hw;have Qv:=hc c (by simp);have ha:=ar.js (aK.gV (c:=c) (b9 _));rw[eH,K7 c Qv,aA,Kp (by simp;omega) (by decide),aN,ih _ _ (fun y hy=>hc y (by simp[hy])) (by simp;omega)];simp[sE]
 have hl:=GI r.conds;rw[key _ _ _ _ (fun c hc=>aH.mJ h hc) (by simp;omega),j9,Gw _ (by omega) ?_]
 ·rfl
 ·intro x hx;unfold sE at hx;obtain⟨c,hc,hx⟩:=bQ.1 hx;have Qv:=aH.mJ h hc;rcases aJ.1 hx with hx|hx
  ·exact ar.uh (aK.gV Qv) hx
  ·simp only[aq,List.not_mem_nil,or_false]at hx;rcases hx with rfl|rfl
   ·exact aK.yy Qv
   ·exact aK.vp Qv
theorem P6(r:aH)(h:r.wt<=1048576):kC r=some (jo r):=by
 unfold kC;have hw:=aH.nI h;have hl:=rp aK.wt r.conds;rw[PA r h,aA];rw[Ef (c:=aK.c) (b:=80) (f:=fun a=>gY a (mU r)) (g:=Et (mU r)) (L:=gI r (mU r) _) (k:=_) (by decide) (fun _ _=>rfl) (fun _ _ _ _=>rfl) _ _ _ (fun c hc=>RX c _ (by have:=ar.js (aK.gV (aH.mJ h hc));omega)) (by simp;omega)];simp[jo]
end Go.Cx
namespace Go.Cx
open Go.RowKit Go.Proofs Tryz
end Go.Cx
namespace Go.Cx
open Go.RowKit Go.Proofs Tryz
def JH:Option bh->bX->Bool
 |_,[]=>true
 |p,x::xs=>nD x.var&&(pe x.value&&((match p with|some q=>Op.bytesLess q.var x.var|none=>true)&&JH (some x) xs))
def Qe(b:bX):Bool:=JH none b&&decide (b.length<=6)
end Go.Cx
namespace Go.Cx
open Go.RowKit Go.Proofs Tryz
theorem wC{r:aH}(h:jq r=true):r.conds.length<=4:=by
 unfold jq at h;simp only[aL,b8]at h;omega
theorem BD{r:aH}:∀ {l:aj} {i:Nat},nW r l i=true->∀c∈l,mw c=true
 | [],_,_,c,hc=>by cases hc
 |x::xs,i,h,c,hc=>by
  simp only[nW,aL]at h;rcases aq.1 hc with rfl|hc
  ·exact h.1.1.1
  ·exact BD h.2 c hc
theorem Ew{r:aH}(h:jq r=true):∀c∈r.conds,mw c=true:=by
 unfold jq at h;simp only[aL]at h;exact BD h.2.1
theorem E6{all:aZ}:∀ {l:aZ} {i:Nat},Aa all l i=true->∀r∈l,jq r=true
 | [],_,_,r,hr=>by cases hr
 |x::xs,i,h,r,hr=>by
  simp only[Aa,aL]at h;rcases aq.1 hr with rfl|hr
  ·exact h.1.1
  ·exact E6 h.2 r hr
theorem yM{l:aZ}(h:uB l=true):∀r∈l,jq r=true:=by
 unfold uB at h;simp only[aL]at h;exact E6 h.1
end Go.Cx
namespace Go.Cx
open Go.RowKit Go.Proofs Tryz
end Go.Cx
namespace Go.Cx
open Go.RowKit Go.Proofs Tryz
def dJ(c:bz):Prop:=0<=c.i/\c.b.length<=4096
theorem GZ(x:Int):0<=xB .i64 x 255/\xB .i64 x 255<=255:=by
 unfold xB;have h:(BitVec.ofInt IntKind.i64.bits x&&& BitVec.ofInt IntKind.i64.bits 255).toNat<=255:=by
  rw[BitVec.toNat_and];exact fc Nat.and_le_right (by decide)
 rw[fT (mL.i64.2 (by omega))];omega
theorem S8(c:bz)(h:dJ c):∃c' x,jT c=some (c',x)/\dJ c'/\0<=x/\x<=255:=by
 obtain⟨h1,h2⟩:=h;unfold jT;rw[ay];by_cases hi:c.i<(c.b.length:Int)
 ·have hlt:c.i.toNat<c.b.length:=by omega
  have e:lg c.b c.i=some c.b[c.i.toNat]:=by unfold lg;rw[cL h1,aN];exact aM hlt
  rw[cL hi,aN,e,aA];refine⟨_,_,rfl,⟨?_,h2⟩,GZ _⟩;show 0<=IntKind.i64.wrap (c.i+1);rw[fT (mL.i64.2 (by omega))];omega
 ·rw[hY hi,aa];exact⟨_,_,rfl,⟨h1,h2⟩,GZ _⟩
theorem oL(c:bz)(n:Int)(h:dJ c)(h0:0<n)(h1:n<=256):∃c' r,cH c n=some (c',r)/\dJ c'/\0<=r/\r<n:=by
 obtain⟨c',x,e,hc,hx,hx2⟩:=S8 c h;unfold cH;have e1:decide (n<=0)=false:=by simp;omega
 have e2:decide (n<=256)=true:=by simp;omega
 have e3:(decide (0<=x)&&decide (0<n))=true:=by simp;omega
 rw[e1,aa,e2,aN,e,aA,e3,aN];exact⟨_,_,rfl,hc,tZ _ (by omega),Int.emod_lt_of_pos _ h0⟩
theorem HE(c:bz)(n:Int)(h:dJ c)(h0:0<n)(h1:n<=256):∃c' b,jU c n=some (c',b)/\dJ c':=by
 obtain⟨c',x,e,hc,_⟩:=oL c n h h0 h1;unfold jU;rw[e,aA];exact⟨_,_,rfl,hc⟩
theorem L3(c:bz)(l:aC)(h:dJ c)(h0:0<l.length)(h1:l.length<=256):∃c' s,jK c l=some (c',s)/\dJ c'/\s∈l:=by
 obtain⟨c',x,e,hc,hx,hx2⟩:=oL c (l.length:Int) h (by omega) (by omega);unfold jK;rw[ay,e,aA];have hlt:x.toNat<l.length:=by omega
 have e2:lg l x=some l[x.toNat]:=by unfold lg;rw[cL hx,aN];exact aM hlt
 rw[e2,aA];exact⟨_,_,rfl,hc,iG hlt⟩
theorem Ks(c:bz)(h:dJ c):∃c' s,jS c=some (c',s)/\dJ c'/\s.length<=16:=by
 unfold jS;obtain⟨c',s,e,hc,hs⟩:=L3 c ([[97],[98],[99],[49],[50]]:aC) h (by decide) (by decide);rw[e,aA];have:∀s∈([[97],[98],[99],[49],[50]]:aC),s.length<=16:=by decide
 exact⟨_,_,rfl,hc,this s hs⟩
theorem Da(c:bz)(h:dJ c):∃c' s,jV c=some (c',s)/\dJ c'/\s.length<=16:=by
 unfold jV;generalize hl:([[97],[98],[111,110],[55],[49,48],[57,57,57,57],[49,48,48,48,48],[48,48,55],[48],[],[65],[63,120],[63,63],[63],[97,98,99,100,101,102,103,104],[97,98,99,100,101,102,103,104,105],[63,97,98,99,100,101,102,103,104],[97,45,98],[120,49],[49,120],[45,51]]:aC)=l;have h0:0<l.length/\l.length<=256/\∀s∈l,s.length<=16:=by subst hl;decide
 obtain⟨c',s,e,hc,hs⟩:=L3 c l h h0.1 h0.2.1;rw[e,aA];exact⟨_,_,rfl,hc,h0.2.2 s hs⟩
theorem GF(c:bz)(h:dJ c):∃c' s,jW c=some (c',s)/\dJ c'/\s.length<=16:=by
 unfold jW;obtain⟨c1,b,e,hc⟩:=HE c 4 h (by decide) (by decide);rw[e,aA];cases b with
 |true=>
  obtain⟨c2,s,e2,tq,hs⟩:=Ks c1 hc;rw[aN,e2,aA];exact⟨_,_,rfl,tq,hs⟩
 |false=>
  obtain⟨c2,s,e2,tq,hs⟩:=L3 c1 ([[63,120],[63,121],[63,122]]:aC) hc (by decide) (by decide);rw[aa,e2,aA];have:∀s∈([[63,120],[63,121],[63,122]]:aC),s.length<=16:=by decide
  exact⟨_,_,rfl,tq,this s hs⟩
theorem SH(c:bz)(h:dJ c):∃c' r n,oF c=some (c',(r,n))/\dJ c'/\r.length<=16/\0<=n/\n<=2:=by
 unfold oF;obtain⟨c1,x,e,hc,hx,hx2⟩:=oL c 6 h (by decide) (by decide);rw[e,aA];have key:x=0\/x=1\/x=2\/x=3\/x=4\/x=5:=by omega
 rcases key with rfl|rfl|rfl|rfl|rfl|rfl<;>exact⟨c1,_,_,rfl,hc,by decide,by decide,by decide⟩
def s7(k:Nat)(p:ar):Prop:=p.rel.length<=16/\p.args.length<=k/\∀x∈p.args,x.length<=16
theorem Co:∀(l:aC),(∀x∈l,x.length<=16)->o6 tw l<=17*l.length
 | [],_=>by simp[o6]
 |x::l,h=>by
  have h1:=Co l fun y hy=>h y (by simp[hy])
  have h2:=h x (by simp);rw[gT,aT];unfold tw at*;omega
theorem Ml(y:bz×(Bytes×Int))(k:bC->Int->Int->aC->Option (bz×ar)):∀(m:Nat) (fu:Nat) (v:Int) (c:bz) (w:aC),y.2.2-v=(m:Int)->m<fu->0<=v->y.2.2<=100->w.length+m<=1000->dJ c->(∀x∈w,x.length<=16)->
 ∃c' w',gP y k fu v c.b c.i c.h w=k c'.b c'.i c'.h w'/\dJ c'/\w'.length<=w.length+m/\∀x∈w',x.length<=16:=by
 intro m
 induction m with
 |zero=>
  intro fu v c w hv hf h0 hy hw hc hx;cases fu with
  |zero=>omega
  |succ fu=>
   have e:decide (v<y.2.2)=false:=by simp;omega
   rw[gP,e,aa];exact⟨c,w,rfl,hc,by omega,hx⟩
 |succ m ih=>
  intro fu v c w hv hf h0 hy hw hc hx;cases fu with
  |zero=>omega
  |succ fu=>
   have e:decide (v<y.2.2)=true:=by simp;omega
   obtain⟨c1,s,e2,hc1,hs⟩:=GF c hc;have OP:jW (⟨c.b,c.i,c.h⟩:bz)=some (c1,s):=e2;have e3:IntKind.i64.wrap (v+1)=v+1:=fT (mL.i64.2 (by omega));rw[gP,e,aN,OP,aA,n8 (by omega) (by decide),aN,e3];obtain⟨c',w',q1,q2,q3,q4⟩:=ih fu (v+1) c1 (w++[s]) (by omega) (by omega) (by omega) hy (by simp;omega) hc1 (fun x Oy=>by
    rcases aJ.1 Oy with h|h
    ·exact hx x h
    ·simp at h;subst h;exact hs)
   exact⟨c',w',q1,q2,by simp at q3;omega,q4⟩
theorem DZ(c:bz)(h:dJ c):∃c' p,fC c=some (c',p)/\dJ c'/\s7 2 p:=by
 unfold fC;obtain⟨c1,r,n,e,hc,hr,hn,hn2⟩:=SH c h;rw[e,aA];obtain⟨c',w',q1,q2,q3,q4⟩:=Ml (c1,(r,n)) (fun a b d q=>some ((⟨a,b,d⟩:bz),(⟨r,q⟩:ar))) n.toNat fuel 0 c1 [] (by simp;omega) (by unfold fuel;omega) (by omega) (by simp;omega) (by simp;omega) hc (by simp);exact⟨_,_,q1,q2,hr,by show w'.length<=2;simp at q3;omega,q4⟩
theorem O2(c:bz)(h:dJ c):∃c' p,mc c=some (c',p)/\dJ c'/\s7 4 p:=by
 unfold mc;obtain⟨c1,p,e,hc,hp1,hp2,Tx⟩:=DZ c h;obtain⟨c2,x,e2,tq,hx,hx2⟩:=oL c1 10 hc (by decide) (by decide);rw[e,aA,e2,aA];cases(x==(0:Int))with
 |true=>
  obtain⟨c3,s,e3,Af,hs⟩:=Da c2 tq;rw[aN,e3,aA];exact⟨_,_,rfl,Af,hs,by show p.args.length<=4;omega,Tx⟩
 |false=>
  rw[aa];cases(x==(1:Int))with
  |true=>
   obtain⟨c3,s,e3,Af,hs⟩:=Da c2 tq;rw[aN,e3,aA,n8 (w:=p.args) (by omega) (by decide),aN];refine⟨_,_,rfl,Af,hp1,by simp;omega,fun y hy=>?_⟩;rcases aJ.1 hy with h|h
   ·exact Tx y h
   ·simp at h;subst h;exact hs
  |false=>
   rw[aa];cases(x==(2:Int))with
   |true=>
    obtain⟨c3,z,e3,Af,hz,Hy⟩:=oL c2 5 tq (by decide) (by decide);have e4:(decide (0<=z)&&decide (z.toNat<=(([[63,120],[63,120],[63,121],[63,120]]:aC).map tx).length))=true:=by simp;omega
    rw[aN,e3,aA,e4,aN];refine⟨_,_,rfl,Af,hp1,by simp[bG];omega,fun y hy=>?_⟩;have:∀s∈([[63,120],[63,120],[63,121],[63,120]]:aC),s.length<=16:=by decide
    exact this y (bL hy)
   |false=>exact⟨_,_,rfl,tq,hp1,by show p.args.length<=4;omega,Tx⟩
theorem SD(code:bC)(h:code.length<=4096):∃c,oD code=some c/\dJ c:=by
 unfold oD;have key:∀(k:Int->Option bz) (r:bC) (i:Nat) (v:Int),∃z,jB code k r i v=k z:=by
  intro k r
  induction r with
  |nil=>intro i v;exact⟨v,rfl⟩
  |cons x r ih=>
   intro i v;rw[jB];cases decide ((i:Int)<4000)with
   |true=>exact ih _ _
   |false=>exact⟨v,rfl⟩
 obtain⟨z,e⟩:=key (fun z=>some (⟨code,0,z⟩:bz)) code 0 (IntKind.i64.wrap (851207+(IntKind.i64.wrap (3*((code.map yx).length:Int)))));rw[tu (by omega),aN,e];exact⟨_,rfl,by show(0:Int)<=0;omega,h⟩
end Go.Cx
namespace Go.Cx
open Go.RowKit Go.Proofs Tryz
def QI(k:Nat):Bytes:=[63]++Lib.itoa ((k:Int)+1)
theorem decDigits_one{u:Nat}(h:u<10):Lib.decDigits u=[UInt8.ofNat (48+u)]:=by
 rw[Lib.decDigits,dif_pos h]
theorem Mg:∀i,i<6->QI i=[63,UInt8.ofNat (49+i)]
 |0,_|1,_|2,_|3,_|4,_|5,_=>by
  unfold QI Lib.itoa;rw[ai (by decide),decDigits_one (by decide)];decide
 |n+6,h=>by omega
def Lw(N:bX):Prop:=∀(i:Nat) p,N[i]?=some p->p.value=QI i/\nD p.var=true
theorem EO(N:bX)(t:Bytes):zx N t=true↔∃p∈N,p.var=t:=by simp[zx]
theorem I8(N:bX)(t:Bytes){p:bh}(h:p∈N):p∈n0 N t:=by
 unfold n0;cases nD t&& !zx N t<;>simp[h]
theorem EM:∀(ts:aC) (N:bX) {p:bh},p∈N->p∈ts.foldl n0 N
 | [],_,_,h=>h
 |t::ts,N,p,h=>EM ts (n0 N t) (I8 N t h)
theorem LS{N:bX}(h:Lw N)(t:Bytes):Lw (n0 N t):=by
 unfold n0;cases hv:nD t&& !zx N t with
 |false=>exact h
 |true=>
  simp only[aL]at hv;intro i p hp;rw[aN]at hp;rcases cP i N.length with hlt|hge
  ·rw[aS hlt]at hp;exact h i p hp
  ·rw[aU hge]at hp;cases hi:i-N.length with
   |zero=>
    rw[hi]at hp;simp at hp;subst hp;have:i=N.length:=by omega
    subst this;exact⟨rfl,hv.1⟩
   |succ m=>rw[hi]at hp;simp at hp
theorem Dl:∀(ts:aC) {N:bX},Lw N->Lw (ts.foldl n0 N)
 | [],_,h=>h
 |t::ts,_,h=>Dl ts (LS h t)
def HX(N:bX):Prop:=(N.map bh.var).Nodup
theorem IA{N:bX}(h:HX N)(t:Bytes):HX (n0 N t):=by
 unfold n0;cases hv:nD t&& !zx N t with
 |false=>exact h
 |true=>
  simp only[aL,j0]at hv;rw[aN];unfold HX;rw[az,aY];refine⟨h,by simp,?_⟩;intro a ha b hb e;simp at hb;subst hb;subst e;obtain⟨p,hp,he⟩:=cE.1 ha;have:=(EO N a).2 ⟨p,hp,he⟩;rw[hv.2]at this;cases this
theorem Be:∀(ts:aC) {N:bX},HX N->HX (ts.foldl n0 N)
 | [],_,h=>h
 |t::ts,_,h=>Be ts (IA h t)
theorem EL:∀(ts:aC) (N:bX) {t:Bytes},t∈ts->nD t=true->∃p∈ts.foldl n0 N,p.var=t
 |x::ts,N,t,h,hv=>by
  rcases aq.1 h with rfl|h
  ·have:∃p∈n0 N t,p.var=t:=by
    unfold n0;cases hh:zx N t with
    |true=>rw[hv];exact(EO N t).1 hh
    |false=>rw[hv];exact⟨⟨t,[63]++Lib.itoa ((N.length:Int)+1)⟩,by simp,rfl⟩
   obtain⟨p,hp,he⟩:=this;exact⟨p,EM ts _ hp,he⟩
  ·exact EL ts _ h hv
theorem HB:∀ {N:bX} {p:bh},HX N->p∈N->xw N p.var=p.value
 |q::N,p,hn,hp=>by
  unfold HX at hn;rw[ax,dV]at hn;rcases aq.1 hp with rfl|hp
  ·simp[xw]
  ·have hne:(q.var==p.var)=false:=by
    rw[bu];intro e;exact hn.1 (by rw[e];exact cE.2 ⟨p,hp,rfl⟩)
   rw[xw,hne,aa];exact HB (show HX N from hn.2) hp
theorem Cf:∀ {N:bX} {t:Bytes},(∀p∈N,p.var≠t)->xw N t=t
 | [],t,_=>rfl
 |q::N,t,h=>by
  have hne:(q.var==t)=false:=by rw[bu];exact h q (by simp)
  rw[xw,hne,aa];exact Cf fun p hp=>h p (by simp[hp])
theorem Lw.nil:Lw []:=fun i p h=>by simp at h
theorem HX.nil:HX []:=by simp[HX]
theorem LR{N:bX}(h:Lw N){p:bh}(hp:p∈N):∃i,i<N.length/\N[i]?=some p/\p.value=QI i/\nD p.var=true:=by
 obtain⟨i,hi⟩:=ec hp;exact⟨i,(aB.1 hi).1,hi,h i p hi⟩
theorem KS{ts:aC}{t:Bytes}(ht:nD t=false):xw (ts.foldl n0 []) t=t:=
 Cf fun p hp e=>by
  obtain⟨i,_,_,_,hv⟩:=LR (Dl ts Lw.nil) hp;rw[e,ht]at hv;cases hv
theorem Mf:∀i,i<6->(QI i).length<=16:=by
 intro i hi;rw[Mg i hi];simp
end Go.Cx
namespace Go.Cx
open Go.RowKit Go.Proofs Tryz
theorem Bn(c:bz)(l:bC)(h:dJ c)(h0:0<l.length)(h1:l.length<=256):∃c' s,ff c l=some (c',s)/\dJ c'/\s∈l:=by
 obtain⟨c',x,e,hc,hx,hx2⟩:=oL c (l.length:Int) h (by omega) (by omega);unfold ff;rw[ay,e,aA];have hlt:x.toNat<l.length:=by omega
 have e2:lg l x=some l[x.toNat]:=by unfold lg;rw[cL hx,aN];exact aM hlt
 rw[e2,aA];exact⟨_,_,rfl,hc,iG hlt⟩
def MF(j:Nat):Bytes:=if j<10 then [UInt8.ofNat (48+j)]else [UInt8.ofNat (48+j/10),UInt8.ofNat (48+j%10)]
theorem Gh{j:Nat}(h:j<100):Lib.decDigits j=MF j:=by
 unfold MF;by_cases h1:j<10
 ·rw[bD h1,Lib.decDigits,dif_pos h1]
 ·rw[ai h1,Lib.decDigits,dif_neg h1,Lib.decDigits,dif_pos (by omega)];rfl
end Go.Cx
namespace Go.Cx
open Go.RowKit Go.Proofs Tryz
def tC(c:aK):Prop:=s7 4 c.pat/\c.left.length<=16/\c.right.length<=16
def Cy(a:Action):Prop:=s7 4 a.pat
def lE(n:Nat)(r:aH):Prop:=r.name.length<=16/\(r.conds.length<=n/\∀c∈r.conds,tC c)/\(r.bR.length<=n/\∀a∈r.bR,Cy a)
theorem rq{α:Type}{w:α->Nat}{B:Nat}:∀(l:List α),(∀x∈l,w x<=B)->o6 w l<=(B+1)*l.length
 | [],_=>by simp[o6]
 |x::l,h=>by
  have h1:=rq l fun y hy=>h y (by simp[hy])
  have h2:=h x (by simp);rw[gT,aT,Nat.mul_add];omega
theorem s7.Sx{p:ar}(h:s7 4 p):tw p.rel+o6 tw p.args<=100:=by
 have:=Co p.args h.2.2;have h1:=h.1;have h2:=h.2.1;unfold tw at*;omega
theorem tC.wt{c:aK}(h:tC c):c.wt<=200:=by
 have h1:=h.1.Sx;have h2:=h.2.1;have h3:=h.2.2;unfold aK.wt;unfold tw at*;omega
theorem Cy.wt{a:Action}(h:Cy a):a.wt<=200:=by
 have h1:=s7.Sx h;unfold Action.wt;unfold tw at*;omega
theorem lE.wt{n:Nat}{r:aH}(h:lE n r)(hn:n<=1000):r.wt<=1048576:=by
 obtain⟨h1,⟨h2,h3⟩,h4,h5⟩:=h;have c1:=rq (w:=aK.wt) (B:=200) r.conds (fun x hx=>(h3 x hx).wt);have c2:=rq (w:=Action.wt) (B:=200) r.bR (fun x hx=>(h5 x hx).wt);have d1:(200+1)*r.conds.length<=201*1000:=dP _ (by omega);have d2:(200+1)*r.bR.length<=201*1000:=dP _ (by omega);unfold aH.wt;unfold tw at*;omega
def Az(p:ar):Bool:=decide (p.rel.length<=16)&&(decide (p.args.length<=4)&&p.args.all fun x=>decide (x.length<=16))
theorem Cg{p:ar}(h:Az p=true):s7 4 p:=by
 unfold Az at h;simp only[aL,b8,aR]at h;exact h
def Dd(r:aH):Bool:=(decide (r.name.length<=16)&&((decide (r.conds.length<=4)&&r.conds.all fun c=>Az c.pat&&(decide (c.left.length<=16)&&decide (c.right.length<=16)))&&(decide (r.bR.length<=4)&&r.bR.all fun a=>Az a.pat)))&&(decide (1<=r.conds.length)&&decide (1<=r.bR.length))
theorem IN{r:aH}(h:Dd r=true):lE 4 r/\1<=r.conds.length/\1<=r.bR.length:=by
 unfold Dd at h;simp only[aL,b8,aR]at h;obtain⟨⟨h1,⟨h2,h3⟩,h4,h5⟩,h6,h7⟩:=h;exact⟨⟨h1,⟨h2,fun c hc=>⟨Cg (h3 c hc).1,(h3 c hc).2⟩⟩,h4,fun a ha=>Cg (h5 a ha)⟩,h6,h7⟩
theorem Pk(c:bz)(l r:Bytes)(h:dJ c)(hl:l.length<=16)(hr:r.length<=16):∃c' x,nL c l r=some (c',x)/\dJ c'/\tC x:=by
 unfold nL;obtain⟨c1,k,e,hc,_⟩:=Bn c [3,4,4,5] h (by decide) (by decide);rw[e,aA];exact⟨_,_,rfl,hc,⟨by simp,by simp,by simp⟩,hl,hr⟩
theorem Ku(c:bz)(h:dJ c):∃c' x,kQ c=some (c',x)/\dJ c'/\tC x:=by
 unfold kQ;obtain⟨c1,k,e,hc,_,_⟩:=oL c 5 h (by decide) (by decide);rw[e,aA];have one:∀k:Int,∃c' x,((fC c1).bind fun y4=>(some (y4.1,(⟨k,y4.2,[],[]⟩:aK))))=some (c',x)/\dJ c'/\tC x:=fun k=>by
  obtain⟨c2,p,e2,tq,hp⟩:=DZ c1 hc;rw[e2,aA];exact⟨_,_,rfl,tq,⟨hp.1,by have:=hp.2.1;show p.args.length<=4;omega,hp.2.2⟩,by simp,by simp⟩
 cases(k==(0:Int))with
 |true=>rw[aN];exact one 1
 |false=>
  rw[aa];cases(k==(1:Int))with
  |true=>rw[aN];exact one 1
  |false=>
   rw[aa];cases(k==(2:Int))with
   |true=>rw[aN];exact one 2
   |false=>
    obtain⟨c2,l,e2,tq,hl⟩:=GF c1 hc;obtain⟨c3,r,e3,Af,hr⟩:=GF c2 tq;obtain⟨c4,x,e4,OX,hx⟩:=Pk c3 l r Af hl hr;rw[aa,e2,aA,e3,aA,e4,aA];exact⟨_,_,rfl,OX,hx⟩
theorem S5(c:bz)(h:dJ c):∃c' x,oG c=some (c',x)/\dJ c'/\tC x:=by
 unfold oG;obtain⟨c1,x,e,hc,hx⟩:=Ku c h;obtain⟨c2,k,e2,tq,_,_⟩:=oL c1 12 hc (by decide) (by decide);rw[e,aA,e2,aA];cases(k==(0:Int))with
 |true=>
  obtain⟨c3,n,e3,Af,_⟩:=Bn c2 [0,1,3,5,6, -1] tq (by decide) (by decide);rw[aN,e3,aA];exact⟨_,_,rfl,Af,hx⟩
 |false=>
  rw[aa];cases(k==(1:Int))with
  |true=>
   obtain⟨c3,s,e3,Af,hs⟩:=Da c2 tq;rw[aN,e3,aA];exact⟨_,_,rfl,Af,hx.1,hs,hx.2.2⟩
  |false=>
   rw[aa];cases(k==(2:Int))with
   |true=>
    obtain⟨c3,p,e3,Af,hp⟩:=O2 c2 tq;rw[aN,e3,aA];exact⟨_,_,rfl,Af,hp,hx.2⟩
   |false=>exact⟨_,_,rfl,tq,hx⟩
def H6(s:Bytes):Bool:=match je s with
 |some (r,_)=>Dd r&&jq r
 |none=>false
def Dx(r:aH):Prop:=lE 4 r/\jq r=true/\1<=r.conds.length/\1<=r.bR.length
theorem Mm(K:aC)(c:bz)(m:Int)(h:dJ c)(hm:0<m)(h0:0<K.length)(h1:K.length<=256)(hK:K.all H6=true):
 ∃c' r,((cH c (DK m ((K.map tx).length:Int))).bind fun y1=>((lg K y1.2).bind fun x3=>((je x3).bind fun y5=>(some (y1.1,y5.1)))))=some (c',r)/\dJ c'/\Dx r:=by
 have hlen:((K.map tx).length:Int)=(K.length:Int):=by simp
 have hmin:0<DK m ((K.map tx).length:Int)/\DK m ((K.map tx).length:Int)<=(K.length:Int):=by
  unfold DK;rw[hlen];split<;>omega
 obtain⟨c1,x,e,hc,hx,hx2⟩:=oL c _ h hmin.1 (by omega);have hlt:x.toNat<K.length:=by omega
 have e2:lg K x=some K[x.toNat]:=by unfold lg;rw[cL hx,aN];exact aM hlt
 have hk:=aR.1 hK _ (iG hlt);unfold H6 at hk;rw[e,aA,e2,aA];cases hp:je K[x.toNat]with
 |none=>rw[hp]at hk;cases hk
 |some p=>
  rw[hp]at hk;simp only[aL]at hk;obtain⟨q1,q2,q3⟩:=IN hk.1;exact⟨_,_,rfl,hc,q1,hk.2,q2,q3⟩
theorem GC(c:bz)(m:Int)(h:dJ c)(hm:0<m):∃c' r,fZ c m=some (c',r)/\dJ c'/\Dx r:=by
 unfold fZ;refine Mm _ c m h hm ?_ ?_ ?_
 ·decide
 ·decide
 ·kernel_rfl
theorem Mo(y1:bz×Int):∀(m:Nat) (fu:Nat) (v:Int) (c:bz) (w:aj),v=(m:Int)->m<fu->m<=50->w.length+m<=100->dJ c->(∀x∈w,tC x)->
 ∃c' w',(∀k,eo y1 k fu v c.b c.i c.h w=k c'.b c'.i c'.h w')/\dJ c'/\w'.length=w.length+m/\∀x∈w',tC x:=by
 intro m
 induction m with
 |zero=>
  intro fu v c w hv hf hm hn hc hw;cases fu with
  |zero=>omega
  |succ fu=>
   have e:decide (v>0)=false:=by simp;omega
   exact⟨c,w,fun k=>by rw[eo,e,aa],hc,rfl,hw⟩
 |succ m ih=>
  intro fu v c w hv hf hm hn hc hw;cases fu with
  |zero=>omega
  |succ fu=>
   have e:decide (v>0)=true:=by simp;omega
   obtain⟨c1,x,e2,hc1,hx⟩:=Ku c hc;have OP:kQ (⟨c.b,c.i,c.h⟩:bz)=some (c1,x):=e2;have e3:IntKind.i64.wrap (v-1)=v-1:=fT (mL.i64.2 (by omega));obtain⟨c',w',q1,q2,q3,q4⟩:=ih fu (v-1) c1 (w++[x]) (by omega) (by omega) (by omega) (by simp;omega) hc1 (fun y hy=>by
    rcases aJ.1 hy with h|h
    ·exact hw y h
    ·simp at h;subst h;exact hx)
   exact⟨c',w',fun k=>by rw[eo,e,aN,OP,aA,n8 (by omega) (by decide),aN,e3];exact q1 k,q2,by simp at q3;omega,q4⟩
theorem Mp(y1:bz×Int)(q:aj)(y:aC)(o5:bz×ar):∀(m:Nat) (fu:Nat) (v:Nat) (c:bz) (w:aC),w.length=v+m->m<fu->w.length<=100->dJ c->(∀x∈w,x.length<=16)->
 ∃c' w',(∀k,cI y1 q y o5 k fu (v:Int) c.b c.i c.h w=k c'.b c'.i c'.h w')/\dJ c'/\w'.length=w.length/\∀x∈w',x.length<=16:=by
 intro m
 induction m with
 |zero=>
  intro fu v c w hv hf hm hc hw;cases fu with
  |zero=>omega
  |succ fu=>
   have e:decide ((v:Int)<((w.map tx).length:Int))=false:=by simp;omega
   exact⟨c,w,fun k=>by rw[cI,e,aa],hc,rfl,hw⟩
 |succ m ih=>
  intro fu v c w hv hf hm hc hw;cases fu with
  |zero=>omega
  |succ fu=>
   have e:decide ((v:Int)<((w.map tx).length:Int))=true:=by simp;omega
   have hlt:v<w.length:=by omega
   have e1:lg w (v:Int)=some w[v]:=by unfold lg;rw[cL (by omega),aN];exact aM hlt
   have hx:=hw w[v] (iG hlt);have e4:IntKind.i64.wrap ((v:Int)+1)=((v+1:Nat):Int):=by rw[fT (mL.i64.2 (by omega))];rfl
   have st:∀k,cI y1 q y o5 k (fu+1) (v:Int) c.b c.i c.h w=(bif nD w[v]then(bif !(y.contains w[v])then((jS (⟨c.b,c.i,c.h⟩:bz)).bind fun Sz=>cI y1 q y o5 k fu ((v+1:Nat):Int) Sz.1.b Sz.1.i Sz.1.h (w.set (v:Int).toNat Sz.2))else cI y1 q y o5 k fu ((v+1:Nat):Int) c.b c.i c.h w)else cI y1 q y o5 k fu ((v+1:Nat):Int) c.b c.i c.h w):=by
    intro k;rw[cI,e,aN,e1,aA,L5 w[v] (by omega),aA,e4,IM,aA]
   obtain⟨c0,w0,p1,p2,p3,p4⟩:=ih fu (v+1) c w (by omega) (by omega) hm hc hw;cases RM:nD w[v]with
   |false=>exact⟨c0,w0,fun k=>by rw[st k,RM,aa];exact p1 k,p2,p3,p4⟩
   |true=>
    cases F9:y.contains w[v]with
    |true=>exact⟨c0,w0,fun k=>by rw[st k,RM,F9,aN,cX,aa];exact p1 k,p2,p3,p4⟩
    |false=>
     obtain⟨c1,s,e2,hc1,hs⟩:=Ks c hc;have OP:jS (⟨c.b,c.i,c.h⟩:bz)=some (c1,s):=e2;obtain⟨c',w',q1,q2,q3,q4⟩:=ih fu (v+1) c1 (w.set (v:Int).toNat s) (by simp;omega) (by omega) (by simpa using hm) hc1 (fun x Oy=>by
      rcases mq Oy with h|h
      ·exact hw x h
      ·subst h;exact hs)
     exact⟨c',w',fun k=>by rw[st k,RM,F9,aN,ji,aN,OP,aA];exact q1 k,q2,by simpa using q3,q4⟩
theorem SG(c:bz)(h:dJ c):∃c' r,lZ c=some (c',r)/\dJ c'/\Dx r:=by
 unfold lZ;obtain⟨c1,n,e1,hc1,_,_⟩:=oL c 4 h (by decide) (by decide);obtain⟨c2,p,e2,tq,hp⟩:=DZ c1 hc1;obtain⟨c3,m,e3,Af,hm,hm2⟩:=oL c2 3 tq (by decide) (by decide);rw[e1,aA,e2,aA,e3,aA];have Wg:s7 4 p:=⟨hp.1,by have:=hp.2.1;omega,hp.2.2⟩
 obtain⟨c4,cs,q1,OX,FV,VA⟩:=Mo (c1,n) m.toNat fuel m c3 [(⟨1,p,[],[]⟩:aK)] (by omega) (by unfold fuel;omega) (by omega) (by simp;omega) Af (fun x hx=>by
  simp at hx;subst hx;exact⟨Wg,by simp,by simp⟩)
 have hcs:1<=cs.length/\cs.length<=3:=by simp at FV;omega
 rw[q1];dsimp only;have hw0:(⟨[114],n,cs,[]⟩:aH).wt<=1048576:=lE.wt (n:=4) ⟨by simp,⟨by show cs.length<=4;omega,VA⟩,by simp,by simp⟩ (by decide);obtain⟨c5,q,e5,TR,hq⟩:=DZ c4 OX;have Vp:fC (⟨c4.b,c4.i,c4.h⟩:bz)=some (c5,q):=e5;rw[GA (⟨[114],n,cs,[]⟩:aH) _ hw0,aA,Vp,aA];dsimp only;obtain⟨c6,qa,r1,WG,r3,r4⟩:=Mp (c1,n) cs (cz (qg (⟨[114],n,cs,[]⟩:aH) ((cs.map aK.c).length:Int))) (c5,q) q.args.length fuel 0 c5 q.args (by simp) (by have:=hq.2.1;unfold fuel;omega) (by have:=hq.2.1;omega) TR hq.2.2;have VH:=r1;rw[show((0:Nat):Int)=0 from rfl]at VH;rw[VH];obtain⟨c7,k,e7,WH,_⟩:=Bn c6 [1,1,2] WG (by decide) (by decide);have Vq:ff (⟨c6.b,c6.i,c6.h⟩:bz) [1,1,2]=some (c7,k):=e7;obtain⟨c8,b,e8,Uw⟩:=HE c7 6 WH (by decide) (by decide);have Ko:∀n,n<=4->room n 48=true:=fun n hn=>zI (by omega) (by decide)
 rw[Vq,aA];dsimp only;rw[Ko _ (by simp),aN,e8,aA];have V6:s7 4 (⟨q.rel,qa⟩:ar):=⟨hq.1,by show qa.length<=4;have:=hq.2.1;omega,r4⟩
 have fin:∀(al:cV),1<=al.length->al.length<=2->(∀a∈al,Cy a)->∃c' r,((iY (⟨[114],n,cs,al⟩:aH)).bind fun NC=>(bif !(NC)then((fZ c8 99).bind fun Vi=>(some (Vi.1,Vi.2)))else(some (c8,(⟨[114],n,cs,al⟩:aH)))))=some (c',r)/\dJ c'/\Dx r:=by
  intro al WA XY ha;have VC:lE 4 (⟨[114],n,cs,al⟩:aH):=⟨by simp,⟨by show cs.length<=4;omega,VA⟩,by show al.length<=4;omega,ha⟩
  rw[O7 _ (VC.wt (by decide)),aA];cases hr:jq (⟨[114],n,cs,al⟩:aH)with
  |true=>exact⟨_,_,rfl,Uw,VC,hr,hcs.1,WA⟩
  |false=>
   obtain⟨c9,r,e9,WI,Wh⟩:=GC c8 99 Uw (by decide);rw[ji,aN,e9,aA];exact⟨_,_,rfl,WI,Wh⟩
 cases b with
 |true=>
  dsimp only;rw[aN,Ko _ (by simp),aN];exact fin _ (by simp) (by simp) (fun a ha=>by
   simp at ha;rcases ha with rfl|rfl
   ·exact V6
   ·exact⟨by simp,by simp,by simp⟩)
 |false=>
  dsimp only;rw[aa];exact fin _ (by simp) (by simp) (fun a ha=>by
   simp at ha;subst ha;exact V6)
theorem Kv(c:bz)(h:dJ c):∃c' r,ic c=some (c',r)/\dJ c'/\Dx r:=by
 unfold ic;obtain⟨c1,b,e,hc⟩:=HE c 3 h (by decide) (by decide);rw[e,aA];cases b with
 |true=>
  obtain⟨c2,r,e2,tq,hr⟩:=SG c1 hc;rw[aN,e2,aA];exact⟨_,_,rfl,tq,hr⟩
 |false=>
  obtain⟨c2,r,e2,tq,hr⟩:=GC c1 99 hc (by decide);rw[aa,e2,aA];exact⟨_,_,rfl,tq,hr⟩
theorem lE.le{n m:Nat}{r:aH}(h:lE n r)(hm:n<=m):lE m r:=⟨h.1,⟨by have:=h.2.1.1;omega,h.2.1.2⟩,by have:=h.2.2.1;omega,h.2.2.2⟩
theorem S6(c:bz)(h:dJ c):∃c' r,oH c=some (c',r)/\dJ c'/\lE 5 r:=by
 unfold oH;obtain⟨c1,r,e,hc,hg,_,g1,g2⟩:=Kv c h;obtain⟨c2,x,e2,tq,_,_⟩:=oL c1 14 hc (by decide) (by decide);have hr:=hg.le (m:=5) (by decide);have hl1:=hg.2.1.1;have tQ:=hg.2.2.1;rw[e,aA,e2,aA];cases(x==(0:Int))with
 |true=>
  obtain⟨c3,s,e3,Af,hs⟩:=Da c2 tq;rw[aN,e3,aA];exact⟨_,_,rfl,Af,hs,hr.2⟩
 |false=>
  rw[aa];cases(x==(1:Int))with
  |true=>
   obtain⟨c3,s,e3,Af,_⟩:=Bn c2 [-1,0,9,10] tq (by decide) (by decide);rw[aN,e3,aA];exact⟨_,_,rfl,Af,hr⟩
  |false=>
   rw[aa];cases(x==(2:Int))with
   |true=>
    obtain⟨c3,k,e3,Af,hk⟩:=S5 c2 tq;rw[aN,e3,aA,n8 (by show r.conds.length<_;omega) (by decide),aN];refine⟨_,_,rfl,Af,hr.1,⟨by simp;omega,fun y hy=>?_⟩,hr.2.2⟩;rcases aJ.1 hy with h|h
    ·exact hr.2.1.2 y h
    ·simp at h;subst h;exact hk
   |false=>
    rw[aa];cases(x==(3:Int))with
    |true=>
     obtain⟨c3,k,e3,Af,_⟩:=Bn c2 [0,1,2,3,4] tq (by decide) (by decide);obtain⟨c4,p,e4,OX,hp⟩:=O2 c3 Af;rw[aN,e3,aA,e4,aA,n8 (by show r.bR.length<_;omega) (by decide),aN];refine⟨_,_,rfl,OX,hr.1,hr.2.1,by simp;omega,fun y hy=>?_⟩;rcases aJ.1 hy with h|h
     ·exact hr.2.2.2 y h
     ·simp at h;subst h;exact hp
    |false=>
     rw[aa];cases(x==(4:Int))with
     |true=>
      rw[aN,H9 (by simpa using g1),aA];exact⟨_,_,rfl,tq,hr.1,⟨by rw[jY,bG];show min _ r.conds.length-1<=5;omega,fun y hy=>hr.2.1.2 y (bL (eF hy))⟩,hr.2.2⟩
     |false=>
      rw[aa];cases(x==(5:Int))with
      |true=>
       rw[aN,H9 (by simpa using g2),aA];exact⟨_,_,rfl,tq,hr.1,hr.2.1,by rw[jY,bG];show min _ r.bR.length-1<=5;omega,fun y hy=>hr.2.2.2 y (bL (eF hy))⟩
      |false=>
       rw[aa];cases(x==(6:Int))with
       |true=>
        obtain⟨c3,s,e3,Af,hs⟩:=L3 c2 [[63,102],[63,97],[63,103]] tq (by decide) (by decide);obtain⟨c4,k,e4,OX,_⟩:=Bn c3 [1,2] Af (by decide) (by decide);obtain⟨c5,t,e5,TR,ht⟩:=L3 c4 [[63,102],[63,120]] OX (by decide) (by decide);have hs2:s.length<=16:=by
         have:∀s∈([[63,102],[63,97],[63,103]]:aC),s.length<=16:=by decide
         exact this s hs
        have ht2:t.length<=16:=by
         have:∀s∈([[63,102],[63,120]]:aC),s.length<=16:=by decide
         exact this t ht
        rw[aN,e3,aA,e4,aA,e5,aA];refine⟨_,_,rfl,TR,hr.1,⟨by simp,fun y hy=>?_⟩,by simp,fun y hy=>?_⟩
        ·simp at hy;rcases hy with rfl|rfl|rfl
         ·exact⟨⟨by simp,by simp,by simp⟩,by simp,by simp⟩
         ·exact⟨⟨by simp,by simp,by simpa using hs2⟩,by simp,by simp⟩
         ·exact⟨⟨by simp,by simp,by simpa using ht2⟩,by simp,by simp⟩
        ·simp at hy;subst hy;exact⟨by simp,by simp,by simp⟩
       |false=>exact⟨_,_,rfl,tq,hr⟩
end Go.Cx
namespace Go.Cx
open Go.RowKit Go.Proofs Tryz
end Go.Cx
namespace Go.Cx
open Go.RowKit Go.Proofs Tryz
theorem AH(r:aH)(n:Bytes):∀(cs:aj) (i:Nat),nW ⟨n,r.prio,r.conds,r.bR⟩ cs i=nW r cs i
 | [],_=>rfl
 |c::cs,i=>by
  rw[nW,nW,AH r n cs (i+1)];rfl
theorem G9{r:aH}{n:Bytes}(h:jq r=true)(hn:rA n=true):jq ⟨n,r.prio,r.conds,r.bR⟩=true:=by
 unfold jq at h⊢;dsimp only;rw[AH];simp only[aL]at h⊢;exact⟨⟨⟨⟨hn,h.1.1.1.2⟩,h.1.1.2⟩,h.1.2⟩,h.2.1,h.2.2.1,h.2.2.2⟩
theorem EI:∀ {l:aZ} {k i:Nat} {r:aH},(l.map aH.name).Nodup->l[i]?=some r->sR r.name l k=((k+i:Nat):Int)
 | [],_,_,_,_,h=>by simp at h
 |x::xs,k,i,r,hn,h=>by
  rw[ax,dV]at hn;cases i with
  |zero=>
   simp at h;subst h;rw[sR];simp
  |succ i=>
   have hx:xs[i]?=some r:=by simpa using h
   have hne:¬x.name=r.name:=fun e=>hn.1 (by rw[e];exact cE.2 ⟨r,aD hx,rfl⟩)
   rw[sR,show(x.name==r.name)=false from bu.2 hne,aa,EI hn.2 hx]
   congr 1;omega
theorem GX{all:aZ}(hn:(all.map aH.name).Nodup):∀(l:aZ) (i:Nat),(∀r∈l,jq r=true)->(∀(j:Nat) r,l[j]?=some r->all[i+j]?=some r)->Aa all l i=true
 | [],_,_,_=>rfl
 |r::l,i,hv,ha=>by
  have h0:=EI (k:=0) hn (ha 0 r rfl);rw[Aa,hv r (by simp),cL (by rw[h0];congr 1;omega),GX hn l (i+1) (fun x hx=>hv x (by simp[hx])) (fun j x hx=>by rw[show i+1+j=i+(j+1)by omega];exact ha (j+1) x (by simpa using hx))];rfl
theorem M3{l:aZ}(hn:(l.map aH.name).Nodup)(hv:∀r∈l,jq r=true)(h6:l.length<=6):uB l=true:=by
 unfold uB;rw[GX hn l 0 hv (fun j r hj=>by rw[cC];exact hj)];simp;omega
def Le(m:Nat):Bytes:=[114,UInt8.ofNat (48+m)]
theorem Pa:∀m,m<=7->rA (Le m)=true/\∀j,j<=7->Le m=Le j->m=j:=by decide
theorem Km{m:Nat}(h:m<=7):([114]:Bytes)++Lib.itoa (m:Int)=Le m:=by
 have:Lib.itoa (m:Int)=Lib.decDigits m:=by unfold Lib.itoa;rw[ai (by omega)];rfl
 rw[this,Gh (by omega)];unfold MF Le;rw[bD (by omega)];rfl
theorem Pj(k:bC->Int->Int->aZ->Option (bz×aZ))(P:aH->Prop)(hP:∀c c' r,dJ c->ic c=some (c',r)->P r):∀(m:Nat) (fu:Nat) (v:Int) (c:bz) (w:aZ),v=(m:Int)->m<fu->w.length+m<=6->dJ c->(∀r∈w,jq r=true/\lE 4 r/\∃r0,P r0/\r.conds=r0.conds)->(w.map aH.name).Nodup->(∀r∈w,∃j,m<j/\j<=7/\r.name=Le j)->
 ∃c' w',iE k fu v c.b c.i c.h w=k c'.b c'.i c'.h w'/\dJ c'/\w'.length<=w.length+m/\(∀r∈w',jq r=true/\lE 4 r/\∃r0,P r0/\r.conds=r0.conds)/\(w'.map aH.name).Nodup:=by
 intro m
 induction m with
 |zero=>
  intro fu v c w hv hf hm hc hw hn hj;cases fu with
  |zero=>omega
  |succ fu=>
   have e:decide (v>0)=false:=by simp;omega
   rw[iE,e,aa];exact⟨c,w,rfl,hc,by omega,hw,hn⟩
 |succ m ih=>
  intro fu v c w hv hf hm hc hw hn hj;cases fu with
  |zero=>omega
  |succ fu=>
   have e:decide (v>0)=true:=by simp;omega
   obtain⟨c1,r,e2,hc1,hr⟩:=Kv c hc;have OP:ic (⟨c.b,c.i,c.h⟩:bz)=some (c1,r):=e2;have e3:IntKind.i64.wrap (v-1)=v-1:=fT (mL.i64.2 (by omega));have e5:=SB v (mL.i64.2 (by omega));have e6:([114]:Bytes)++Lib.itoa v=Le (m+1):=by rw[hv];exact Km (by omega)
   have e7:decide (([114]:Bytes).length+(Lib.itoa v).length<=maxLen)=true:=by
    have:=congrArg List.length e6;rw[af]at this;rw[this];rfl
   have hnm:=Pa (m+1) (by omega);rw[iE,e,aN,OP,aA,e5,aA,e7,aN,n8 (by omega) (by decide),aN,e3,e6];have RH:=G9 hr.2.1 hnm.1;obtain⟨c',w',q1,q2,q3,q4,q5⟩:=ih fu (v-1) c1 (w++[⟨Le (m+1),r.prio,r.conds,r.bR⟩]) (by omega) (by omega) (by simp;omega) hc1 (fun x hx=>by
    rcases aJ.1 hx with h|h
    ·exact hw x h
    ·rw[lB.1 h];exact⟨RH,⟨by show(Le (m+1)).length<=16;unfold Le;simp,hr.1.2⟩,r,hP c c1 r hc e2,rfl⟩) (by
    rw[az,aY];refine⟨hn,by simp,fun a ha b hb e=>?_⟩;simp at hb;obtain⟨x,hx,rfl⟩:=cE.1 ha;obtain⟨j,j1,j2,j3⟩:=hj x hx;have:=hnm.2 j j2 (by rw[<-j3,e,hb]);omega) (fun x hx=>by
    rcases aJ.1 hx with h|h
    ·obtain⟨j,j1,j2,j3⟩:=hj x h;exact⟨j,by omega,j2,j3⟩
    ·rw[lB.1 h];exact⟨m+1,by omega,by omega,rfl⟩)
   exact⟨c',w',q1,q2,by simp at q3;omega,q4,q5⟩
theorem lE.Sx{r:aH}(h:lE 4 r):r.wt<=10000:=by
 obtain⟨h1,⟨h2,h3⟩,h4,h5⟩:=h;have c1:=rq (w:=aK.wt) (B:=200) r.conds (fun x hx=>(h3 x hx).wt);have c2:=rq (w:=Action.wt) (B:=200) r.bR (fun x hx=>(h5 x hx).wt);have d1:(200+1)*r.conds.length<=201*4:=dP _ (by omega);have d2:(200+1)*r.bR.length<=201*4:=dP _ (by omega);unfold aH.wt;unfold tw at*;omega
theorem SI(P:aH->Prop)(hP:∀c c' r,dJ c->ic c=some (c',r)->P r)(c:bz)(n:Int)(h:dJ c)(h0:0<=n)(hn:n<=6):∃c' l,oI c n=some (c',l)/\dJ c'/\uB l=true/\o6 aH.wt l<=100000/\∀r∈l,∃r0,P r0/\r.conds=r0.conds:=by
 unfold oI;have e3:IntKind.i64.wrap (n+1)=n+1:=fT (mL.i64.2 (by omega));obtain⟨c1,x,e,hc,hx,hx2⟩:=oL c (n+1) h (by omega) (by omega);rw[e3,e,aA];obtain⟨c',w',q1,q2,q3,q4,q5⟩:=Pj (fun a b d q=>some ((⟨a,b,d⟩:bz),q)) P hP x.toNat fuel x c1 [] (by omega) (by unfold fuel;omega) (by simp;omega) hc (by simp) (by simp) (by simp);have h6:w'.length<=6:=by simp at q3;omega
 refine⟨_,_,q1,q2,M3 q5 (fun r hr=>(q4 r hr).1) h6,?_,fun r hr=>(q4 r hr).2.2⟩;have h1:=rq (w:=aH.wt) (B:=10000) w' (fun r hr=>lE.Sx (q4 r hr).2.1);have:(10000+1)*w'.length<=(10000+1)*6:=dP _ h6;omega
end Go.Cx
namespace Go.Cx
open Go.RowKit Go.Proofs Tryz
theorem Mj(s:Bytes):xw [] s=s:=rfl
theorem Kh(x:aK):Et [] x=x:=by
 have:x.pat.args.map (xw [])=x.pat.args:=by
  rw[show(xw [])=id from funext Mj];simp
 unfold Et;rw[this];rfl
def xp(i:Nat):Int:=(i:Int)
theorem Pd(x:aK)(h:x.pat.args.length<=1099511627770):mB x=some x:=by
 unfold mB;rw[Ug x [] h,aA,Kh]
theorem K3(x:aK)(h:x.pat.args.length<=1099511627770):fe x=some x:=by
 unfold fe eO;rw[Fj x.pat.args (by omega)];rfl
end Go.Cx
namespace Go.Cx
open Go.RowKit Go.Proofs Tryz
theorem Mz{p:ar}(h:zG p=true):∀t∈p.args,mK t=true:=by
 unfold zG at h;rw[aL]at h;exact fun t ht=>aR.1 h.1 t ht
end Go.Cx
namespace Go.Cx
open Go.RowKit Go.Proofs Tryz
theorem Cc:∀(a b:aC),a.Nodup->(∀x∈a,x∈b)->a.length<=b.length
 | [],b,_,_=>ud _
 |x::xs,b,hn,hs=>by
  rw[dV]at hn;have h1:=Cc xs (b.erase x) hn.2 fun y hy=>(List.mem_erase_of_ne (fun e=>hn.1 (by rw[<-e];exact hy))).2 (hs y (by simp[hy]))
  have h2:=kM (hs x (by simp));have h3:0<b.length:=sw (hs x (by simp));simp only[aT];omega
theorem IL{r:aH}(h:jq r=true):(cz (uo r.conds)).length<=6:=by
 unfold jq at h;simp only[aL,b8]at h;omega
theorem Hi{c:aK}(hc:mw c=true)(hk:c.kind=1\/c.kind=2):zG c.pat=true/\c.left=[]/\c.right=[]:=by
 unfold mw at hc;have:(decide (c.kind=1)||decide (c.kind=2))=true:=by simpa using hk
 rw[this,aN]at hc;simp only[aL,bq]at hc;exact⟨hc.1,hc.2.1,hc.2.2⟩
theorem FK{c:aK}(hc:mw c=true)(h1:c.kind≠1)(h2:c.kind≠2):(decide (c.kind=3)||decide (c.kind=4)||decide (c.kind=5))=true/\w5 c.pat=true/\mK c.left=true/\mK c.right=true:=by
 unfold mw at hc;rw[hY h1,hY h2,nG,aa]at hc;cases h:(decide (c.kind=3)||decide (c.kind=4)||decide (c.kind=5))with
 |false=>rw[h]at hc;cases hc
 |true=>
  rw[h,aN]at hc;simp only[aL]at hc;exact⟨rfl,hc.1,hc.2.1,hc.2.2⟩
structure WB(U:List Bytes)(b:List bh):Prop where
 ok:Qe b=true
 sub:∀p∈b,p.var∈U
end Go.Cx
namespace Go.Cx
open Go.RowKit Go.Proofs Tryz
def Q5(sh:ar):cy->Nat->Option Nat
 | [],_=>none
 |x::xs,i=>if x.shape=sh then some i else Q5 sh xs (i+1)
def Q4(al:cy)(sh:ar):cy×Int:=match Q5 sh al 0 with
 |some i=>(al,xp i)
 |none=>(al++[⟨sh,[]⟩],xp al.length)
theorem HO{n:Nat}(h:n<=1099511627776):IntKind.i64.wrap (((n+1:Nat):Int)-1)=xp n:=by
 unfold xp;rw[fT (mL.i64.2 (by omega))];omega
theorem UM(n:bA)(sh:ar)(k:Option (bA×Int)):∀(l:cy) (i:Nat),cm n sh k l i=match Q5 sh l i with|some j=>some (n,xp j)|none=>k:=by
 intro l
 induction l with
 |nil=>intro i;rfl
 |cons x l ih=>
  intro i;rw[cm,K4,aA,ih,Q5];by_cases h:x.shape=sh
  ·rw[cL h,aN,bD h];rfl
  ·rw[hY h,aa,ai h]
theorem Wu(n:bA)(sh:ar)(h:n.eE.length<=1048576):eb n sh=some (⟨n.rules,n.ends,(Q4 n.eE sh).1,n.nodes,n.facts,n.ld⟩,(Q4 n.eE sh).2):=by
 unfold eb;rw[tu (by omega),aN,UM,n8 (by omega) (by decide),aN];unfold Q4;cases Q5 sh n.eE 0 with
 |some j=>rfl
 |none=>
  dsimp only;rw[show((n.eE.map bS.c)++[[D.str sh.rel,D.sl (sh.args.map tx),D.sl []]]).length=n.eE.length+1 by simp,HO (by omega)]
def D3(p:Int)(c:aK):dL->Nat->Option Nat
 | [],_=>none
 |x::xs,i=>if 0<i/\x.parent=p/\x.cond=c then some i else D3 p c xs (i+1)
def Q6(al:cy)(c:aK):cy×Int:=if c.kind=1\/c.kind=2 then Q4 al (L6 c.pat)else(al, -1)
def MA(al:cy)(ns:dL)(p:Int)(c:aK):(cy×dL)×Int:=match D3 p c ns 0 with
 |some i=>((al,ns),xp i)
 |none=>(((Q6 al c).1,ns++[⟨p,c,(Q6 al c).2,[]⟩]),xp ns.length)
def PR(n:bA)(z:(cy×dL)×Int):bA×Int:=(⟨n.rules,n.ends,z.1.1,z.1.2,n.facts,n.ld⟩,z.2)
theorem UO(n:bA)(p:Int)(c:aK)(k:Option (bA×Int)):∀(l:dL) (i:Nat),cG n p c k l i=match D3 p c l i with|some j=>some (n,xp j)|none=>k:=by
 intro l
 induction l with
 |nil=>intro i;rfl
 |cons x l ih=>
  intro i;rw[cG,D3,ih,PB,aA];by_cases hi:0<i
  ·rw[cL (by omega),aN];by_cases hp:x.parent=p
   ·rw[show((x.parent:Int)==p)=true by simp[hp],aN];by_cases hc:x.cond=c
    ·rw[cL hc,aN,bD ⟨hi,hp,hc⟩];rfl
    ·rw[hY hc,aa,ai (fun h=>hc h.2.2)]
   ·rw[show((x.parent:Int)==p)=false by simp[hp],aa,ai (fun h=>hp h.2.1)]
  ·rw[hY (by omega),aa,ai (fun h=>hi h.1)]
theorem Wv(n:bA)(p:Int)(c:aK)(hn:n.nodes.length<=1048576)(ha:n.eE.length<=1048576)(hc:c.wt<=1048576):gG n p c=some (PR n (MA n.eE n.nodes p c)):=by
 have hp:=aK.gV hc;have hargs:=ar.js hp;unfold gG;rw[tu (by omega),aN,UO,K3 c (by omega),PD c.pat hp,aA,Wu n _ ha,aA,aA];unfold MA Q6 PR;cases D3 p c n.nodes 0 with
 |some j=>rfl
 |none=>
  dsimp only;rw[n8 (by omega) (by decide),aN];by_cases h1:c.kind=1
  ·rw[show((c.kind:Int)==(1:Int))=true by simp[h1],aN,bD (.inl h1)];simp[HO,hn,show n.nodes.length<=1099511627776 by omega]
   first|done| (unfold xp;rw[fT (mL.i64.2 (by omega))])
  ·rw[show((c.kind:Int)==(1:Int))=false by simp[h1],aa];by_cases h2:c.kind=2
   ·rw[show((c.kind:Int)==(2:Int))=true by simp[h2],aN,bD (.inr h2)];simp[HO,hn,show n.nodes.length<=1099511627776 by omega]
    first|done| (unfold xp;rw[fT (mL.i64.2 (by omega))])
   ·rw[show((c.kind:Int)==(2:Int))=false by simp[h2],aa,ai (by omega)]
    first|rw[n8 (by omega) (by decide),aN]|rw[aA,n8 (by omega) (by decide),aN]|skip
    simp[HO,hn,show n.nodes.length<=1099511627776 by omega]
    first|done| (unfold xp;rw[fT (mL.i64.2 (by omega))])
def AV(s:(cy×dL)×Int)(c:aK):(cy×dL)×Int:=MA s.1.1 s.1.2 s.2 c
def IP(z:(cy×dL)×bC)(r:aH):(cy×dL)×bC:=(((jo r).foldl AV (z.1,0)).1,z.2++[((jo r).foldl AV (z.1,0)).2])
def root(tk:List iX):Node:=⟨-1,⟨0,⟨[],[]⟩,[],[]⟩, -1,tk⟩
def Bp(tk:List iX)(rs:aZ):(cy×dL)×bC:=rs.foldl IP (([],[root tk]),[])
theorem M0(al:cy)(sh:ar):(Q4 al sh).1.length<=al.length+1:=by
 unfold Q4;cases Q5 sh al 0<;>simp
theorem M9(al:cy)(c:aK):(Q6 al c).1.length<=al.length+1:=by
 unfold Q6;by_cases h:c.kind=1\/c.kind=2
 ·rw[bD h];exact M0 _ _
 ·rw[ai h];exact Nat.le_succ _
theorem Ge(al:cy)(ns:dL)(p:Int)(c:aK):(MA al ns p c).1.1.length<=al.length+1/\(MA al ns p c).1.2.length<=ns.length+1:=by
 unfold MA;cases D3 p c ns 0 with
 |some i=>exact⟨Nat.le_succ _,Nat.le_succ _⟩
 |none=>exact⟨M9 _ _,by simp⟩
theorem Df:∀(cs:aj) (s:(cy×dL)×Int),(cs.foldl AV s).1.1.length<=s.1.1.length+cs.length/\(cs.foldl AV s).1.2.length<=s.1.2.length+cs.length
 | [],s=>⟨b9 _,b9 _⟩
 |c::cs,s=>by
  have h1:=Ge s.1.1 s.1.2 s.2 c;have h2:=Df cs (AV s c);have h3:(AV s c).1.1.length<=s.1.1.length+1/\(AV s c).1.2.length<=s.1.2.length+1:=h1;rw[er,aT];omega
theorem Rb(a:aZ)(i:Nat)(y:aj)(k:Int->Int->aZ->bC->cy->dL->kT->Option bA):∀(cs:aj) (j:Nat) (v u:Int) (w3:aZ) (w4:bC) (al:cy) (ns:dL) (w7:kT),(∀c∈cs,c.wt<=1048576)->al.length+cs.length<=1048576->ns.length+cs.length<=1048576->
 fN a i y k cs j v u w3 w4 al ns w7=k (cs.foldl AV ((al,ns),v)).2 u w3 w4 (cs.foldl AV ((al,ns),v)).1.1 (cs.foldl AV ((al,ns),v)).1.2 w7:=by
 intro cs
 induction cs with
 |nil=>intros;rfl
 |cons c cs ih=>
  intro j v u w3 w4 al ns w7 hc ha hn;simp only[aT]at ha hn;have h1:=Ge al ns v c;rw[fN,Wv _ v c (show ns.length<=1048576 by omega) (show al.length<=1048576 by omega) (hc c (by simp)),aA];unfold PR;dsimp only;rw[ih _ _ _ _ _ _ _ _ (fun x hx=>hc x (by simp[hx])) (by omega) (by omega)];rfl
theorem CV:∀(ts:aC) (N:bX) {p:bh},p∈ts.foldl n0 N->p∈N\/(p.var∈ts/\nD p.var=true)
 | [],_,_,h=>.inl h
 |t::ts,N,p,h=>by
  rcases CV ts (n0 N t) h with h1|h1
  ·unfold n0 at h1;cases hv:nD t&& !zx N t with
   |false=>rw[hv]at h1;exact .inl h1
   |true=>
    rw[hv,aN]at h1;simp only[aL]at hv;rcases aJ.1 h1 with h2|h2
    ·exact .inl h2
    ·rw[lB.1 h2];exact .inr ⟨by simp,hv.1⟩
  ·exact .inr ⟨by simp[h1.1],h1.2⟩
theorem Bb{l:aj}{v:Bytes}:v∈uo l↔v∈sE l/\nD v=true:=by
 unfold uo sE kU fJ;simp only[bQ,ew];constructor
 ·rintro⟨c,hc,hm,hv⟩;exact⟨⟨c,hc,hm⟩,hv⟩
 ·rintro⟨⟨c,hc,hm⟩,hv⟩;exact⟨c,hc,hm,hv⟩
theorem I9{r:aH}(h:jq r=true):(mU r).length<=6:=by
 have h1:((mU r).map bh.var).length<=(cz (uo r.conds)).length:=by
  refine Cc _ _ (Be _ HX.nil) fun x hx=>?_
  obtain⟨p,hp,rfl⟩:=cE.1 hx;rcases CV _ _ hp with h1|h1
  ·cases h1
  ·exact me.2 (Bb.2 h1)
 rw[ay]at h1;exact fc h1 (IL h)
theorem KM{r:aH}(h:jq r=true){v:Bytes}(hv:v∈uo r.conds):∃i p,i<6/\(mU r)[i]?=some p/\p.var=v/\xw (mU r) v=QI i:=by
 obtain⟨ht,F9⟩:=Bb.1 hv;obtain⟨p,hp,he⟩:=EL _ [] ht F9;have hp':p∈mU r:=hp;obtain⟨i,hi,DC,hval,_⟩:=LR (Dl _ Lw.nil) hp';refine⟨i,p,by have:=I9 h;unfold mU at this;omega,DC,he,?_⟩;rw[<-he];exact(HB (N:=mU r) (Be (sE r.conds) HX.nil) hp').trans hval
theorem Bm{r:aH}(h:jq r=true){x:Bytes}(hx:x.length<=16)(hV:nD x=true->x∈uo r.conds):(xw (mU r) x).length<=16:=by
 cases hv:nD x with
 |false=>rw[show xw (mU r) x=x from KS hv];exact hx
 |true=>
  obtain⟨i,p,hi,_,_,e⟩:=KM h (hV hv);rw[e];exact Mf i hi
theorem HP:∀(l:aC),(∀x∈l,x.length<=16)->o6 tw l<=17*l.length
 | [],_=>by simp[o6]
 |x::l,h=>by
  have h1:=HP l fun y hy=>h y (by simp[hy])
  have h2:=h x (by simp);rw[gT,aT];unfold tw at*;omega
theorem Bq{t:Bytes}(h:mK t=true):t.length<=16:=by have:=IQ h;omega
theorem FL{c:aK}(h:mw c=true):c.pat.rel.length<=8/\c.pat.args.length<=3/\(∀x∈c.pat.args,x.length<=16)/\c.left.length<=16/\c.right.length<=16:=by
 by_cases hk:c.kind=1\/c.kind=2
 ·obtain⟨hp,hl,hr⟩:=Hi h hk;have ht:=Mz hp;unfold zG at hp;simp only[aL,b8]at hp;have:=I7 hp.2.1;rw[hl,hr];exact⟨by omega,by omega,fun x hx=>Bq (ht x hx),by simp,by simp⟩
 ·obtain⟨_,hz,hl,hr⟩:=FK h (fun e=>hk (.inl e)) (fun e=>hk (.inr e));unfold w5 at hz;simp only[aL,bq,b8]at hz;have h0:c.pat.args=[]:=br (by omega);rw[hz.1,h0];exact⟨by simp,by simp,fun x hx=>(by cases hx),Bq hl,Bq hr⟩
theorem KY{r:aH}(h:jq r=true):∀c∈jo r,c.wt<=1048576:=by
 intro c' MJ;obtain⟨c,hc,rfl⟩:=cE.1 MJ;obtain⟨h1,h2,h3,h4,h5⟩:=FL (Ew h c hc);have hV:∀x∈c.pat.args++[c.left,c.right],nD x=true->x∈uo r.conds:=fun x hx hv=>Bb.2 ⟨bQ.2 ⟨c,hc,hx⟩,hv⟩
 have a1:(xw (mU r) c.left).length<=16:=Bm h h4 (hV _ (by simp));have a2:(xw (mU r) c.right).length<=16:=Bm h h5 (hV _ (by simp));have a3:=HP (c.pat.args.map (xw (mU r))) (fun x hx=>by
  obtain⟨y,hy,rfl⟩:=cE.1 hx;exact Bm h (h3 y hy) (hV y (by simp[hy])))
 rw[ay]at a3;unfold Et aK.wt;dsimp only;unfold tw at*;omega
theorem IF{r:aH}(h:jq r=true):(jo r).length<=4:=by unfold jo;rw[ay];exact wC h
theorem GW{r:aH}{n:Nat}(h:r.wt<=n){a:Action}(ha:a∈r.bR):a.pat.args.length<=n:=by
 have h1:=aH.yK h;have h2:=oM (w:=Action.wt) ha;have h3:=rp tw a.pat.args;simp only[Action.wt]at h2;omega
theorem Pe(p:ar)(h:p.args.length<=1099511627770):ej p=some p:=by
 unfold ej;rw[Pm p.args (by omega)];rfl
theorem P7(p:ar)(h:p.args.length<=1099511627770):eO p=some p:=by
 unfold eO;rw[Fj p.args (by omega)];rfl
theorem Pf(r:aH)(h:r.wt<=1048576):nM r=some r:=by
 have h1:=aH.nI h;have h2:=aH.yK h;have h3:=rp aK.wt r.conds;have h4:=rp Action.wt r.bR;unfold nM;rw[Ef (c:=aK.c) (b:=80) (f:=mB) (g:=fun x=>x) (L:=jf r _) (k:=_) (by decide) (fun _ _=>rfl) (fun _ _ _ _=>rfl) _ _ _ (fun c hc=>Pd c (by have:=ar.js (aK.gV (aH.mJ h hc));omega)) (by simp;omega)];rw[Ef (c:=Action.c) (b:=48) (f:=fun a:Action=>(ej a.pat).bind fun y=>some (⟨a.kind,y⟩:Action)) (g:=fun x=>x) (L:=iU r _ _) (k:=_) (by decide) (fun _ _=>rfl) (fun x xs i w=>by rw[iU];cases ej x.pat<;>rfl) _ _ _ (fun a ha=>by rw[Pe a.pat (by have:=GW h ha;omega)];rfl) (by simp;omega)];simp
theorem Jy(l:aj)(h:l.length<=1048576)(hw:∀c∈l,c.wt<=1048576):kq l=some l:=by
 unfold kq;rw[Ef (c:=aK.c) (b:=80) (f:=fe) (g:=fun x=>x) (L:=gw l _) (k:=_) (by decide) (fun _ _=>rfl) (fun _ _ _ _=>rfl) _ _ _ (fun c hc=>K3 c (by have:=ar.js (aK.gV (hw c hc));omega)) (by simp;omega)];simp
theorem P8(r:aH)(h:r.wt<=1048576):k6 r=some r:=by
 have h1:=aH.nI h;have h2:=aH.yK h;have h3:=rp aK.wt r.conds;have h4:=rp Action.wt r.bR;unfold k6;rw[Jy r.conds (by omega) (fun c hc=>aH.mJ h hc),aA];rw[Ef (c:=Action.c) (b:=48) (f:=fun a:Action=>(eO a.pat).bind fun y=>some (⟨a.kind,y⟩:Action)) (g:=fun x=>x) (L:=fq r _ _) (k:=_) (by decide) (fun _ _=>rfl) (fun x xs i w=>by rw[fq];cases eO x.pat<;>rfl) _ _ _ (fun a ha=>by rw[P7 a.pat (by have:=GW h ha;omega)];rfl) (by simp;omega)];simp
theorem Jz(l:aZ)(h:o6 aH.wt l<=1048576):kr l=some l:=by
 have h3:=rp aH.wt l;unfold kr;rw[Ef (c:=aH.c) (b:=72) (f:=k6) (g:=fun x=>x) (L:=gx l _) (k:=_) (by decide) (fun _ _=>rfl) (fun _ _ _ _=>rfl) _ _ _ (fun r hr=>P8 r (by have:=oM (w:=aH.wt) hr;omega)) (by simp;omega)];simp
theorem Ra(a:aZ)(k:Int->aZ->bC->cy->dL->kT->Option bA):∀(l:aZ) (i:Nat) (u:Int) (w2:aZ) (es:bC) (al:cy) (ns:dL) (w6:kT),(∀r∈l,r.wt<=1048576/\jq r=true)->es.length+l.length<=1000->al.length+4*l.length<=1000->ns.length+4*l.length<=1000->
 fM a k l i u w2 es al ns w6=k u w2 (l.foldl IP ((al,ns),es)).2 (l.foldl IP ((al,ns),es)).1.1 (l.foldl IP ((al,ns),es)).1.2 w6:=by
 intro l
 induction l with
 |nil=>intros;rfl
 |cons r l ih=>
  intro i u w2 es al ns w6 hr he ha hn;simp only[aT]at he ha hn;obtain⟨hw,hb⟩:=hr r (by simp);have h4:=IF hb;have hl:=Df (jo r) ((al,ns),0);dsimp only at hl;rw[fM,P6 r hw,aA,tu (by omega),aN,Rb _ _ _ _ _ _ _ _ _ _ _ _ _ (KY hb) (by omega) (by omega),n8 (by omega) (by decide),aN,ih _ _ _ _ _ _ _ (fun x hx=>hr x (by simp[hx])) (by simp;omega) (by omega) (by omega)];rfl
theorem US(rs:aZ)(h:o6 aH.wt rs<=1048576)(hb:uB rs=true):jc rs=some ⟨rs,(Bp [] rs).2,(Bp [] rs).1.1,(Bp [] rs).1.2,[],0⟩:=by
 unfold jc;have h6:rs.length<=6:=by unfold uB at hb;simp only[aL,b8]at hb;omega
 rw[Jz rs h,aA,Ra _ _ _ _ _ _ _ _ _ _ (fun r hr=>⟨by have:=oM (w:=aH.wt) hr;omega,yM hb r hr⟩) (by simp;omega) (by simp;omega) (by simp;omega)];rfl
end Go.Cx
namespace Go.Cx
open Go.RowKit Go.Proofs Tryz
theorem D4{p:Int}{c:aK}{m:dL}:∀ {ns:dL} {j i:Nat},D3 p c ns j=some i->D3 p c (ns++m) j=some i
 |x::ns,j,i,h=>by
  rw[iF,D3];rw[D3]at h;split at h
  ·rename_i hc;rw[bD hc];exact h
  ·rename_i hc;rw[ai hc];exact D4 h
theorem Gf{p:Int}{c:aK}{x:Node}(hp:x.parent=p)(hc:x.cond=c):∀ {ns:dL} {j:Nat},D3 p c ns j=none->0<j+ns.length->D3 p c (ns++[x]) j=some (j+ns.length)
 | [],j,_,h0=>by
  rw[j9,D3,bD ⟨by simpa using h0,hp,hc⟩];rfl
 |y::ns,j,h,h0=>by
  rw[iF,D3];rw[D3]at h;split at h
  ·cases h
  ·rename_i hq;rw[ai hq,Gf hp hc h (by omega),aT]
   congr 1;omega
theorem F1(s:(cy×dL)×Int)(c:aK):∃m,(AV s c).1.2=s.1.2++m:=by
 unfold AV MA;cases D3 s.2 c s.1.2 0 with
 |some i=>exact⟨[],by simp⟩
 |none=>exact⟨_,rfl⟩
theorem tO:∀(cs:aj) (s:(cy×dL)×Int),∃m,(cs.foldl AV s).1.2=s.1.2++m
 | [],s=>⟨[],by simp⟩
 |c::cs,s=>by
  obtain⟨m,h⟩:=F1 s c;obtain⟨n,k⟩:=tO cs (AV s c);exact⟨m++n,by rw[er,k,h,cg]⟩
theorem BK:∀(l:aZ) (z:(cy×dL)×bC),∃m,(l.foldl IP z).1.2=z.1.2++m
 | [],z=>⟨[],by simp⟩
 |r::l,z=>by
  obtain⟨m,h⟩:=tO (jo r) (z.1,0);obtain⟨n,k⟩:=BK l (IP z r);exact⟨m++n,by rw[er,k];show((jo r).foldl AV (z.1,0)).1.2++n=_;rw[h,cg]⟩
def FD(ns:dL):Int->aj->Prop
 |_,[]=>True
 |p,c::cs=>∃i,D3 p c ns 0=some i/\FD ns (xp i) cs
theorem FD.more{ns m:dL}:∀ {cs:aj} {p:Int},FD ns p cs->FD (ns++m) p cs
 | [],_,_=>trivial
 |_::_,_,⟨i,h,k⟩=>⟨i,D4 h,k.more⟩
theorem has_fold:∀(cs:aj) (s:(cy×dL)×Int),0<s.1.2.length->FD (cs.foldl AV s).1.2 s.2 cs
 | [],_,_=>trivial
 |c::cs,s,h0=>by
  have key:∃i,D3 s.2 c (AV s c).1.2 0=some i/\(AV s c).2=xp i:=by
   unfold AV MA;cases h:D3 s.2 c s.1.2 0 with
   |some i=>exact⟨i,h,rfl⟩
   |none=>exact⟨s.1.2.length,by have:=Gf (x:=⟨s.2,c,(Q6 s.1.1 c).2,[]⟩) rfl rfl h (by omega);rw[cC]at this;exact this,rfl⟩
  obtain⟨i,h1,h2⟩:=key;obtain⟨m,h3⟩:=F1 s c;have h4:=has_fold cs (AV s c) (by rw[h3,af];omega);obtain⟨n,h5⟩:=tO cs (AV s c);rw[er];refine⟨i,by rw[h5];exact D4 h1,?_⟩;rw[<-h2];exact h4
theorem CU:∀(cs:aj) (s:(cy×dL)×Int),FD s.1.2 s.2 cs->(cs.foldl AV s).1.2=s.1.2
 | [],_,_=>rfl
 |c::cs,s,⟨i,h1,h2⟩=>by
  have e:AV s c=((s.1.1,s.1.2),xp i):=by unfold AV MA;rw[h1]
  rw[er,e,CU cs ((s.1.1,s.1.2),xp i) h2]
theorem EP{r:aH}:∀(l:aZ) (z:(cy×dL)×bC),0<z.1.2.length->r∈l->FD (l.foldl IP z).1.2 0 (jo r)
 |x::l,z,h0,h=>by
  obtain⟨m,k⟩:=tO (jo x) (z.1,0);have h1:0<(IP z x).1.2.length:=by show 0<((jo x).foldl AV (z.1,0)).1.2.length;rw[k,af];show 0<z.1.2.length+_;omega
  rw[er];rcases aq.1 h with rfl|h
  ·obtain⟨n,k2⟩:=BK l (IP z r);rw[k2];exact(has_fold (jo r) (z.1,0) h0).more
  ·exact EP l _ h1 h
theorem GL{l:aZ}{r t:aH}(h:r∈l)(ht:jo t=jo r):(Bp [] (l++[t])).1.2=(Bp [] l).1.2:=by
 unfold Bp;rw[List.foldl_append];show((jo t).foldl AV ((l.foldl IP (([],[root []]),[])).1,0)).1.2=_;rw[ht];exact CU _ _ (EP l _ (Nat.succ_pos _) h)
def tT:aZ->Nat
 | []=>0
 |r::l=>r.conds.length+tT l
theorem LF(a b:aZ):tT (a++b)=tT a+tT b:=by
 induction a with
 |nil=>simp[tT]
 |cons x a ih=>simp only[iF,tT,ih];omega
theorem Dg:∀ {l:aZ},(∀r∈l,r.conds.length<=4)->tT l<=4*l.length
 | [],_=>b9 _
 |r::l,h=>by
  have h1:=h r (by simp);have h2:=Dg (l:=l) fun x hx=>h x (by simp[hx])
  simp only[tT,aT];omega
theorem AA:∀(l:aZ) (z:(cy×dL)×bC),(l.foldl IP z).1.2.length<=z.1.2.length+tT l
 | [],_=>b9 _
 |r::l,z=>by
  have h1:=AA l (IP z r);have h2:=(Df (jo r) (z.1,0)).2;have h3:(jo r).length=r.conds.length:=by unfold jo;rw[ay]
  have h4:(IP z r).1.2.length<=z.1.2.length+(jo r).length:=h2;rw[er];simp only[tT];omega
theorem RZ(a:aZ)(k:Int->Option Int):∀(l:aZ) (i n:Nat),n+tT l<=1000000->eV a k l i (n:Int)=k ((n+tT l:Nat):Int)
 | [],_,_,_=>rfl
 |x::l,i,n,h=>by
  simp only[tT]at h;have e:IntKind.i64.wrap ((n:Int)+((x.conds.map aK.c).length:Int))=((n+x.conds.length:Nat):Int):=by
   rw[ay,fT (mL.i64.2 (by omega))];omega
  rw[eV,e,RZ a k l (i+1) (n+x.conds.length) (by omega)];simp only[tT];rw[fX]
theorem Gx(l:aZ)(h:o6 aH.wt l<=1048576):iM l=some (bif uB l then((tT l:Nat):Int)-((((Bp [] l).1.2.length:Nat):Int)-1)else-1):=by
 unfold iM;rw[UN l h,aA];cases hb:uB l with
 |false=>rfl
 |true=>
  have h6:l.length<=6:=by unfold uB at hb;simp only[aL,b8]at hb;omega
  have h4:=Dg fun r hr=>wC (yM hb r hr)
  have h5:(Bp [] l).1.2.length<=1+tT l:=AA l _;have e0:=RZ l (fun(AD:Int)=>((jc l).bind fun Ds=>(some (IntKind.i64.wrap (AD-(IntKind.i64.wrap (((Ds.nodes.map Node.c).length:Int)-1))))))) l 0 0 (by omega);simp only[aN,cX,aa];refine Eq.trans e0 ?_;rw[US l h hb,aA];dsimp only;rw[ay,cC,fT (n:=(((Bp [] l).1.2.length:Nat):Int)-1) (mL.i64.2 (by omega)),fT (mL.i64.2 (by omega))]
theorem LV{l:aZ}{B:Nat}(h:o6 aH.wt l<=B):∀r∈l,r.wt<=B:=fun r hr=>by have:=oM (w:=aH.wt) hr;omega
theorem lE.Ps{r:aH}(h:lE 5 r):r.wt<=10000:=by
 obtain⟨h1,⟨h2,h3⟩,h4,h5⟩:=h;have c1:=rq (w:=aK.wt) (B:=200) r.conds (fun x hx=>(h3 x hx).wt);have c2:=rq (w:=Action.wt) (B:=200) r.bR (fun x hx=>(h5 x hx).wt);have d1:(200+1)*r.conds.length<=201*5:=dP _ (by omega);have d2:(200+1)*r.bR.length<=201*5:=dP _ (by omega);unfold aH.wt;unfold tw at*;omega
theorem Fl{m:Nat}(h:m<=9):(Lib.itoa (m:Int)).length=1:=by
 have:Lib.itoa (m:Int)=Lib.decDigits m:=by unfold Lib.itoa;rw[ai (by omega)];rfl
 rw[this,Gh (by omega)];unfold MF;rw[bD (by omega)];rfl
theorem Mn(y:bz×Int)(k:bC->Int->Int->aZ->Option (bz×aZ))(hy:y.2<=7):∀(m fu:Nat) (i:Nat) (c:bz) (w:aZ),w.length+m=8->i+m<=8->m<fu->dJ c->o6 aH.wt w<=100000+10001*i->
 ∃c' w',gR y k fu (i:Int) c.b c.i c.h w=k c'.b c'.i c'.h w'/\dJ c'/\o6 aH.wt w'<=190000:=by
 intro m
 induction m with
 |zero=>
  intro fu i c w hm hi hf hc hw;cases fu with
  |zero=>omega
  |succ fu=>
   rw[gR,ay,hY (by omega),aa];exact⟨c,w,rfl,hc,by omega⟩
 |succ m ih=>
  intro fu i c w hm hi hf hc hw;cases fu with
  |zero=>omega
  |succ fu=>
   rw[gR,ay];cases hd:decide ((w.length:Int)<y.2)with
   |false=>rw[aa];exact⟨c,w,rfl,hc,by omega⟩
   |true=>
    obtain⟨c1,r,e1,hc1,hr⟩:=GC c 6 hc (by decide);have Vo:fZ (⟨c.b,c.i,c.h⟩:bz) 6=some (c1,r):=e1;have e2:=SB (i:Int) (mL.i64.2 (by omega));have e3:=Fl (m:=i) (by omega);have e4:decide (([107]:Bytes).length+(Lib.itoa (i:Int)).length<=maxLen)=true:=by rw[e3];rfl
    have e5:IntKind.i64.wrap ((i:Int)+1)=((i+1:Nat):Int):=by rw[fT (mL.i64.2 (by omega))];omega
    have Ik:=(hr.1.le (m:=5) (by decide)).Ps;rw[aN,Vo,aA,e2,aA,e4,aN];dsimp only;rw[show room (w.length+([[D.str (([107])++(Lib.itoa (i:Int))),D.int .i64 r.prio,D.sl (r.conds.map aK.c),D.sl (r.bR.map Action.c)]]).length) 72=true from zI (by simp;omega) (by decide),aN,e5];refine ih fu (i+1) c1 _ (by rw[af];simp;omega) (by omega) (by omega) hc1 ?_;rw[tW,gT,Dm];have:(⟨[107]++Lib.itoa (i:Int),r.prio,r.conds,r.bR⟩:aH).wt<=10000:=by
     have h5:=hr.1.le (m:=5) (by decide);exact lE.Ps ⟨by show([107]++Lib.itoa (i:Int)).length<=16;rw[af,e3];decide,h5.2⟩
    omega
theorem Pg(c:bz)(h:dJ c):∃c' l,nN c=some (c',l)/\dJ c'/\o6 aH.wt l<=190000:=by
 unfold nN;obtain⟨c1,rs,e1,h1,r1,r2,_⟩:=SI (fun _=>True) (fun _ _ _ _ _=>trivial) c 3 h (by decide) (by decide);have h6:rs.length<=6:=by unfold uB at r1;simp only[aL,b8]at r1;omega
 obtain⟨c2,x,e2,h2,_,_⟩:=oL c1 10 h1 (by decide) (by decide);rw[e1,aA,e2,aA];dsimp only;cases(x==(0:Int))with
 |true=>
  obtain⟨c3,r,e3,h3,l1⟩:=S6 c2 h2;rw[aN,e3,aA,n8 (by omega) (by decide),aN];have:=lE.Ps l1;exact⟨_,_,rfl,h3,by show o6 aH.wt (rs++[r])<=190000;rw[tW,gT,Dm];omega⟩
 |false=>
  rw[aa];cases(x==(1:Int))with
  |true=>
   obtain⟨c3,n,e3,h3,hn⟩:=Bn c2 ([6,7]:bC) h2 (by decide) (by decide);rw[aN,e3,aA];have Wd:n<=7:=by
    have:∀s∈([6,7]:bC),s<=7:=by decide
    exact this n hn
   obtain⟨c',w',q1,q2,q3⟩:=Mn (c3,n) (fun a b d q=>some ((⟨a,b,d⟩:bz),q)) Wd (8-rs.length) fuel 0 c3 rs (by omega) (by omega) (by unfold fuel;omega) h3 (by omega);exact⟨_,_,q1,q2,q3⟩
  |false=>rw[aa];exact⟨_,_,rfl,h2,by omega⟩
theorem N8{l:aZ}{i:Nat}{y:aH}:o6 aH.wt (l.set i y)<=o6 aH.wt l+(y.wt+1):=by
 induction l generalizing i with
 |nil=>simp[o6]
 |cons x l ih=>
  cases i with
  |zero=>simp only[List.set_cons_zero,gT];omega
  |succ i=>simp only[List.set_cons_succ,gT];have:=ih (i:=i);omega
theorem Ex(code:bC)(h:code.length<=4096):∃l,gh code=some l/\o6 aH.wt l<=400000:=by
 unfold gh;obtain⟨c0,e0,h0⟩:=SD code h;obtain⟨c1,l,e1,h1,l1⟩:=Pg c0 h0;rw[e0,aA,e1,aA,ay];cases hd:decide ((l.length:Int)>1)with
 |false=>rw[aa];exact⟨_,rfl,by show o6 aH.wt l<=400000;omega⟩
 |true=>
  obtain⟨c2,b,e2,h2⟩:=HE c1 2 h1 (by decide) (by decide);have hlen:1<l.length:=by have:=bV hd;omega
  have hw:=LV l1;rw[aN,e2,aA];cases b with
  |false=>rw[aa];exact⟨_,rfl,by show o6 aH.wt l<=400000;omega⟩
  |true=>
   have e3:lg l 0=some l[0]:=by unfold lg;rw[cL (by decide),aN];exact aM (by omega)
   have e4:lg l 1=some l[1]:=by unfold lg;rw[cL (by decide),aN];exact aM hlen
   have hsum:∀(l:aZ) (h2:1<l.length),o6 aH.wt l<=190000->(l[0]'(by omega)).wt+l[1].wt<=190000:=by
    intro l h2 h
    match l,h2,h with
    |a::b::r,_,h=>simp only[gT]at h;show a.wt+b.wt<=190000;omega
   have hs2:=hsum l hlen l1;have w0:=hw _ (iG (show 0<l.length by omega));have w1:=hw _ (iG hlen);rw[aN,e3,aA,Pf _ (by omega),aA,e4,aA];refine⟨_,rfl,?_⟩;show o6 aH.wt (l.set (1:Int).toNat ⟨l[1].name,l[1].prio,l[0].conds,l[1].bR⟩)<=400000;have h5:=N8 (l:=l) (i:=(1:Int).toNat) (y:=⟨l[1].name,l[1].prio,l[0].conds,l[1].bR⟩);have h6:(⟨l[1].name,l[1].prio,l[0].conds,l[1].bR⟩:aH).wt<=l[0].wt+l[1].wt:=by unfold aH.wt;simp only;omega
   omega
end Go.Cx
namespace Go.Cx
open Go.RowKit Go.Proofs Tryz
set_option maxRecDepth 100000
variable{Γ:nR}{N:Nat->St->Prop}
def tK(aF:bC):Option Bool:=(some (decide ((((aF.map yx).length:Int):Int)>4096)))
theorem tg{aF:bC}{r:Bool}(h:tK aF=some r):Good prog 5 [D.sl (aF.map yx)] (D.bool r):=by
 refine gd func5 [[none]] 6 fun hr Γ hΓ=>?_
 rw[tK]at h;cases h;exact aX.ret hΓ
def nk(aF:bC)(bB:Int):Option Int:=(bif decide ((bB:Int)>=((aF.map yx).length:Int))then(some 0)else((lg aF bB).bind fun x2=>(some (IntKind.i64.wrap x2))))
theorem BE{aF:bC}{bB:Int}{r:Int}(h:nk aF bB=some r):Good prog 9 [D.sl (aF.map yx),D.int .i64 bB] (D.int .i64 r):=by
 refine gd func9 [[none]] 14 fun hr Γ hΓ=>?_
 rw[nk]at h;obtain⟨h1,h⟩|⟨h1,h⟩:=aO h
 ·have h:=aQ h;subst h;exact(aX.b h1).ret hΓ
 ·obtain⟨x2,h3,h⟩:=aE h;cases h;exact((aX.b h1).l (xK yx 1 h3 rfl)).ret hΓ
end Go.Cx
namespace Go.Cx
open Go.RowKit Go.Proofs Tryz
set_option maxRecDepth 100000
variable{Γ:nR}{N:Nat->St->Prop}
def nT(aF:bC):Option Bool:=((tK aF).bind fun y1=>(bif y1 then(some true)else((gh aF).bind fun y4=>((iM y4).bind fun y6=>((k7 y4).bind fun y8=>(bif !(y8)then(some ((y6:Int)==(-1)))else(bif (((y4.map aH.c).length:Int):Int)==0 then(some (decide ((y6:Int)>=0)))else(bif (((y4.map aH.c).length:Int):Int)==6 then(some (decide ((y6:Int)>=0)))else((nk aF 0).bind fun nx=>(bif decide (0<=(nx:Int))&&decide (0<(((y4.map aH.c).length:Int):Int))then((lg y4 ((nx:Int)% ((y4.map aH.c).length:Int))).bind fun x16=>(bif room (([]:List aG).length+(y4.map aH.c).length) 72 then(bif room ((([]:List aG)++(y4.map aH.c)).length+([[D.str ([116,119,105,110]),D.int .i64 0,D.sl (x16.conds.map aK.c),D.sl (x16.bR.map Action.c)]]).length) 72 then(bif decide ((y6:Int)>=0)then((k7 ((([]:aZ)++y4)++([(⟨[116,119,105,110],0,x16.conds,x16.bR⟩:aH)]))).bind fun Lj=>(bif !(Lj)then(some true)else((iM ((([]:aZ)++y4)++([(⟨[116,119,105,110],0,x16.conds,x16.bR⟩:aH)]))).bind fun CO=>(some ((CO:Int)==(IntKind.i64.wrap (y6+((x16.conds.map aK.c).length:Int))))))))else(some false))else none)else none))else none))))))))))
theorem vF{aF:bC}{r:Bool}(h:nT aF=some r):Good prog 3 [D.sl (aF.map yx)] (D.bool r):=by
 refine gd func3 [[none]] 63 fun hr Γ hΓ=>?_
 rw[nT]at h;obtain⟨y1,h2,h⟩:=aE h;obtain⟨h3,h⟩|⟨h3,h⟩:=aO h
 ·have h:=aQ h;subst h;exact((aX.g (tg h2)).b h3).ret hΓ
 ·obtain⟨y4,h5,h⟩:=aE h;obtain⟨y6,h7,h⟩:=aE h;obtain⟨y8,h9,h⟩:=aE h;have nE:=(((((aX.g (tg h2)).b h3).g (qK h5)).g (gK h7)).g (ij h9))
  obtain⟨h10,h⟩|⟨h10,h⟩:=aO h
  ·cases h;exact(nE.b h10).ret hΓ
  ·obtain⟨h11,h⟩|⟨h11,h⟩:=aO h
   ·cases h;exact(((nE.b h10).r 4 h11).T 1).ret hΓ
   ·have lN:=((nE.b h10).r 4 h11)
    obtain⟨h12,h⟩|⟨h12,h⟩:=aO h
    ·cases h;exact(lN.b h12).ret hΓ
    ·obtain⟨nx,h14,h⟩:=aE h;obtain⟨h15,h⟩:=bp h;obtain⟨x16,h17,h⟩:=aE h;refine(((((lN.b h12).g (BE h14)).w (Bi .i64 h15)).l (xK aH.c 4 h17 rfl)).a [.hl 0 [3,4,5] [0]]).ex (c':=(lc f3 [1,1,1,1,1,1,1])) (K':=(Sv f3 [1,1,1,1,1,1,1])) (K0:=(Sv f3 [1,1,1,1,1,1,1])) hΓ (fun _ _=>rfl) (QT (st:=⟨[(3,D.sl (y4.map aH.c)),(4,D.int .i64 y6),(5,D.ptr 0 0)],[Ob.box [D.str x16.name,D.int .i64 x16.prio,D.sl (x16.conds.map aK.c),D.sl (x16.bR.map Action.c)]]⟩) PO 8 2 (by kernel_rfl) (by kernel_rfl) ?_ ?_)
     ·obtain⟨h18,h⟩:=bp h;obtain⟨h19,h⟩:=bp h;have nF:=((((aX.w (cD h18)).w (show(∀r∈(y4.map aH.c),r.length=4)/\(false=true->D.l6 (y4.map aH.c)=true)from⟨by first|simp| (intro r hr;obtain⟨x,_,rfl⟩:=cE.1 (bL (eF hr));rfl),by simp[D.l6,D.flat]⟩)).w (cD h19)).a [.n2 [0,1,3,4,5,6,7,8,2,9,10] [0,1,8,2,3,4,5,6,7,9,10] 8 8 [] [],.fl false,.n 14])
      obtain⟨h20,h⟩|⟨h20,h⟩:=aO h
      ·obtain⟨Lj,h22,h⟩:=aE h;have n7:=((((nF.r 2 h20).a [.d (D.bool Lj)]).w (show Good prog 8 [D.sl ((([]:List aG)++(y4.map aH.c))++([[D.str ([116,119,105,110]),D.int .i64 0,D.sl (x16.conds.map aK.c),D.sl (x16.bR.map Action.c)]]))] (D.bool Lj)from by first| (simpa only[az,ax,bg,bN,bU]using ij h22)|exact ij h22)).r 2 h20)
       obtain⟨h23,h⟩|⟨h23,h⟩:=aO h
       ·have h:=aQ h;subst h;exact((((n7.r 8 h23).b h20).b h23).b h20).IK hΓ
       ·obtain⟨CO,h25,h⟩:=aE h;cases h;exact(((((((n7.r 2 h23).a [.d (D.int .i64 CO)]).w (show Good prog 7 [D.sl ((([]:List aG)++(y4.map aH.c))++([[D.str ([116,119,105,110]),D.int .i64 0,D.sl (x16.conds.map aK.c),D.sl (x16.bR.map Action.c)]]))] (D.int .i64 CO)from by first| (simpa only[az,ax,bg,bN,bU]using gK h25)|exact gK h25)).r 6 h23).b h20).b h23).b h20).IK hΓ
      ·have h:=aQ h;subst h;exact((nF.r 6 h20).a [bF,bF,bF,bF,bF,bF,bF,bF]).IK hΓ
     ·obtain⟨h19,h⟩:=bp h;obtain⟨h20,h⟩:=bp h;have zE:=((((aX.w (cD h19)).w (show(∀r∈(y4.map aH.c),r.length=4)/\(false=true->D.l6 (y4.map aH.c)=true)from⟨by first|simp| (intro r hr;obtain⟨x,_,rfl⟩:=cE.1 (bL (eF hr));rfl),by simp[D.l6,D.flat]⟩)).w (cD h20)).a [.n2 [0,1,3,4,5,6,7,2,8,9,10] [0,1,7,2,3,4,5,6,8,9,10] 7 8 [2,3,4,5,6] [1],.fl false,.n 14])
      obtain⟨h21,h⟩|⟨h21,h⟩:=aO h
      ·obtain⟨HQ,h23,h⟩:=aE h;have Bf:=((((zE.r 2 h21).a [.d (D.bool HQ)]).w (show Good prog 8 [D.sl ((([]:List aG)++(y4.map aH.c))++([[D.str ([116,119,105,110]),D.int .i64 0,D.sl (x16.conds.map aK.c),D.sl (x16.bR.map Action.c)]]))] (D.bool HQ)from by first| (simpa only[az,ax,bg,bN,bU]using ij h23)|exact ij h23)).r 2 h21)
       obtain⟨h24,h⟩|⟨h24,h⟩:=aO h
       ·have h:=aQ h;subst h;exact((((Bf.r 8 h24).b h21).b h24).b h21).IK hΓ
       ·obtain⟨o5,h26,h⟩:=aE h;cases h;exact(((((((Bf.r 2 h24).a [.d (D.int .i64 o5)]).w (show Good prog 7 [D.sl ((([]:List aG)++(y4.map aH.c))++([[D.str ([116,119,105,110]),D.int .i64 0,D.sl (x16.conds.map aK.c),D.sl (x16.bR.map Action.c)]]))] (D.int .i64 o5)from by first| (simpa only[az,ax,bg,bN,bU]using gK h26)|exact gK h26)).r 6 h24).b h21).b h24).b h21).IK hΓ
      ·have h:=aQ h;subst h;exact((zE.r 6 h21).a [bF,bF,bF,bF,bF,bF,bF,bF]).IK hΓ
end Go.Cx
namespace Go.Cx
open Go.RowKit Go.Proofs Tryz
namespace LawFnShared
theorem X4(code:bC):∃n,nk code 0=some n:=by
 unfold nk;rw[ay];cases h:decide ((0:Int)>=(code.length:Int))with
 |true=>exact⟨0,rfl⟩
 |false=>
  have:¬(0:Int)>=(code.length:Int):=of_decide_eq_false h;have e:lg code 0=some (code[0]'(by omega)):=by unfold lg;rw[cL (by decide),aN];exact aM (by omega)
  rw[aa,e];exact⟨_,rfl⟩
theorem OL{code:bC}{n:Int}(hc:∀x∈code,0<=x/\x<=255)(h:nk code 0=some n):0<=n:=by
 unfold nk at h;rw[ay]at h;cases hd:decide ((0:Int)>=(code.length:Int))with
 |true=>rw[hd]at h;cases h;decide
 |false=>
  rw[hd,aa]at h;have:¬(0:Int)>=(code.length:Int):=of_decide_eq_false hd;have e:lg code 0=some (code[0]'(by omega)):=by unfold lg;rw[cL (by decide),aN];exact aM (by omega)
  rw[e,aA]at h;have hx:=hc _ (iG (show 0<code.length by omega));rw[fT (mL.i64.2 (by omega))]at h;cases h;exact hx.1
theorem MZ(code:bC)(Qs:code.length<=4096->∃n,nk code 0=some n/\0<=n):nT code=some true:=by
 unfold nT tK;rw[aA,ay];by_cases hc:code.length<=4096
 ·rw[hY (by omega),aa];obtain⟨l,e1,hw⟩:=Ex code hc;rw[e1,aA,Gx l (by omega),aA,S7 l (by omega),aA];cases hb:uB l with
  |false=>rfl
  |true=>
   have h6:l.length<=6:=by unfold uB at hb;simp only[aL,b8]at hb;omega
   have hn:(Bp [] l).1.2.length<=1+tT l:=AA l _;have hge:decide ((tT l:Int)-(((Bp [] l).1.2.length:Int)-1)>=0)=true:=cL (by omega);simp only[aN,cX,aa,ay];by_cases h0:l.length=0
   ·rw[show((l.length:Int)==0)=true by rw[h0];rfl,aN];exact congrArg some hge
   rw[show((l.length:Int)==0)=false from bu.2 (by omega),aa];by_cases h7:l.length=6
   ·rw[show((l.length:Int)==6)=true by rw[h7];rfl,aN];exact congrArg some hge
   rw[show((l.length:Int)==6)=false from bu.2 (by omega),aa];obtain⟨n,e2,hn0⟩:=Qs hc;have hmod:0<=n% (l.length:Int)/\n% (l.length:Int)<(l.length:Int):=⟨tZ _ (by omega),Int.emod_lt_of_pos _ (by omega)⟩
   have hlt:(n% (l.length:Int)).toNat<l.length:=by omega
   have e3:lg l (n% (l.length:Int))=some l[(n% (l.length:Int)).toNat]:=by unfold lg;rw[cL hmod.1,aN];exact aM hlt
   rw[e2,aA,cL hn0,cL (show(0:Int)<(l.length:Int)by omega)];simp only[Bool.and_self,aN];rw[e3,aA];have hr:=iG hlt;generalize l[(n% (l.length:Int)).toNat]=r at hr;have hwr:r.wt<=400000:=by have:=oM (w:=aH.wt) hr;omega
   have Wq:r.wt+1<=o6 aH.wt l:=oM (w:=aH.wt) hr;have r1:room (([]:List aG).length+l.length) 72=true:=by
    have:=zI (n:=([]:List aG).length+l.length) (b:=72) (by simp;omega) (by decide);exact this
   have r2:room ((([]:List aG)++l.map aH.c).length+([[D.str ([116,119,105,110]),D.int .i64 0,D.sl (r.conds.map aK.c),D.sl (r.bR.map Action.c)]]).length) 72=true:=zI (by simp;omega) (by decide);rw[r1,aN,r2,aN,hge,aN];have ex:(([]:aZ)++l)++[(⟨[116,119,105,110],0,r.conds,r.bR⟩:aH)]=l++[⟨[116,119,105,110],0,r.conds,r.bR⟩]:=by simp
   rw[ex];generalize ht:(⟨[116,119,105,110],0,r.conds,r.bR⟩:aH)=t;have ht1:t.conds=r.conds:=by rw[<-ht]
   have ht2:jo t=jo r:=by rw[<-ht];rfl
   have Xd:t.wt<=r.wt+10:=by rw[<-ht];unfold aH.wt;simp[tw];omega
   have VG:o6 aH.wt (l++[t])<=1048576:=by rw[tW,gT,Dm];omega
   rw[S7 _ VG,aA];cases hx:uB (l++[t])with
   |false=>rfl
   |true=>
    have e4:=Gx (l++[t]) VG;rw[hx,aN,GL hr ht2,LF]at e4;simp only[cX,aa];rw[e4,aA];have h4:r.conds.length<=4:=wC (yM hb r hr);have h5:=Dg fun r hr=>wC (yM hb r hr)
    rw[fT (mL.i64.2 (by omega))];simp only[tT,ht1];refine congrArg some (bq.2 ?_);omega
 ·rw[cL (by omega),aN]
theorem Good.M6{P:Program}{f:FuncId}{ds:aG}{d:D}(hA:∃fn,P.funcs[f]?=some fn/\fn.body.isSome=true/\(fn.name== "runtime.NumGoroutine")=false)(h:(∀x∈ds,kj x)->Good P f ds d):Good P f ds d:=
 ⟨hA,fun w Θ args bs hv ha=>(h ha.QK).2 w Θ args bs hv ha⟩
theorem KF(code:bC):Good prog 3 [D.sl (code.map yx)] (.bool true):=by
 refine Good.M6 ⟨_,func3,by kernel_rfl,by kernel_rfl⟩ fun hr=>?_
 have hc:∀x∈code,0<=x/\x<=255:=fun x hx=>by
  have h1:=(kj.sl (hr _ (lB.2 rfl))).2 (yx x) (cE.2 ⟨x,hx,rfl⟩) (D.int .u8 x) (by simp[yx]);have h2:=kj.int h1;simpa[mL,IntKind.min,IntKind.max,IntKind.bits,IntKind.signed]using h2
 exact vF (MZ code fun _=>by obtain⟨n,h⟩:=X4 code;exact⟨n,h,OL hc h⟩)
end LawFnShared
end Go.Cx
namespace Go.Cx
open Go.RowKit
inductive Sh where
 |int (k:IntKind)
 |str
 |bool
 |sl (row:List Sh)
mutual
inductive C1:Sh->D->Prop
 |int (k:IntKind) (n:Int):C1 (.int k) (.int k n)
 |str (s:Bytes):C1 .str (.str s)
 |bool (b:Bool):C1 .bool (.bool b)
 |sl (row:List Sh) (rows:List aG):(∀r∈rows,mr row r)->C1 (.sl row) (.sl rows)
inductive mr:List Sh->List D->Prop
 |nil:mr [] []
 |cons (s:Sh) (ss:List Sh) (d:D) (ds:aG):C1 s d->mr ss ds->mr (s::ss) (d::ds)
end
theorem mr.app{s1 s2:List Sh}{d1 d2:aG}(h1:mr s1 d1)(h2:mr s2 d2):mr (s1++s2) (d1++d2):=by
 induction s1 generalizing d1 with
 |nil=>cases h1;exact h2
 |cons s s1 ih=>cases h1 with|cons _ _ d ds h h'=>exact .cons _ _ _ _ h (ih h')
theorem mr.length{s:List Sh}{d:aG}(h:mr s d):d.length=s.length:=by
 induction s generalizing d with
 |nil=>cases h;rfl
 |cons s ss ih=>cases h with|cons _ _ d ds h h'=>simp[ih h']
def DS(P:Program):Nat->List Field->List (List Sh)->Bool
 |_,[],[]=>true
 |off,f::fs,r::rs=>(f.offset==off)&&(r.length==P.cellsOf f.type)&&DS P (off+r.length) fs rs
 |_,_,_=>false
def rY(P:Program):Nat->TypeId->Option (List Sh)
 |0,_=>none
 |n+1,t=>match P.underlying t with
  |some .bool=>some [.bool]
  |some (.int k)=>some [.int k]
  |some .string=>some [.str]
  |some (.slice e)=>(rY P n e).bind fun r=>if r.length=P.cellsOf e/\0<r.length then some [.sl r]else none
  |some (.struct fs)=>(fs.toList.mapM fun f=>rY P n f.type).bind fun rs=>if DS P 0 fs.toList rs=true/\rs.flatten.length=P.cellsOf t then some rs.flatten else none
  |_=>none
theorem Eg{α β:Type}{f:α->Option β}:∀ {l:List α} {ys:List β},l.mapM f=some ys->ys.length=l.length/\∀(i:Nat) x,l[i]?=some x->∃y,ys[i]?=some y/\f x=some y:=by
 intro l
 induction l with
 |nil=>intro ys h;simp at h;subst h;simp
 |cons a l ih=>
  intro ys h;simp only[uc,Option.bind_eq_bind,Option.pure_def]at h;cases ha:f a with
  |none=>simp[ha]at h
  |some b=>
   cases hl:l.mapM f with
   |none=>simp[ha,hl]at h
   |some bs=>
    simp[ha,hl]at h;subst h;obtain⟨h1,h2⟩:=ih hl;refine⟨by simp[h1],fun i x hx=>?_⟩;cases i with
    |zero=>simp at hx;subst hx;exact⟨b,by simp,ha⟩
    |succ i=>simp at hx;obtain⟨y,k1,k2⟩:=h2 i x hx;exact⟨y,by simpa using k1,k2⟩
section
variable{P:Program}{w:World}{H:Type}{enc:TypeId×Value->H}{base:Nat}{sp:Nat->Bool}{held:Bool}
theorem BC{a:Addr}{n:Nat}{cs:av}(h:w.cells? base a n=some cs):cs.length=n/\∀(j:Nat) c,cs[j]?=some c->w.cell? (a.add j)=some c:=by
 unfold World.cells? at h;split at h
 ·obtain⟨h1,h2⟩:=Eg h;refine⟨by simpa using h1,fun j c hj=>?_⟩;have hlt:j<n:=by have:=(aB.1 hj).1;rw[h1]at this;simpa using this
  obtain⟨y,k1,k2⟩:=h2 j j (by simp[hlt]);rw[hj]at k1;cases k1;exact k2
 ·cases h
theorem PL{k:IntKind}{n:Int}(h:(Lit.int k n).wf=true):mL k n:=by
 simpa[Lit.wf,mL]using h
theorem HJ:∀(fuel:Nat) {t:TypeId} {cs:av} {d:DataW H} {ps:List MemPlace} {n:Nat} {Mv:List Sh},
 DataW.trod enc P w base sp held fuel t cs=some (d,ps)->rY P n t=some Mv->∃ds bs,iB w cs ds bs/\mr Mv ds:=by
 intro fuel
 induction fuel with
 |zero=>intro t cs d ps n Mv h;simp[DataW.trod]at h
 |succ fuel ih=>
  intro t cs d ps n Mv h hf;cases n with
  |zero=>simp[rY]at hf
  |succ n=>
   simp only[rY]at hf;simp only[DataW.trod]at h;split at hf
   ·rename_i hu;cases hf;simp only[hu]at h;split at h<;>rename_i h1<;>try(simp at h1;done)
    all_goals try(cases h;done)
    all_goals simp at h1
    exact⟨[.bool _],[],.cons _ _ _ _ [] [] rfl (.bool _) .nil,.cons _ _ _ _ (.bool _) .nil⟩
   ·rename_i k hu;cases hf;simp only[hu]at h;split at h<;>rename_i h1<;>try(simp at h1;done)
    all_goals try(cases h;done)
    all_goals simp at h1
    rename_i k1 k2 m _;subst h1;split at h
    ·rename_i hc;obtain⟨rfl,hwf⟩:=hc;exact⟨[.int _ _],[],.cons _ _ _ _ [] [] rfl (.int _ _ (PL hwf)) .nil,.cons _ _ _ _ (.int _ _) .nil⟩
    ·cases h
   ·rename_i hu;cases hf;simp only[hu]at h;split at h<;>rename_i h1<;>try(simp at h1;done)
    all_goals try(cases h;done)
    all_goals simp at h1
    split at h
    ·rename_i hc;exact⟨[.str _],[],.cons _ _ _ _ [] [] rfl (.str _ hc) .nil,.cons _ _ _ _ (.str _) .nil⟩
    ·cases h
   ·rename_i e hu;cases hr:rY P n e with
    |none=>simp[hr]at hf
    |some r=>
     simp only[hr,aA]at hf;split at hf
     ·rename_i hsz;cases hf;simp only[hu]at h;split at h<;>rename_i h1<;>try(simp at h1;done)
      all_goals try(cases h;done)
      all_goals simp at h1
      ·exact⟨[.sl []],[],.cons _ _ _ _ [] [] rfl .qD .nil,.cons _ _ _ _ (.sl _ _ (by simp)) .nil⟩
      ·rename_i a len cap
       try subst h1
       split at h
       ·rename_i hc;cases hm:(List.range len).mapM (fun i=>(w.cells? base (a.add (i*P.cellsOf e)) (P.cellsOf e)).bind (DataW.trod enc P w base sp held fuel e))with
        |none=>simp[hm]at h
        |some elems=>
         obtain⟨_,hall⟩:=Eg hm;have hel:∀i,i<len->∃cs ds bs,w.cells? base (a.add (i*P.cellsOf e)) (P.cellsOf e)=some cs/\iB w cs ds bs/\mr r ds:=by
          intro i hi;obtain⟨y,_,hy⟩:=hall i i (by simp[hi]);obtain⟨cs,hcs,hy⟩:=j4.1 hy;obtain⟨ds,bs,k1,k2⟩:=ih (d:=y.1) (ps:=y.2) hy hr;exact⟨cs,ds,bs,hcs,k1,k2⟩
         by_cases hl0:len=0
         ·subst hl0;exact⟨[.sl []],[],.cons _ _ _ _ [] [] rfl (.jP a cap hc.2.2) .nil,.cons _ _ _ _ (.sl _ _ (by simp)) .nil⟩
         ·
          obtain⟨cs0,NL,Qg,FV,Ii,WK⟩:=hel 0 (by omega);obtain⟨hl1,MI⟩:=BC FV;have hpos:0<cs0.length:=by rw[hl1];omega
          have hc0:=MI 0 cs0[0] (aM hpos);have ha0:(a.add (0*P.cellsOf e)).add 0=a:=by simp[Addr.add]
          rw[ha0]at hc0;obtain⟨b,off,spot⟩:=a;have RL:spot=none:=by
           cases spot with
           |none=>rfl
           |some x=>
            unfold World.cell? at hc0;split at hc0
            ·simp at hc0
            ·cases hc0
          subst RL;have hb:b<w.heap.size:=World.block_lt_of_cell? w _ hc0;have build:∀m,m<=len->∃(rows:List aG) (cs:av) (bs:aI),rows.length=m/\cs.length=m*P.cellsOf e/\(∀(j:Nat) c,cs[j]?=some c->w.cell? ⟨b,off+j,none⟩=some c)/\
           iB w cs rows.flatten bs/\∀x∈rows,mr r x:=by
           intro m
           induction m with
           |zero=>intro _;exact⟨[],[],[],rfl,by simp,by simp,.nil,by simp⟩
           |succ m Wz=>
            intro hm1;obtain⟨rows,cs,bs,q1,q2,q3,q4,q5⟩:=Wz (by omega);obtain⟨cs',ds',bs',g1,g2,g3⟩:=hel m (by omega);obtain⟨g4,g5⟩:=BC g1;refine⟨rows++[ds'],cs++cs',bs++bs',by simp[q1],by simp[q2,g4,gF],?_,?_,?_⟩
            ·intro j c hj;by_cases hlt:j<cs.length
             ·rw[aS hlt]at hj;exact q3 j c hj
             ·rw[aU (by omega)]at hj;have:=g5 _ c hj;rw[Addr.add_lit,Addr.add_lit,q2]at this;have e1:off+m*P.cellsOf e+(j-m*P.cellsOf e)=off+j:=by omega
              rw[e1]at this;exact this
            ·rw[fL];have:=q4.app g2;simpa using this
            ·intro x hx;rcases aJ.1 hx with hx|hx
             ·exact q5 x hx
             ·simp at hx;subst hx;exact g3
          obtain⟨rows,cs,bs,q1,q2,q3,q4,q5⟩:=build len (b9 _);subst q1;refine⟨[.sl rows],b::bs,?_,.cons _ _ _ _ (.sl _ _ q5) .nil⟩;have:=iB.cons (w:=w) _ [] _ [] _ [] rfl (Rd.sl b off cap r.length rows cs bs hb hc.2.1 hc.2.2 (fun x hx=>(q5 x hx).length) q3 q4) .nil;simpa using this
       ·cases h
     ·cases hf
   ·rename_i fs hu;cases hr:fs.toList.mapM (fun f=>rY P n f.type)with
    |none=>simp[hr]at hf
    |some rs=>
     simp only[hr,aA]at hf;split at hf
     ·rename_i hok;cases hf;simp only[hu]at h;split at h
      ·rename_i hlen;cases hm:fs.toList.mapM (fun f=>DataW.trod enc P w base sp held fuel f.type ((cs.drop f.offset).take (P.cellsOf f.type)))with
       |none=>simp[hm]at h
       |some xs=>
        have go:∀(fl:List Field) (rl:List (List Sh)) (xl:List (DataW H×List MemPlace)) (off:Nat),fl.mapM (fun f=>rY P n f.type)=some rl->
         fl.mapM (fun f=>DataW.trod enc P w base sp held fuel f.type ((cs.drop f.offset).take (P.cellsOf f.type)))=some xl->DS P off fl rl=true->
         ∃ds bs,iB w ((cs.drop off).take rl.flatten.length) ds bs/\mr rl.flatten ds:=by
         intro fl
         induction fl with
         |nil=>
          intro rl xl off h1 _ _;simp at h1;subst h1;exact⟨[],[],by simpa using iB.nil,.nil⟩
         |cons f fl Wx=>
          intro rl xl off h1 h2 h3;simp only[uc,Option.bind_eq_bind,Option.pure_def]at h1 h2;cases a1:rY P n f.type with
          |none=>simp[a1]at h1
          |some r1=>
           cases a2:fl.mapM (fun f=>rY P n f.type)with
           |none=>simp[a1,a2]at h1
           |some Ue=>
            simp[a1,a2]at h1;subst h1;cases b1:DataW.trod enc P w base sp held fuel f.type ((cs.drop f.offset).take (P.cellsOf f.type))with
            |none=>simp[b1]at h2
            |some x1=>
             cases b2:fl.mapM (fun f=>DataW.trod enc P w base sp held fuel f.type ((cs.drop f.offset).take (P.cellsOf f.type)))with
             |none=>simp[b1,b2]at h2
             |some XS=>
              simp only[DS,aL,bq]at h3;obtain⟨⟨o1,o2⟩,o3⟩:=h3;obtain⟨Dp,M5,k1,k2⟩:=ih (d:=x1.1) (ps:=x1.2) b1 a1;obtain⟨Vm,LX,k3,k4⟩:=Wx Ue XS (off+r1.length) a2 b2 o3;refine⟨Dp++Vm,M5++LX,?_,by simpa using k2.app k4⟩;have e1:(cs.drop off).take (r1::Ue).flatten.length=(cs.drop f.offset).take (P.cellsOf f.type)++(cs.drop (off+r1.length)).take Ue.flatten.length:=by
               rw[o1,<-o2,dB,af,<-dX,List.take_add]
              rw[e1];exact k1.app k3
        obtain⟨ds,bs,k1,k2⟩:=go fs.toList rs xs 0 hr hm hok.1;rw[List.drop_zero,hok.2,<-hlen,List.take_length]at k1;exact⟨ds,bs,k1,k2⟩
      ·cases h
     ·cases hf
   ·cases hf
def J6(P:Program)(n:Nat)(t:TypeId)(d:D):Prop:=
 (rD P t=some true/\∃Mv cells,rY P n t=some Mv/\d=.agg cells/\mr Mv cells)\/(rD P t=some false/\∃sh,rY P n t=some [sh]/\C1 sh d)
inductive CR(P:Program)(n:Nat):List TypeId->List D->Prop
 |nil:CR P n [] []
 |cons (t:TypeId) (ts:List TypeId) (d:D) (ds:aG):J6 P n t d->CR P n ts ds->CR P n (t::ts) (d::ds)
def E7(P:Program)(n:Nat)(t:TypeId):Bool:=
 match rD P t,rY P n t with
 |some true,some _=>(match P.underlying t with|some (.struct _)=>true|_=>false)
 |some false,some [_]=>true
 |_,_=>false
theorem KV{n:Nat}{t:TypeId}{v:Value}{d:DataW H}{ps:List MemPlace}(hok:E7 P n t=true)(hval:Value.okWide P w .any base t v)(h:DataW.Trod enc P w 0 sp held t v d ps):
 ∃x bs,Rd w v x bs/\J6 P n t x:=by
 obtain⟨fuel,h⟩:=h;unfold E7 at hok;split at hok
 ·rename_i Mv ht hf;split at hok
  ·rename_i fs hu;unfold Value.okWide at hval;simp only[hu]at hval;obtain⟨cs,rfl,_⟩:=hval;obtain⟨ds,bs,k1,k2⟩:=HJ fuel h hf;refine⟨.agg ds,bs,?_,.inl ⟨ht,Mv,ds,hf,rfl,k2⟩⟩;have:=Rd.agg (w:=w) cs.toList ds bs k1;simpa using this
  ·cases hok
 ·rename_i sh ht hf;have hone:v.oneCell'=true:=by
   unfold rD at ht;split at ht<;>first
    | (cases ht;done)
    |skip
   rename_i Up h1 h2 hu;unfold Value.okWide at hval;rw[hu]at hval;cases v with
   |agg cs=>
    cases Up<;>first
     | (exfalso;exact h1 _ rfl)
     | (exfalso;exact h2 _ _ rfl)
     | (simp[Cell.okWide,Cell.ok,hu]at hval)
   |tuple vs=>
    cases Up<;>first
     | (exfalso;exact h1 _ rfl)
     | (exfalso;exact h2 _ _ rfl)
     | (simp[Cell.okWide,Cell.ok,hu]at hval)
   |_=>rfl
  rw[Cd hone]at h;obtain⟨ds,bs,k1,k2⟩:=HJ fuel h hf;cases k2 with
  |cons _ _ x ds' hx hn=>
   cases hn;cases k1 with
   |cons _ _ _ _ b1 b2 _ hrd hn=>exact⟨x,b1,hrd,.inr ⟨ht,sh,hf,hx⟩⟩
 ·cases hok
theorem IB{n:Nat}:∀ {ts:List TypeId} {vs:av} {ds:List (DataW H)} {ps:List MemPlace},(∀t∈ts,E7 P n t=true)->
 (∀(j:Nat) t v,ts[j]?=some t->vs[j]?=some v->Value.okWide P w .any base t v)->DataW.TrodAll enc P w 0 sp held ts vs ds ps->
 ∃xs bs,GU w vs xs bs/\CR P n ts xs/\ds.length=ts.length:=by
 intro ts
 induction ts with
 |nil=>
  intro vs ds ps _ _ h;cases vs with
  |nil=>cases ds with
   |nil=>exact⟨[],[],.nil,.nil,rfl⟩
   |cons=>cases h
  |cons=>cases ds<;>cases h
 |cons t ts ih=>
  intro vs ds ps hok hval h;cases vs with
  |nil=>cases h
  |cons v vs=>
   cases ds with
   |nil=>cases h
   |cons d ds=>
    obtain⟨p,q,h1,h2,rfl⟩:=h;obtain⟨x,b1,k1,k2⟩:=KV (hok t (by simp)) (hval 0 t v rfl rfl) h1;obtain⟨xs,b2,k3,k4,k5⟩:=ih (fun u hu=>hok u (by simp[hu])) (fun j u y hj hv=>hval (j+1) u y (by simpa using hj) (by simpa using hv)) h2;exact⟨x::xs,b1++b2,.cons _ _ _ _ _ _ k1 k3,.cons _ _ _ _ k2 k4,by simp[k5]⟩
theorem CF{W W':World}(hl:laidOutB P=true)(hb:Below W.heap.size W W')(Lh:Nat->Bool):∀ {ts:List TypeId} {vs:av} {ds:List (DataW H)} {ps:List MemPlace},
 (∀t∈ts,P.readableRec t=true/\t<P.types.size)->DataW.TrodAll enc P W 0 (fun _=>true) true ts vs ds ps->(∀x∈ps,x.block<W.heap.size)->(∀x∈ps,Lh x.block=true)->
 DataW.TrodAll enc P W' 0 Lh true ts vs ds ps:=by
 intro ts
 induction ts with
 |nil=>intro vs ds ps _ h _ _;cases vs<;>cases ds<;>first|exact h|cases h
 |cons t ts ih=>
  intro vs ds ps ht h hlt hsp;cases vs with
  |nil=>cases h
  |cons v vs=>
   cases ds with
   |nil=>cases h
   |cons d ds=>
    obtain⟨p,q,h1,h2,rfl⟩:=h;refine⟨p,q,?_,ih (fun u hu=>ht u (by simp[hu])) h2 (fun x hx=>hlt x (by simp[hx])) (fun x hx=>hsp x (by simp[hx])),rfl⟩;exact WideElems.Trod_stays hl (ht t (by simp)).1 (ht t (by simp)).2 h1 (fun x hx=>hb.same (hlt x (by simp[hx]))) (fun x hx=>hsp x (by simp[hx]))
theorem rz.o9{w:World}{v:Value}{b:Bool}{bs ts us:aI}(h:rz w v (.bool b) bs ts us):v=.bool b:=by
 cases h with|v h=>cases h with|cell h=>cases h with|pure h=>cases h;rfl
theorem DM{f:FuncId}{fn:Func}{s:ChangeSpec}{n rt:Nat}{W:World}{args:Array Value}{ds gs:List (DataW H)}{before:List MemPlace}
 (hl:laidOutB P=true) (Gr:∀t∈fn.params.toList,E7 P n t=true/\P.readableRec t=true/\t<P.types.size) (hres:fn.resultTypes= #[rt]) (Wl:P.underlying rt=some .bool)
 (hv:s.vars=[]) (hfn:∀ds:List (DataW H),ds.length=fn.params.toList.length->s.fn H ds= {results:=[.lit (.bool true)],args:=ds})
 (hvs:C2 W fun _=>False) (ir:∀xs,CR P n fn.params.toList xs->Good P f xs (.bool true))
 (hval:∀(j:Nat) t v,fn.params[j]?=some t->args[j]?=some v->Value.okWide P W .any base t v)
 (hW:DataW.Whole enc P fn.params.toList s.vars false W args.toList ds gs before):
 Calls P f args W fun e W'=>∃v,e=.returned v/\s.post enc P fn false true false false W args v W':=by
 have Uv:=hW;obtain⟨p,q,hA,hV,hpq,hz,_⟩:=hW;have WR:gs=[]/\q=[]:=by
  rw[hv]at hV;cases gs with
  |nil=>exact⟨rfl,hV⟩
  |cons=>cases hV
 obtain⟨rfl,rfl⟩:=WR;rw[dS]at hpq;subst hpq;obtain⟨xs,bs,k1,k2,k3⟩:=IB (fun t ht=>(Gr t ht).1) (fun j t v hj hv=>hval j t v (by simpa using hj) (by simpa using hv)) hA;have hc:=(ir xs k2).2 W (fun _=>0) args.toList bs hvs k1 (fun _ _=>rfl) (fun b hb=>absurd rfl hb) (fun _=>ud _);rw[gD]at hc;refine hc.mono ?_;rintro e W' ⟨v,bs',ts,us,rfl,hb,hr,_⟩;refine⟨v,rfl,?_⟩;obtain rfl:=hr.o9;have hlt:=Uv.lt;have Ta:=hfn ds k3;have Jo:∀(b:Nat) (sp:Nat->Bool) (hd:Bool),DataW.TrodAll enc P W' b sp hd fn.resultTypes.toList ((Value.bool true).resultList fn.resultTypes.size) [.lit (.bool true)] []:=by
  intro b sp hd;rw[hres];exact⟨[],[],⟨1,by simp[DataW.trod,Wl,Value.cells]⟩,rfl,rfl⟩
 have hargs:∀Lh:Nat->Bool,(∀x∈before,Lh x.block=true)->DataW.TrodAll enc P W' 0 Lh true fn.params.toList args.toList ds before:=
  fun Lh hsp=>CF hl hb Lh (fun t ht=>(Gr t ht).2) hA hlt hsp
 have hvars:∀Lh:Nat->Bool,DataW.TrodVars enc P W' Lh s.vars [] []:=fun Lh=>by rw[hv];rfl
 unfold ChangeSpec.post;refine⟨ds,[],before,[],before,[],Uv,?_,?_,?_,hb.frame _,fun h=>by cases h⟩
 ·rw[dS,Ta];exact Jo _ _ _
 ·rw[dS,Ta];exact hargs _ (fun x hx=>by simpa using hlt x hx)
 ·rw[dS,Ta];exact hvars _
end
end Go.Cx
namespace Go.Cx
open Go.RowKit
abbrev pX:=List Sh
theorem Hj{α:Type}{c:α->aG}{row:pX}(hc:∀r,mr row r->∃x,r=c x):∀ {rows:List aG},(∀r∈rows,mr row r)->∃l:List α,rows=l.map c:=by
 intro rows
 induction rows with
 |nil=>intro _;exact⟨[],rfl⟩
 |cons r rows ih=>
  intro h;obtain⟨x,rfl⟩:=hc r (h r (by simp));obtain⟨l,rfl⟩:=ih (fun s hs=>h s (by simp[hs]));exact⟨x::l,rfl⟩
theorem MB{α:Type}{c:α->aG}{row:pX}(hc:∀r,mr row r->∃x,r=c x){d:D}(h:C1 (.sl row) d):∃l:List α,d=.sl (l.map c):=by
 cases h with
 |sl _ rows hr=>
  obtain⟨l,rfl⟩:=Hj hc hr;exact⟨l,rfl⟩
theorem JK{k:IntKind}{d:D}(h:C1 (.int k) d):∃n,d=.int k n:=by cases h;exact⟨_,rfl⟩
theorem FM{s:Sh}{ss:pX}{ds:aG}(h:mr (s::ss) ds):∃d r,ds=d::r/\C1 s d/\mr ss r:=by
 cases h with|cons _ _ d r h1 h2=>exact⟨d,r,rfl,h1,h2⟩
theorem Hl{ds:aG}(h:mr [] ds):ds=[]:=by cases h;rfl
theorem MC(r:aG)(h:mr [.int .u8] r):∃s,r=yx s:=by
 obtain⟨_,_,rfl,h1,h⟩:=FM h;cases Hl h;obtain⟨s,rfl⟩:=JK h1;exact⟨s,rfl⟩
section
variable{P:Program}{n:Nat}{t:TypeId}{d:D}
theorem J6.cell{sh:Sh}(ha:rD P t=some false)(hf:rY P n t=some [sh])(h:J6 P n t d):C1 sh d:=by
 rcases h with⟨h1,_⟩|⟨_,Xh,h1,h2⟩
 ·rw[ha]at h1;cases h1
 ·rw[hf]at h1;cases h1;exact h2
end
end Go.Cx
namespace Go.Cx
open Go.ChangeShapes Go.WideShapes Go.ChangeAt Go.RowKit
def UT(P:Program)(f:FuncId)(fn:Func)(s:ChangeSpec)(c:OpenClaim):Bool:=(c.wf (OpenSpec.ofChange s)&&laidOutB P&&mapsRowed P)
def UU(P:Program)(f:FuncId)(fn:Func)(s:ChangeSpec)(c:OpenClaim):Bool:=(fn.params.all (P.readableRec ·)&&namedTie P c.named s.vars)&&((c.stops==[])&&(P.stops==[])&&(c.knobs==[])&&(P.stopKnobs==[]))&&((c.maps==(fn.params.toList++s.plain.varTypes P).any (P.mapsRec ·))&&(c.ifaces==(fn.params.toList++s.plain.varTypes P).any (P.ifacesRec ·))&&(c.mapsOut==P.mapsAmong fn.resultTypes.toList))&&((c.loops==(fn.params.toList++s.plain.varTypes P).any (P.loopsFrom ·))&&(c.wideKeys==(fn.params.toList++s.plain.varTypes P++fn.resultTypes.toList).any (P.wideKeysFrom ·)))&&(s.vars.all (P.varReadable ·)&&fn.resultTypes.all (fun t=>P.readableRec t&&decide (t<P.types.size))&&(c.ifacesOut==fn.resultTypes.toList.any (P.ifacesRec ·))&&(c.loopsOut==fn.resultTypes.toList.any (P.loopsFrom ·)))&&((c.kinds==(if c.domain.isEmpty then []else fn.params.toList.map fun t=>match P.underlying t with|some (.int k)=>some k|_=>none))&&(c.pinned==c.pinnedBy))&&((c.veiled==(fn.params.toList++s.plain.varTypes P++fn.resultTypes.toList).any (P.veiledRec ·))&&c.veiledFits P fn.params.toList (fn.params.toList++s.plain.varTypes P++fn.resultTypes.toList))
def UW(P:Program)(f:FuncId)(fn:Func)(s:ChangeSpec)(c:OpenClaim):Bool:=(c.inPlace==P.inPlace f)&&(c.unfollowed==P.unfollowed f)&&(c.recurses==P.recurses f)&&(c.named==P.varsNamed f)
def UX(P:Program)(f:FuncId)(fn:Func)(s:ChangeSpec)(c:OpenClaim):Bool:=(c.plainKeys==P.plainKeys)&&(c.shortTexts.isNone&&P.stopsHeard)&&P.mayEnter&&(c.lifted==P.liftsFinal)&&(P.make==some c.make)
theorem I0{P:Program}{f:FuncId}{fn:Func}{s:ChangeSpec}{c:OpenClaim}(h0:UT P f fn s c=true)(h1:UU P f fn s c=true)(h2:UW P f fn s c=true)(h3:UX P f fn s c=true):joinedFacts P f fn s c=true:=by
 unfold UT at h0;unfold UU at h1;unfold UW at h2;unfold UX at h3;unfold joinedFacts;simp only[aL]at h0 h1 h2 h3⊢;obtain⟨⟨X6,X7⟩,X8⟩:=h0;obtain⟨⟨⟨⟨⟨⟨⟨X9,XA⟩,⟨⟨⟨XB,XC⟩,XD⟩,XE⟩⟩,⟨⟨XJ,XK⟩,XL⟩⟩,⟨XM,XN⟩⟩,⟨⟨⟨XO,XP⟩,XQ⟩,XR⟩⟩,⟨VS,VT⟩⟩,⟨VU,VV⟩⟩:=h1;obtain⟨⟨⟨XF,XG⟩,XH⟩,XI⟩:=h2;obtain⟨⟨⟨⟨VM,⟨VN,VO⟩⟩,VP⟩,VQ⟩,VR⟩:=h3
 and_intros<;>assumption
end Go.Cx

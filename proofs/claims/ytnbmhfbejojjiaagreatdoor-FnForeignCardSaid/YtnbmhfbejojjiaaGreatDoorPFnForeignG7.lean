/- Bindings, matching, conditions that hold, and tokens in plain words: of the program and of the reference. No condition but bounds on sizes. -/
import Derived.Test.YtnbmhfbejojjiaaGreatDoorPFnForeignG6
set_option linter.unusedVariables false
set_option linter.unusedSimpArgs false
namespace Go.Cx
open Go.RowKit Go.Proofs Tryz
def PB(b:aM):Prop:=b.length<=1048576/\∀x∈b,x.var.length<=1048576/\x.value.length<=1048576
theorem PB.nil:PB []:=⟨by simp,by simp⟩
def nq:Option aR->aM->Bool
 |_,[]=>true
 |p,x::xs=>fQ x.var&&(fR x.value&&((match p with|some q=>Op.bytesLess q.var x.var|none=>true)&&nq (some x) xs))
def iH(b:aM):Bool:=nq none b&&decide (b.length<=6)
theorem F6{b:aM}(h:iH b=true):b.length<=6:=by
 unfold iH at h;simp only[aS,bD]at h;exact h.2
theorem Q3{isV isA:Bytes->Option Bool}{a:aM}{L:aM->Nat->Option Bool}{k:Option Bool}(ha:a.length<=1099511627770)(hV:∀x:Bytes,x.length<=1048576->isV x=some (fQ x))(hA:∀x:Bytes,x.length<=1048576->isA x=some (fR x))(uO:∀i,L [] i=k)
 (tv:∀x xs i,L (x::xs) i=((isV x.var).bind fun y=>(bif !(y)then(some false)else((isA x.value).bind fun z=>(bif !(z)then(some false)else(bif decide (((i:Int):Int)>0)then((hO a (IntKind.i64.wrap ((i:Int)-1))).bind fun q=>(bif !(Op.bytesLess q.var x.var)then(some false)else(L xs (i+1))))else(L xs (i+1)))))))):
 ∀(l pre:aM),a=pre++l->(∀x∈l,x.var.length<=1048576/\x.value.length<=1048576)->L l pre.length=bif nq pre.getLast? l then k else some false:=by
 intro l
 induction l with
 |nil=>intro pre _ _;rw[uO];rfl
 |cons x xs ih=>
  intro pre h hf;have hl:a.length=pre.length+(xs.length+1):=by rw[h];simp
  have t:=ih (pre++[x]) (by simp[h]) (fun y hy=>hf y (by simp[hy]));rw[bC,ey,nD]at t;rw[tv,hV _ (hf x (by simp)).1,aA,hA _ (hf x (by simp)).2,aA,t];simp only[nq];cases fQ x.var with
  |false=>rfl
  |true=>
   cases fR x.value with
   |false=>rfl
   |true=>
    simp only[bQ,aQ,fC];rcases wW pre with rfl|⟨p,z,Z2⟩
    ·simp
    ·rw[wV]at Z2;subst Z2;have e0:decide (((p++[z]).length:Int)>0)=true:=by simp<;>omega
     have e1:IntKind.i64.wrap (((p++[z]).length:Int)-1)=(p.length:Int):=by
      rw[eM (pN.i64.2 (by simp at hl⊢;omega))];simp
     have e2:hO a (p.length:Int)=some z:=wE (xs:=x::xs) (by rw[h];simp);rw[e0,aH,e1,e2,aA,nD];show _=bif (Op.bytesLess z.var x.var&&nq (some x) xs)then k else some false
     cases Op.bytesLess z.var x.var<;>rfl
theorem Tt(b:aM)(h:PB b):kL b=some (iH b):=by
 unfold kL iH;have t:=fun k=>Q3 (isV:=gi) (isA:=fW) (a:=b) (L:=jN b k) (k:=k) (by have:=h.1;omega) PJ Kn (fun _=>rfl) (fun _ _ _=>rfl) b [] rfl h.2
 refine(t _).trans ?_;have e:decide (((b.map aR.c).length:Int)<=6)=decide (b.length<=6):=by rw[ax];congr 1;rw[tU];omega
 rw[e];show(bif nq none b then _ else _)=_;cases nq none b<;>rfl
theorem Tf(b:aM)(h:PB b):kE b=some (iH b):=by
 unfold kE iH;have t:=fun k=>Q3 (isV:=l7) (isA:=fT) (a:=b) (L:=gz b k) (k:=k) (by have:=h.1;omega) UX Ke (fun _=>rfl) (fun _ _ _=>rfl) b [] rfl h.2
 rw[show gz b (some true) b 0=_ from t _];by_cases h6:b.length<=6
 ·have e:decide (((b.map aR.c).length:Int)>6)=false:=by rw[ax];simp;omega
  rw[e,aQ,ay h6,xM];show(bif nq none b then _ else _)=_;cases nq none b<;>rfl
 ·have e:decide (((b.map aR.c).length:Int)>6)=true:=by rw[ax];simp;omega
  rw[e,aH,bH h6,w8]
def dD(t:Bytes):aM->Option Bytes
 | []=>none
 |x::xs=>bif x.var==t then some x.value else dD t xs
def oy(b:aM)(t:Bytes):Bytes×Bool:=bif fR t then(t,true)else bif fQ t then(match dD t b with|some v=>(v,true)|none=>([],false))else([],false)
theorem a0r(b:aM)(t:Bytes)(ht:t.length<=1048576):nJ b t=some (oy b t):=by
 unfold nJ oy;have key:∀(l:aM) (i:Nat),iF b t (some ([],false)) l i=some (bif fQ t then(match dD t l with|some v=>(v,true)|none=>([],false))else([],false)):=by
  intro l
  induction l with
  |nil=>intro i;rw[iF];cases fQ t<;>rfl
  |cons x xs ih=>
   intro i;rw[iF,PJ t ht,aA,ih];simp only[dD];cases x.var==t<;>cases fQ t<;>rfl
 rw[Kn t ht,aA,key];cases fR t<;>rfl
theorem a0B(b:aM)(t:Bytes)(ht:t.length<=1048576):nI b t=some (oy b t):=by
 unfold nI oy;have key:∀(l:aM) (i:Nat),l9 b t (some ([],false)) l i=some (match dD t l with|some v=>(v,true)|none=>([],false)):=by
  intro l
  induction l with
  |nil=>intro i;rfl
  |cons x xs ih=>
   intro i;rw[l9,ih];simp only[dD];cases x.var==t<;>rfl
 rw[Ke t ht,aA,UX t ht,aA,key];cases fR t<;>cases fQ t<;>rfl
theorem Sb(b:aM)(h:b.length<=1099511627776):qX b=some b:=by
 unfold qX;rw[R4 h (by decide)];simp
theorem S9(b:aM)(h:b.length<=1099511627776):j9 b=some b:=by
 unfold j9;rw[R4 h (by decide)];simp
def vz(v val:Bytes):aM->aM
 | []=>[⟨v,val⟩]
 |x::xs=>bif !(Op.bytesLess x.var v||x.var==v)then⟨v,val⟩::x::xs else x::vz v val xs
theorem Bs(v val:Bytes)(b:aM):(vz v val b).length=b.length+1:=by
 induction b with
 |nil=>rfl
 |cons x xs ih=>simp only[vz];cases !(Op.bytesLess x.var v||x.var==v)<;>simp[ih]
theorem R7(v val:Bytes)(b:aM){x:aR}(h:x∈vz v val b):x=⟨v,val⟩\/x∈b:=by
 induction b with
 |nil=>simp[vz]at h;exact .inl h
 |cons y ys ih=>
  simp only[vz]at h;cases hc: !(Op.bytesLess y.var v||y.var==v)with
  |true=>
   rw[hc,aH]at h;rcases bB.1 h with h|h
   ·exact .inl h
   ·exact .inr h
  |false=>
   rw[hc,aQ]at h;rcases bB.1 h with h|h
   ·exact .inr (by simp[h])
   ·rcases ih h with h|h
    ·exact .inl h
    ·exact .inr (by simp[h])
theorem Tu{γ:Type}{v val:Bytes}{L:aM->Nat->Bool->aM->Option γ}{k:Bool->aM->Option γ}{K:aM->Option γ}(hk1:∀w,k true w=K w)(hk2:∀w:aM,w.length<1099511627770->k false w=K (w++[⟨v,val⟩]))(uO:∀i d w,L [] i d w=k d w)
 (tv:∀x xs i d w,L (x::xs) i d w=(bif !(d)then(bif !(Op.bytesLess x.var v||(x.var:Bytes)==v)then(bif room ((w.map aR.c).length+([[D.str v,D.str val]]).length) 32 then(bif room (((w.map aR.c)++([[D.str v,D.str val]])).length+([[D.str x.var,D.str x.value]]).length) 32 then(L xs (i+1) true ((w++([(⟨v,val⟩:aR)]))++([x])))else none)else none)else(bif room ((w.map aR.c).length+([[D.str x.var,D.str x.value]]).length) 32 then(L xs (i+1) d (w++([x])))else none))else(bif room ((w.map aR.c).length+([[D.str x.var,D.str x.value]]).length) 32 then(L xs (i+1) d (w++([x])))else none))):
 ∀(l:aM) (i:Nat) (w:aM),w.length+l.length<1099511627760->L l i false w=K (w++vz v val l):=by
 have c1:∀(l:aM) (i:Nat) (w:aM),w.length+l.length<1099511627765->L l i true w=K (w++l):=by
  intro l
  induction l with
  |nil=>intro i w _;rw[uO,hk1,dA]
  |cons x xs ih=>
   intro i w hw;simp only[aV]at hw;rw[tv,bQ,aQ,ic (by omega) (by decide),aH,ih (i+1) (w++[x]) (by simp;omega)];simp
 intro l
 induction l with
 |nil=>intro i w hw;simp only[br]at hw;rw[uO,hk2 _ (by omega)];rfl
 |cons x xs ih=>
  intro i w hw;simp only[aV]at hw;have r1:∀y:aP,room ((w.map aR.c).length+([y]).length) 32=true:=fun y=>ic (by omega) (by decide)
  have r2:room (((w.map aR.c)++([[D.str v,D.str val]])).length+([[D.str x.var,D.str x.value]]).length) 32=true:=Es (by simp;omega) (by decide);have t1:=ih (i+1) (w++[x]) (by simp;omega);have t2:=c1 xs (i+1) ((w++[⟨v,val⟩])++[x]) (by simp;omega);rw[tv,bz,aH,r1,r1,r2];simp only[aH,vz];cases !(Op.bytesLess x.var v||x.var==v)with
  |true=>rw[aH,aH,t2];simp
  |false=>rw[aQ,aQ,t1];simp
theorem a2G(b:aM)(v val:Bytes)(h:b.length<1099511627700):uJ b v val=some (vz v val b):=by
 unfold uJ;exact Tu (v:=v) (val:=val) (K:=fun w=>some w) (L:=mG b v val (fun(z:Bool) (q:aM)=>(bif !(z)then(bif room ((q.map aR.c).length+([[D.str v,D.str val]]).length) 32 then(some (q++([(⟨v,val⟩:aR)])))else none)else(some q)))) (fun w=>rfl) (fun w hw=>by show(bif !false then _ else _)=_;rw[ic (by omega) (by decide)];rfl) (fun _ _ _=>rfl) (fun _ _ _ _ _=>rfl) b 0 [] (by simp;omega)
def xB(b:aM)(v val:Bytes):aM×Bool:=bif iH b&&(fQ v&&fR val)then(match dD v b with|some o=>bif o==val then(b,true)else([],false)|none=>bif decide (b.length=6)then([],false)else(vz v val b,true))else([],false)
theorem TO{b:aM}{v val:Bytes}(h:PB b)(hv:v.length<=1048576)(hl:val.length<=1048576):PB (xB b v val).1:=by
 unfold xB;cases hb:iH b&&(fQ v&&fR val)with
 |false=>exact PB.nil
 |true=>
  rw[aH];have h6:b.length<=6:=F6 (by simp only[aS]at hb;exact hb.1);cases dD v b with
  |some o=>simp only;cases o==val<;>first|exact h|exact PB.nil
  |none=>
   simp only;cases decide (b.length=6)with
   |true=>exact PB.nil
   |false=>
    refine⟨by simp only[aQ,Bs];omega,fun x hx=>?_⟩;rcases R7 _ _ _ hx with rfl|hx
    ·exact⟨hv,hl⟩
    ·exact h.2 x hx
theorem a9Z(b:aM)(v val:Bytes)(h:PB b)(hv:v.length<=1048576)(hl:val.length<=1048576):sZ b v val=some (xB b v val):=by
 unfold sZ xB;have hlen:=h.1;rw[Tt b h,aA,PJ v hv,aA,Kn val hl,aA,a0r b v hv,aA,Sb b (by omega),aA,a2G b v val (by omega),aA];have e6:((((b.map aR.c).length:Int):Int)==6)=decide (b.length=6):=by
  rw[ax,bp];simp;omega
 rw[e6];cases hb:iH b with
 |false=>rfl
 |true=>
  cases hvv:fQ v with
  |false=>rfl
  |true=>
   cases fR val with
   |false=>rfl
   |true=>
    have GS:oy b v=(match dD v b with|some o=>(o,true)|none=>([],false)):=by unfold oy;rw[oP hvv,hvv];rfl
    rw[GS];simp only[bQ,aQ,fC,xM,aH];cases dD v b with
    |some o=>simp only[aH];cases o==val<;>rfl
    |none=>simp only[aQ];cases decide (b.length=6)<;>rfl
theorem a5l(b:aM)(v val:Bytes)(h:PB b)(hv:v.length<=1048576)(hl:val.length<=1048576):qP b v val=some (xB b v val):=by
 unfold qP xB;have hlen:=h.1;have t:=(Tu (v:=v) (val:=val) (K:=fun w=>some ((w,true):aM×Bool)) (L:=kC b v val (fun(z:Bool) (q:aM)=>(bif !(z)then(bif room ((q.map aR.c).length+([[D.str v,D.str val]]).length) 32 then(some (q++([(⟨v,val⟩:aR)]),true))else none)else(some (q,true))))) (fun w=>rfl) (fun w hw=>by show(bif !false then _ else _)=_;rw[ic (by omega) (by decide)];rfl) (fun _ _ _=>rfl) (fun _ _ _ _ _=>rfl) b 0 [] (by simp;omega))
 rw[Tf b h,aA,UX v hv,aA,Ke val hl,aA,a0B b v hv,aA,S9 b (by omega),aA,t];cases hb:iH b with
 |false=>rfl
 |true=>
  have h6:=F6 hb;have e6:decide ((((b.map aR.c).length:Int):Int)>=6)=decide (b.length=6):=by
   rw[ax];congr 1;rw[tU];omega
  rw[e6];cases hvv:fQ v with
  |false=>rfl
  |true=>
   cases fR val with
   |false=>rfl
   |true=>
    have GS:oy b v=(match dD v b with|some o=>(o,true)|none=>([],false)):=by unfold oy;rw[oP hvv,hvv];rfl
    rw[GS];simp only[bQ,aQ,fC,xM,aH];cases dD v b with
    |some o=>simp only[aH];cases o==val<;>rfl
    |none=>simp only[aQ];cases decide (b.length=6)<;>rfl
def sV:aG->aG->aM->aM×Bool
 | [],_,w=>(w,true)
 |_::_,[],_=>([],false)
 |x::xs,y::ys,w=>bif fR x then(bif x==y then sV xs ys w else([],false))else(bif (xB w x y).2 then sV xs ys (xB w x y).1 else([],false))
def nN(p f:aD)(b:aM):aM×Bool:=bif xq p&&(oB f&&(iH b&&(p.rel==f.rel&&decide (p.args.length=f.args.length))))then sV p.args f.args b else([],false)
theorem Ov:∀(l r:aG) (w:aM),PB w->(∀x∈l,x.length<=1048576)->(∀x∈r,x.length<=1048576)->PB (sV l r w).1
 | [],_,w,h,_,_=>h
 |_::_,[],_,_,_,_=>PB.nil
 |x::xs,y::ys,w,h,hl,hr=>by
  simp only[sV];have i1:=Ov xs ys w h (fun z hz=>hl z (by simp[hz])) (fun z hz=>hr z (by simp[hz]));have i2:=Ov xs ys (xB w x y).1 (TO h (hl x (by simp)) (hr y (by simp))) (fun z hz=>hl z (by simp[hz])) (fun z hz=>hr z (by simp[hz]));cases fR x with
  |true=>cases x==y<;>first|exact i1|exact PB.nil
  |false=>cases(xB w x y).2<;>first|exact i2|exact PB.nil
theorem a0M{p f:aD}{b:aM}(hb:PB b)(hp:p.wt<=1048576)(hf:f.wt<=1048576):PB (nN p f b).1:=by
 unfold nN;cases xq p&&(oB f&&(iH b&&(p.rel==f.rel&&decide (p.args.length=f.args.length))))with
 |false=>exact PB.nil
 |true=>exact Ov _ _ _ hb (fun x hx=>aD.tB hp hx) (fun x hx=>aD.tB hf hx)
theorem Tk{isA:Bytes->Option Bool}{ext:aM->Bytes->Bytes->Option (aM×Bool)}{fa:aG}{L:aG->Nat->aM->Option (aM×Bool)}(hA:∀x:Bytes,x.length<=1048576->isA x=some (fR x))(hE:∀w x y,PB w->x.length<=1048576->y.length<=1048576->ext w x y=some (xB w x y))(uO:∀i w,L [] i w=some (w,true))
 (tv:∀x xs i w,L (x::xs) i w=((isA x).bind fun y=>(bif y then((hO fa (i:Int)).bind fun z=>(bif !((x:Bytes)==z)then(some ([],false))else(L xs (i+1) w)))else((hO fa (i:Int)).bind fun z=>((ext w x z).bind fun q=>(bif !(q.2)then(some ([],false))else(L xs (i+1) q.1))))))):
 ∀(l pre rest:aG) (w:aM),fa=pre++rest->l.length=rest.length->(∀x∈l,x.length<=1048576)->(∀x∈rest,x.length<=1048576)->PB w->L l pre.length w=some (sV l rest w):=by
 intro l
 induction l with
 |nil=>intro pre rest w _ _ _ _ _;rw[uO];simp[sV]
 |cons x xs ih=>
  intro pre rest w h hl hx hr hw;cases rest with
  |nil=>simp at hl
  |cons y ys=>
   have t:=fun w' hw'=>ih (pre++[y]) ys w' (by simp[h]) (by simpa using hl) (fun z hz=>hx z (by simp[hz])) (fun z hz=>hr z (by simp[hz])) hw'
   simp only[bC,ey]at t;rw[tv,hA x (hx x (by simp)),aA,wE h,aA,aA,hE w x y hw (hx x (by simp)) (hr y (by simp)),aA];simp only[sV];cases fR x with
   |true=>
    simp only[aH];cases x==y with
    |true=>simp only[bQ,aQ,aH];exact t w hw
    |false=>rfl
   |false=>
    simp only[aQ];cases hq:(xB w x y).2 with
    |true=>simp only[bQ,aQ,aH];exact t _ (TO hw (hx x (by simp)) (hr y (by simp)))
    |false=>rfl
theorem XS(a b:aG):((((a.map tx).length:Int):Int) != ((b.map tx).length:Int))= !decide (a.length=b.length):=by
 rw[ax,ax];by_cases h:a.length=b.length
 ·simp[h]
 ·rw[bH h];simp;omega
theorem a6h(p f:aD)(b:aM)(hp:p.wt<=1048576)(hf:f.wt<=1048576)(hb:PB b):kN p f b=some (nN p f b):=by
 unfold kN nN;have hlen:=hb.1;rw[a45 p hp,aA,a26 f hf,aA,Tt b hb,aA,Sb b (by omega),aA,XS];cases xq p with
 |false=>rfl
 |true=>
  cases oB f with
  |false=>rfl
  |true=>
   cases iH b with
   |false=>rfl
   |true=>
    cases p.rel==f.rel with
    |false=>rfl
    |true=>
     by_cases h:p.args.length=f.args.length
     ·rw[ay h];have t:=Tk (isA:=fW) (ext:=sZ) (fa:=f.args) (L:=jO p f (fun(q:aM)=>(some (q,true)))) Kn (fun w x y hw hx hy=>a9Z w x y hw hx hy) (fun _ _=>rfl) (fun _ _ _ _=>rfl) p.args [] f.args b rfl h (fun x hx=>aD.tB hp hx) (fun x hx=>aD.tB hf hx) hb;exact t
     ·rw[bH h];rfl
theorem a3K(p f:aD)(b:aM)(hp:p.wt<=1048576)(hf:f.wt<=1048576)(hb:PB b):j6 p f b=some (nN p f b):=by
 unfold j6 nN;have hlen:=hb.1;rw[a3L p hp,aA,X8 f hf,aA,Tf b hb,aA,S9 b (by omega),aA,XS];cases xq p with
 |false=>rfl
 |true=>
  cases oB f with
  |false=>rfl
  |true=>
   cases iH b with
   |false=>rfl
   |true=>
    cases p.rel==f.rel with
    |false=>rfl
    |true=>
     by_cases h:p.args.length=f.args.length
     ·rw[ay h];have t:=Tk (isA:=fT) (ext:=qP) (fa:=f.args) (L:=jG p f (fun(q:aM)=>(some (q,true)))) Ke (fun w x y hw hx hy=>a5l w x y hw hx hy) (fun _ _=>rfl) (fun _ _ _ _=>rfl) p.args [] f.args b rfl h (fun x hx=>aD.tB hp hx) (fun x hx=>aD.tB hf hx) hb;exact t
     ·rw[bH h];rfl
def ltB(l r:Bytes):Bool:=match xo l,xo r with|some x,some y=>decide (x<y)|_,_=>false
def Rv(c:aL)(b:aM):Bool:=Gb c&&(iH b&&((oy b c.left).2&&((oy b c.right).2&&(bif decide (c.kind=3)then(oy b c.left).1==(oy b c.right).1 else bif decide (c.kind=4)then !((oy b c.left).1==(oy b c.right).1)else ltB (oy b c.left).1 (oy b c.right).1))))
theorem xP(a b:Int):(a==b)=decide (a=b):=by rw[bp];simp
theorem a6d(c:aL)(b:aM)(hc:c.wt<=1048576)(hb:PB b):rF c b=some (Rv c b):=by
 unfold rF Rv;rw[YO c hc,aA,Tt b hb,aA,a0r b c.left (aL.Ad hc),aA,a0r b c.right (aL.xw hc),aA,xP,xP];cases Gb c with
 |false=>rfl
 |true=>
  cases iH b with
  |false=>rfl
  |true=>
   cases(oy b c.left).2 with
   |false=>rfl
   |true=>
    cases(oy b c.right).2 with
    |false=>rfl
    |true=>
     cases decide (c.kind=3)with
     |true=>rfl
     |false=>
      cases decide (c.kind=4)with
      |true=>rfl
      |false=>
       simp only[bQ,aQ,fC];unfold sO ltB;rw[PI,aA,aA,PI,aA,aA,a22,aA];unfold pI BI;cases xo (oy b c.left).1 with
       |none=>rfl
       |some x=>
        cases xo (oy b c.right).1 with
        |none=>rfl
        |some y=>
         simp only[aH]
         congr 1
         unfold Gf;by_cases h:x<y
         ·have h1:(x:Int)<y:=by omega
          simp[h1,h]
         ·have h1:¬(x:Int)<y:=by omega
          by_cases h2:(x:Int)>y
          ·simp[h1,h,h2]
          ·simp[h1,h,h2]
theorem a5r(c:aL)(b:aM)(hc:c.wt<=1048576)(hb:PB b):qu c b=some (Rv c b):=by
 unfold qu Rv;rw[a63 c hc,aA,Tf b hb,aA,a0B b c.left (aL.Ad hc),aA,a0B b c.right (aL.xw hc),aA,xP,xP];cases Gb c with
 |false=>rfl
 |true=>
  cases iH b with
  |false=>rfl
  |true=>
   cases(oy b c.left).2 with
   |false=>rfl
   |true=>
    cases(oy b c.right).2 with
    |false=>rfl
    |true=>
     cases decide (c.kind=3)with
     |true=>rfl
     |false=>
      cases decide (c.kind=4)with
      |true=>rfl
      |false=>
       simp only[bQ,aQ,fC];unfold ltB;rw[Oj,aA,Oj,aA];unfold pI;cases xo (oy b c.left).1 with
       |none=>rfl
       |some x=>
        cases xo (oy b c.right).1 with
        |none=>rfl
        |some y=>
         simp only[aH]
         congr 1
         by_cases h:x<y
         ·simp[h]
         ·simp[h]
def tu(p:aD)(b:aM)(fs:aJ):aJ:=fs.filter fun f=>(nN p f b).2
def FS(fs:aJ):Prop:=fs.length<=1048576/\∀f∈fs,f.wt<=1048576
theorem TS{γ:Type}{mf:aD->Option (aM×Bool)}{cp:aD->Option aD}{p:aD}{b:aM}{L:aJ->Nat->aJ->Option γ}{k:aJ->Option γ}(hm:∀f:aD,f.wt<=1048576->mf f=some (nN p f b))(hc:∀f:aD,f.wt<=1048576->cp f=some f)(uO:∀i w,L [] i w=k w)
 (tv:∀x xs i w,L (x::xs) i w=((mf x).bind fun y=>(bif y.2 then((cp x).bind fun z=>(bif room ((w.map aD.c).length+([[D.str z.rel,D.sl (z.args.map tx)]]).length) 40 then(L xs (i+1) (w++([z])))else none))else(L xs (i+1) w)))):
 ∀(l:aJ) (i:Nat) (w:aJ),(∀f∈l,f.wt<=1048576)->w.length+l.length<1099511627700->L l i w=k (w++tu p b l):=by
 intro l
 induction l with
 |nil=>intro i w _ _;rw[uO];simp[tu]
 |cons x xs ih=>
  intro i w hl hw;simp only[aV]at hw;have hx:=hl x (by simp);rw[tv,hm x hx,aA,hc x hx,aA,ic (by omega) (by decide),aH];have e:tu p b (x::xs)=bif (nN p x b).2 then x::tu p b xs else tu p b xs:=by
   unfold tu;rw[BA];cases(nN p x b).2<;>rfl
  rw[e];cases(nN p x b).2 with
  |true=>rw[aH,aH,ih _ _ (fun f hf=>hl f (by simp[hf])) (by simp;omega)];simp
  |false=>rw[aQ,aQ,ih _ _ (fun f hf=>hl f (by simp[hf])) (by omega)]
theorem a41(p:aD)(b:aM)(fs:aJ)(hp:p.wt<=1048576)(hb:PB b)(hf:FS fs):gU p b fs=some (tu p b fs):=by
 unfold gU;have h1:=hf.1;refine(TS (mf:=fun f=>kN p f b) (cp:=eU) (p:=p) (b:=b) (L:=gH p b fs _) (k:=fun q=>some q) (fun f h=>a6h p f b hp h hb) (fun f h=>Cb f (by have:=aD.dK h;omega)) (fun _ _=>rfl) (fun _ _ _ _=>rfl) fs 0 [] hf.2 (by simp;omega)).trans ?_;simp
theorem a5n(p:aD)(b:aM)(fs:aJ)(hp:p.wt<=1048576)(hb:PB b)(hf:FS fs):iL p b fs=some (tu p b fs):=by
 unfold iL;have h1:=hf.1;refine(TS (mf:=fun f=>j6 p f b) (cp:=eC) (p:=p) (b:=b) (L:=gE p b fs _) (k:=fun q=>some q) (fun f h=>a3K p f b hp h hb) (fun f h=>K5 f (by have:=aD.dK h;omega)) (fun _ _=>rfl) (fun _ _ _ _=>rfl) fs 0 [] hf.2 (by simp;omega)).trans ?_;simp
def Aw(c:aL)(b:aM)(fs:aJ):Bool:=nF c&&(iH b&&(bif decide (c.kind=1)then decide (0<(tu c.pat b fs).length)else bif decide (c.kind=2)then decide ((tu c.pat b fs).length=0)else Rv c b))
theorem XR(l:aJ):decide ((((l.map aD.c).length:Int):Int)>0)=decide (0<l.length):=by rw[ax];congr 1;rw[tU];omega
theorem len_eq(l:aJ):((((l.map aD.c).length:Int):Int)==0)=decide (l.length=0):=by rw[ax,xP];congr 1;rw[tU];omega
theorem a6c(c:aL)(b:aM)(fs:aJ)(hc:c.wt<=1048576)(hb:PB b)(hf:FS fs):rE c b fs=some (Aw c b fs):=by
 unfold rE Aw;rw[Y3 c hc,aA,Tt b hb,aA,a41 c.pat b fs (aL.fY hc) hb hf,aA,aA,a6d c b hc hb,aA,xP,xP,XR,len_eq];cases nF c with
 |false=>rfl
 |true=>
  cases iH b with
  |false=>rfl
  |true=>cases decide (c.kind=1)<;>cases decide (c.kind=2)<;>rfl
theorem a5q(c:aL)(b:aM)(fs:aJ)(hc:c.wt<=1048576)(hb:PB b)(hf:FS fs):qt c b fs=some (Aw c b fs):=by
 unfold qt Aw;rw[X5 c hc,aA,Tf b hb,aA,a5n c.pat b fs (aL.fY hc) hb hf,aA,aA,a5r c b hc hb,aA,xP,xP,XR,len_eq];cases nF c with
 |false=>rfl
 |true=>
  cases iH b with
  |false=>rfl
  |true=>cases decide (c.kind=1)<;>cases decide (c.kind=2)<;>rfl
end Go.Cx
namespace Go.Cx
open Go.RowKit Go.Proofs Tryz
def Fix(h:Bytes->Bytes):Prop:=∀y,fR y=true->h y=y
theorem uN{t v val:Bytes}(h:v≠t):∀(w:aM),dD t (vz v val w)=dD t w
 | []=>by
  have:(v==t)=false:=by simpa using h
  simp only[vz,dD,this,aQ]
 |x::xs=>by
  have hv:(v==t)=false:=by simpa using h
  rw[vz];cases !(Op.bytesLess x.var v||x.var==v)with
  |true=>rw[aH,dD];simp only[hv,aQ]
  |false=>rw[aQ,dD,dD,uN h xs]
theorem Bg{v val:Bytes}:∀(w:aM),dD v w=none->dD v (vz v val w)=some val
 | [],_=>by simp[vz,dD]
 |x::xs,h=>by
  rw[dD]at h;rw[vz];cases hx:x.var==v with
  |true=>rw[hx]at h;cases h
  |false=>
   rw[hx,aQ]at h;cases !(Op.bytesLess x.var v||false)with
   |true=>rw[aH,dD];simp
   |false=>rw[aQ,dD,hx,aQ];exact Bg xs h
theorem xC{t o:Bytes}:∀ {w:aM},dD t w=some o->∃p∈w,p.var=t/\p.value=o
 |x::xs,h=>by
  rw[dD]at h;cases hx:x.var==t with
  |true=>rw[hx,aH]at h;cases h;exact⟨x,by simp,by simpa using hx,rfl⟩
  |false=>
   rw[hx,aQ]at h;obtain⟨p,hp,h1⟩:=xC h;exact⟨p,by simp[hp],h1⟩
theorem Lu{t:Bytes}:∀ {w:aM},dD t w=none->∀p∈w,p.var≠t
 |x::xs,h,p,hp=>by
  rw[dD]at h;cases hx:x.var==t with
  |true=>rw[hx]at h;cases h
  |false=>
   rw[hx,aQ]at h;rcases bB.1 hp with rfl|hp
   ·simpa using hx
   ·exact Lu h p hp
theorem pq(p:Option aR)(x:aR)(xs:aM):nq p (x::xs)=(fQ x.var&&(fR x.value&&((match p with|some q=>Op.bytesLess q.var x.var|none=>true)&&nq (some x) xs))):=by
 cases p<;>rfl
theorem NZ{v val:Bytes}(hv:fQ v=true)(ha:fR val=true):∀(w:aM) (p:Option aR),nq p w=true->dD v w=none->(∀q,p=some q->Op.bytesLess q.var v=true)->nq p (vz v val w)=true
 | [],p,_,_,hp=>by
  simp only[vz,nq,hv,ha,fC,xM];cases p with
  |none=>rfl
  |some q=>exact hp q rfl
 |x::xs,p,hc,hf,hp=>by
  rw[pq]at hc;simp only[aS]at hc;obtain⟨c1,c2,c3,c4⟩:=hc;rw[dD]at hf;cases hx:x.var==v with
  |true=>rw[hx]at hf;cases hf
  |false=>
   rw[hx,aQ]at hf;rw[vz,hx,sY];cases hl:Op.bytesLess x.var v with
   |true=>
    rw[bQ,aQ,pq];simp only[aS];exact⟨c1,c2,c3,NZ hv ha xs (some x) c4 hf (fun q hq=>by cases hq;exact hl)⟩
   |false=>
    have h2:Op.bytesLess v x.var=true:=by
     cases h3:Op.bytesLess v x.var with
     |true=>rfl
     |false=>
      have:=Dj hl h3;rw[this]at hx;simp at hx
    rw[bz,aH,pq];simp only[aS];refine⟨hv,ha,?_,?_⟩
    ·cases p with
     |none=>rfl
     |some q=>exact hp q rfl
    ·rw[pq];simp only[aS];exact⟨c1,c2,h2,c4⟩
theorem Dh{v val:Bytes}{w:aM}(hv:fQ v=true)(ha:fR val=true)(hb:iH w=true)(hf:dD v w=none)(hl:w.length≠6):iH (vz v val w)=true:=by
 have h6:=F6 hb;unfold iH at hb⊢;rw[aS]at hb⊢;exact⟨NZ hv ha w none hb.1 hf (fun q h=>by cases h),by rw[Bs];simp;omega⟩
theorem PR{p:aD}(h:xq p=true):∀t∈p.args,nj t=true:=by
 unfold xq at h;rw[aS]at h;exact fun t ht=>aj.1 h.1 t ht
end Go.Cx
namespace Go.Cx
open Go.RowKit Go.Proofs Tryz
theorem A8(l:aJ)(h:l.length<=1048576)(hf:∀f∈l,f.args.length<=1048576):eE l=some l:=by
 unfold eE;refine(DT (c:=aD.c) (b:=40) (f:=eU) (g:=fun x=>x) (L:=mq l _) (k:=fun q=>some q) (by decide) (fun _ _=>rfl) (fun _ _ _ _=>rfl) l 0 [] (fun f h=>Cb f (by have:=hf f h;omega)) (by simp;omega)).trans ?_;simp
theorem v8(l:aJ)(h:l.length<=1048576)(hf:∀f∈l,f.args.length<=1048576):cK l=some l:=by
 unfold cK;refine(DT (c:=aD.c) (b:=40) (f:=eC) (g:=fun x=>x) (L:=lZ l _) (k:=fun q=>some q) (by decide) (fun _ _=>rfl) (fun _ _ _ _=>rfl) l 0 [] (fun f h=>K5 f (by have:=hf f h;omega)) (by simp;omega)).trans ?_;simp
def TK(n:Nat)(t:aT):Prop:=t.facts.length<=n/\(∀f∈t.facts,f.wt<=1048576)/\PB t.bind
theorem TK.le{n m:Nat}{t:aT}(h:TK n t)(hm:n<=m):TK m t:=⟨by have:=h.1;omega,h.2⟩
theorem Y4(t:aT)(h:TK 1048576 t):qY t=some t:=by
 unfold qY;rw[A8 t.facts h.1 (fun f hf=>by have:=aD.dK (h.2.1 f hf);omega),aA,Sb t.bind (by have:=h.2.2.1;omega),aA]
def ext1(c:aL)(t:aT)(f:aD):ar:=bif (nN c.pat f t.bind).2 then [⟨t.facts++[f],(nN c.pat f t.bind).1⟩]else []
def Bn(c:aL)(fs:aJ)(t:aT):ar:=bif decide (c.kind=1)then fs.flatMap (ext1 c t)else bif Aw c t.bind fs then [t]else []
def rM(fs:aJ)(l:ar)(c:aL):ar:=l.flatMap (Bn c fs)
def tP(cs:ah)(fs:aJ):ar:=cs.foldl (rM fs) [⟨[],[]⟩]
theorem WM(c:aL)(t:aT)(f:aD):(ext1 c t f).length<=1:=by unfold ext1;cases(nN c.pat f t.bind).2<;>simp
theorem Ls(c:aL)(t:aT)(fs:aJ):(fs.flatMap (ext1 c t)).length<=fs.length:=by
 induction fs with
 |nil=>simp
 |cons f fs ih=>rw[cH,bC];have:=WM c t f;simp only[aV];omega
theorem MS(c:aL)(fs:aJ)(t:aT):(Bn c fs t).length<=fs.length+1:=by
 unfold Bn;cases decide (c.kind=1)with
 |true=>have:=Ls c t fs;rw[aH];omega
 |false=>cases Aw c t.bind fs<;>simp
theorem MT(fs:aJ)(l:ar)(c:aL):(rM fs l c).length<=l.length*(fs.length+1):=by
 unfold rM
 induction l with
 |nil=>simp
 |cons t l ih=>rw[cH,bC,aV,Hv];have:=MS c fs t;omega
theorem a0T{c:aL}{fs:aJ}{t:aT}{n:Nat}(h:TK n t)(hc:c.wt<=1048576)(hf:FS fs):∀u∈Bn c fs t,TK (n+1) u:=by
 intro u hu;unfold Bn at hu;cases hk:decide (c.kind=1)with
 |false=>
  rw[hk,aQ]at hu;cases hh:Aw c t.bind fs with
  |false=>rw[hh]at hu;cases hu
  |true=>
   rw[hh,aH,cA]at hu;subst hu;exact h.le (by omega)
 |true=>
  rw[hk,aH]at hu;obtain⟨f,hf1,hu⟩:=bg.1 hu;unfold ext1 at hu;cases hm:(nN c.pat f t.bind).2 with
  |false=>rw[hm]at hu;cases hu
  |true=>
   rw[hm,aH,cA]at hu;subst hu;refine⟨by have:=h.1;simp;omega,?_,a0M h.2.2 (aL.fY hc) (hf.2 f hf1)⟩;intro g hg;rcases af.1 hg with hg|hg
   ·exact h.2.1 g hg
   ·rw[cA]at hg;rw[hg];exact hf.2 f hf1
theorem P0{c:aL}{fs:aJ}{l:ar}{n:Nat}(h:∀t∈l,TK n t)(hc:c.wt<=1048576)(hf:FS fs):∀u∈rM fs l c,TK (n+1) u:=by
 intro u hu;obtain⟨t,ht,hu⟩:=bg.1 hu;exact a0T (h t ht) hc hf u hu
theorem TP{γ:Type}{mf:aD->Option (aM×Bool)}{cps:Option aJ}{cp:aD->Option aD}{c:aL}{t:aT}{L:aJ->Nat->ar->Option γ}{k:ar->Option γ}(hm:∀f:aD,f.wt<=1048576->mf f=some (nN c.pat f t.bind))(hcs:cps=some t.facts)(hc:∀f:aD,f.wt<=1048576->cp f=some f)(ht:t.facts.length<=1048576)(uO:∀i w,L [] i w=k w)
 (tv:∀x xs i w,L (x::xs) i w=((mf x).bind fun y=>(bif y.2 then(cps.bind fun q=>((cp x).bind fun z=>(bif room ((q.map aD.c).length+([[D.str z.rel,D.sl (z.args.map tx)]]).length) 40 then(bif room ((w.map aT.c).length+([[D.sl ((q.map aD.c)++([[D.str z.rel,D.sl (z.args.map tx)]])),D.sl (y.1.map aR.c)]]).length) 48 then(L xs (i+1) (w++([(⟨q++([z]),y.1⟩:aT)])))else none)else none)))else(L xs (i+1) w)))):
 ∀(l:aJ) (i:Nat) (w:ar),(∀f∈l,f.wt<=1048576)->w.length+l.length<1099511627770->L l i w=k (w++l.flatMap (ext1 c t)):=by
 intro l
 induction l with
 |nil=>intro i w _ _;rw[uO];simp
 |cons x xs ih=>
  intro i w hl hw;simp only[aV]at hw;have hx:=hl x (by simp);rw[tv,hm x hx,aA,hcs,aA,hc x hx,aA,ic (by omega) (by decide),aH,ic (by omega) (by decide),aH,cH];rw[show ext1 c t x=bif (nN c.pat x t.bind).2 then [⟨t.facts++[x],(nN c.pat x t.bind).1⟩]else []from rfl];cases(nN c.pat x t.bind).2 with
  |true=>rw[aH,aH,ih _ _ (fun f hf=>hl f (by simp[hf])) (by simp;omega)];simp
  |false=>rw[aQ,aQ,ih _ _ (fun f hf=>hl f (by simp[hf])) (by omega)];simp
theorem Ti(c:aL):((c.kind:Int) != 1)= !decide (c.kind=1):=by
 show(!((c.kind:Int)==1))=_;rw[xP]
theorem a44(l0:ar)(c:aL)(fs:aJ)(k:ar->Option ar)(hc:c.wt<=1048576)(hf:FS fs):∀(l:ar) (i:Nat) (w:ar),(∀t∈l,TK 1048576 t)->w.length+l.length*(fs.length+1)<1099511627700->gy l0 c fs k l i w=k (w++rM fs l c):=by
 intro l;have h1:=hf.1
 induction l with
 |nil=>intro i w _ _;rw[gy];simp[rM]
 |cons t l ih=>
  intro i w hl hw;rw[aV,Hv]at hw;have ht:=hl t (by simp);have e:rM fs (t::l) c=Bn c fs t++rM fs l c:=by simp[rM]
  have hn:=MS c fs t;have he:=Ls c t fs;rw[gy,Ti,a6c c t.bind fs hc ht.2.2 hf,aA,Y4 t ht,aA,ic (by omega) (by decide),aH,sU (by omega),aH,e];rw[TP (mf:=fun f=>kN c.pat f t.bind) (cps:=eE t.facts) (cp:=eU) (c:=c) (t:=t) (L:=n8 l0 c fs i t _) (k:=_) (fun f h=>a6h c.pat f t.bind (aL.fY hc) h ht.2.2) (A8 t.facts ht.1 (fun f hf=>by have:=aD.dK (ht.2.1 f hf);omega)) (fun f h=>Cb f (by have:=aD.dK h;omega)) ht.1 (fun _ _=>rfl) (fun _ _ _ _=>rfl) fs 0 w hf.2 (by omega)];unfold Bn;cases decide (c.kind=1)with
  |true=>simp only[bQ,aQ,aH];rw[ih _ _ (fun u hu=>hl u (by simp[hu])) (by rw[bC];omega)];simp
  |false=>
   simp only[bz,aH,aQ];cases Aw c t.bind fs with
   |true=>simp only[aH];rw[ih _ _ (fun u hu=>hl u (by simp[hu])) (by rw[bC];simp;omega)];simp
   |false=>simp only[aQ];rw[ih _ _ (fun u hu=>hl u (by simp[hu])) (by omega)];simp
theorem a6j(l:ar)(c:aL)(fs:aJ)(hc:c.wt<=1048576)(hf:FS fs)(hl:∀t∈l,TK 1048576 t)(hn:l.length*(fs.length+1)<1099511627700):uz l c fs=some (rM fs l c):=by
 unfold uz;rw[a44 l c fs _ hc hf l 0 [] hl (by simpa using hn)];simp
theorem P4:∀t∈[(⟨[],[]⟩:aT)],TK 0 t:=by
 intro t ht;rw[cA]at ht;subst ht;exact⟨by simp,by simp,PB.nil⟩
theorem Xj{n:Nat}(h:n<=4):[(⟨[],[]⟩:aT)].length*25^n<=390625:=by
 have:=tT (n:=25) (by decide) h;simp only[ey,nE];exact this
theorem a4H(c0:ah)(fs:aJ)(k:ar->Option ar)(hf:FS fs)(h24:fs.length<=24):∀(cs:ah) (i:Nat) (w:ar) (n:Nat),(∀c∈cs,c.wt<=1048576)->(∀t∈w,TK n t)->n+cs.length<=1048576->w.length*25^cs.length<=390625->k7 c0 fs k cs i w=k (cs.foldl (rM fs) w):=by
 intro cs
 induction cs with
 |nil=>intro i w n _ _ _ _;rfl
 |cons c cs ih=>
  intro i w n hc hw hn hl;simp only[aV]at hn;rw[aV,wA,C0 (25^cs.length) 25,<-GI]at hl;have hp:1<=25^cs.length:=Nat.one_le_pow _ _ (by decide);have CW:w.length*25<=390625:=dY (BD _ hp) hl;have h25:w.length*(fs.length+1)<=w.length*25:=eN _ (by omega);rw[k7,a6j w c fs (hc c (by simp)) hf (fun t ht=>(hw t ht).le (by omega)) (by omega),aA];refine ih _ _ (n+1) (fun x hx=>hc x (by simp[hx])) (P0 hw (hc c (by simp)) hf) (by omega) ?_;exact dY (dh _ (dY (MT fs w c) h25)) hl
theorem a2H(cs:ah)(fs:aJ)(hc:∀c∈cs,c.wt<=1048576)(h4:cs.length<=4)(hf:FS fs)(h24:fs.length<=24):o5 cs fs=some (tP cs fs):=by
 unfold o5;exact a4H cs fs _ hf h24 cs 0 _ 0 hc P4 (by omega) (Xj h4)
theorem a0A(c0:ah)(fs:aJ)(w0:ar)(i1:Nat)(c:aL)(k:ar->Option ar)(hc:c.wt<=1048576)(hf:FS fs):∀(l:ar) (i:Nat) (w:ar),(∀t∈l,TK 1048576 t)->w.length+l.length*(fs.length+1)<1099511627700->fV c0 fs w0 i1 c k l i w=k (w++rM fs l c):=by
 intro l;have h1:=hf.1
 induction l with
 |nil=>intro i w _ _;rw[fV];simp[rM]
 |cons t l ih=>
  intro i w hl hw;rw[aV,Hv]at hw;have ht:=hl t (by simp);have e:rM fs (t::l) c=Bn c fs t++rM fs l c:=by simp[rM]
  have hn:=MS c fs t;have he:=Ls c t fs;rw[fV,Ti,a5q c t.bind fs hc ht.2.2 hf,aA,ic (by omega) (by decide),aH,sU (by omega),aH,e];rw[TP (mf:=fun f=>j6 c.pat f t.bind) (cps:=cK t.facts) (cp:=eC) (c:=c) (t:=t) (L:=jv c0 fs i w0 t i1 c _) (k:=_) (fun f h=>a3K c.pat f t.bind (aL.fY hc) h ht.2.2) (v8 t.facts ht.1 (fun f hf=>by have:=aD.dK (ht.2.1 f hf);omega)) (fun f h=>K5 f (by have:=aD.dK h;omega)) ht.1 (fun _ _=>rfl) (fun _ _ _ _=>rfl) fs 0 w hf.2 (by omega)];unfold Bn;cases decide (c.kind=1)with
  |true=>simp only[bQ,aQ,aH];rw[ih _ _ (fun u hu=>hl u (by simp[hu])) (by rw[bC];omega)];simp
  |false=>
   simp only[bz,aH,aQ];cases Aw c t.bind fs with
   |true=>simp only[aH];rw[ih _ _ (fun u hu=>hl u (by simp[hu])) (by rw[bC];simp;omega)];simp
   |false=>simp only[aQ];rw[ih _ _ (fun u hu=>hl u (by simp[hu])) (by omega)];simp
theorem a3R(c0:ah)(fs:aJ)(k:ar->Option ar)(hf:FS fs)(h24:fs.length<=24):∀(cs:ah) (i:Nat) (w:ar) (n:Nat),(∀c∈cs,c.wt<=1048576)->(∀t∈w,TK n t)->n+cs.length<=1048576->w.length*25^cs.length<=390625->ju c0 fs k cs i w=k (cs.foldl (rM fs) w):=by
 intro cs
 induction cs with
 |nil=>intro i w n _ _ _ _;rfl
 |cons c cs ih=>
  intro i w n hc hw hn hl;simp only[aV]at hn;rw[aV,wA,C0 (25^cs.length) 25,<-GI]at hl;have hp:1<=25^cs.length:=Nat.one_le_pow _ _ (by decide);have CW:w.length*25<=390625:=dY (BD _ hp) hl;have h25:w.length*(fs.length+1)<=w.length*25:=eN _ (by omega);rw[ju,sU (by omega),aH,a0A c0 fs w i c _ (hc c (by simp)) hf w 0 [] (fun t ht=>(hw t ht).le (by omega)) (by simp only[br];omega),cw];refine ih _ _ (n+1) (fun x hx=>hc x (by simp[hx])) (P0 hw (hc c (by simp)) hf) (by omega) ?_;exact dY (dh _ (dY (MT fs w c) h25)) hl
theorem a64(cs:ah)(fs:aJ)(hc:∀c∈cs,c.wt<=1048576)(h4:cs.length<=4)(hf:FS fs)(h24:fs.length<=24):sK cs fs=some (tP cs fs):=by
 unfold sK;exact a3R cs fs _ hf h24 cs 0 _ 0 hc P4 (by omega) (Xj h4)
theorem Uy{r:aK}(h:fP r=true):r.conds.length<=4:=by
 unfold fP at h;simp only[aS,bD]at h;omega
theorem Lm{r:aK}:∀ {l:ah} {i:Nat},rX r l i=true->∀c∈l,nF c=true
 | [],_,_,c,hc=>by cases hc
 |x::xs,i,h,c,hc=>by
  simp only[rX,aS]at h;rcases bB.1 hc with rfl|hc
  ·exact h.1.1.1
  ·exact Lm h.2 c hc
theorem Ae{r:aK}(h:fP r=true):∀c∈r.conds,nF c=true:=by
 unfold fP at h;simp only[aS]at h;exact Lm h.2.1
theorem uD{l:aJ}(h:fZ l=true):l.length<=24:=by
 unfold fZ at h;simp only[aS,bD]at h;exact h.2
theorem a6S{n:Nat}{a:Int}(h0:0<=a)(h1:a.toNat<=n):xE n none (some (D.int .i64 a))=some (0,a.toNat):=by
 unfold xE;simp only[bK (show 0<=a/\a.toNat<=n from⟨h0,h1⟩)]
def tkO(r:aK)(n:Int)(fs:aJ):ar:=bif fP r&&(fZ fs&&(decide (n>=0)&&decide (n<=(r.conds.length:Int))))then tP (r.conds.take n.toNat) fs else []
theorem a4M{r:aK}{fs:aJ}(h1:fP r=true)(h2:fZ fs=true){j:Nat}(hj:j<=r.conds.length):tkO r (j:Int) fs=tP (r.conds.take j) fs:=by
 unfold tkO;rw[h1,h2];have e1:decide ((j:Int)>=0)=true:=by simp
 have e2:decide ((j:Int)<=(r.conds.length:Int))=true:=by simp;omega
 rw[e1,e2];simp
def mtB(r:aK)(fs:aJ):cX:=(tkO r (r.conds.length:Int) fs).map fun t=>⟨r.name,t.facts,t.bind⟩
theorem RG{cs:ah}{fs:aJ}(h4:cs.length<=4)(h24:fs.length<=24):(tP cs fs).length<=390625:=by
 have key:∀(cs:ah) (w:ar),w.length*25^cs.length<=390625->(cs.foldl (rM fs) w).length<=390625:=by
  intro cs
  induction cs with
  |nil=>intro w h;simpa using h
  |cons c cs ih=>
   intro w h;rw[aV,wA,C0 (25^cs.length) 25,<-GI]at h;refine ih _ ?_;have h25:w.length*(fs.length+1)<=w.length*25:=eN _ (by omega);exact dY (dh _ (dY (MT fs w c) h25)) h
 exact key cs _ (Xj h4)
theorem Uh(a b:bS):((a.rule==b.rule)&&(decide (a.facts=b.facts)&&decide (a.bind=b.bind)))=decide (a=b):=by
 cases a;cases b;rw[bp];simp
theorem a4B(a b:bS):rG a b=some (decide (a=b)):=by
 unfold rG;rw[LN,aA,YK,aA,<-Uh];cases a.rule==b.rule<;>cases decide (a.facts=b.facts)<;>rfl
theorem Pw{all:ai}:∀ {l:ai} {i:Nat},Ku all l i=true->∀r∈l,fP r=true
 | [],_,_,r,hr=>by cases hr
 |x::xs,i,h,r,hr=>by
  simp only[Ku,aS]at h;rcases bB.1 hr with rfl|hr
  ·exact h.1.1
  ·exact Pw h.2 r hr
theorem pZ{l:ai}(h:qp l=true):∀r∈l,fP r=true:=by
 unfold qp at h;simp only[aS]at h;exact Pw h.1
end Go.Cx
namespace Go.Cx
open Go.RowKit Go.Proofs Tryz
theorem K9:∀(a b:aG),a.Nodup->(∀x∈a,x∈b)->a.length<=b.length
 | [],b,_,_=>Dd _
 |x::xs,b,hn,hs=>by
  rw[dB]at hn;have h1:=K9 xs (b.erase x) hn.2 fun y hy=>(List.mem_erase_of_ne (fun e=>hn.1 (by rw[<-e];exact hy))).2 (hs y (by simp[hy]))
  have h2:=qL (hs x (by simp));have h3:0<b.length:=Bz (hs x (by simp));simp only[aV];omega
theorem I2{x:Bytes}(h:fR x=true):fQ x=false:=by
 cases hv:fQ x with
 |false=>rfl
 |true=>rw[oP hv]at h;cases h
theorem KH{r:aK}(h:fP r=true):(eY (yJ r.conds)).length<=6:=by
 unfold fP at h;simp only[aS,bD]at h;omega
theorem BK{c:aL}(hc:nF c=true)(hk:c.kind=1\/c.kind=2):xq c.pat=true/\c.left=[]/\c.right=[]:=by
 unfold nF at hc;have:(decide (c.kind=1)||decide (c.kind=2))=true:=by simpa using hk
 rw[this,aH]at hc;simp only[aS,cq]at hc;exact⟨hc.1,hc.2.1,hc.2.2⟩
theorem Li{c:aL}(hc:nF c=true)(h1:c.kind≠1)(h2:c.kind≠2):(decide (c.kind=3)||decide (c.kind=4)||decide (c.kind=5))=true/\Bu c.pat=true/\nj c.left=true/\nj c.right=true:=by
 unfold nF at hc;rw[bH h1,bH h2,sY,aQ]at hc;cases h:(decide (c.kind=3)||decide (c.kind=4)||decide (c.kind=5))with
 |false=>rw[h]at hc;cases hc
 |true=>
  rw[h,aH]at hc;simp only[aS]at hc;exact⟨rfl,hc.1,hc.2.1,hc.2.2⟩
theorem KT{p:Option aR}{b:aM}(h:nq p b=true):nq none b=true:=by
 cases b with
 |nil=>rfl
 |cons x xs=>
  rw[pq]at h⊢;simp only[aS]at h⊢
  first|exact⟨h.1,h.2.1,rfl,h.2.2.2⟩|exact⟨h.1,h.2.1,h.2.2.2⟩|exact⟨h.1,h.2.1,trivial,h.2.2.2⟩
theorem I5:∀ {b:aM} {p:aR},nq (some p) b=true->∀x∈b,Op.bytesLess p.var x.var=true
 |y::ys,p,h,x,hx=>by
  rw[pq]at h;simp only[aS]at h;rcases bB.1 hx with rfl|hx
  ·exact h.2.2.1
  ·exact xS h.2.2.1 (I5 h.2.2.2 x hx)
theorem KU:∀ {b:aM} {p:Option aR},nq p b=true->(b.map aR.var).Nodup
 | [],_,_=>by simp
 |x::xs,p,h=>by
  rw[pq]at h;simp only[aS]at h;rw[av,dB];refine⟨fun hm=>?_,KU h.2.2.2⟩;obtain⟨q,hq,e⟩:=bu.1 hm;have:=I5 h.2.2.2 q hq;rw[e,pO]at this;cases this
theorem tX{b:aM}(h:iH b=true):nq none b=true:=by
 unfold iH at h;rw[aS]at h;exact h.1
theorem BH:∀ {b:aM} {p:Option aR},nq p b=true->∀x∈b,fQ x.var=true/\fR x.value=true
 |y::ys,p,h,x,hx=>by
  rw[pq]at h;simp only[aS]at h;rcases bB.1 hx with rfl|hx
  ·exact⟨h.1,h.2.1⟩
  ·exact BH h.2.2.2 x hx
theorem NX:∀ {a b:aM},nq none a=true->nq none b=true->(∀v,dD v a=dD v b)->a=b
 | [],[],_,_,_=>rfl
 | [],y::ys,_,_,h=>by have:=h y.var;simp[dD]at this
 |x::xs,[],_,_,h=>by have:=h x.var;simp[dD]at this
 |x::xs,y::ys,ha,hb,h=>by
  have ha0:=ha;have hb0:=hb;rw[pq]at ha hb;simp only[aS]at ha hb;have key:∀ {u v:aR} {us vs:aM},nq (some u) us=true->nq (some v) vs=true->(∀t,dD t (u::us)=dD t (v::vs))->Op.bytesLess u.var v.var=false:=by
   intro u v us vs hu hv ht;cases hl:Op.bytesLess u.var v.var with
   |false=>rfl
   |true=>
    have h1:=ht u.var;rw[show dD u.var (u::us)=some u.value by simp[dD]]at h1;obtain⟨q,hq,e,_⟩:=xC h1.symm;rcases bB.1 hq with rfl|hq
    ·rw[e,pO]at hl;cases hl
    ·have:=xS hl (I5 hv q hq);rw[e,pO]at this;cases this
  have e1:=key ha.2.2.2 hb.2.2.2 h;have e2:=key hb.2.2.2 ha.2.2.2 (fun t=>(h t).symm);have ev:x.var=y.var:=Dj e1 e2;have e3:x.value=y.value:=by
   have:=h x.var;rw[show dD x.var (x::xs)=some x.value by simp[dD],show dD x.var (y::ys)=some y.value by simp[dD,ev]]at this;exact pM this
  have e4:x=y:=by cases x;cases y;cases ev;cases e3;rfl
  subst e4
  congr 1
  refine NX (KT ha.2.2.2) (KT hb.2.2.2) fun v=>?_
  by_cases hv:x.var=v
  ·have n1:∀ {l:aM},nq (some x) l=true->dD v l=none:=by
    intro l hl;cases hf:dD v l with
    |none=>rfl
    |some o=>
     obtain⟨q,hq,e,_⟩:=xC hf;have:=I5 hl q hq;rw[hv,e,pO]at this;cases this
   rw[n1 ha.2.2.2,n1 hb.2.2.2]
  ·have:=h v;have hne:(x.var==v)=false:=by rw[cy];exact hv
   rw[dD,dD,hne,aQ,aQ]at this;exact this
structure WB(U:List Bytes)(b:List aR):Prop where
 ok:iH b=true
 sub:∀p∈b,p.var∈U
theorem WB.nil(U:aG):WB U []:=⟨rfl,fun p h=>by cases h⟩
theorem WB.room{U:aG}(hU:U.length<=6){b:aM}(h:WB U b){x:Bytes}(hx:x∈U)(hf:dD x b=none):b.length≠6:=by
 have h1:(x::b.map aR.var).length<=U.length:=K9 _ _ (by
  rw[dB];refine⟨fun hm=>?_,KU (tX h.ok)⟩;obtain⟨p,hp,e⟩:=bu.1 hm;exact Lu hf p hp e) (fun y hy=>by
  rcases bB.1 hy with rfl|hy
  ·exact hx
  ·obtain⟨p,hp,rfl⟩:=bu.1 hy;exact h.sub p hp)
 simp only[aV,ax]at h1;omega
theorem WB.set{U:aG}(hU:U.length<=6){b:aM}(h:WB U b){x y:Bytes}(hx:x∈U)(hv:fQ x=true)(ha:fR y=true)(hf:dD x b=none):WB U (vz x y b):=
 ⟨Dh hv ha h.ok hf (h.room hU hx hf),fun p hp=>by
  rcases R7 x y b hp with e|e
  ·rw[e];exact hx
  ·exact h.sub p e⟩
theorem WB.ext{U:aG}{a b:aM}(ha:WB U a)(hb:WB U b)(h:∀v,dD v a=dD v b):a=b:=NX (tX ha.ok) (tX hb.ok) h
theorem Zl{U:aG}(hU:U.length<=6){b:aM}(h:WB U b){x y:Bytes}(hx:x∈U)(hv:fQ x=true):xB b x y=if fR y=true then(match dD x b with|some o=>bif o==y then(b,true)else([],false)|none=>(vz x y b,true))else([],false):=by
 unfold xB;rw[h.ok,hv];simp only[fC];cases ha:fR y with
 |false=>rfl
 |true=>
  rw[aH,bK rfl];cases hf:dD x b with
  |some o=>rfl
  |none=>dsimp only;rw[bH (h.room hU hx hf),aQ]
def Says(h:Bytes->Bytes)(b:aM):Prop:=∀v o,dD v b=some o->h v=o
theorem uM{x y v:Bytes}{b:aM}(hf:dD x b=none):dD v (vz x y b)=if v=x then some y else dD v b:=by
 by_cases e:v=x
 ·subst e;rw[bK rfl,Bg _ hf]
 ·rw[az e,uN (fun e2=>e e2.symm)]
theorem XX{U:aG}(hU:U.length<=6):∀(l r:aG) (b:aM),WB U b->(∀x∈l,nj x=true)->(∀x∈l,fQ x=true->x∈U)->(∀y∈r,fR y=true)->l.length=r.length->
 ((sV l r b).2=true↔∃h,Says h b/\Fix h/\r=l.map h)/\((sV l r b).2=true->WB U (sV l r b).1/\∀v o,(dD v (sV l r b).1=some o↔dD v b=some o\/(v∈l/\fQ v=true/\∀h,Says h b->Fix h->r=l.map h->h v=o))):=by
 intro l
 induction l with
 |nil=>
  intro r b hb _ _ _ hl;have hr:r=[]:=by cases r with|nil=>rfl|cons _ _=>simp at hl
  subst hr;refine⟨⟨fun _=>?_,fun _=>rfl⟩,fun _=>⟨hb,fun v o=>⟨fun h=>.inl h,fun h=>?_⟩⟩⟩
  ·refine⟨fun y=>(dD y b).getD y,fun v o ho=>by simp[ho],fun y hy=>?_,rfl⟩;cases hf:dD y b with
   |none=>simp[hf]
   |some o=>
    obtain⟨p,hp,h1,_⟩:=xC hf;have:=(BH (tX hb.ok) p hp).1;rw[h1]at this;rw[oP this]at hy;cases hy
  ·rcases h with h|⟨h,_⟩
   ·exact h
   ·cases h
 |cons x xs ih=>
  intro r b hb ht hv LH hl;cases r with
  |nil=>simp at hl
  |cons y ys=>
   have ht':∀z∈xs,nj z=true:=fun z hz=>ht z (by simp[hz])
   have Z4:∀z∈xs,fQ z=true->z∈U:=fun z hz=>hv z (by simp[hz])
   have ha':∀z∈ys,fR z=true:=fun z hz=>LH z (by simp[hz])
   have hl':xs.length=ys.length:=by simpa using hl
   have hay:=LH y (by simp);cases hx:fR x with
   |true=>
    have Te:=I2 hx;cases hxy:x==y with
    |false=>
     have e:sV (x::xs) (y::ys) b=([],false):=by simp only[sV,hx,hxy,aH,aQ]
     rw[e];refine⟨⟨fun h=>(by cases h),?_⟩,fun h=>(by cases h)⟩;rintro⟨h,_,h2,h3⟩;rw[av,h2 x hx]at h3;have:x=y:=(kr h3).1.symm;rw[this]at hxy;simp at hxy
    |true=>
     have exy:x=y:=by simpa using hxy
     have e:sV (x::xs) (y::ys) b=sV xs ys b:=by simp only[sV,hx,hxy,aH]
     rw[e];obtain⟨i1,i2⟩:=ih ys b hb ht' Z4 ha' hl';have hh:∀h:Bytes->Bytes,Fix h->(y::ys=(x::xs).map h↔ys=xs.map h):=by
      intro h hf;rw[av,hf x hx,exy];exact⟨fun q=>(kr q).2,fun q=>by rw[<-q]⟩
     refine⟨⟨fun h=>?_,?_⟩,fun h=>?_⟩
     ·obtain⟨g,g1,g2,g3⟩:=i1.1 h;exact⟨g,g1,g2,(hh g g2).2 g3⟩
     ·rintro⟨g,g1,g2,g3⟩;exact i1.2 ⟨g,g1,g2,(hh g g2).1 g3⟩
     ·obtain⟨k1,k2⟩:=i2 h;refine⟨k1,fun v o=>(k2 v o).trans ⟨?_,?_⟩⟩
      ·rintro(q|⟨q1,q2,q3⟩)
       ·exact .inl q
       ·exact .inr ⟨by simp[q1],q2,fun g g1 g2 g3=>q3 g g1 g2 ((hh g g2).1 g3)⟩
      ·rintro(q|⟨q1,q2,q3⟩)
       ·exact .inl q
       ·rcases bB.1 q1 with rfl|q1
        ·rw[Te]at q2;cases q2
        ·exact .inr ⟨q1,q2,fun g g1 g2 g3=>q3 g g1 g2 ((hh g g2).2 g3)⟩
   |false=>
    have Te:fQ x=true:=by have:=ht x (by simp);unfold nj at this;rw[hx]at this;simpa using this
    have hxU:=hv x (by simp) Te;have ee:=Zl hU hb (y:=y) hxU Te;rw[bK hay]at ee;cases hf:dD x b with
    |some o=>
     rw[hf]at ee;dsimp only at ee;cases ho:o==y with
     |false=>
      rw[ho,aQ]at ee;have e:sV (x::xs) (y::ys) b=([],false):=by simp only[sV,hx,aQ,ee]
      rw[e];refine⟨⟨fun h=>(by cases h),?_⟩,fun h=>(by cases h)⟩;rintro⟨h,h1,h2,h3⟩;rw[av,h1 x o hf]at h3;have:o=y:=(kr h3).1.symm;rw[this]at ho;simp at ho
     |true=>
      have eo:o=y:=by simpa using ho
      rw[ho,aH]at ee;have e:sV (x::xs) (y::ys) b=sV xs ys b:=by simp only[sV,hx,aQ,ee,aH]
      rw[e];obtain⟨i1,i2⟩:=ih ys b hb ht' Z4 ha' hl';have hh:∀h:Bytes->Bytes,Says h b->(y::ys=(x::xs).map h↔ys=xs.map h):=by
       intro h h1;rw[av,h1 x o hf,eo];exact⟨fun q=>(kr q).2,fun q=>by rw[<-q]⟩
      refine⟨⟨fun h=>?_,?_⟩,fun h=>?_⟩
      ·obtain⟨g,g1,g2,g3⟩:=i1.1 h;exact⟨g,g1,g2,(hh g g1).2 g3⟩
      ·rintro⟨g,g1,g2,g3⟩;exact i1.2 ⟨g,g1,g2,(hh g g1).1 g3⟩
      ·obtain⟨k1,k2⟩:=i2 h;refine⟨k1,fun v q=>(k2 v q).trans ⟨?_,?_⟩⟩
       ·rintro(q1|⟨q1,q2,q3⟩)
        ·exact .inl q1
        ·exact .inr ⟨by simp[q1],q2,fun g g1 g2 g3=>q3 g g1 g2 ((hh g g1).1 g3)⟩
       ·rintro(q1|⟨q1,q2,q3⟩)
        ·exact .inl q1
        ·rcases bB.1 q1 with rfl|q1
         ·obtain⟨g,g1,g2,g3⟩:=i1.1 h;have:=q3 g g1 g2 ((hh g g1).2 g3);rw[g1 v o hf]at this;subst this;exact .inl hf
         ·exact .inr ⟨q1,q2,fun g g1 g2 g3=>q3 g g1 g2 ((hh g g1).2 g3)⟩
    |none=>
     rw[hf]at ee;dsimp only at ee;have e:sV (x::xs) (y::ys) b=sV xs ys (vz x y b):=by simp only[sV,hx,aQ,ee,aH]
     rw[e];obtain⟨i1,i2⟩:=ih ys (vz x y b) (hb.set hU hxU Te hay hf) ht' Z4 ha' hl';have hs:∀h:Bytes->Bytes,Says h (vz x y b)↔Says h b/\h x=y:=by
      intro h;constructor
      ·intro q;refine⟨fun v o ho=>q v o ?_,q x y (Bg _ hf)⟩;rw[uM hf,az (fun e=>by rw[e,hf]at ho;cases ho)];exact ho
      ·rintro⟨q1,q2⟩ v o ho;rw[uM hf]at ho;by_cases e:v=x
       ·rw[bK e]at ho;cases ho;rw[e];exact q2
       ·rw[az e]at ho;exact q1 v o ho
     have hh:∀h:Bytes->Bytes,(y::ys=(x::xs).map h↔h x=y/\ys=xs.map h):=by
      intro h;rw[av];exact⟨fun q=>⟨(kr q).1.symm,(kr q).2⟩,fun q=>by rw[q.1,<-q.2]⟩
     refine⟨⟨fun h=>?_,?_⟩,fun h=>?_⟩
     ·obtain⟨g,g1,g2,g3⟩:=i1.1 h;obtain⟨g1,g4⟩:=(hs g).1 g1;exact⟨g,g1,g2,(hh g).2 ⟨g4,g3⟩⟩
     ·rintro⟨g,g1,g2,g3⟩;obtain⟨g4,g3⟩:=(hh g).1 g3;exact i1.2 ⟨g,(hs g).2 ⟨g1,g4⟩,g2,g3⟩
     ·obtain⟨k1,k2⟩:=i2 h;refine⟨k1,fun v q=>(k2 v q).trans ⟨?_,?_⟩⟩
      ·rintro(q1|⟨q1,q2,q3⟩)
       ·rw[uM hf]at q1;by_cases ev:v=x
        ·rw[bK ev]at q1;cases q1;refine .inr ⟨by simp[ev],by rw[ev];exact Te,fun g g1 g2 g3=>by rw[ev];exact((hh g).1 g3).1⟩
        ·rw[az ev]at q1;exact .inl q1
       ·refine .inr ⟨by simp[q1],q2,fun g g1 g2 g3=>?_⟩;obtain⟨g4,g3⟩:=(hh g).1 g3;exact q3 g ((hs g).2 ⟨g1,g4⟩) g2 g3
      ·rintro(q1|⟨q1,q2,q3⟩)
       ·left
        rw[uM hf,az (fun e=>by rw[e,hf]at q1;cases q1)];exact q1
       ·by_cases ev:v=x
        ·left
         obtain⟨g,g1,g2,g3⟩:=i1.1 h;obtain⟨g1,g4⟩:=(hs g).1 g1;have:=q3 g g1 g2 ((hh g).2 ⟨g4,g3⟩);rw[ev,g4]at this;rw[uM hf,bK ev,this]
        ·rcases bB.1 q1 with q1|q1
         ·exact absurd q1 ev
         ·refine .inr ⟨q1,q2,fun g g1 g2 g3=>?_⟩;obtain⟨g1,g4⟩:=(hs g).1 g1;exact q3 g g1 g2 ((hh g).2 ⟨g4,g3⟩)
def Fits(p f:aD)(h:Bytes->Bytes):Prop:=oB f=true/\p.rel=f.rel/\f.args=p.args.map h
theorem XY{U:aG}(hU:U.length<=6){p f:aD}{b:aM}(hb:WB U b)(hp:xq p=true)(hv:∀x∈p.args,fQ x=true->x∈U):
 ((nN p f b).2=true↔∃h,Says h b/\Fix h/\Fits p f h)/\((nN p f b).2=true->WB U (nN p f b).1/\∀v o,(dD v (nN p f b).1=some o↔dD v b=some o\/(v∈p.args/\fQ v=true/\∀h,Says h b->Fix h->Fits p f h->h v=o))):=by
 cases hc:xq p&&(oB f&&(iH b&&(p.rel==f.rel&&decide (p.args.length=f.args.length))))with
 |false=>
  have e:nN p f b=([],false):=by unfold nN;rw[hc];rfl
  rw[e];refine⟨⟨fun h=>(by cases h),?_⟩,fun h=>(by cases h)⟩;rintro⟨h,_,_,h1,h2,h3⟩;rw[hp,h1,hb.ok,h2,qo,ay (by rw[h3];simp)]at hc;cases hc
 |true=>
  have e:nN p f b=sV p.args f.args b:=by unfold nN;rw[hc];rfl
  simp only[aS,cq,bD]at hc;obtain⟨_,c2,_,c4,c5⟩:=hc;have LH:∀y∈f.args,fR y=true:=by
   unfold oB at c2;rw[aS]at c2;exact aj.1 c2.1
  obtain⟨i1,i2⟩:=XX hU p.args f.args b hb (PR hp) hv LH c5;rw[e];have hf:∀h,Fits p f h↔f.args=p.args.map h:=fun h=>⟨fun q=>q.2.2,fun q=>⟨c2,c4,q⟩⟩
  refine⟨⟨fun h=>?_,?_⟩,fun h=>?_⟩
  ·obtain⟨g,g1,g2,g3⟩:=i1.1 h;exact⟨g,g1,g2,(hf g).2 g3⟩
  ·rintro⟨g,g1,g2,g3⟩;exact i1.2 ⟨g,g1,g2,(hf g).1 g3⟩
  ·obtain⟨k1,k2⟩:=i2 h;refine⟨k1,fun v o=>(k2 v o).trans ⟨?_,?_⟩⟩
   ·rintro(q|⟨q1,q2,q3⟩)
    ·exact .inl q
    ·exact .inr ⟨q1,q2,fun g g1 g2 g3=>q3 g g1 g2 ((hf g).1 g3)⟩
   ·rintro(q|⟨q1,q2,q3⟩)
    ·exact .inl q
    ·exact .inr ⟨q1,q2,fun g g1 g2 g3=>q3 g g1 g2 ((hf g).2 g3)⟩
theorem Ll{r:aK}:∀ {pre rest:ah} {c:aL} {i:Nat},rX r (pre++c::rest) i=true->nF c=true/\(i+pre.length=0->c.kind=1)/\∀v∈pu c,L4 r (i+pre.length) c v=true
 | [],rest,c,i,h=>by
  rw[cw]at h;unfold rX at h;rw[NV]at h;simp only[aS,nk,nR,nU,bD]at h;refine⟨h.1.1.1,fun e=>?_,fun v hv=>aj.1 h.1.2 v hv⟩;rcases h.1.1.2 with q|q
  ·exact absurd (by simpa using e) q
  ·exact q
 |x::pre,rest,c,i,h=>by
  rw[qm]at h;unfold rX at h;rw[aS]at h;have:=Ll h.2;rw[aV,show i+(pre.length+1)=i+1+pre.length by omega];exact this
theorem PD{r:aK}(h:fP r=true):rX r r.conds 0=true:=by
 unfold fP at h;simp only[aS]at h;exact h.2.1
end Go.Cx
namespace Go.Cx
open Go.RowKit Go.Proofs Tryz
def T5(sh:aD):bN->Nat->Option Nat
 | [],_=>none
 |x::xs,i=>if x.shape=sh then some i else T5 sh xs (i+1)
def Re(al:bN)(sh:aD):bN×Int:=match T5 sh al 0 with
 |some i=>(al,dG i)
 |none=>(al++[⟨sh,[]⟩],dG al.length)
theorem Kq{n:Nat}(h:n<=1099511627776):IntKind.i64.wrap (((n+1:Nat):Int)-1)=dG n:=by
 unfold dG;rw[eM (pN.i64.2 (by omega))];omega
theorem a9V(n:aI)(sh:aD)(k:Option (aI×Int)):∀(l:bN) (i:Nat),lM n sh k l i=match T5 sh l i with|some j=>some (n,dG j)|none=>k:=by
 intro l
 induction l with
 |nil=>intro i;rfl
 |cons x l ih=>
  intro i;rw[lM,Sf,aA,ih,T5];by_cases h:x.shape=sh
  ·rw[ay h,aH,bK h];rfl
  ·rw[bH h,aQ,az h]
theorem sAl(n:aI)(sh:aD)(h:n.bE.length<=1048576):rJ n sh=some (⟨n.rules,n.ends,(Re n.bE sh).1,n.nodes,n.facts,n.cG⟩,(Re n.bE sh).2):=by
 unfold rJ;rw[sU (by omega),aH,a9V,ic (by omega) (by decide),aH];unfold Re;cases T5 sh n.bE 0 with
 |some j=>rfl
 |none=>
  dsimp only;rw[show((n.bE.map aZ.c)++[[D.str sh.rel,D.sl (sh.args.map tx),D.sl []]]).length=n.bE.length+1 by simp,Kq (by omega)]
theorem a9D(n:aI)(sh:aD)(k:Option (aI×Int)):∀(l:bN) (i:Nat),ed n sh k l i=match T5 sh l i with|some j=>some (n,dG j)|none=>k:=by
 intro l
 induction l with
 |nil=>intro i;rfl
 |cons x l ih=>
  intro i;rw[ed,MA,aA,ih,T5];by_cases h:x.shape=sh
  ·rw[ay h,aH,bK h];rfl
  ·rw[bH h,aQ,az h]
theorem iAl(n:aI)(sh:aD)(h:n.bE.length<=1048576):iI n sh=some (⟨n.rules,n.ends,(Re n.bE sh).1,n.nodes,n.facts,n.cG⟩,(Re n.bE sh).2):=by
 unfold iI;rw[sU (by omega),aH,a9D,ic (by omega) (by decide),aH];unfold Re;cases T5 sh n.bE 0 with
 |some j=>rfl
 |none=>
  dsimp only;rw[show((n.bE.map aZ.c)++[[D.str sh.rel,D.sl (sh.args.map tx),D.sl []]]).length=n.bE.length+1 by simp,Kq (by omega)]
def Ms(p:Int)(c:aL):bL->Nat->Option Nat
 | [],_=>none
 |x::xs,i=>if 0<i/\x.parent=p/\x.cond=c then some i else Ms p c xs (i+1)
def Mr(al:bN)(c:aL):bN×Int:=if c.kind=1\/c.kind=2 then Re al (vW c.pat)else(al, -1)
def Hq(al:bN)(ns:bL)(p:Int)(c:aL):(bN×bL)×Int:=match Ms p c ns 0 with
 |some i=>((al,ns),dG i)
 |none=>(((Mr al c).1,ns++[⟨p,c,(Mr al c).2,[]⟩]),dG ns.length)
theorem Q8(p:Int)(c:aL)(ns:bL):Ms p c ns 0=Ms p c (ns.drop 1) 1:=by
 cases ns with
 |nil=>rfl
 |cons x ns=>rw[Ms,az (fun h=>by omega)];rfl
def Un(n:aI)(z:(bN×bL)×Int):aI×Int:=(⟨n.rules,n.ends,z.1.1,z.1.2,n.facts,n.cG⟩,z.2)
theorem a9X(n:aI)(p:Int)(c:aL)(k:Option (aI×Int))(hn:n.nodes.length<=1048576):∀(d v fu:Nat),v+d=n.nodes.length+1->1<=v->d<fu->gQ n p c k fu (v:Int)=match Ms p c (n.nodes.drop v) v with|some j=>some (n,dG j)|none=>k:=by
 intro d
 induction d with
 |zero=>
  intro v fu hv h1 hf;obtain⟨fu,rfl⟩:∃m,fu=m+1:=⟨fu-1,by omega⟩
  rw[gQ,ax,bH (by omega),aQ,rS (by omega)];rfl
 |succ d ih=>
  intro v fu hv h1 hf;obtain⟨fu,rfl⟩:∃m,fu=m+1:=⟨fu-1,by omega⟩
  by_cases hl:v<n.nodes.length
  ·have hx:n.nodes[v]?=some n.nodes[v]:=aa hl;have e3:hO n.nodes (v:Int)=some n.nodes[v]:=by unfold hO;rw[ay (by omega),aH];exact hx
   rw[uU hl,Ms,gQ,ax,ay (by omega),aH,e3,aA,JK (by omega),ih (v+1) fu (by omega) (by omega) (by omega),YL,aA];generalize n.nodes[v]=x;by_cases hp:x.parent=p
   ·rw[show((x.parent:Int)==p)=true by simp[hp],aH];by_cases hc:x.cond=c
    ·rw[ay hc,aH,bK ⟨by omega,hp,hc⟩];rfl
    ·rw[bH hc,aQ,az (fun h=>hc h.2.2)]
   ·rw[show((x.parent:Int)==p)=false by simp[hp],aQ,az (fun h=>hp h.2.1)]
  ·rw[gQ,ax,bH (by omega),aQ,rS (by omega)];rfl
theorem sCh(n:aI)(p:Int)(c:aL)(hn:n.nodes.length<=1048576)(ha:n.bE.length<=1048576)(hc:c.wt<=1048576):tj n p c=some (Un n (Hq n.bE n.nodes p c)):=by
 have hp:=aL.fY hc;have hargs:=aD.dK hp;unfold tj;have e:=a9X n p c;rw[show(1:Int)=((1:Nat):Int)from rfl,e _ hn n.nodes.length 1 fuel (by omega) (bR _) (by unfold fuel;omega),<-Q8,PF c (by omega),aA,a4E c.pat hp,aA,sAl n _ ha,aA];unfold Hq Mr Un;cases Ms p c n.nodes 0 with
 |some j=>rfl
 |none=>
  dsimp only;rw[ic (by omega) (by decide),aH];by_cases h1:c.kind=1
  ·rw[show((c.kind:Int)==((1:Nat):Int))=true by simp[h1],aH,bK (.inl h1)];simp[Kq,hn,show n.nodes.length<=1099511627776 by omega]
   first|done| (unfold dG;rw[eM (pN.i64.2 (by omega))])
  ·rw[show((c.kind:Int)==((1:Nat):Int))=false by simp[h1],aQ];by_cases h2:c.kind=2
   ·rw[show((c.kind:Int)==(2:Int))=true by simp[h2],aH,bK (.inr h2)];simp[Kq,hn,show n.nodes.length<=1099511627776 by omega]
    first|done| (unfold dG;rw[eM (pN.i64.2 (by omega))])
   ·rw[show((c.kind:Int)==(2:Int))=false by simp[h2],aQ,az (by omega)]
    first|rw[ic (by omega) (by decide),aH]|rw[aA,ic (by omega) (by decide),aH]|skip
    simp[Kq,hn,show n.nodes.length<=1099511627776 by omega]
    first|done| (unfold dG;rw[eM (pN.i64.2 (by omega))])
theorem a9F(n:aI)(p:Int)(c:aL)(k:Option (aI×Int)):∀(l:bL) (i:Nat),dF n p c k l i=match Ms p c l i with|some j=>some (n,dG j)|none=>k:=by
 intro l
 induction l with
 |nil=>intro i;rfl
 |cons x l ih=>
  intro i;rw[dF,Ms,ih,Ol,aA];by_cases hi:0<i
  ·rw[ay (by omega),aH];by_cases hp:x.parent=p
   ·rw[show((x.parent:Int)==p)=true by simp[hp],aH];by_cases hc:x.cond=c
    ·rw[ay hc,aH,bK ⟨hi,hp,hc⟩];rfl
    ·rw[bH hc,aQ,az (fun h=>hc h.2.2)]
   ·rw[show((x.parent:Int)==p)=false by simp[hp],aQ,az (fun h=>hp h.2.1)]
  ·rw[bH (by omega),aQ,az (fun h=>hi h.1)]
theorem iCh(n:aI)(p:Int)(c:aL)(hn:n.nodes.length<=1048576)(ha:n.bE.length<=1048576)(hc:c.wt<=1048576):kB n p c=some (Un n (Hq n.bE n.nodes p c)):=by
 have hp:=aL.fY hc;have hargs:=aD.dK hp;unfold kB;rw[sU (by omega),aH,a9F,Oi c (by omega),a3Q c.pat hp,aA,iAl n _ ha,aA,aA];unfold Hq Mr Un;cases Ms p c n.nodes 0 with
 |some j=>rfl
 |none=>
  dsimp only;rw[ic (by omega) (by decide),aH];by_cases h1:c.kind=1
  ·rw[show((c.kind:Int)==(1:Int))=true by simp[h1],aH,bK (.inl h1)];simp[Kq,hn,show n.nodes.length<=1099511627776 by omega]
   first|done| (unfold dG;rw[eM (pN.i64.2 (by omega))])
  ·rw[show((c.kind:Int)==(1:Int))=false by simp[h1],aQ];by_cases h2:c.kind=2
   ·rw[show((c.kind:Int)==(2:Int))=true by simp[h2],aH,bK (.inr h2)];simp[Kq,hn,show n.nodes.length<=1099511627776 by omega]
    first|done| (unfold dG;rw[eM (pN.i64.2 (by omega))])
   ·rw[show((c.kind:Int)==(2:Int))=false by simp[h2],aQ,az (by omega)]
    first|rw[ic (by omega) (by decide),aH]|rw[aA,ic (by omega) (by decide),aH]|skip
    simp[Kq,hn,show n.nodes.length<=1099511627776 by omega]
    first|done| (unfold dG;rw[eM (pN.i64.2 (by omega))])
def DZ(s:(bN×bL)×Int)(c:aL):(bN×bL)×Int:=Hq s.1.1 s.1.2 s.2 c
def FF(z:(bN×bL)×bJ)(r:aK):(bN×bL)×bJ:=(((eP r).foldl DZ (z.1,0)).1,z.2++[((eP r).foldl DZ (z.1,0)).2])
def root(tk:ar):Node:=⟨-1,⟨0,⟨[],[]⟩,[],[]⟩, -1,tk⟩
def cm(tk:ar)(rs:ai):(bN×bL)×bJ:=rs.foldl FF (([],[root tk]),[])
theorem ZN(al:bN)(sh:aD):(Re al sh).1.length<=al.length+1:=by
 unfold Re;cases T5 sh al 0<;>simp
theorem ZX(al:bN)(c:aL):(Mr al c).1.length<=al.length+1:=by
 unfold Mr;by_cases h:c.kind=1\/c.kind=2
 ·rw[bK h];exact ZN _ _
 ·rw[az h];exact Nat.le_succ _
theorem OR(al:bN)(ns:bL)(p:Int)(c:aL):(Hq al ns p c).1.1.length<=al.length+1/\(Hq al ns p c).1.2.length<=ns.length+1:=by
 unfold Hq;cases Ms p c ns 0 with
 |some i=>exact⟨Nat.le_succ _,Nat.le_succ _⟩
 |none=>exact⟨ZX _ _,by simp⟩
theorem FE:∀(cs:ah) (s:(bN×bL)×Int),(cs.foldl DZ s).1.1.length<=s.1.1.length+cs.length/\(cs.foldl DZ s).1.2.length<=s.1.2.length+cs.length
 | [],s=>⟨bR _,bR _⟩
 |c::cs,s=>by
  have h1:=OR s.1.1 s.1.2 s.2 c;have h2:=FE cs (DZ s c);have h3:(DZ s c).1.1.length<=s.1.1.length+1/\(DZ s c).1.2.length<=s.1.2.length+1:=h1;rw[cJ,aV];omega
theorem a6s(a:ai)(i:Nat)(y:ah)(k:Int->Int->ai->bJ->bN->bL->aJ->Option (aI×Bool)):∀(cs:ah) (j:Nat) (v u:Int) (w3:ai) (w4:bJ) (al:bN) (ns:bL) (w7:aJ),(∀c∈cs,c.wt<=1048576)->al.length+cs.length<=1048576->ns.length+cs.length<=1048576->
 gb a i y k cs j v u w3 w4 al ns w7=k (cs.foldl DZ ((al,ns),v)).2 u w3 w4 (cs.foldl DZ ((al,ns),v)).1.1 (cs.foldl DZ ((al,ns),v)).1.2 w7:=by
 intro cs
 induction cs with
 |nil=>intros;rfl
 |cons c cs ih=>
  intro j v u w3 w4 al ns w7 hc ha hn;simp only[aV]at ha hn;have h1:=OR al ns v c;rw[gb,sCh _ v c (show ns.length<=1048576 by omega) (show al.length<=1048576 by omega) (hc c (by simp)),aA];unfold Un;dsimp only;rw[ih _ _ _ _ _ _ _ _ (fun x hx=>hc x (by simp[hx])) (by omega) (by omega)];rfl
theorem a61(a:ai)(i:Nat)(y:ah)(k:Int->Int->ai->bJ->bN->bL->aJ->Option aI):∀(cs:ah) (j:Nat) (v u:Int) (w3:ai) (w4:bJ) (al:bN) (ns:bL) (w7:aJ),(∀c∈cs,c.wt<=1048576)->al.length+cs.length<=1048576->ns.length+cs.length<=1048576->
 jJ a i y k cs j v u w3 w4 al ns w7=k (cs.foldl DZ ((al,ns),v)).2 u w3 w4 (cs.foldl DZ ((al,ns),v)).1.1 (cs.foldl DZ ((al,ns),v)).1.2 w7:=by
 intro cs
 induction cs with
 |nil=>intros;rfl
 |cons c cs ih=>
  intro j v u w3 w4 al ns w7 hc ha hn;simp only[aV]at ha hn;have h1:=OR al ns v c;rw[jJ,iCh _ v c (show ns.length<=1048576 by omega) (show al.length<=1048576 by omega) (hc c (by simp)),aA];unfold Un;dsimp only;rw[ih _ _ _ _ _ _ _ _ (fun x hx=>hc x (by simp[hx])) (by omega) (by omega)];rfl
theorem Jy:∀(ts:aG) (N:aM) {p:aR},p∈ts.foldl lN N->p∈N\/(p.var∈ts/\fQ p.var=true)
 | [],_,_,h=>.inl h
 |t::ts,N,p,h=>by
  rcases Jy ts (lN N t) h with h1|h1
  ·unfold lN at h1;cases hv:fQ t&& !Ea N t with
   |false=>rw[hv]at h1;exact .inl h1
   |true=>
    rw[hv,aH]at h1;simp only[aS]at hv;rcases af.1 h1 with h2|h2
    ·exact .inl h2
    ·rw[cA.1 h2];exact .inr ⟨by simp,hv.1⟩
  ·exact .inr ⟨by simp[h1.1],h1.2⟩
theorem A6{l:ah}{v:Bytes}:v∈yJ l↔v∈vX l/\fQ v=true:=by
 unfold yJ vX pu jF;simp only[bg,gA];constructor
 ·rintro⟨c,hc,hm,hv⟩;exact⟨⟨c,hc,hm⟩,hv⟩
 ·rintro⟨⟨c,hc,hm⟩,hv⟩;exact⟨c,hc,hm,hv⟩
theorem K8{r:aK}(h:fP r=true):(gN r).length<=6:=by
 have h1:((gN r).map aR.var).length<=(eY (yJ r.conds)).length:=by
  refine K9 _ _ (Bm _ RS.nil) fun x hx=>?_
  obtain⟨p,hp,rfl⟩:=bu.1 hx;rcases Jy _ _ hp with h1|h1
  ·cases h1
  ·exact oq.2 (A6.2 h1)
 rw[ax]at h1;exact dY h1 (KH h)
theorem El{r:aK}(h:fP r=true){v:Bytes}(hv:v∈yJ r.conds):∃i p,i<6/\(gN r)[i]?=some p/\p.var=v/\Cq (gN r) v=nmB i:=by
 obtain⟨ht,GS⟩:=A6.1 hv;obtain⟨p,hp,he⟩:=QK _ [] ht GS;have hp':p∈gN r:=hp;obtain⟨i,hi,M3,hval,_⟩:=PY (JJ _ Vn.nil) hp';refine⟨i,p,by have:=K8 h;unfold gN at this;omega,M3,he,?_⟩;rw[<-he];exact(LM (N:=gN r) (Bm (vX r.conds) RS.nil) hp').trans hval
theorem JD{r:aK}(h:fP r=true){x:Bytes}(hx:x.length<=16)(hV:fQ x=true->x∈yJ r.conds):(Cq (gN r) x).length<=16:=by
 cases hv:fQ x with
 |false=>rw[show Cq (gN r) x=x from Qn hv];exact hx
 |true=>
  obtain⟨i,p,hi,_,_,e⟩:=El h (hV hv);rw[e];exact Tm i hi
theorem LR:∀(l:aG),(∀x∈l,x.length<=16)->rP tw l<=17*l.length
 | [],_=>by simp[rP]
 |x::l,h=>by
  have h1:=LR l fun y hy=>h y (by simp[hy])
  have h2:=h x (by simp);rw[oG,aV];unfold tw at*;omega
theorem Mk{t:Bytes}(h:nj t=true):t.length<=16:=by have:=V3 h;omega
theorem Lj{c:aL}(h:nF c=true):c.pat.rel.length<=8/\c.pat.args.length<=3/\(∀x∈c.pat.args,x.length<=16)/\c.left.length<=16/\c.right.length<=16:=by
 by_cases hk:c.kind=1\/c.kind=2
 ·obtain⟨hp,hl,hr⟩:=BK h hk;have ht:=PR hp;unfold xq at hp;simp only[aS,bD]at hp;have:=Nu hp.2.1;rw[hl,hr];exact⟨by omega,by omega,fun x hx=>Mk (ht x hx),by simp,by simp⟩
 ·obtain⟨_,hz,hl,hr⟩:=Li h (fun e=>hk (.inl e)) (fun e=>hk (.inr e));unfold Bu at hz;simp only[aS,cq,bD]at hz;have h0:c.pat.args=[]:=cZ (by omega);rw[hz.1,h0];exact⟨by simp,by simp,fun x hx=>(by cases hx),Mk hl,Mk hr⟩
theorem Ep{r:aK}(h:fP r=true):∀c∈eP r,c.wt<=1048576:=by
 intro c' Zo;obtain⟨c,hc,rfl⟩:=bu.1 Zo;obtain⟨h1,h2,h3,h4,h5⟩:=Lj (Ae h c hc);have hV:∀x∈c.pat.args++[c.left,c.right],fQ x=true->x∈yJ r.conds:=fun x hx hv=>A6.2 ⟨bg.2 ⟨c,hc,hx⟩,hv⟩
 have a1:(Cq (gN r) c.left).length<=16:=JD h h4 (hV _ (by simp));have a2:(Cq (gN r) c.right).length<=16:=JD h h5 (hV _ (by simp));have a3:=LR (c.pat.args.map (Cq (gN r))) (fun x hx=>by
  obtain⟨y,hy,rfl⟩:=bu.1 hx;exact JD h (h3 y hy) (hV y (by simp[hy])))
 rw[ax]at a3;unfold Mc aL.wt;dsimp only;unfold tw at*;omega
theorem xG{r:aK}(h:fP r=true):(eP r).length<=4:=by unfold eP;rw[ax];exact Uy h
theorem T4{r:aK}{n:Nat}(h:r.wt<=n){a:Action}(ha:a∈r.cg):a.pat.args.length<=n:=by
 have h1:=aK.Hz h;have h2:=qK (w:=Action.wt) ha;have h3:=qk tw a.pat.args;simp only[Action.wt]at h2;omega
theorem Y5(p:aD)(h:p.args.length<=1099511627770):eV p=some p:=by
 unfold eV;rw[YP p.args (by omega)];rfl
theorem X7(p:aD)(h:p.args.length<=1099511627770):eD p=some p:=by
 unfold eD;rw[On p.args (by omega)];rfl
theorem a3u(r:aK)(h:r.wt<=1048576):sr r=some r:=by
 have h1:=aK.sC h;have h2:=aK.Hz h;have h3:=qk aL.wt r.conds;have h4:=qk Action.wt r.cg;unfold sr;rw[DT (c:=aL.c) (b:=80) (f:=je) (g:=fun x=>x) (L:=oo r _) (k:=_) (by decide) (fun _ _=>rfl) (fun _ _ _ _=>rfl) _ _ _ (fun c hc=>PF c (by have:=aD.dK (aL.fY (aK.qe h hc));omega)) (by simp;omega)];rw[DT (c:=Action.c) (b:=48) (f:=fun a:Action=>(eV a.pat).bind fun y=>some (⟨a.kind,y⟩:Action)) (g:=fun x=>x) (L:=mw r _ _) (k:=_) (by decide) (fun _ _=>rfl) (fun x xs i w=>by rw[mw];cases eV x.pat<;>rfl) _ _ _ (fun a ha=>by rw[Y5 a.pat (by have:=T4 h ha;omega)];rfl) (by simp;omega)];simp
theorem R5(l:ai)(h:rP aK.wt l<=1048576):pU l=some l:=by
 have h3:=qk aK.wt l;unfold pU;rw[DT (c:=aK.c) (b:=72) (f:=sr) (g:=fun x=>x) (L:=mr l _) (k:=_) (by decide) (fun _ _=>rfl) (fun _ _ _ _=>rfl) _ _ _ (fun r hr=>a3u r (by have:=qK (w:=aK.wt) hr;omega)) (by simp;omega)];simp
theorem X6(l:ah)(h:l.length<=1048576)(hw:∀c∈l,c.wt<=1048576):qz l=some l:=by
 unfold qz;rw[DT (c:=aL.c) (b:=80) (f:=fK) (g:=fun x=>x) (L:=lY l _) (k:=_) (by decide) (fun _ _=>rfl) (fun _ _ _ _=>rfl) _ _ _ (fun c hc=>Oi c (by have:=aD.dK (aL.fY (hw c hc));omega)) (by simp;omega)];simp
theorem a3H(r:aK)(h:r.wt<=1048576):pS r=some r:=by
 have h1:=aK.sC h;have h2:=aK.Hz h;have h3:=qk aL.wt r.conds;have h4:=qk Action.wt r.cg;unfold pS;rw[X6 r.conds (by omega) (fun c hc=>aK.qe h hc),aA];rw[DT (c:=Action.c) (b:=48) (f:=fun a:Action=>(eD a.pat).bind fun y=>some (⟨a.kind,y⟩:Action)) (g:=fun x=>x) (L:=js r _ _) (k:=_) (by decide) (fun _ _=>rfl) (fun x xs i w=>by rw[js];cases eD x.pat<;>rfl) _ _ _ (fun a ha=>by rw[X7 a.pat (by have:=T4 h ha;omega)];rfl) (by simp;omega)];simp
theorem QX(l:ai)(h:rP aK.wt l<=1048576):og l=some l:=by
 have h3:=qk aK.wt l;unfold og;rw[DT (c:=aK.c) (b:=72) (f:=pS) (g:=fun x=>x) (L:=ld l _) (k:=_) (by decide) (fun _ _=>rfl) (fun _ _ _ _=>rfl) _ _ _ (fun r hr=>a3H r (by have:=qK (w:=aK.wt) hr;omega)) (by simp;omega)];simp
theorem a6r(a:ai)(k:Int->ai->bJ->bN->bL->aJ->Option (aI×Bool)):∀(l:ai) (i:Nat) (u:Int) (w2:ai) (es:bJ) (al:bN) (ns:bL) (w6:aJ),(∀r∈l,r.wt<=1048576/\fP r=true)->es.length+l.length<=1000->al.length+4*l.length<=1000->ns.length+4*l.length<=1000->
 ga a k l i u w2 es al ns w6=k u w2 (l.foldl FF ((al,ns),es)).2 (l.foldl FF ((al,ns),es)).1.1 (l.foldl FF ((al,ns),es)).1.2 w6:=by
 intro l
 induction l with
 |nil=>intros;rfl
 |cons r l ih=>
  intro i u w2 es al ns w6 hr he ha hn;simp only[aV]at he ha hn;obtain⟨hw,hb⟩:=hr r (by simp);have h4:=xG hb;have hl:=FE (eP r) ((al,ns),0);dsimp only at hl;rw[ga,a3t r hw,aA,sU (by omega),aH,a6s _ _ _ _ _ _ _ _ _ _ _ _ _ (Ep hb) (by omega) (by omega),ic (by omega) (by decide),aH,ih _ _ _ _ _ _ _ (fun x hx=>hr x (by simp[hx])) (by simp;omega) (by omega) (by omega)];rfl
theorem Y7(rs:ai)(h:rP aK.wt rs<=1048576):jM rs=some (bif qp rs then(⟨rs,(cm [⟨[],[]⟩] rs).2,(cm [⟨[],[]⟩] rs).1.1,(cm [⟨[],[]⟩] rs).1.2,[],0⟩,true)else(⟨[],[],[],[],[],0⟩,false)):=by
 unfold jM;rw[a9W rs h,aA];cases hb:qp rs with
 |false=>rfl
 |true=>
  have h6:rs.length<=6:=by unfold qp at hb;simp only[aS,bD]at hb;omega
  rw[bQ,aQ,aH,R5 rs h,aA,a6r _ _ _ _ _ _ _ _ _ _ (fun r hr=>⟨by have:=qK (w:=aK.wt) hr;omega,pZ hb r hr⟩) (by simp;omega) (by simp;omega) (by simp;omega)];rfl
theorem a60(a:ai)(k:Int->ai->bJ->bN->bL->aJ->Option aI):∀(l:ai) (i:Nat) (u:Int) (w2:ai) (es:bJ) (al:bN) (ns:bL) (w6:aJ),(∀r∈l,r.wt<=1048576/\fP r=true)->es.length+l.length<=1000->al.length+4*l.length<=1000->ns.length+4*l.length<=1000->
 jI a k l i u w2 es al ns w6=k u w2 (l.foldl FF ((al,ns),es)).2 (l.foldl FF ((al,ns),es)).1.1 (l.foldl FF ((al,ns),es)).1.2 w6:=by
 intro l
 induction l with
 |nil=>intros;rfl
 |cons r l ih=>
  intro i u w2 es al ns w6 hr he ha hn;simp only[aV]at he ha hn;obtain⟨hw,hb⟩:=hr r (by simp);have h4:=xG hb;have hl:=FE (eP r) ((al,ns),0);dsimp only at hl;rw[jI,a3G r hw,aA,sU (by omega),aH,a61 _ _ _ _ _ _ _ _ _ _ _ _ _ (Ep hb) (by omega) (by omega),ic (by omega) (by decide),aH,ih _ _ _ _ _ _ _ (fun x hx=>hr x (by simp[hx])) (by simp;omega) (by omega) (by omega)];rfl
theorem a9I(rs:ai)(h:rP aK.wt rs<=1048576)(hb:qp rs=true):rC rs=some ⟨rs,(cm [] rs).2,(cm [] rs).1.1,(cm [] rs).1.2,[],0⟩:=by
 unfold rC;have h6:rs.length<=6:=by unfold qp at hb;simp only[aS,bD]at hb;omega
 rw[QX rs h,aA,a60 _ _ _ _ _ _ _ _ _ _ (fun r hr=>⟨by have:=qK (w:=aK.wt) hr;omega,pZ hb r hr⟩) (by simp;omega) (by simp;omega) (by simp;omega)];rfl
def chR(al:bN)(ns:bL)(p:Int)(c:aL):(bN×bL)×Int:=match Ms p c ns 1 with
 |some i=>((al,ns),dG i)
 |none=>(((Mr al c).1,ns++[⟨p,c,(Mr al c).2,[]⟩]),dG (ns.length+1))
theorem W8(tk:ar)(al:bN)(ns:bL)(p:Int)(c:aL):Hq al (root tk::ns) p c=(((chR al ns p c).1.1,root tk::(chR al ns p c).1.2),(chR al ns p c).2):=by
 unfold Hq chR;rw[Q8,List.drop_succ_cons,Db];cases Ms p c ns 1<;>rfl
def rtC(s:(bN×bL)×Int)(c:aL):(bN×bL)×Int:=chR s.1.1 s.1.2 s.2 c
def Z8(z:(bN×bL)×bJ)(r:aK):(bN×bL)×bJ:=(((eP r).foldl rtC (z.1,0)).1,z.2++[((eP r).foldl rtC (z.1,0)).2])
def rtB(rs:ai):(bN×bL)×bJ:=rs.foldl Z8 (([],[]),[])
theorem RA(tk:ar):∀(cs:ah) (al:bN) (ns:bL) (v:Int),cs.foldl DZ ((al,root tk::ns),v)=(((cs.foldl rtC ((al,ns),v)).1.1,root tk::(cs.foldl rtC ((al,ns),v)).1.2),(cs.foldl rtC ((al,ns),v)).2)
 | [],_,_,_=>rfl
 |c::cs,al,ns,v=>by
  rw[cJ,cJ];show cs.foldl DZ (Hq al (root tk::ns) v c)=_;rw[W8,RA tk cs];rfl
theorem RD(tk:ar):∀(rs:ai) (al:bN) (ns:bL) (es:bJ),rs.foldl FF ((al,root tk::ns),es)=(((rs.foldl Z8 ((al,ns),es)).1.1,root tk::(rs.foldl Z8 ((al,ns),es)).1.2),(rs.foldl Z8 ((al,ns),es)).2)
 | [],_,_,_=>rfl
 |r::rs,al,ns,es=>by
  rw[cJ,cJ];have e:FF ((al,root tk::ns),es) r=(((Z8 ((al,ns),es) r).1.1,root tk::(Z8 ((al,ns),es) r).1.2),(Z8 ((al,ns),es) r).2):=by
   unfold FF Z8;dsimp only;rw[RA]
  rw[e,RD tk rs]
theorem gV(tk:ar)(rs:ai):cm tk rs=(((rtB rs).1.1,root tk::(rtB rs).1.2),(rtB rs).2):=RD tk rs [] [] []
theorem Mi(tk:ar){rs:ai}(h:∀r∈rs,fP r=true)(h6:rs.length<=6):(cm tk rs).1.2.length<=25:=by
 have main:∀(l:ai) (z:(bN×bL)×bJ),(∀r∈l,fP r=true)->(l.foldl FF z).1.2.length<=z.1.2.length+4*l.length:=by
  intro l
  induction l with
  |nil=>intro z _;exact bR _
  |cons r l ih=>
   intro z hl;have h1:=ih (FF z r) (fun x hx=>hl x (by simp[hx]));have h2:=(FE (eP r) (z.1,0)).2;have h3:=xG (hl r (by simp));have h4:(FF z r).1.2.length=((eP r).foldl DZ (z.1,0)).1.2.length:=rfl;rw[cJ,aV];dsimp only at h2;omega
 have:=main rs (([],[root tk]),[]) h;unfold cm;simp only[aV,br]at this;omega
end Go.Cx
namespace Go.Cx
open Go.RowKit Go.Proofs Tryz
def pJ(x:Node):Int×aL:=(x.parent,x.cond)
theorem O4{a b:bL}(h:a.map pJ=b.map pJ):∀(k v:Nat),NN a k v=NN b k v
 |0,_=>rfl
 |k+1,v=>by
  have e:(a[v]?).map pJ=(b[v]?).map pJ:=by rw[<-bt,<-bt,h]
  unfold NN;cases ha:a[v]? with
  |none=>
   cases hb:b[v]? with
   |none=>rfl
   |some y=>rw[ha,hb]at e;cases e
  |some x=>
   cases hb:b[v]? with
   |none=>rw[ha,hb]at e;cases e
   |some y=>
    rw[ha,hb]at e;have e1:x.parent=y.parent:=(jS (pM e)).1;dsimp only;rw[e1,O4 h k]
theorem OU{a b:bL}(h:a.map pJ=b.map pJ):Aj a=Aj b:=by
 funext i
 have e:(a[i]?).map pJ=(b[i]?).map pJ:=by rw[<-bt,<-bt,h]
 unfold Aj;cases ha:a[i]? with
 |none=>
  cases hb:b[i]? with
  |none=>rfl
  |some y=>rw[ha,hb]at e;cases e
 |some x=>
  cases hb:b[i]? with
  |none=>rw[ha,hb]at e;cases e
  |some y=>
   rw[ha,hb]at e;have e2:x.cond=y.cond:=(jS (pM e)).2;show some x.cond=some y.cond;rw[e2]
theorem u7{a b:bL}(h:a.map pJ=b.map pJ)(v:Int):fO a v=fO b v:=by
 have hl:a.length=b.length:=by have:=congrArg List.length h;simpa using this
 unfold fO GV;rw[hl,O4 h,OU h]
def kY(al:bN)(fs:aJ):bN:=al.map fun a=>⟨a.shape,tu a.shape [] fs⟩
def nK(ns:bL)(fs:aJ):bL->Nat->bL
 | [],_=>[]
 |x::xs,i=>⟨x.parent,x.cond,x.dL,tP (fO ns (dG i)) fs⟩::nK ns fs xs (i+1)
def jV(ns:bL)(fs:aJ):bL:=nK ns fs ns 0
theorem HV(ns:bL)(fs:aJ):∀(l:bL) (i:Nat),(nK ns fs l i).map pJ=l.map pJ
 | [],_=>rfl
 |x::l,i=>by rw[nK,av,HV ns fs l];rfl
theorem UP(ns:bL)(fs:aJ)(l:bL)(i:Nat):(nK ns fs l i).length=l.length:=by
 have:=congrArg List.length (HV ns fs l i);simpa using this
theorem setAt{α:Type}(pre l:List α)(x y:α):(pre++x::l).set pre.length y=pre++y::l:=by
 rw[tA _ _ (bR _),pY];rfl
structure AR(ns:List Node):Prop where
 len:ns.length<=1048576
 wt:∀x∈ns,x.cond.wt<=1048576
 path:∀i:Nat,(fO ns (dG i)).length<=4
theorem Eo{ns:bL}{v:Int}{c:aL}(h:c∈fO ns v):∃x∈ns,x.cond=c:=by
 unfold fO at h;split at h
 ·unfold GV at h;obtain⟨i,_,hc⟩:=cC.1 h;unfold Aj at hc;cases hx:ns[i]? with
  |none=>rw[hx]at hc;cases hc
  |some x=>rw[hx]at hc;exact⟨x,aE hx,pM hc⟩
 ·cases h
theorem WN(n:aI)(fs y:aJ)(k:bN->Option (aI×Unit))(hf:FS fs):∀(l pre:bN),(∀x∈l,x.shape.wt<=1048576)->fH n fs y k l pre.length (pre++l)=k (pre++kY l fs):=by
 intro l
 induction l with
 |nil=>intro pre _;rfl
 |cons x l ih=>
  intro pre hw;have hx:(pre++x::l)[pre.length]?=some x:=by simp
  have hlt:decide (pre.length<((pre++x::l).map aZ.c).length)=true:=by simp
  rw[fH,hlt,aH,hx,aA,a5n x.shape [] fs (hw x (by simp)) PB.nil hf,aA,aH,setAt];have:=ih (pre++[⟨x.shape,tu x.shape [] fs⟩]) (fun z hz=>hw z (by simp[hz]));rw[bC,ey,cu]at this;rw[show pre++(⟨x.shape,tu x.shape [] fs⟩:aZ)::l=pre++([⟨x.shape,tu x.shape [] fs⟩]++l)from rfl,this];simp[kY]
theorem a2j(n:aI)(fs y:aJ)(q:bN)(k:Option (aI×Unit))(hf:FS fs)(h24:fs.length<=24)(ns:bL)(hp:AR ns):∀(l pre:bL),(pre++l).map pJ=ns.map pJ->
 eH n fs y q k l pre.length (pre++l)=some (⟨n.rules,n.ends,q,pre++nK ns fs l pre.length,y,n.cG⟩,()):=by
 intro l
 induction l with
 |nil=>intro pre _;rfl
 |cons x l ih=>
  intro pre he;have hx:(pre++x::l)[pre.length]?=some x:=by simp
  have hlt:decide (pre.length<((pre++x::l).map Node.c).length)=true:=by simp
  have hlen:(pre++x::l).length=ns.length:=by have:=congrArg List.length he;simpa using this
  have hok:NOk ⟨n.rules,n.ends,q,pre++x::l,y,n.cG⟩:=by
   refine⟨by show(pre++x::l).length<=1048576;rw[hlen];exact hp.len,fun z hz=>?_⟩;have hm:pJ z∈ns.map pJ:=by rw[<-he];exact bu.2 ⟨z,hz,rfl⟩
   obtain⟨w,hw,e⟩:=bu.1 hm;have:w.cond=z.cond:=(jS e).2;rw[<-this];exact hp.wt w hw
  have Wj:fO (pre++x::l) ((pre.length:Nat):Int)=fO ns (dG pre.length):=u7 he _;have QR:∀c∈fO ns (dG pre.length),c.wt<=1048576:=by
   intro c hc;obtain⟨z,hz,e⟩:=Eo hc;rw[<-e];exact hp.wt z hz
  rw[eH,a3M _ _ hok,aA,Wj,a64 _ fs QR (hp.path _) hf h24,aA,hlt,aH,hx,aA,setAt];have:=ih (pre++[⟨x.parent,x.cond,x.dL,tP (fO ns (dG pre.length)) fs⟩]) (by
   rw[<-he];simp[pJ])
  rw[bC,ey,cu]at this;rw[show pre++(⟨x.parent,x.cond,x.dL,tP (fO ns (dG pre.length)) fs⟩:Node)::l=pre++([⟨x.parent,x.cond,x.dL,tP (fO ns (dG pre.length)) fs⟩]++l)from rfl,this,nK];simp
theorem a1U(n:aI)(fs:aJ)(hf:FS fs)(h24:fs.length<=24)(ha:n.bE.length<=1048576)(hs:∀x∈n.bE,x.shape.wt<=1048576)(hp:AR n.nodes):iz n fs=some (⟨n.rules,n.ends,kY n.bE fs,jV n.nodes fs,fs,n.cG⟩,()):=by
 unfold iz;have h1:=WN n fs fs;have hl:=hp.len;rw[v8 fs hf.1 (fun f Zq=>by have:=aD.dK (hf.2 f Zq);omega),aA,sU (by omega),aH];have e1:=WN n fs fs (fun(fA:bN)=>(bif decide (n.nodes.length<=maxLen)then(eH n fs fs fA none n.nodes 0 n.nodes)else none)) hf n.bE [] hs;refine e1.trans ?_;rw[cw,sU (by omega),aH];exact a2j n fs fs _ none hf h24 n.nodes hp n.nodes [] rfl
end Go.Cx
namespace Go.Cx
open Go.RowKit Go.Proofs Tryz
theorem RI(ns:bL):∀(k k' v:Nat),1<=v->v<=k->v<=k'->NN ns k v=NN ns k' v
 |0,_,v,h1,h2,_=>by omega
 |k+1,0,v,h1,_,h3=>by omega
 |k+1,k'+1,v,h1,h2,h3=>by
  unfold NN;cases hx:ns[v]? with
  |none=>rfl
  |some x=>
   dsimp only;by_cases hp:1<=x.parent/\x.parent<(v:Int)
   ·rw[bK hp,bK hp,RI ns k k' x.parent.toNat (by omega) (by omega) (by omega)]
   ·rw[az hp,az hp]
theorem u9(ns:bL):fO ns (dG 0)=[]:=by unfold fO dG;rw[az (by omega)]
theorem xD{ns:bL}{i:Nat}{x:Node}(hx:ns[i]?=some x)(h1:1<=i){p:Nat}(hp:x.parent=dG p)(hpi:p<i):fO ns (dG i)=fO ns (dG p)++[x.cond]:=by
 have hl:=(aF.1 hx).1;unfold dG at hp;have e1:fO ns (dG i)=GV ns i i:=by unfold fO dG;rw[bK (by omega)];rfl
 obtain⟨k,rfl⟩:∃k,i=k+1:=⟨i-1,by omega⟩
 rw[e1,MY hx];by_cases h0:1<=p
 ·rw[bK (by omega)];have e2:fO ns (dG p)=GV ns p p:=by unfold fO dG;rw[bK (by omega)];rfl
  rw[e2,hp,pX];unfold GV;rw[RI ns k p p h0 (by omega) (bR _)]
 ·rw[az (by omega),show p=0 by omega,u9]
def RY(ns:bL):Prop:=∀(i:Nat) x,1<=i->ns[i]?=some x->∃p:Nat,x.parent=dG p/\p<i
theorem KA{ns:bL}(hb:RY ns)(m:bL):∀(n i:Nat),i<=n->i<ns.length->fO (ns++m) (dG i)=fO ns (dG i):=by
 intro n
 induction n with
 |zero=>
  intro i h1 _;rw[show i=0 by omega,u9,u9]
 |succ n ih=>
  intro i h1 h2;by_cases h0:i=0
  ·rw[h0,u9,u9]
  ·have hx:ns[i]?=some ns[i]:=aa h2;have hx':(ns++m)[i]?=some ns[i]:=by rw[au h2];exact hx
   obtain⟨p,hp,hpi⟩:=hb i _ (by omega) hx;rw[xD hx (by omega) hp hpi,xD hx' (by omega) hp hpi,ih p (by omega) (by omega)]
structure Ci(R:List aL->Prop)(ns:List Node):Prop where
 pos:1<=ns.length
 below:RY ns
 path:∀i:Nat,1<=i->i<ns.length->R (fO ns (dG i))
theorem Q9{p:Int}{c:aL}:∀ {l:bL} {i j:Nat},Ms p c l i=some j->∃x,l[j-i]?=some x/\i<=j/\0<j/\x.parent=p/\x.cond=c
 |x::l,i,j,h=>by
  unfold Ms at h;split at h
  ·rename_i hc;cases h;exact⟨x,by simp,bR _,hc.1,hc.2.1,hc.2.2⟩
  ·obtain⟨y,h1,h2,h3,h4,h5⟩:=Q9 h;refine⟨y,?_,by omega,h3,h4,h5⟩;rw[show j-i=(j-(i+1))+1 by omega];exact h1
theorem Ci.step{R:ah->Prop}{al:bN}{ns:bL}(h:Ci R ns){a:Nat}(ha:a<ns.length){c:aL}(hR:R (fO ns (dG a)++[c])):
 Ci R (Hq al ns (dG a) c).1.2/\∃b:Nat,(Hq al ns (dG a) c).2=dG b/\b<(Hq al ns (dG a) c).1.2.length/\fO (Hq al ns (dG a) c).1.2 (dG b)=fO ns (dG a)++[c]:=by
 unfold Hq;cases hc:Ms (dG a) c ns 0 with
 |some j=>
  obtain⟨x,h1,h2,h3,h4,h5⟩:=Q9 hc;rw[wB]at h1;have hj:=(aF.1 h1).1;obtain⟨p,hp,Zs⟩:=h.below j x (by omega) h1;have:p=a:=by rw[hp]at h4;unfold dG at h4;omega
  subst this;exact⟨h,j,rfl,hj,by rw[xD h1 (by omega) hp Zs,h5]⟩
 |none=>
  dsimp only;have hbel:RY (ns++[⟨dG a,c,(Mr al c).2,[]⟩]):=by
   intro i x h1 hx;by_cases hi:i<ns.length
   ·rw[au hi]at hx;exact h.below i x h1 hx
   ·rw[bA (by omega)]at hx;have hi2:i=ns.length:=by
     have:=(aF.1 hx).1;simp at this;omega
    rw[hi2,pY]at hx;cases hx;exact⟨a,rfl,by omega⟩
  have hnew:fO (ns++[⟨dG a,c,(Mr al c).2,[]⟩]) (dG ns.length)=fO ns (dG a)++[c]:=by
   have hx:(ns++[(⟨dG a,c,(Mr al c).2,[]⟩:Node)])[ns.length]?=some ⟨dG a,c,(Mr al c).2,[]⟩:=by simp
   have h1:=h.pos;rw[xD hx (by omega) (p:=a) rfl ha,KA h.below _ a a (bR _) ha]
  refine⟨⟨by simp,hbel,fun i h1 h2=>?_⟩,ns.length,rfl,by simp,hnew⟩;by_cases hi:i<ns.length
  ·rw[KA h.below _ i i (bR _) hi];exact h.path i h1 hi
  ·have:i=ns.length:=by simp at h2;omega
   rw[this,hnew];exact hR
theorem Ci.rule{R:ah->Prop}:∀(cs:ah) {al:bN} {ns:bL} {a:Nat},Ci R ns->a<ns.length->(∀j:Nat,1<=j->j<=cs.length->R (fO ns (dG a)++cs.take j))->
 Ci R (cs.foldl DZ ((al,ns),dG a)).1.2/\∃b:Nat,(cs.foldl DZ ((al,ns),dG a)).2=dG b/\b<(cs.foldl DZ ((al,ns),dG a)).1.2.length/\fO (cs.foldl DZ ((al,ns),dG a)).1.2 (dG b)=fO ns (dG a)++cs
 | [],al,ns,a,h,ha,_=>⟨h,a,rfl,ha,by simp⟩
 |c::cs,al,ns,a,h,ha,hR=>by
  obtain⟨h1,b,h2,h3,h4⟩:=h.step (al:=al) ha (c:=c) (by have:=hR 1 (bR _) (by simp);simpa using this);have e:DZ ((al,ns),dG a) c=(((Hq al ns (dG a) c).1.1,(Hq al ns (dG a) c).1.2),dG b):=by
   show Hq al ns (dG a) c=_;rw[<-h2]
  rw[cJ,e];obtain⟨k1,d,k2,k3,k4⟩:=Ci.rule cs (al:=(Hq al ns (dG a) c).1.1) h1 h3 (fun j GR hj2=>by
   rw[h4,cu];have:=hR (j+1) (by omega) (by simp;omega);simpa using this)
  exact⟨k1,d,k2,k3,by rw[k4,h4];simp⟩
theorem ZZ(al:bN)(ns:bL)(p:Int)(c:aL):∃m,(Hq al ns p c).1.2=ns++m:=by
 unfold Hq;cases Ms p c ns 0 with
 |some i=>exact⟨[],by simp⟩
 |none=>exact⟨[⟨p,c,(Mr al c).2,[]⟩],rfl⟩
theorem Tx:∀(cs:ah) (s:(bN×bL)×Int),∃m,(cs.foldl DZ s).1.2=s.1.2++m
 | [],s=>⟨[],by simp⟩
 |c::cs,s=>by
  obtain⟨m,h⟩:=ZZ s.1.1 s.1.2 s.2 c;obtain⟨m2,h2⟩:=Tx cs (DZ s c);refine⟨m++m2,?_⟩;rw[cJ,h2];show(Hq s.1.1 s.1.2 s.2 c).1.2++m2=_;rw[h,cu]
def T3(rs:ai)(p:ah):Prop:=∃r∈rs,∃j:Nat,1<=j/\j<=(eP r).length/\p=(eP r).take j
theorem RC(all:ai):∀(l:ai) (al:bN) (ns:bL) (es:bJ),(∀r∈l,r∈all)->Ci (T3 all) ns->
 Ci (T3 all) (l.foldl FF ((al,ns),es)).1.2/\(∃m,(l.foldl FF ((al,ns),es)).1.2=ns++m)/\∃fs,(l.foldl FF ((al,ns),es)).2=es++fs/\fs.length=l.length/\
  ∀(i:Nat) r,l[i]?=some r->∃b:Nat,fs[i]?=some (dG b)/\b<(l.foldl FF ((al,ns),es)).1.2.length/\fO (l.foldl FF ((al,ns),es)).1.2 (dG b)=eP r
 | [],al,ns,es,_,h=>⟨h,⟨[],by simp⟩,[],by simp,rfl,fun i r hr=>by simp at hr⟩
 |r::l,al,ns,es,hm,h=>by
  obtain⟨h1,b,h2,h3,h4⟩:=Ci.rule (eP r) (al:=al) h (a:=0) (by have:=h.pos;omega) (fun j GR hj2=>by
   rw[u9,cw];exact⟨r,hm r (by simp),j,GR,hj2,rfl⟩)
  obtain⟨m1,hm1⟩:=Tx (eP r) ((al,ns),dG 0);obtain⟨k1,⟨m2,hm2⟩,fs,k2,k3,k4⟩:=RC all l ((eP r).foldl DZ ((al,ns),dG 0)).1.1 ((eP r).foldl DZ ((al,ns),dG 0)).1.2 (es++[dG b]) (fun x hx=>hm x (by simp[hx])) h1;have e:FF ((al,ns),es) r=((((eP r).foldl DZ ((al,ns),dG 0)).1.1,((eP r).foldl DZ ((al,ns),dG 0)).1.2),es++[dG b]):=by
   rw[<-h2];rfl
  rw[cJ,e];refine⟨k1,⟨m1++m2,by rw[hm2,hm1,cu]⟩,dG b::fs,by rw[k2];simp,by simp[k3],?_⟩;intro i x hx;cases i with
  |zero=>
   have:r=x:=by simpa using hx
   subst this;refine⟨b,rfl,by rw[hm2];simp;omega,?_⟩;rw[hm2,KA h1.below _ b b (bR _) h3,h4,u9];rfl
  |succ i=>exact k4 i x (by simpa using hx)
theorem Ux(R:ah->Prop)(tk:ar):Ci R [root tk]:=
 ⟨bR _,fun i x h1 hx=>by
  have:=(aF.1 hx).1;simp at this;omega,fun i h1 h2=>by simp at h2;omega⟩
theorem vp(tk:ar)(rs:ai):Ci (T3 rs) (cm tk rs).1.2/\(cm tk rs).2.length=rs.length/\∀(i:Nat) r,rs[i]?=some r->∃b:Nat,(cm tk rs).2[i]?=some (dG b)/\b<(cm tk rs).1.2.length/\fO (cm tk rs).1.2 (dG b)=eP r:=by
 obtain⟨h1,_,fs,h2,h3,h4⟩:=RC rs rs [] [root tk] [] (fun r hr=>hr) (Ux _ tk);rw[cw]at h2;refine⟨h1,?_,?_⟩
 ·show(rs.foldl FF (([],[root tk]),[])).2.length=_;rw[h2,h3]
 ·intro i r hr;obtain⟨b,k1,k2,k3⟩:=h4 i r hr;refine⟨b,?_,k2,k3⟩;show(rs.foldl FF (([],[root tk]),[])).2[i]?=_;rw[h2];exact k1
theorem Qv{r:aK}(h:fP r=true):∃c cs,eP r=c::cs/\c.kind=1:=by
 have hb:=PD h;cases hc:r.conds with
 |nil=>
  unfold fP at h;rw[hc]at h;simp at h
 |cons c cs=>
  refine⟨Mc (gN r) c,cs.map (Mc (gN r)),by unfold eP;rw[hc];rfl,?_⟩;exact(Ll (pre:=[]) (i:=0) (c:=c) (rest:=cs) (by rw[cw,<-hc];exact hb)).2.1 rfl
theorem Nz{rs:ai}(h:∀r∈rs,fP r=true){p:ah}(hp:T3 rs p):p.length<=4/\∃c cs,p=c::cs/\c.kind=1:=by
 obtain⟨r,hr,j,h1,h2,rfl⟩:=hp;have:=xG (h r hr);refine⟨by rw[cQ];omega,?_⟩;obtain⟨c,cs,e,hk⟩:=Qv (h r hr);obtain⟨j,rfl⟩:∃k,j=k+1:=⟨j-1,by omega⟩
 exact⟨c,cs.take j,by rw[e];rfl,hk⟩
theorem V6{c:aL}{cs:ah}(hk:c.kind=1):tP (c::cs) []=[]:=by
 have h0:∀(l:ah),l.foldl (rM []) []=[]:=by
  intro l
  induction l with
  |nil=>rfl
  |cons x l ih=>rw[cJ];exact ih
 unfold tP;rw[cJ];have:rM [] [⟨[],[]⟩] c=[]:=by
  unfold rM Bn;rw[ay hk];rfl
 rw[this,h0]
theorem Kj{r:aK}(h:fP r=true):∀c∈eP r,c.pat.rel.length<=8/\c.pat.args.length<=3/\∀x∈c.pat.args,x.length<=16:=by
 intro c' Zo;obtain⟨c,hc,rfl⟩:=bu.1 Zo;obtain⟨h1,h2,h3,h4,h5⟩:=Lj (Ae h c hc);have hV:∀x∈c.pat.args++[c.left,c.right],fQ x=true->x∈yJ r.conds:=fun x hx hv=>A6.2 ⟨bg.2 ⟨c,hc,hx⟩,hv⟩
 refine⟨h1,by show(c.pat.args.map _).length<=3;rw[ax];exact h2,fun x hx=>?_⟩;obtain⟨y,hy,rfl⟩:=bu.1 hx;exact JD h (h3 y hy) (hV y (by simp[hy]))
theorem YR{p:aD}(h1:p.rel.length<=8)(h2:p.args.length<=3)(h3:∀x∈p.args,x.length<=16):(vW p).wt<=1048576:=by
 have a3:=LR (p.args.map (Cq (p.args.foldl lN []))) (fun x hx=>by
  obtain⟨y,hy,rfl⟩:=bu.1 hx;exact a3n (by omega) (h3 y hy))
 rw[ax]at a3;show aD.wt ⟨p.rel,p.args.map (Cq (p.args.foldl lN []))⟩<=1048576;unfold aD.wt;dsimp only;unfold tw at*;omega
def wD(al:bN):Prop:=∀x∈al,x.shape.wt<=1048576/\x.facts=[]
theorem Rh{al:bN}{ns:bL}{p:Int}{c:aL}(h:wD al)(hc:(vW c.pat).wt<=1048576):wD (Hq al ns p c).1.1:=by
 unfold Hq;cases Ms p c ns 0 with
 |some i=>exact h
 |none=>
  show wD (Mr al c).1;unfold Mr;by_cases hk:c.kind=1\/c.kind=2
  ·rw[bK hk];unfold Re;cases T5 (vW c.pat) al 0 with
   |some i=>exact h
   |none=>
    intro x hx;rcases af.1 hx with hx|hx
    ·exact h x hx
    ·rw[cA.1 hx];exact⟨hc,rfl⟩
  ·rw[az hk];exact h
theorem Mh:∀(cs:ah) (s:(bN×bL)×Int),wD s.1.1->(∀c∈cs,(vW c.pat).wt<=1048576)->wD (cs.foldl DZ s).1.1
 | [],_,h,_=>h
 |c::cs,s,h,hc=>Mh cs (DZ s c) (Rh h (hc c (by simp))) (fun x hx=>hc x (by simp[hx]))
theorem vq(tk:ar){rs:ai}(h:∀r∈rs,fP r=true):wD (cm tk rs).1.1:=by
 have main:∀(l:ai) (z:(bN×bL)×bJ),(∀r∈l,fP r=true)->wD z.1.1->wD (l.foldl FF z).1.1:=by
  intro l
  induction l with
  |nil=>intro z _ hz;exact hz
  |cons r l ih=>
   intro z hl hz;refine ih (FF z r) (fun x hx=>hl x (by simp[hx])) ?_;exact Mh (eP r) (z.1,0) hz (fun c hc=>by
    obtain⟨p1,p2,p3⟩:=Kj (hl r (by simp)) c hc;exact YR p1 p2 p3)
 exact main rs _ h (fun x hx=>by cases hx)
theorem JH(tk:ar){rs:ai}(h:∀r∈rs,fP r=true)(h6:rs.length<=6):AR (cm tk rs).1.2:=by
 have hp:=(vp tk rs).1;have hl:=Mi tk h h6;refine⟨by omega,?_,?_⟩
 ·intro x hx;obtain⟨i,hi⟩:=dZ hx;have RU:=(aF.1 hi).1;by_cases h0:i=0
  ·subst h0;rw[gV]at hi;cases hi;unfold root aL.wt;simp[rP,tw]
  ·obtain⟨p,hpp,hpi⟩:=hp.below i x (by omega) hi;obtain⟨r,hr,j,j1,j2,e⟩:=hp.path i (by omega) RU;rw[xD hi (by omega) hpp hpi]at e;have hm:x.cond∈eP r:=cI (by rw[<-e];simp:x.cond∈(eP r).take j);exact Ep (h r hr) _ hm
 ·intro i;by_cases hi:1<=i/\i<(cm tk rs).1.2.length
  ·exact(Nz h (hp.path i hi.1 hi.2)).1
  ·unfold fO dG;rw[az (by omega)];simp
theorem a3F(rs:ai)(fs:aJ)(t:Int)(hr:rP aK.wt rs<=1048576)(hb:qp rs=true)(hf:FS fs)(h24:fs.length<=24):wI rs fs t=some ⟨rs,(cm [] rs).2,kY (cm [] rs).1.1 fs,jV (cm [] rs).1.2 fs,fs,t⟩:=by
 have h6:rs.length<=6:=by unfold qp at hb;simp only[aS,bD]at hb;omega
 have hv:=pZ hb;have hsh:=vq [] hv;have hal:(cm [] rs).1.1.length<=1048576:=by
  have main:∀(l:ai) (z:(bN×bL)×bJ),(∀r∈l,fP r=true)->(l.foldl FF z).1.1.length<=z.1.1.length+4*l.length:=by
   intro l
   induction l with
   |nil=>intro z _;exact bR _
   |cons r l ih=>
    intro z hl;have h1:=ih (FF z r) (fun x hx=>hl x (by simp[hx]));have h2:=(FE (eP r) (z.1,0)).1;have h3:=xG (hl r (by simp));have h4:(FF z r).1.1.length=((eP r).foldl DZ (z.1,0)).1.1.length:=rfl;rw[cJ,aV];dsimp only at h2;omega
  have:=main rs (([],[root []]),[]) hv;unfold cm;simp only[br]at this;omega
 unfold wI;rw[a9I rs hr hb,aA,a1U _ fs hf h24 hal (fun x hx=>(hsh x hx).1) (JH [] hv h6)];rfl
theorem UN{al:bN}(h:wD al):kY al []=al:=by
 unfold kY;have:∀l:bN,(∀x∈l,x.facts=[])->l.map (fun a=>(⟨a.shape,tu a.shape [] []⟩:aZ))=l:=by
  intro l
  induction l with
  |nil=>intro _;rfl
  |cons x l ih=>
   intro hl;rw[av,ih (fun y hy=>hl y (by simp[hy]))];have:=hl x (by simp);cases x;simp only at this;subst this;rfl
 exact this al fun x hx=>(h x hx).2
theorem Za{al:bN}{ns:bL}{p:Int}{c:aL}(h:∀x∈ns,x.tokens=[]):∀x∈(chR al ns p c).1.2,x.tokens=[]:=by
 unfold chR;cases Ms p c ns 1 with
 |some i=>exact h
 |none=>
  intro x hx;rcases af.1 hx with hx|hx
  ·exact h x hx
  ·rw[cA.1 hx]
theorem Ts:∀(cs:ah) (s:(bN×bL)×Int),(∀x∈s.1.2,x.tokens=[])->∀x∈(cs.foldl rtC s).1.2,x.tokens=[]
 | [],_,h=>h
 |c::cs,s,h=>Ts cs (rtC s c) (Za h)
theorem a0b(rs:ai):∀x∈(rtB rs).1.2,x.tokens=[]:=by
 have main:∀(l:ai) (z:(bN×bL)×bJ),(∀x∈z.1.2,x.tokens=[])->∀x∈(l.foldl Z8 z).1.2,x.tokens=[]:=by
  intro l
  induction l with
  |nil=>intro z hz;exact hz
  |cons r l ih=>intro z hz;exact ih (Z8 z r) (Ts (eP r) (z.1,0) hz)
 exact main rs _ (fun x hx=>by cases hx)
theorem Lt(ns:bL):∀(l:bL) (i:Nat),(∀x∈l,x.tokens=[])->(∀j:Nat,i<=j->j<i+l.length->tP (fO ns (dG j)) []=[])->nK ns [] l i=l
 | [],_,_,_=>rfl
 |x::l,i,ht,hp=>by
  rw[nK,hp i (bR _) (by simp),Lt ns l (i+1) (fun y hy=>ht y (by simp[hy])) (fun j h1 h2=>hp j (by omega) (by simp only[aV];omega))];have:=ht x (by simp);cases x;simp only at this;subst this;rfl
theorem UO{rs:ai}(h:∀r∈rs,fP r=true):jV (cm [] rs).1.2 []=(cm [⟨[],[]⟩] rs).1.2:=by
 have hp:=(vp [] rs).1;have e:(cm [] rs).1.2=root []::(rtB rs).1.2:=by rw[gV]
 have e2:(cm [⟨[],[]⟩] rs).1.2=root [⟨[],[]⟩]::(rtB rs).1.2:=by rw[gV]
 have hlen:(cm [] rs).1.2.length=(rtB rs).1.2.length+1:=by rw[e];rfl
 unfold jV;rw[e2];have h1:=Lt (cm [] rs).1.2 (rtB rs).1.2 1 (a0b rs) (fun j j1 j2=>by
  obtain⟨_,c,cs,ec,hk⟩:=Nz h (hp.path j j1 (by rw[hlen];omega));rw[ec];exact V6 hk)
 have h2:nK (cm [] rs).1.2 [] (cm [] rs).1.2 0=nK (cm [] rs).1.2 [] (root []::(rtB rs).1.2) 0:=by rw[<-e]
 rw[h2,nK,h1,u9];rfl
end Go.Cx
namespace Go.Cx
open Go.RowKit Go.Proofs Tryz
def mI(rs:ai)(fs:aJ)(t:Int):aI:=⟨rs,(cm [] rs).2,kY (cm [] rs).1.1 fs,jV (cm [] rs).1.2 fs,fs,t⟩
def K6(n:aI):Bool:=qp n.rules&&(fZ n.facts&&(decide (0<=n.cG)&&J3 n (mI n.rules n.facts 0)))
theorem FS.J9{fs:aJ}(h:rP aD.wt fs<=1048576):FS fs:=⟨by have:=qk aD.wt fs;omega,fun f hf=>by have:=qK (w:=aD.wt) hf;omega⟩
theorem SA(n:aI)(hr:rP aK.wt n.rules<=1048576)(hf:rP aD.wt n.facts<=1048576):mV n=some (K6 n):=by
 unfold mV K6;rw[a9E _ hr,Wy _ hf,aA,aA];cases h1:qp n.rules with
 |false=>rfl
 |true=>
  cases h2:fZ n.facts with
  |false=>rfl
  |true=>
   rw[a3F _ _ _ hr h1 (FS.J9 hf) (uD h2),aA,a5v,aA];simp only[aH,fC];by_cases h3:0<=n.cG
   ·rw[ay h3];rfl
   ·rw[bH h3];rfl
def uk(x:Node):Int×Int×aL:=(x.parent,x.dL,x.cond)
theorem Xe{a b:bL}(h:a.map uk=b.map uk):a.map pJ=b.map pJ:=by
 have:=congrArg (List.map fun t:Int×Int×aL=>(t.1,t.2.2)) h;rw[yq,yq]at this;exact this
def V7(ns:bL)(fs:aJ):bL->Nat->Bool
 | [],_=>true
 |x::xs,i=>decide (x.tokens=tP (fO ns (dG i)) fs)&&V7 ns fs xs (i+1)
theorem Nj(fs:aJ):∀(a b:bN),a.map aZ.shape=b.map aZ.shape->((a.all fun x=>decide (x.facts=tu x.shape [] fs))=true↔a=kY b fs)
 | [],[],_=>⟨fun _=>rfl,fun _=>rfl⟩
 | [],_::_,h=>by simp at h
 |_::_,[],h=>by simp at h
 |x::a,y::b,h=>by
  rw[av,av]at h;obtain⟨h1,h2⟩:=kr h;have ih:=Nj fs a b h2;rw[dW,aS,bD,ih];show _↔x::a=⟨y.shape,tu y.shape [] fs⟩::kY b fs;constructor
  ·rintro⟨q1,q2⟩;rw[<-h1,<-q1,<-q2]
  ·intro q;obtain⟨q1,q2⟩:=kr q;exact⟨by rw[q1],q2⟩
theorem Nl(ns:bL)(fs:aJ):∀(a b:bL) (i:Nat),a.map uk=b.map uk->(V7 ns fs a i=true↔a=nK ns fs b i)
 | [],[],_,_=>⟨fun _=>rfl,fun _=>rfl⟩
 | [],_::_,_,h=>by simp at h
 |_::_,[],_,h=>by simp at h
 |x::a,y::b,i,h=>by
  rw[av,av]at h;obtain⟨h1,h2⟩:=kr h;have ih:=Nl ns fs a b (i+1) h2;have e1:x.parent=y.parent:=(jS h1).1;have e2:x.dL=y.dL:=(jS (jS h1).2).1;have e3:x.cond=y.cond:=(jS (jS h1).2).2;unfold V7 nK;rw[aS,bD,ih];constructor
  ·rintro⟨q1,q2⟩;rw[<-e1,<-e2,<-e3,<-q1,<-q2]
  ·intro q;obtain⟨q1,q2⟩:=kr q;exact⟨by rw[q1],q2⟩
theorem a2C(n:aI)(k:Option Bool)(hf:FS n.facts):∀(l:bN) (i:Nat),(∀x∈l,x.shape.wt<=1048576)->qh n k l i=bif l.all (fun x=>decide (x.facts=tu x.shape [] n.facts))then k else some false
 | [],_,_=>rfl
 |x::l,i,h=>by
  rw[qh,a41 x.shape [] n.facts (h x (by simp)) PB.nil hf,aA,LN,aA,a2C n k hf l _ (fun y hy=>h y (by simp[hy])),dW];cases decide (x.facts=tu x.shape [] n.facts)<;>rfl
theorem a2D(n:aI)(k:Option Bool)(hf:FS n.facts)(h24:n.facts.length<=24)(hp:AR n.nodes):∀(l:bL) (i:Nat),qi n k l i=bif V7 n.nodes n.facts l i then k else some false
 | [],_=>rfl
 |x::l,i=>by
  have QR:∀c∈fO n.nodes ((i:Nat):Int),c.wt<=1048576:=by
   intro c hc;obtain⟨z,hz,e⟩:=Eo hc;rw[<-e];exact hp.wt z hz
  rw[qi,YF n _ ⟨hp.len,hp.wt⟩,aA,a2H _ n.facts QR (hp.path i) hf h24,aA,a0q,aA,a2D n k hf h24 hp l,V7];show(bif !decide (x.tokens=tP (fO n.nodes (dG i)) n.facts)then some false else _)=_;cases decide (x.tokens=tP (fO n.nodes (dG i)) n.facts)<;>rfl
theorem a43(n:aI)(hr:rP aK.wt n.rules<=1048576)(hf:rP aD.wt n.facts<=1048576):uH n=some (K6 n):=by
 unfold uH K6;rw[Y7 _ hr,a1x _ hf,aA,aA];cases h1:qp n.rules with
 |false=>rfl
 |true=>
  cases h2:fZ n.facts with
  |false=>rfl
  |true=>
   have h6:n.rules.length<=6:=by unfold qp at h1;simp only[aS,bD]at h1;omega
   have hv:=pZ h1;simp only[aH,bQ,aQ,fC];rw[a6b,aA];have hroot:(cm [⟨[],[]⟩] n.rules).1.2.map uk=(cm [] n.rules).1.2.map uk:=by rw[gV,gV];rfl
   have hA:(cm [⟨[],[]⟩] n.rules).1.1=(cm [] n.rules).1.1:=by rw[gV,gV]
   have hE:(cm [⟨[],[]⟩] n.rules).2=(cm [] n.rules).2:=by rw[gV,gV]
   have hmem:J3 n (mI n.rules n.facts 0)=(decide (n.ends=(cm [] n.rules).2)&&(decide (n.bE=kY (cm [] n.rules).1.1 n.facts)&&decide (n.nodes=jV (cm [] n.rules).1.2 n.facts))):=by
    unfold J3 mI;simp
   by_cases hform:Lw n ⟨n.rules,(cm [⟨[],[]⟩] n.rules).2,(cm [⟨[],[]⟩] n.rules).1.1,(cm [⟨[],[]⟩] n.rules).1.2,[],0⟩=true
   ·rw[hform];unfold Lw at hform;simp only[aS,bD]at hform;obtain⟨f1,f2,f3⟩:=hform;have f2':n.nodes.map uk=(cm [] n.rules).1.2.map uk:=by rw[<-hroot];exact f2
    have f1':n.bE.map aZ.shape=(cm [] n.rules).1.1.map aZ.shape:=by rw[<-hA];exact f1
    have f3':n.ends=(cm [] n.rules).2:=by rw[<-hE];exact f3
    have a32:=JH [] hv h6;have hfn:=Xe f2';have hok:AR n.nodes:=by
     refine⟨by have:=congrArg List.length f2';rw[ax,ax]at this;rw[this];exact a32.len,fun x hx=>?_,fun i=>by rw[u7 hfn];exact a32.path i⟩;have hm:pJ x∈(cm [] n.rules).1.2.map pJ:=by rw[<-hfn];exact bu.2 ⟨x,hx,rfl⟩
     obtain⟨w,hw,e⟩:=bu.1 hm;have:w.cond=x.cond:=(jS e).2;rw[<-this];exact a32.wt w hw
    have hsh:∀x∈n.bE,x.shape.wt<=1048576:=by
     intro x hx;have hm:x.shape∈(cm [] n.rules).1.1.map aZ.shape:=by rw[<-f1'];exact bu.2 ⟨x,hx,rfl⟩
     obtain⟨w,hw,e⟩:=bu.1 hm;rw[<-e];exact(vq [] hv w hw).1
    have g1:=Nj n.facts n.bE _ f1';have g2:=Nl n.nodes n.facts n.nodes _ 0 f2';have g3:nK n.nodes n.facts (cm [] n.rules).1.2 0=jV (cm [] n.rules).1.2 n.facts:=by
     unfold jV;have:∀(l:bL) (i:Nat),nK n.nodes n.facts l i=nK (cm [] n.rules).1.2 n.facts l i:=by
      intro l
      induction l with
      |nil=>intro i;rfl
      |cons x l ih=>intro i;rw[nK,nK,ih,u7 hfn]
     exact this _ _
    rw[g3]at g2;rw[hmem,ay f3',fC,a2C n _ (FS.J9 hf) _ _ hsh,a2D n _ (FS.J9 hf) (uD h2) hok];have k1:(n.bE.all fun x=>decide (x.facts=tu x.shape [] n.facts))=decide (n.bE=kY (cm [] n.rules).1.1 n.facts):=by rw[bp,g1,bD]
    have k2:V7 n.nodes n.facts n.nodes 0=decide (n.nodes=jV (cm [] n.rules).1.2 n.facts):=by rw[bp,g2,bD]
    rw[k1,k2];by_cases h3:0<=n.cG
    ·rw[ay h3,bH (by omega)];cases decide (n.bE=kY (cm [] n.rules).1.1 n.facts)<;>cases decide (n.nodes=jV (cm [] n.rules).1.2 n.facts)<;>rfl
    ·rw[bH h3,ay (by omega)];rfl
   ·have hfalse:Lw n ⟨n.rules,(cm [⟨[],[]⟩] n.rules).2,(cm [⟨[],[]⟩] n.rules).1.1,(cm [⟨[],[]⟩] n.rules).1.2,[],0⟩=false:=by
     cases hq:Lw n ⟨n.rules,(cm [⟨[],[]⟩] n.rules).2,(cm [⟨[],[]⟩] n.rules).1.1,(cm [⟨[],[]⟩] n.rules).1.2,[],0⟩with
     |true=>exact absurd hq hform
     |false=>rfl
    rw[hfalse];have hm:J3 n (mI n.rules n.facts 0)=false:=by
     cases hq:J3 n (mI n.rules n.facts 0)with
     |false=>rfl
     |true=>
      exfalso;rw[hmem]at hq;simp only[aS,bD]at hq;obtain⟨q1,q2,q3⟩:=hq;apply hform;unfold Lw;simp only[aS,bD];have r1:n.bE.map aZ.shape=(cm [⟨[],[]⟩] n.rules).1.1.map aZ.shape:=by rw[hA,q2];unfold kY;rw[yq];rfl
      have r2:n.nodes.map uk=(cm [⟨[],[]⟩] n.rules).1.2.map uk:=by
       rw[hroot,q3];have:∀(ns l:bL) (i:Nat),(nK ns n.facts l i).map uk=l.map uk:=by
        intro ns l
        induction l with
        |nil=>intro i;rfl
        |cons x l ih=>intro i;rw[nK,av,ih];rfl
       exact this _ _ _
      exact⟨r1,r2,by rw[hE];exact q1⟩
    rw[hm,w8];rfl
end Go.Cx
namespace Go.Cx
open Go.RowKit Go.Proofs Tryz
theorem PU{fs:aJ}(hf:FS fs):∀(cs:ah) (l:ar) (n:Nat),(∀c∈cs,c.wt<=1048576)->(∀t∈l,TK n t)->∀t∈cs.foldl (rM fs) l,TK (n+cs.length) t
 | [],l,n,_,hl=>hl
 |c::cs,l,n,hc,hl=>by
  have:=PU hf cs (rM fs l c) (n+1) (fun x hx=>hc x (by simp[hx])) (P0 hl (hc c (by simp)) hf);rw[aV,show n+(cs.length+1)=n+1+cs.length from by omega];exact this
def Vq(rs:ai)(fs:aJ):cX:=bif qp rs then rs.flatMap fun r=>mtB r fs else []
end Go.Cx
namespace Go.Cx
open Go.RowKit Go.Proofs Tryz
theorem UM{b:aM}{x y:Bytes}(h:(xB b x y).2=true):iH (xB b x y).1=true:=by
 unfold xB at h⊢;cases hc:iH b&&(fQ x&&fR y)with
 |false=>rw[hc]at h;cases h
 |true=>
  rw[hc,aH]at h;rw[aH];simp only[aS]at hc;cases hf:dD x b with
  |some o=>
   rw[hf]at h;dsimp only at h⊢;cases ho:o==y with
   |false=>rw[ho]at h;cases h
   |true=>exact hc.1
  |none=>
   rw[hf]at h;dsimp only at h⊢;cases hd:decide (b.length=6)with
   |true=>rw[hd]at h;cases h
   |false=>exact Dh hc.2.1 hc.2.2 hc.1 hf (of_decide_eq_false hd)
theorem K7:∀(l r:aG) (b:aM),iH b=true->(sV l r b).2=true->iH (sV l r b).1=true
 | [],_,b,hb,_=>hb
 |_::_,[],_,_,h=>by cases h
 |x::xs,y::ys,b,hb,h=>by
  simp only[sV]at h⊢;cases hx:fR x with
  |true=>
   rw[hx,aH]at h;rw[aH];cases hxy:x==y with
   |false=>rw[hxy]at h;cases h
   |true=>rw[hxy,aH]at h;rw[aH];exact K7 xs ys b hb h
  |false=>
   rw[hx,aQ]at h;rw[aQ];cases he:(xB b x y).2 with
   |false=>rw[he]at h;cases h
   |true=>rw[he,aH]at h;rw[aH];exact K7 xs ys _ (UM he) h
theorem Ug{p f:aD}{b:aM}(hb:iH b=true)(h:(nN p f b).2=true):iH (nN p f b).1=true:=by
 unfold nN at h⊢;cases hc:xq p&&(oB f&&(iH b&&(p.rel==f.rel&&decide (p.args.length=f.args.length))))with
 |false=>rw[hc]at h;cases h
 |true=>rw[hc,aH]at h;rw[aH];exact K7 _ _ _ hb h
theorem Uo{c:aL}{fs:aJ}{t u:aT}(hb:iH t.bind=true)(hu:u∈Bn c fs t):iH u.bind=true:=by
 unfold Bn at hu;cases hk:decide (c.kind=1)with
 |true=>
  rw[hk,aH]at hu;obtain⟨f,hf,hu⟩:=bg.1 hu;unfold ext1 at hu;cases hm:(nN c.pat f t.bind).2 with
  |false=>rw[hm]at hu;cases hu
  |true=>
   rw[hm,aH]at hu;rw[cA.1 hu];exact Ug hb hm
 |false=>
  rw[hk,aQ]at hu;cases hh:Aw c t.bind fs with
  |false=>rw[hh]at hu;cases hu
  |true=>rw[hh,aH]at hu;rw[cA.1 hu];exact hb
theorem RH(fs:aJ):∀(cs:ah) (A:ar),(∀t∈A,iH t.bind=true)->∀u∈cs.foldl (rM fs) A,iH u.bind=true
 | [],_,h=>h
 |c::cs,A,h=>RH fs cs (rM fs A c) (fun u hu=>by
  obtain⟨t,ht,hu⟩:=bg.1 hu;exact Uo (h t ht) hu)
theorem V5{cs:ah}{fs:aJ}:∀u∈tP cs fs,iH u.bind=true:=RH fs cs [⟨[],[]⟩] (fun t ht=>by rw[cA.1 ht];rfl)
def Vx(b:aM)(w:aM)(x:aR):aM:=bif (oy b x.value).2 then vz x.var (oy b x.value).1 w else w
def bkB(b to:aM):aM:=to.foldl (Vx b) []
theorem Vw{b:aM}(h:iH b=true):PB b:=by
 have h6:=F6 h;refine⟨by omega,fun p hp=>?_⟩;obtain⟨h1,h2⟩:=BH (tX h) p hp;have:=Ez h1;have:=zD h2;omega
theorem Y0(b to:aM)(k:aM->Option aM):∀(l:aM) (i:Nat) (w:aM),(∀x∈l,x.value.length<=1048576)->w.length+l.length<=1000000->rK b to k l i w=k (l.foldl (Vx b) w)
 | [],_,_,_,_=>rfl
 |x::l,i,w,h,hl=>by
  simp only[aV]at hl;have ih:=Y0 b to k l (i+1);rw[rK,a0r b x.value (h x (by simp)),aA,cJ,a2G w x.var _ (by omega),aA];unfold Vx;cases(oy b x.value).2 with
  |true=>rw[aH,aH];exact ih _ (fun y hy=>h y (by simp[hy])) (by rw[Bs];omega)
  |false=>rw[aQ,aQ];exact ih _ (fun y hy=>h y (by simp[hy])) (by omega)
theorem a6W(b to:aM)(h:∀x∈to,x.value.length<=1048576)(hl:to.length<=1000):Au b to=some (bkB b to):=by
 unfold Au;rw[Y0 b to _ to 0 [] h (by simp;omega)];rfl
theorem Wz(a:aI)(w2:cX)(i2:Nat)(t:aT)(i1:Nat)(r:aK)(y:aM)(nd:Node)(fs:aJ)(k:aM->Option cX)(hb:iH t.bind=true):∀(l:aM) (i:Nat) (w:aM),(∀x∈l,fQ x.var=true/\fQ x.value=true/\dD x.var w=none)->(l.map aR.var).Nodup->iH w=true->w.length+l.length<=6->ff a w2 i2 t i1 r y nd fs k l i w=k (l.foldl (Vx t.bind) w)
 | [],_,_,_,_,_,_=>rfl
 |x::l,i,w,h,hn,hw,hl=>by
  simp only[aV]at hl;rw[av,dB]at hn;obtain⟨h1,h2,h3⟩:=h x (by simp);have ih:=Wz a w2 i2 t i1 r y nd fs k hb l (i+1);have hx:=Ez h1;have hv:=Ez h2;rw[ff,a0B t.bind x.value (by omega),aA,cJ];unfold Vx;cases hval:(oy t.bind x.value).2 with
  |false=>rw[aQ,aQ];exact ih w (fun z hz=>h z (by simp[hz])) hn.2 hw (by omega)
  |true=>
   have LH:fR (oy t.bind x.value).1=true:=by
    unfold oy at hval⊢;rw[oP h2,h2,aQ,aH]at hval⊢;cases hf:dD x.value t.bind with
    |none=>rw[hf]at hval;cases hval
    |some o=>
     obtain⟨p,hp,_,e⟩:=xC hf;dsimp only;rw[<-e];exact(BH (tX hb) p hp).2
   have hal:=zD LH;have hne:w.length≠6:=by omega
   have he:xB w x.var (oy t.bind x.value).1=(vz x.var (oy t.bind x.value).1 w,true):=by
    unfold xB;rw[hw,h1,LH,h3,bH hne];rfl
   rw[aH,aH,a5l w x.var _ (Vw hw) (by omega) (by omega),aA,he];refine ih _ (fun z hz=>?_) hn.2 (Dh h1 LH hw h3 hne) (by rw[Bs];omega);obtain⟨z1,z2,z3⟩:=h z (by simp[hz]);refine⟨z1,z2,?_⟩;rw[uN (fun e=>hn.1 (by rw[e];exact bu.2 ⟨z,hz,rfl⟩))];exact z3
def cfT(r:aK)(t:aT):bS:=⟨r.name,t.facts,bkB t.bind (gN r)⟩
def TF(t:aT):Prop:=t.facts.length<=1048576/\∀f∈t.facts,f.args.length<=1048576
theorem MQ{r:aK}(h:fP r=true):(∀x∈gN r,fQ x.var=true/\fQ x.value=true)/\((gN r).map aR.var).Nodup/\(gN r).length<=6:=by
 refine⟨fun x hx=>?_,Bm (vX r.conds) RS.nil,K8 h⟩;obtain⟨i,hi,_,hval,hv⟩:=PY (JJ (vX r.conds) Vn.nil) hx;have:=K8 h;unfold gN at this;exact⟨hv,by rw[hval];exact Tn i (by omega)⟩
theorem a1z(a:aI)(i1:Nat)(r:aK)(nd:Node)(k:cX->Option cX)(hr:fP r=true):∀(l:ar) (i:Nat) (w:cX),(∀t∈l,TF t)->w.length+l.length<=1099511627000->mQ a i1 r (gN r) nd k l i w=k (w++l.map (cfT r))
 | [],_,_,_,_=>by rw[mQ];simp
 |t::l,i,w,h,hl=>by
  simp only[aV]at hl;obtain⟨n1,n2,n3⟩:=MQ hr;obtain⟨h1,h2⟩:=h t (by simp);rw[mQ,A8 t.facts h1 h2,aA,a6W t.bind (gN r) (fun x hx=>by have:=Ez (n1 x hx).2;omega) (by omega),aA,ic (by omega) (by decide),aH,a1z a i1 r nd k hr l _ _ (fun u hu=>h u (by simp[hu])) (by simp;omega)];simp[cfT]
theorem a1R(a:aI)(i1:Nat)(r:aK)(nd:Node)(k:cX->Option cX)(hr:fP r=true):∀(l:ar) (i:Nat) (w:cX),(∀t∈l,TF t/\iH t.bind=true)->w.length+l.length<=1099511627000->fe a i1 r (gN r) nd k l i w=k (w++l.map (cfT r))
 | [],_,_,_,_=>by rw[fe];simp
 |t::l,i,w,h,hl=>by
  simp only[aV]at hl;obtain⟨n1,n2,n3⟩:=MQ hr;obtain⟨⟨h1,h2⟩,h3⟩:=h t (by simp);rw[fe,v8 t.facts h1 h2,aA,sU (by omega),aH,Wz _ _ _ _ _ _ _ _ _ _ h3 (gN r) 0 [] (fun x hx=>⟨(n1 x hx).1,(n1 x hx).2,rfl⟩) n2 rfl (by simp;omega),ic (by omega) (by decide),aH,a1R a i1 r nd k hr l _ _ (fun u hu=>h u (by simp[hu])) (by simp;omega)];simp[cfT,bkB]
theorem F8(ns:bL)(fs:aJ):∀(l:bL) (i j:Nat),(nK ns fs l i)[j]?=(l[j]?).map fun x=>⟨x.parent,x.cond,x.dL,tP (fO ns (dG (i+j))) fs⟩
 | [],_,_=>by simp[nK]
 |x::l,i,0=>by simp[nK]
 |x::l,i,j+1=>by
  rw[nK,gB,gB,F8 ns fs l (i+1) j,show i+1+j=i+(j+1)by omega]
def Pj(n:aI)(i:Nat)(r:aK):Prop:=fP r=true/\r.wt<=1048576/\∃(b:Nat) (nd:Node),n.ends[i]?=some (dG b)/\n.nodes[b]?=some nd/\nd.tokens.length<=390625/\∀t∈nd.tokens,TF t/\iH t.bind=true
def WL(n:aI)(i:Nat):ar:=match n.ends[i]? with
 |some e=>(match hO n.nodes e with|some nd=>nd.tokens|none=>[])
 |none=>[]
def TG(n:aI):ai->Nat->cX
 | [],_=>[]
 |r::rs,i=>(WL n i).map (cfT r)++TG n rs (i+1)
theorem Pj.get{n:aI}{i:Nat}{r:aK}(h:Pj n i r):∃e nd,hO n.ends (i:Int)=some e/\hO n.nodes e=some nd/\WL n i=nd.tokens/\nd.tokens.length<=390625/\∀t∈nd.tokens,TF t/\iH t.bind=true:=by
 obtain⟨_,_,b,nd,h1,h2,h3,h4⟩:=h;have e1:hO n.ends (i:Int)=some (dG b):=by unfold hO;rw[ay (by omega),aH];exact h1
 have e2:hO n.nodes (dG b)=some nd:=by unfold hO dG;rw[ay (by omega),aH];exact h2
 exact⟨dG b,nd,e1,e2,by unfold WL;rw[h1];dsimp only;rw[e2],h3,h4⟩
theorem a1y(n:aI)(k:cX->Option cX)(hn:uH n=some true):∀(l:ai) (i:Nat) (w:cX),(∀(j:Nat) r,l[j]?=some r->Pj n (i+j) r)->w.length+390625*l.length<=100000000->ja n k l i w=k (w++TG n l i)
 | [],_,_,_,_=>by rw[ja];simp[TG]
 |r::l,i,w,h,hl=>by
  simp only[aV]at hl;have h0:=h 0 r rfl;rw[rU]at h0;obtain⟨e,nd,g1,g2,g3,g4,g5⟩:=h0.get;rw[ja,hn,aA,aH,YC r h0.2.1,aA,g1,aA,g2,aA,sU (by omega),aH,a1z n i r nd _ h0.1 nd.tokens 0 w (fun t ht=>(g5 t ht).1) (by omega),a1y n k hn l (i+1) _ (fun j x hx=>by rw[show i+1+j=i+(j+1)by omega];exact h (j+1) x (by simpa using hx)) (by simp;omega),TG,g3,cu]
theorem a1Q(n:aI)(k:cX->Option cX):∀(l:ai) (i:Nat) (w:cX),(∀(j:Nat) r,l[j]?=some r->Pj n (i+j) r)->w.length+390625*l.length<=100000000->fc n k l i w=k (w++TG n l i)
 | [],_,_,_,_=>by rw[fc];simp[TG]
 |r::l,i,w,h,hl=>by
  simp only[aV]at hl;have h0:=h 0 r rfl;rw[rU]at h0;obtain⟨e,nd,g1,g2,g3,g4,g5⟩:=h0.get;rw[fc,XB r h0.2.1,aA,g1,aA,g2,aA,sU (by omega),aH,a1R n i r nd _ h0.1 nd.tokens 0 w g5 (by omega),a1Q n k l (i+1) _ (fun j x hx=>by rw[show i+1+j=i+(j+1)by omega];exact h (j+1) x (by simpa using hx)) (by simp;omega),TG,g3,cu]
theorem QE{n:aI}(hb:K6 n=true)(hr:rP aK.wt n.rules<=1048576)(hf:rP aD.wt n.facts<=1048576):∀(i:Nat) r,n.rules[i]?=some r->Pj n i r:=by
 intro i r hri;unfold K6 J3 mI at hb;simp only[aS,bD]at hb;obtain⟨b1,b2,_,_,b3,_,_,b4⟩:=hb;have hm:=aE hri;have hv:=pZ b1 r hm;have hrw:r.wt<=1048576:=by have:=qK (w:=aK.wt) hm;omega
 obtain⟨b,e1,e2,e3⟩:=(vp [] n.rules).2.2 i r hri;have hx:=aa e2;have h4:=xG hv;have h24:=uD b2;have Yy:=FS.J9 hf;refine⟨hv,hrw,b,⟨((cm [] n.rules).1.2[b]).parent,((cm [] n.rules).1.2[b]).cond,((cm [] n.rules).1.2[b]).dL,tP (eP r) n.facts⟩,by rw[b3];exact e1,?_,RG h4 h24,?_⟩
 ·rw[b4];unfold jV;rw[F8,hx,cY,e3];rfl
 ·intro t ht;have ht':t∈(eP r).foldl (rM n.facts) [⟨[],[]⟩]:=ht;have hk:=PU Yy (eP r) [⟨[],[]⟩] 0 (Ep hv) P4 t ht';exact⟨⟨by have:=hk.1;omega,fun f hff=>aD.dK (hk.2.1 f hff)⟩,V5 t ht⟩
theorem aAI(n:aI)(hr:rP aK.wt n.rules<=1048576)(hf:rP aD.wt n.facts<=1048576):zj n=some (bif K6 n then TG n n.rules 0 else []):=by
 unfold zj;have hi:=a43 n hr hf;cases hb:K6 n with
 |true=>
  rw[hb]at hi;have h6:n.rules.length<=6:=by
   have Mv:=hb;unfold K6 qp at Mv;simp only[aS,bD]at Mv;omega
  rw[a1y n _ hi n.rules 0 [] (fun j r hj=>by rw[cY];exact QE hb hr hf j r hj) (by simp;omega)];rfl
 |false=>
  rw[hb]at hi;cases sv:n.rules with
  |nil=>rfl
  |cons r rs=>rw[ja,hi];rfl
theorem a1T(n:aI)(hr:rP aK.wt n.rules<=1048576)(hf:rP aD.wt n.facts<=1048576):mT n=some (bif K6 n then TG n n.rules 0 else []):=by
 unfold mT rY;rw[SA n hr hf,aA];cases hb:K6 n with
 |true=>
  have h6:n.rules.length<=6:=by
   have Mv:=hb;unfold K6 qp at Mv;simp only[aS,bD]at Mv;omega
  rw[a1Q n _ n.rules 0 [] (fun j r hj=>by rw[cY];exact QE hb hr hf j r hj) (by simp;omega)];rfl
 |false=>rfl
end Go.Cx
namespace Go.Cx
open Go.RowKit Go.Proofs Tryz
def findF(f:aD):aJ->Nat->Int
 | [],_=> -1
 |x::xs,i=>if x=f then(i:Int)else findF f xs (i+1)
theorem F9(f:aD):∀(l:aJ) (i:Nat),decide (findF f l i>=0)=decide (f∈l)
 | [],i=>by simp[findF]
 |x::xs,i=>by
  rw[findF];by_cases h:x=f
  ·rw[bK h];subst h;simp
  ·rw[az h,F9 f xs (i+1)];have:f≠x:=fun e=>h e.symm
   simp[this]
theorem a3z(l:aJ)(f:aD):yM l f=some (findF f l 0):=by
 unfold yM;have:∀(r:aJ) (i:Nat),rp l f (some (-1)) r i=some (findF f r i):=by
  intro r
  induction r with
  |nil=>intro i;rfl
  |cons x xs ih=>
   intro i;rw[rp,Se,aA,ih,findF];by_cases h:x=f
   ·rw[ay h,bK h,aH]
   ·rw[bH h,az h,aQ]
 exact this l 0
theorem X9(l:aJ)(f:aD):pP l f=some (findF f l 0):=by
 unfold pP;have:∀(r:aJ) (i:Nat),jl l f (some (-1)) r i=some (findF f r i):=by
  intro r
  induction r with
  |nil=>intro i;rfl
  |cons x xs ih=>
   intro i;rw[jl,XC,aA,ih,findF];by_cases h:x=f
   ·rw[ay h,bK h,aH]
   ·rw[bH h,az h,aQ]
 exact this l 0
theorem Nf{a b:Bytes}(h:vu a b>0):vu b a<0:=by
 unfold vu at h⊢;by_cases h1:Op.bytesLess a b=true
 ·rw[bK h1]at h;omega
 ·rw[az h1]at h;by_cases h2:a=b
  ·rw[bK h2]at h;omega
  ·have h3:Op.bytesLess b a=true:=by
    cases hb:Op.bytesLess b a with
    |true=>rfl
    |false=>exact absurd (Dj (by simpa using h1) hb) h2
   rw[bK h3];omega
theorem Nh{a b:Bytes}(h:vu a b=0):a=b:=dO fun hne=>TM hne h
theorem Lg{a b:Bytes}(h:vu a b<0):vu b a>0:=by
 unfold vu at h⊢;by_cases h1:Op.bytesLess a b=true
 ·have h3:=I3 h1;have h4:¬(Op.bytesLess b a=true):=by rw[h3];simp
  have h5:¬b=a:=fun e=>by subst e;rw[pO]at h1;cases h1
  rw[az h4,az h5];omega
 ·rw[az h1]at h;by_cases h2:a=b
  ·rw[bK h2]at h;omega
  ·rw[az h2]at h;omega
theorem Na(a b:Bytes):(BI a b>0->BI b a<0)/\(BI a b=0->a=b)/\(BI a b<0->BI b a>0):=by
 have num:∀ {s:Bytes} {n:Nat},xo s=some n->Lib.decDigits n=s:=by
  intro s n h;unfold xo at h;split at h
  ·split at h
   ·split at h
    ·rename_i h2;cases h;exact h2
    ·cases h
   ·cases h
  ·cases h
 unfold BI;cases ha:xo a with
 |none=>
  cases hb:xo b with
  |none=>exact⟨Nf,Nh,Lg⟩
  |some y=>simp
 |some x=>
  cases hb:xo b with
  |none=>simp
  |some y=>
   simp only[Gf];refine⟨fun h=>?_,fun h=>?_,fun h=>?_⟩
   ·split at h
    ·omega
    ·split at h
     ·rw[bK (by omega)];omega
     ·omega
   ·split at h
    ·omega
    ·split at h
     ·omega
     ·have:x=y:=by omega
      rw[<-num ha,<-num hb,this]
   ·split at h
    ·rw[az (by omega),bK (by omega)];omega
    ·split at h<;>omega
theorem Ln{α:Type}{g:α->α->Int}(hg:∀a b,(g a b>0->g b a<0)/\(g a b=0->a=b)/\(g a b<0->g b a>0)):∀(a b:List α),
 (∀z,tr g a b=some z->z≠0/\∃y,tr g b a=some y/\(z>0->y<0)/\(z<0->y>0))/\(tr g a b=none->tr g b a=none/\(a.length=b.length->a=b))
 | [],[]=>⟨fun z h=>(by simp[tr]at h),fun _=>⟨rfl,fun _=>rfl⟩⟩
 | [],y::ys=>⟨fun z h=>(by simp[tr]at h),fun _=>⟨by simp[tr],fun h=>by simp at h⟩⟩
 |x::xs,[]=>⟨fun z h=>(by simp[tr]at h),fun _=>⟨by simp[tr],fun h=>by simp at h⟩⟩
 |x::xs,y::ys=>by
  obtain⟨i1,i2⟩:=Ln hg xs ys;obtain⟨g1,g2,g3⟩:=hg x y;by_cases h0:g x y=0
  ·have e:=g2 h0;subst e;simp only[tr,h0,ne_eq,not_true_eq_false,zN];exact⟨i1,fun h=>⟨(i2 h).1,fun hl=>by rw[(i2 h).2 (by simpa using hl)]⟩⟩
  ·have h1:g y x≠0:=by
    intro e;by_cases hp:g x y>0
    ·have:=g1 hp;omega
    ·have:=g3 (by omega);omega
   simp only[tr,ne_eq,h0,h1,not_false_eq_true,qd];refine⟨fun z h=>?_,fun h=>by cases h⟩;cases h;exact⟨h0,_,rfl,g1,g3⟩
theorem Nd{α:Type}{g:α->α->Int}(hg:∀a b,(g a b>0->g b a<0)/\(g a b=0->a=b)/\(g a b<0->g b a>0))(a b:List α):(cmpL g a b>0->cmpL g b a<0)/\(cmpL g a b=0->a=b)/\(cmpL g a b<0->cmpL g b a>0):=by
 obtain⟨h1,h2⟩:=Ln hg a b;unfold cmpL;cases hd:tr g a b with
 |some z=>
  obtain⟨hz,y,hy,p,q⟩:=h1 z hd;rw[hy];exact⟨p,fun e=>absurd e hz,q⟩
 |none=>
  obtain⟨h3,h4⟩:=h2 hd;rw[h3];simp only[Gf];refine⟨fun h=>?_,fun h=>?_,fun h=>?_⟩
  ·split at h
   ·omega
   ·split at h
    ·rw[bK (by omega)];omega
    ·omega
  ·split at h
   ·omega
   ·split at h
    ·omega
    ·exact h4 (by omega)
  ·split at h
   ·rw[az (by omega),bK (by omega)];omega
   ·split at h<;>omega
theorem zE(a b:aD):(qN a b>0->qN b a<0)/\(qN a b=0->a=b)/\(qN a b<0->qN b a>0):=by
 obtain⟨h1,h2,h3⟩:=Nd Na a.args b.args;unfold qN;by_cases hr:a.rel=b.rel
 ·rw[az (by simpa using hr),az (by simpa using hr.symm)];refine⟨h1,fun h=>?_,h3⟩;cases a;cases b;simp only at hr h2 h;rw[hr,h2 h]
 ·have Zt:b.rel≠a.rel:=fun e=>hr e.symm
  rw[bK hr,bK Zt];exact⟨Nf,fun h=>absurd (Nh h) hr,Lg⟩
def kZ(f:aD):aJ->aJ
 | []=>[f]
 |x::xs=>if qN x f>0 then f::x::xs else x::kZ f xs
theorem Iy(f:aD):∀(l:aJ) (x:aD),x∈kZ f l↔x=f\/x∈l
 | [],x=>by simp[kZ]
 |y::ys,x=>by
  rw[kZ];split
  ·simp
  ·simp only[bB,Iy f ys x];constructor
   ·rintro(h|h|h)<;>simp[h]
   ·rintro(h|h|h)<;>simp[h]
theorem MB(f:aD):∀(l:aJ),(kZ f l).length=l.length+1
 | []=>rfl
 |y::ys=>by rw[kZ];split<;>simp[MB f ys]
theorem NY{f:aD}(hf:oB f=true):∀(l:aJ) (p:Option aD),chainB p l=true->f∉l->(∀q,p=some q->qN q f<0)->chainB p (kZ f l)=true
 | [],p,_,_,hp=>by
  cases p with
  |none=>simp[kZ,chainB,hf]
  |some q=>simp[kZ,chainB,hf,hp q rfl]
 |x::xs,p,h,hn,hp=>by
  simp only[bB,yF]at hn;have hx:chainB (some x) xs=true/\oB x=true/\(∀q,p=some q->qN q x<0):=by
   cases p with
   |none=>simp[chainB]at h;exact⟨h.2,h.1,by simp⟩
   |some q=>
    simp only[chainB,aS,bD]at h;exact⟨by first|exact h.2.2|exact h.2,by first|exact h.1.1|exact h.1,fun q' e=>by cases e;first|exact h.1.2|exact h.2.1⟩
  rw[kZ];split
  ·rename_i hgt;have h1:=(zE x f).1 hgt;cases p with
   |none=>simp[chainB,hf,hx.2.1,h1,hx.1]
   |some q=>simp[chainB,hf,hx.2.1,h1,hx.1,hp q rfl]
  ·rename_i hle;have hlt:qN x f<0:=by
    have:qN x f≠0:=fun e=>hn.1 ((zE x f).2.1 e).symm
    omega
   have ih:=NY hf xs (some x) hx.1 hn.2 (fun q e=>by cases e;exact hlt);cases p with
   |none=>simp[chainB,hx.2.1,ih]
   |some q=>simp[chainB,hx.2.1,ih,hx.2.2 q rfl]
theorem I1{f:aD}{l:aJ}(hf:oB f=true)(hl:fZ l=true)(hn:f∉l)(h24:l.length≠24):fZ (kZ f l)=true:=by
 unfold fZ at hl⊢;simp only[aS,bD]at hl⊢;exact⟨NY hf l none hl.1 hn (by simp),by rw[MB];omega⟩
theorem a6f(a:aJ)(f:aD)(K:Bool->aJ->Option aJ)(hf:f.args.length<=1099511627776):∀(rest:aJ) (i:Nat) (v:Bool) (w:aJ),(∀x∈rest,x.args.length<=1099511627776)->w.length+2*rest.length<=1048576->f∉rest->
 (v=true->cr a f K rest i v w=K true (w++rest))/\
 (v=false->(cr a f K rest i v w=K true (w++kZ f rest))\/(cr a f K rest i v w=K false (w++rest)/\kZ f rest=rest++[f])):=by
 intro rest
 induction rest with
 |nil=>intro i v w _ _ _;exact⟨fun h=>by subst h;simp[cr],fun h=>by subst h;exact .inr ⟨by simp[cr],rfl⟩⟩
 |cons x xs ih=>
  intro i v w hs hl hn;simp only[aV]at hl;simp only[bB,yF]at hn;have hx:=hs x (by simp);have hs':∀y∈xs,y.args.length<=1099511627776:=fun y hy=>hs y (by simp[hy])
  have cx:=Cb x hx;have cf:=Cb f hf;have nx:=fun w':aJ=>fun h:w'.length<1099511627776=>ic (w:=w') (c:=aD.c) (y:=[D.str x.rel,D.sl (x.args.map tx)]) (b:=40) h (by decide)
  have nf:=fun w':aJ=>fun h:w'.length<1099511627776=>ic (w:=w') (c:=aD.c) (y:=[D.str f.rel,D.sl (f.args.map tx)]) (b:=40) h (by decide)
  constructor
  ·intro h;subst h;rw[cr,bQ,aQ,cx,aA,nx w (by omega),aH,(ih (i+1) true (w++[x]) hs' (by simp;omega) hn.2).1 rfl];simp
  ·intro h;subst h;rw[cr,bz,aH,Y2,aA];by_cases hgt:qN x f>0
   ·left
    have e2:room (((w.map aD.c)++[[D.str f.rel,D.sl (f.args.map tx)]]).length+[[D.str x.rel,D.sl (x.args.map tx)]].length) 40=true:=by
     have:=nx (w++[f]) (by simp;omega);rw[bG]at this;exact this
    rw[ay (by omega:qN x f>=0),aH,aA,ay hgt,aH,cf,aA,nf w (by omega),aH,cx,aA,e2,aH];rw[(ih (i+1) true (w++[f]++[x]) hs' (by simp;omega) hn.2).1 rfl,kZ,bK hgt];simp
   ·have hlt:¬qN x f>=0:=by
     have:qN x f≠0:=fun e=>hn.1 ((zE x f).2.1 e).symm
     omega
    rw[bH hlt,aQ,cx,aA,nx w (by omega),aH];rw[kZ,az hgt];rcases(ih (i+1) false (w++[x]) hs' (by simp;omega) hn.2).2 rfl with q|⟨q1,q2⟩
    ·left;rw[q];simp
    ·right;rw[q1,q2];simp
theorem a6e(l:aJ)(f:aD)(hf:f.args.length<=1099511627776)(hl:∀x∈l,x.args.length<=1099511627776)(hn:l.length<=1000)(hm:f∉l):s5 l f=some (kZ f l):=by
 unfold s5;rcases(a6f l f _ hf l 0 false [] hl (by simp;omega) hm).2 rfl with q|⟨q1,q2⟩
 ·rw[q];rfl
 ·rw[q1,q2];show(bif !false then _ else _)=_;rw[bz,aH,Cb f hf,aA,cw,ic (w:=l) (c:=aD.c) (y:=[D.str f.rel,D.sl (f.args.map tx)]) (by omega) (by decide),aH]
def NA(l:aJ)(f:aD):aJ×Bool:=if fZ l=true/\oB f=true/\f∉l/\l.length≠24 then(kZ f l,true)else(l,false)
theorem Lh{a b c:Bytes}(h1:vu a b<0)(h2:vu b c<0):vu a c<0:=by
 have lt:∀ {x y:Bytes},vu x y<0->Op.bytesLess x y=true:=by
  intro x y h;unfold vu at h;split at h
  ·assumption
  ·split at h<;>omega
 have:=xS (lt h1) (lt h2);unfold vu;rw[bK this];omega
theorem Zd{x y:Int}:Gf x y<0↔x<y:=by
 unfold Gf;split
 ·omega
 ·split<;>omega
theorem Ri{a b c:Bytes}(h1:BI a b<0)(h2:BI b c<0):BI a c<0:=by
 unfold BI at*;cases ha:xo a<;>cases hb:xo b<;>cases hc:xo c<;>simp only[ha,hb,hc]at h1 h2⊢ <;>first|omega|exact Lh h1 h2| (rw[Zd]at*;omega)
theorem Zc{α:Type}(g:α->α->Int):cmpL g [] []=0:=rfl
theorem Zb{α:Type}(g:α->α->Int)(y:α)(ys:List α):cmpL g [] (y::ys)= -1:=by
 unfold cmpL tr Gf;simp<;>omega
theorem TL{α:Type}(g:α->α->Int)(x:α)(xs:List α):cmpL g (x::xs) []=1:=by
 unfold cmpL tr Gf;simp<;>omega
theorem TJ{α:Type}(g:α->α->Int)(x y:α)(xs ys:List α):cmpL g (x::xs) (y::ys)=if g x y≠0 then g x y else cmpL g xs ys:=by
 unfold cmpL;rw[tr];by_cases h:g x y≠0
 ·rw[bK h,bK h]
 ·rw[az h,az h,aV,aV];cases tr g xs ys with
  |some z=>rfl
  |none=>
   show Gf _ _=Gf _ _;unfold Gf
   congr 1
   ·rw[tU];omega
   ·congr 1
    rw[tU];omega
theorem Lf{α:Type}{g:α->α->Int}(h0:∀a b,g a b=0->a=b)(ht:∀a b c,g a b<0->g b c<0->g a c<0):∀(a b c:List α),cmpL g a b<0->cmpL g b c<0->cmpL g a c<0
 | [],[],c,h1,_=>by rw[Zc]at h1;omega
 |_::_,[],c,h1,_=>by rw[TL]at h1;omega
 |_,y::ys,[],_,h2=>by rw[TL]at h2;omega
 | [],y::ys,z::zs,_,_=>by rw[Zb];omega
 |x::xs,y::ys,z::zs,h1,h2=>by
  rw[TJ]at*;by_cases e1:g x y=0
  ·have:=h0 _ _ e1;subst this;rw[az (by omega)]at h1;by_cases e2:g x z=0
   ·rw[az (by omega)]at h2⊢;exact Lf h0 ht xs ys zs h1 h2
   ·rw[bK e2]at h2⊢;exact h2
  ·rw[bK e1]at h1;by_cases e2:g y z=0
   ·have:=h0 _ _ e2;subst this;rw[bK e1];exact h1
   ·rw[bK e2]at h2;have:=ht x y z h1 h2;rw[bK (by omega)];exact this
theorem Ge{a b c:aD}(h1:qN a b<0)(h2:qN b c<0):qN a c<0:=by
 unfold qN at*;by_cases e1:a.rel=b.rel
 ·by_cases e2:b.rel=c.rel
  ·rw[az (by simpa using e1)]at h1;rw[az (by simpa using e2)]at h2;rw[az (by simpa using e1.trans e2)];exact Lf (fun a b=>(Na a b).2.1) (fun _ _ _=>Ri) _ _ _ h1 h2
  ·rw[bK e2]at h2;rw[e1,bK e2];exact h2
 ·rw[bK e1]at h1;by_cases e2:b.rel=c.rel
  ·rw[<-e2,bK e1];exact h1
  ·rw[bK e2]at h2;have:=Lh h1 h2;have hne:a.rel≠c.rel:=fun e=>by rw[e,Ng]at this;omega
   rw[bK hne];exact this
theorem BJ(a:aD):¬qN a a<0:=by
 intro h;have:=(zE a a).2.2 h;omega
theorem Nb(a:aD):qN a a=0:=by
 have h1:=BJ a;have h2:=(zE a a).1;omega
theorem Nc{a b:aJ}:cmpL qN a b=0↔a=b:=by
 constructor
 ·exact(Nd zE a b).2.1
 ·rintro rfl
  induction a with
  |nil=>rfl
  |cons x xs ih=>rw[TJ,az (by simp[Nb]),ih]
theorem rO{p:Option aD}{x:aD}{xs:aJ}(h:chainB p (x::xs)=true):oB x=true/\(∀q,p=some q->qN q x<0)/\chainB (some x) xs=true:=by
 cases p with
 |none=>simp[chainB]at h;exact⟨h.1,by simp,h.2⟩
 |some q=>
  simp only[chainB,aS,bD]at h;exact⟨h.1.1,fun q' e=>by cases e;exact h.1.2,h.2⟩
theorem x6:∀ {l:aJ} {p:aD},chainB (some p) l=true->∀x∈l,qN p x<0
 | [],_,_,_,h=>by cases h
 |y::ys,p,h,x,hx=>by
  obtain⟨_,h2,h3⟩:=rO h;have hp:=h2 p rfl;rcases bB.1 hx with rfl|hx
  ·exact hp
  ·exact Ge hp (x6 h3 x hx)
theorem I4:∀ {l:aJ} {p:Option aD},chainB p l=true->l.Nodup
 | [],_,_=>List.nodup_nil
 |x::xs,p,h=>by
  obtain⟨_,_,h3⟩:=rO h;rw[dB];exact⟨fun hx=>BJ x (x6 h3 x hx),I4 h3⟩
theorem KP{l:aJ}(h:fZ l=true):l.Nodup:=by
 unfold fZ at h;simp only[aS]at h;exact I4 h.1
theorem KS:∀ {l:aJ} {p:Option aD},chainB p l=true->∀x∈l,oB x=true
 | [],_,_,_,h=>by cases h
 |y::ys,p,h,x,hx=>by
  obtain⟨h1,_,h3⟩:=rO h;rcases bB.1 hx with rfl|hx
  ·exact h1
  ·exact KS h3 x hx
def GB(f:aD)(l:aJ):aJ:=l.filter fun x=> !decide (x=f)
theorem QA{p:Option aD}{x:aD}{xs:aJ}(h:chainB (some x) xs=true)(hp:∀q,p=some q->qN q x<0):chainB p xs=true:=by
 cases xs with
 |nil=>cases p<;>rfl
 |cons y ys=>
  obtain⟨h1,h2,h3⟩:=rO h;cases p with
  |none=>simp[chainB,h1,h3]
  |some q=>simp[chainB,h1,h3,Ge (hp q rfl) (h2 x rfl)]
theorem Lc(f:aD):∀(l:aJ) (p:Option aD),chainB p l=true->chainB p (GB f l)=true
 | [],_,h=>h
 |x::xs,p,h=>by
  obtain⟨h1,h2,h3⟩:=rO h;have ih:=Lc f xs;unfold GB at*;by_cases e:x=f
  ·rw[nT (by simp[e])];exact ih p (QA h3 h2)
  ·rw[qn (by simp[e])];have:=ih (some x) h3;cases p with
   |none=>simp[chainB,h1,this]
   |some q=>simp[chainB,h1,this,h2 q rfl]
theorem T7{l:aJ}(f:aD)(h:fZ l=true):fZ (GB f l)=true:=by
 unfold fZ at h⊢;simp only[aS,bD]at h⊢;exact⟨Lc f l none h.1,dY (sy _ _) h.2⟩
theorem ZQ{l:aJ}{f:aD}(h:(NA l f).2=true):fZ (NA l f).1=true:=by
 unfold NA at h⊢;split at h
 ·rename_i hc;rw[bK hc];exact I1 hc.2.1 hc.1 hc.2.2.1 hc.2.2.2
 ·cases h
def L9(l:aJ)(f:aD):aJ×Bool:=if fZ l=true/\f∈l then(GB f l,true)else(l,false)
end Go.Cx
namespace Go.Cx
open Go.RowKit Go.Proofs Tryz
def KD(A:ar):Prop:=A.Pairwise fun t u=>t.facts≠u.facts
theorem HU{c:aL}{t u:aT}{f:aD}(h:u∈ext1 c t f):u.facts=t.facts++[f]:=by
 unfold ext1 at h;cases hm:(nN c.pat f t.bind).2 with
 |false=>rw[hm]at h;cases h
 |true=>rw[hm,aH]at h;rw[cA.1 h]
theorem MR{c:aL}{fs:aJ}{t u:aT}(h:u∈Bn c fs t):(c.kind=1/\∃f∈fs,u.facts=t.facts++[f])\/(c.kind≠1/\u=t):=by
 unfold Bn at h;by_cases hk:c.kind=1
 ·rw[ay hk,aH]at h;obtain⟨f,hf,hu⟩:=bg.1 h;exact .inl ⟨hk,f,hf,HU hu⟩
 ·rw[bH hk,aQ]at h;cases hh:Aw c t.bind fs with
  |false=>rw[hh]at h;cases h
  |true=>rw[hh,aH]at h;exact .inr ⟨hk,cA.1 h⟩
theorem a0U{c:aL}{fs:aJ}{A:ar}(hf:fs.Nodup)(hA:KD A):KD (rM fs A c):=by
 unfold KD rM;rw[Cu];refine⟨fun t _=>?_,?_⟩
 ·unfold Bn;cases decide (c.kind=1)with
  |true=>
   rw[aH,Cu];refine⟨fun f _=>?_,?_⟩
   ·unfold ext1;cases(nN c.pat f t.bind).2<;>simp
   ·exact List.Pairwise.imp (fun {f g} hne x hx y hy e=>by
     rw[HU hx,HU hy]at e;exact hne (by simpa using e)) hf
  |false=>cases Aw c t.bind fs<;>simp
 ·exact List.Pairwise.imp (fun {t u} hne x hx y hy e=>by
   rcases MR hx with⟨k,f,_,e1⟩|⟨k,e1⟩<;>rcases MR hy with⟨k',g,_,e2⟩|⟨k',e2⟩
   ·rw[e1,e2]at e;exact hne (List.append_inj' e rfl).1
   ·exact k' k
   ·exact k k'
   ·rw[e1,e2]at e;exact hne e) hA
theorem KD.one(t:aT):KD [t]:=List.pairwise_singleton _ _
theorem TT{fs:aJ}(hf:fs.Nodup):∀(cs:ah) {A:ar},KD A->KD (cs.foldl (rM fs) A)
 | [],_,h=>h
 |c::cs,_,h=>TT hf cs (a0U hf h)
theorem a0y{cs:ah}{fs:aJ}(hf:fs.Nodup):KD (tP cs fs):=TT hf cs (KD.one _)
def OX(l:ar)(t:aT):Bool:=l.any fun u=>decide (u.facts=t.facts)
def Iz(now old:ar):Nat:=(now.filter fun t=>OX old t).length
def Ks(al:bN)(x:Node):Prop:=(x.cond.kind=1\/x.cond.kind=2->∃a:Nat,x.dL=dG a/\∃y,al[a]?=some y/\y.shape=vW x.cond.pat)/\(¬(x.cond.kind=1\/x.cond.kind=2)->x.dL= -1)
theorem Ks.mono{al:bN}{x:Node}(h:Ks al x)(m:bN):Ks (al++m) x:=⟨fun hk=>by
 obtain⟨a,h1,y,h2,h3⟩:=h.1 hk;exact⟨a,h1,y,by rw[au (aF.1 h2).1];exact h2,h3⟩,h.2⟩
theorem Pt{sh:aD}:∀ {l:bN} {i j:Nat},T5 sh l i=some j->∃x,l[j-i]?=some x/\i<=j/\x.shape=sh
 |x::l,i,j,h=>by
  unfold T5 at h;split at h
  ·rename_i hc;cases h;exact⟨x,by simp,bR _,hc⟩
  ·obtain⟨y,h1,h2,h3⟩:=Pt h;refine⟨y,?_,by omega,h3⟩;rw[show j-i=(j-(i+1))+1 by omega];exact h1
theorem a2a(al:bN)(sh:aD):(∃m,(Re al sh).1=al++m)/\∃a:Nat,(Re al sh).2=dG a/\∃y,(Re al sh).1[a]?=some y/\y.shape=sh:=by
 unfold Re;cases h:T5 sh al 0 with
 |some i=>
  obtain⟨x,h1,_,h3⟩:=Pt h;exact⟨⟨[],by simp⟩,i,rfl,x,by simpa using h1,h3⟩
 |none=>exact⟨⟨_,rfl⟩,al.length,rfl,⟨sh,[]⟩,by simp,rfl⟩
theorem a2d(al:bN)(c:aL)(p:Int)(tk:ar):(∃m,(Mr al c).1=al++m)/\Ks (Mr al c).1 ⟨p,c,(Mr al c).2,tk⟩:=by
 unfold Mr;by_cases hk:c.kind=1\/c.kind=2
 ·rw[bK hk];obtain⟨h1,h2⟩:=a2a al (vW c.pat);exact⟨h1,fun _=>h2,fun h=>absurd hk h⟩
 ·rw[az hk];exact⟨⟨[],by simp⟩,fun h=>absurd h hk,fun _=>rfl⟩
theorem a2e{al:bN}{ns:bL}{p:Int}{c:aL}(h:∀x∈ns,Ks al x):∀x∈(Hq al ns p c).1.2,Ks (Hq al ns p c).1.1 x:=by
 unfold Hq;cases Ms p c ns 0 with
 |some i=>exact h
 |none=>
  obtain⟨⟨m,hm⟩,h2⟩:=a2d al c p [];intro x hx;rcases af.1 hx with hx|hx
  ·show Ks (Mr al c).1 x;rw[hm];exact(h x hx).mono m
  ·rw[cA.1 hx];exact h2
theorem YU:∀(cs:ah) (s:(bN×bL)×Int),(∀x∈s.1.2,Ks s.1.1 x)->∀x∈(cs.foldl DZ s).1.2,Ks (cs.foldl DZ s).1.1 x
 | [],_,h=>h
 |c::cs,s,h=>YU cs (DZ s c) (a2e h)
theorem YV:∀(l:ai) (z:(bN×bL)×bJ),(∀x∈z.1.2,Ks z.1.1 x)->∀x∈(l.foldl FF z).1.2,Ks (l.foldl FF z).1.1 x
 | [],_,h=>h
 |r::l,z,h=>YV l (FF z r) (YU (eP r) (z.1,0) h)
theorem a0v(tk:ar)(rs:ai):∀x∈(cm tk rs).1.2,Ks (cm tk rs).1.1 x:=
 YV rs (([],[root tk]),[]) (fun x hx=>by
  rw[cA.1 hx];exact⟨fun h=>by simp[root]at h,fun _=>rfl⟩)
theorem RE{tk:ar}{rs:ai}{i:Nat}{x:Node}(h1:1<=i)(hx:(cm tk rs).1.2[i]?=some x):∃r∈rs,x.cond∈eP r:=by
 have hp:=(vp tk rs).1;obtain⟨p,hpp,hpi⟩:=hp.below i x h1 hx;obtain⟨r,hr,j,j1,j2,e⟩:=hp.path i h1 (aF.1 hx).1;rw[xD hx h1 hpp hpi]at e;exact⟨r,hr,cI (by rw[<-e];simp:x.cond∈(eP r).take j)⟩
end Go.Cx
namespace Go.Cx
open Go.RowKit Go.Proofs Tryz
theorem a5t(a:aJ)(f:aD)(K:Bool->aJ->Option aJ)(hf:f.args.length<=1099511627776):∀(rest:aJ) (i:Nat) (v:Bool) (w:aJ),(∀x∈rest,x.args.length<=1099511627776)->w.length+2*rest.length<=1048576->
 (v=true->dR a f K rest i v w=K true (w++rest))/\
 (v=false->(dR a f K rest i v w=K true (w++kZ f rest))\/(dR a f K rest i v w=K false (w++rest)/\kZ f rest=rest++[f])):=by
 intro rest
 induction rest with
 |nil=>intro i v w _ _;exact⟨fun h=>by subst h;simp[dR],fun h=>by subst h;exact .inr ⟨by simp[dR],rfl⟩⟩
 |cons x xs ih=>
  intro i v w hs hl;simp only[aV]at hl;have hx:=hs x (by simp);have hs':∀y∈xs,y.args.length<=1099511627776:=fun y hy=>hs y (by simp[hy])
  have cx:=K5 x hx;have cf:=K5 f hf;have nx:=fun w':aJ=>fun h:w'.length<1099511627776=>ic (w:=w') (c:=aD.c) (y:=[D.str x.rel,D.sl (x.args.map tx)]) (b:=40) h (by decide)
  have nf:=fun w':aJ=>fun h:w'.length<1099511627776=>ic (w:=w') (c:=aD.c) (y:=[D.str f.rel,D.sl (f.args.map tx)]) (b:=40) h (by decide)
  constructor
  ·intro h;subst h;rw[dR,bQ,aQ,cx,aA,nx w (by omega),aH,(ih (i+1) true (w++[x]) hs' (by simp;omega)).1 rfl];simp
  ·intro h;subst h;rw[dR,bz,aH,X3,aA];by_cases hgt:qN x f>0
   ·left
    have e2:room (((w.map aD.c)++[[D.str f.rel,D.sl (f.args.map tx)]]).length+[[D.str x.rel,D.sl (x.args.map tx)]].length) 40=true:=by
     have:=nx (w++[f]) (by simp;omega);rw[bG]at this;exact this
    rw[ay hgt,aH,cf,aA,nf w (by omega),aH,cx,aA,e2,aH];rw[(ih (i+1) true (w++[f]++[x]) hs' (by simp;omega)).1 rfl,kZ,bK hgt];simp
   ·rw[bH hgt,aQ,cx,aA,nx w (by omega),aH];rw[kZ,az hgt];rcases(ih (i+1) false (w++[x]) hs' (by simp;omega)).2 rfl with q|⟨q1,q2⟩
    ·left;rw[q];simp
    ·right;rw[q1,q2];simp
theorem a5s(l:aJ)(f:aD)(hf:f.args.length<=1099511627776)(hl:∀x∈l,x.args.length<=1099511627776)(hn:l.length<=1000):tf l f=some (kZ f l):=by
 unfold tf;rcases(a5t l f _ hf l 0 false [] hl (by simp;omega)).2 rfl with q|⟨q1,q2⟩
 ·rw[q];rfl
 ·rw[q1,q2];show(bif !false then _ else _)=_;rw[bz,aH,K5 f hf,aA,cw,ic (w:=l) (c:=aD.c) (y:=[D.str f.rel,D.sl (f.args.map tx)]) (by omega) (by decide),aH]
theorem a5g(l:aJ)(f:aD)(hl:rP aD.wt l<=1048576)(hf:f.wt<=1048576):tY l f=some (NA l f):=by
 have hm:∀x∈l,x.args.length<=1048576:=fun x hx=>by have:=aD.dK (n:=1048576) (p:=x) (by have:=qK (w:=aD.wt) hx;omega);omega
 have hlen:=qk aD.wt l;have cp:=v8 l (by omega) hm;unfold tY NA;rw[Wy l hl,aA];cases h1:fZ l with
 |false=>rw[bz,aH,cp,aA,az (by simp)]
 |true=>
  have h24:=uD h1;rw[bQ,aQ,X8 f hf,aA];cases h2:oB f with
  |false=>rw[bz,aH,cp,aA,az (by simp)]
  |true=>
   rw[bQ,aQ,X9,aA,F9];by_cases h3:f∈l
   ·rw[ay h3,aH,cp,aA,az (by simp[h3])]
   ·rw[bH h3,aQ,ax];by_cases h4:l.length=24
    ·rw[ay (by omega),aH,cp,aA,az (by simp[h4])]
    ·rw[bH (by omega),aQ,a5s l f (by have:=aD.dK hf;omega) (fun x hx=>by have:=hm x hx;omega) (by omega),aA,bK ⟨rfl,rfl,h3,h4⟩]
theorem a25(a:aJ)(f:aD)(K:aJ->Option aJ):∀(rest:aJ) (i:Nat) (w:aJ),(∀x∈rest,x.args.length<=1048576)->w.length+rest.length<=1048576->mB a f K rest i w=K (w++GB f rest)
 | [],i,w,_,_=>by rw[mB];simp[GB]
 |x::xs,i,w,hs,hl=>by
  simp only[aV]at hl;have ih:=a25 a f K xs (i+1);unfold GB at*;rw[mB,Se,aA];by_cases e:x=f
  ·rw[ay e,bQ,aQ,nT (by simp[e]),ih w (fun y hy=>hs y (by simp[hy])) (by omega)]
  ·rw[bH e,bz,aH,Cb x (by have:=hs x (by simp);omega),aA,ic (w:=w) (c:=aD.c) (y:=[D.str x.rel,D.sl (x.args.map tx)]) (by omega) (by decide),aH,qn (by simp[e]),ih (w++[x]) (fun y hy=>hs y (by simp[hy])) (by simp;omega)];simp
theorem aAJ(l:aJ)(f:aD)(hl:rP aD.wt l<=1048576):AU l f=some (L9 l f):=by
 have hm:∀x∈l,x.args.length<=1048576:=fun x hx=>by have:=aD.dK (n:=1048576) (p:=x) (by have:=qK (w:=aD.wt) hx;omega);omega
 have hlen:=qk aD.wt l;have cp:=A8 l (by omega) hm;unfold AU L9;rw[a1x l hl,aA];cases h1:fZ l with
 |false=>rw[bz,aH,cp,aA,az (by simp)]
 |true=>
  have hd:decide (findF f l 0<0)= !decide (f∈l):=by
   rw[<-F9 f l 0,<-decide_not]
   congr 1
   rw[tU];omega
  rw[bQ,aQ,a3z,aA,hd];by_cases h3:f∈l
  ·rw[ay h3,bQ,aQ,bK ⟨rfl,h3⟩];unfold BX;rw[a25 l f _ l 0 [] hm (by simp;omega)];rfl
  ·rw[bH h3,bz,aH,cp,aA,az (by simp[h3])]
theorem KX{f:aD}:∀ {l:aJ} (i:Nat),f∈l->∃pre post,l=pre++f::post/\f∉pre/\findF f l i=((i+pre.length:Nat):Int)
 | [],_,h=>by cases h
 |x::xs,i,h=>by
  by_cases e:x=f
  ·subst e;exact⟨[],xs,rfl,by simp,by rw[findF,bK rfl];rfl⟩
  ·have hx:f∈xs:=by
    rcases bB.1 h with h|h
    ·exact absurd h.symm e
    ·exact h
   obtain⟨pre,post,h1,h2,h3⟩:=KX (i+1) hx;refine⟨x::pre,post,by rw[h1];rfl,?_,?_⟩
   ·simp only[bB,yF];exact⟨fun h=>e h.symm,h2⟩
   ·rw[findF,az e,h3,aV,show i+1+pre.length=i+(pre.length+1)by omega]
theorem Jx{f:aD}:∀ {l:aJ},f∉l->GB f l=l
 | [],_=>rfl
 |x::xs,h=>by
  simp only[bB,yF]at h;have ih:=Jx (l:=xs) h.2;unfold GB at*;rw[qn (by simp only[nR,nU];exact fun e=>h.1 e.symm),ih]
theorem WE{f:aD}{pre post:aJ}(h1:f∉pre)(h2:f∉post):GB f (pre++f::post)=pre++post:=by
 have e1:=Jx h1;have e2:=Jx h2;unfold GB at*;rw[zK,nT (by simp),e1,e2]
theorem a5x(l:aJ)(f:aD)(hl:rP aD.wt l<=1048576):q9 l f=some (L9 l f):=by
 have hm:∀x∈l,x.args.length<=1048576:=fun x hx=>by have:=aD.dK (n:=1048576) (p:=x) (by have:=qK (w:=aD.wt) hx;omega);omega
 have hlen:=qk aD.wt l;have cp:=v8 l (by omega) hm;unfold q9 L9;rw[X9,aA,Wy l hl,aA];cases h1:fZ l with
 |false=>rw[bz,aH,cp,aA,az (by simp)]
 |true=>
  have hd:decide (findF f l 0<0)= !decide (f∈l):=by
   rw[<-F9 f l 0,<-decide_not]
   congr 1
   rw[tU];omega
  rw[bQ,aQ,hd];by_cases h3:f∈l
  ·rw[ay h3,bQ,aQ,bK ⟨rfl,h3⟩];obtain⟨pre,post,e1,e2,e3⟩:=KX 0 h3;have hnd:=KP h1;have e4:f∉post:=by
    rw[e1,bM]at hnd;exact(dB.1 hnd.2.1).1
   rw[cY]at e3;have hl1:l.length=pre.length+(post.length+1):=by rw[e1];simp
   have hw:IntKind.i64.wrap (findF f l 0+1)=((pre.length+1:Nat):Int):=by rw[e3];exact JK (by omega)
   have p1:xE ((l.map aD.c).length) none (some (D.int .i64 (findF f l 0)))=some (0,pre.length):=by
    rw[a6S (by omega) (by rw[ax];omega),e3];rfl
   have p2:xE ((l.map aD.c).length) (some (D.int .i64 (IntKind.i64.wrap (findF f l 0+1)))) none=some (pre.length+1,l.length):=by
    rw[hw];unfold xE;rw[ax];simp only[bK (show 0<=((pre.length+1:Nat):Int)/\((pre.length+1:Nat):Int).toNat<=l.length from⟨by omega,by omega⟩)];rfl
   have t1:(l.take pre.length).drop 0=pre:=by rw[e1];simp
   have t2:(l.take l.length).drop (pre.length+1)=post:=by
    rw[wz,e1,List.drop_append,rS (by omega),show pre.length+1-pre.length=1 by omega];rfl
   rw[p1,aA];dsimp only;rw[t1,v8 pre (by omega) (fun x hx=>hm x (by rw[e1];simp[hx])),aA,p2,aA];dsimp only;rw[t2,v8 post (by omega) (fun x hx=>hm x (by rw[e1];simp[hx])),aA,Es (by simp;omega) (by decide),aH];have e5:GB f l=pre++post:=by rw[e1];exact WE e2 e4
   rw[e5]
  ·rw[bH h3,bz,aH,cp,aA,az (by simp[h3])]
end Go.Cx
namespace Go.Cx
open Go.RowKit Go.Proofs Tryz
structure NU(n:aI):Prop where
 rules:rP aK.wt n.rules<=1048576
 facts:rP aD.wt n.facts<=1048576
 ends:n.ends.length<=1048576
 bE:n.bE.length<=1048576
 dL:∀a∈n.bE,a.shape.wt<=1048576/\FS a.facts
 nodes:n.nodes.length<=1048576
 node:∀x∈n.nodes,x.cond.wt<=1048576/\x.tokens.length<=1048576/\∀t∈x.tokens,TK 1048576 t
theorem FS.args{fs:aJ}(h:FS fs):∀f∈fs,f.args.length<=1048576:=fun f hf=>aD.dK (h.2 f hf)
theorem a0d(l:ar)(hl:l.length<=1048576)(h:∀t∈l,TK 1048576 t):oA l=some l:=by
 unfold oA;rw[DT (c:=aT.c) (b:=48) (f:=qY) (g:=fun x=>x) (L:=s7 l _) (k:=_) (by decide) (fun _ _=>rfl) (fun _ _ _ _=>rfl) _ _ _ (fun t ht=>Y4 t (h t ht)) (by simp;omega)];simp
theorem a01(l:ar)(hl:l.length<=1048576)(h:∀t∈l,TK 1048576 t):lB l=some l:=by
 unfold lB;rw[DT (c:=aT.c) (b:=48) (f:=fun t:aT=>(cK t.facts).bind fun y=>(j9 t.bind).bind fun z=>some (⟨y,z⟩:aT)) (g:=fun x=>x) (L:=iO l _) (k:=_) (by decide) (fun _ _=>rfl) (fun x xs i w=>by
  rw[iO];cases cK x.facts with
  |none=>rfl
  |some a=>cases j9 x.bind<;>rfl) _ _ _ (fun t ht=>by
  have hk:=h t ht;rw[v8 t.facts hk.1 (fun f hf=>aD.dK (hk.2.1 f hf)),aA,S9 t.bind (by have:=hk.2.2.1;omega)];rfl) (by simp;omega)]
 simp
theorem a6g(l:bJ)(h:l.length<=1048576):Ap l=some l:=by
 unfold Ap;rw[Es (by simp;omega) (by decide),aH,cw]
theorem a5u(l:bJ)(h:l.length<=1048576):sH l=some l:=by
 unfold sH;rw[Es (by simp;omega) (by decide),aH,cw]
theorem a9Y(n:aI)(h:NU n):GO n=some n:=by
 have hF:=FS.J9 h.facts;have h1:=h.bE;have h2:=h.nodes;unfold GO;rw[R5 n.rules h.rules,aA,a6g n.ends h.ends,aA,A8 n.facts hF.1 hF.args,aA];rw[DT (c:=aZ.c) (b:=64) (f:=fun a:aZ=>(eV a.shape).bind fun y=>(eE a.facts).bind fun z=>some (⟨y,z⟩:aZ)) (g:=fun x=>x) (L:=uK n _ _ _ _) (k:=_) (by decide) (fun _ _=>rfl) (fun x xs i w=>by
  rw[uK];cases eV x.shape with
  |none=>rfl
  |some a=>cases eE x.facts<;>rfl) _ _ _ (fun a ha=>by
  obtain⟨g1,g2⟩:=h.dL a ha;rw[Y5 a.shape (by have:=aD.dK g1;omega),aA,A8 a.facts g2.1 g2.args];rfl) (by simp;omega)]
 rw[DT (c:=Node.c) (b:=120) (f:=fun x:Node=>(je x.cond).bind fun y=>(oA x.tokens).bind fun z=>some (⟨x.parent,y,x.dL,z⟩:Node)) (g:=fun x=>x) (L:=uL n _ _ _ _ _) (k:=_) (by decide) (fun _ _=>rfl) (fun x xs i w=>by
  rw[uL];cases je x.cond with
  |none=>rfl
  |some a=>cases oA x.tokens<;>rfl) _ _ _ (fun x hx=>by
  obtain⟨g1,g2,g3⟩:=h.node x hx;rw[PF x.cond (by have:=aD.dK (aL.fY g1);omega),aA,a0d x.tokens g2 g3];rfl) (by simp;omega)]
 simp
theorem M9(n:aI)(h:NU n):gZ n=some n:=by
 have hF:=FS.J9 h.facts;have h1:=h.bE;have h2:=h.nodes;unfold gZ;rw[QX n.rules h.rules,aA,a5u n.ends h.ends,aA,v8 n.facts hF.1 hF.args,aA];rw[DT (c:=aZ.c) (b:=64) (f:=fun a:aZ=>(eD a.shape).bind fun y=>(cK a.facts).bind fun z=>some (⟨y,z⟩:aZ)) (g:=fun x=>x) (L:=hY n _ _ _ _) (k:=_) (by decide) (fun _ _=>rfl) (fun x xs i w=>by
  rw[hY];cases eD x.shape with
  |none=>rfl
  |some a=>cases cK x.facts<;>rfl) _ _ _ (fun a ha=>by
  obtain⟨g1,g2⟩:=h.dL a ha;rw[X7 a.shape (by have:=aD.dK g1;omega),aA,v8 a.facts g2.1 g2.args];rfl) (by simp;omega)]
 rw[DT (c:=Node.c) (b:=120) (f:=fun x:Node=>(fK x.cond).bind fun y=>(lB x.tokens).bind fun z=>some (⟨x.parent,y,x.dL,z⟩:Node)) (g:=fun x=>x) (L:=iA n _ _ _ _ _) (k:=_) (by decide) (fun _ _=>rfl) (fun x xs i w=>by
  rw[iA];cases fK x.cond with
  |none=>rfl
  |some a=>cases lB x.tokens<;>rfl) _ _ _ (fun x hx=>by
  obtain⟨g1,g2,g3⟩:=h.node x hx;rw[Oi x.cond (by have:=aD.dK (aL.fY g1);omega),aA,a01 x.tokens g2 g3];rfl) (by simp;omega)]
 simp
theorem a3V{n:aI}(h:K6 n=true):qp n.rules=true/\fZ n.facts=true/\0<=n.cG/\n=mI n.rules n.facts n.cG:=by
 unfold K6 J3 mI at h;simp only[aS,bD]at h;obtain⟨b1,b2,b0,_,b3,_,b5,b4⟩:=h;refine⟨b1,b2,b0,?_⟩;unfold mI;cases n;simp only at b3 b4 b5⊢;rw[<-b3,<-b4,<-b5]
theorem LJ{rs:ai}{fs:aJ}{t:Int}(h1:qp rs=true)(h2:fZ fs=true):K6 (mI rs fs t)=decide (0<=t):=by
 unfold K6 J3 mI;simp[h1,h2]
theorem EU{f:aD}(h:oB f=true):f.wt<=100:=by
 unfold oB at h;simp only[aS,bD,aj]at h;obtain⟨h1,h2,h3⟩:=h;have a1:=Nu h2;have a2:=LR f.args (fun x hx=>by have:=zD (h1 x hx);omega);unfold aD.wt tw;unfold tw at a2;omega
theorem Gd{fs:aJ}(h:fZ fs=true):∀f∈fs,oB f=true:=by
 unfold fZ at h;simp only[aS]at h;exact KS h.1
theorem O7{α:Type}{w:α->Nat}{B:Nat}:∀(l:List α),(∀x∈l,w x<=B)->rP w l<=(B+1)*l.length
 | [],_=>by simp[rP]
 |x::l,h=>by
  have h1:=O7 l fun y hy=>h y (by simp[hy])
  have h2:=h x (by simp);rw[oG,aV,Nat.mul_add];omega
theorem BE{fs:aJ}(h:fZ fs=true):rP aD.wt fs<=2424:=by
 have h1:=O7 (w:=aD.wt) (B:=100) fs fun f hf=>EU (Gd h f hf)
 have h2:=uD h;have:(100+1)*fs.length<=(100+1)*24:=eN _ h2;omega
theorem vm(ns:bL)(fs:aJ)(i:Nat):(jV ns fs)[i]?=(ns[i]?).map fun x=>⟨x.parent,x.cond,x.dL,tP (fO ns (dG i)) fs⟩:=by
 unfold jV;rw[F8,cY]
theorem Nk(ns:bL)(fs:aJ):(jV ns fs).length=ns.length:=UP ns fs ns 0
theorem Dg{rs:ai}(h:qp rs=true):rs.length<=6:=by unfold qp at h;simp only[aS,bD]at h;omega
theorem Mj{rs:ai}(tk:ar)(h:qp rs=true):(cm tk rs).1.1.length<=24:=by
 have h6:=Dg h;have main:∀(l:ai) (z:(bN×bL)×bJ),(∀r∈l,fP r=true)->(l.foldl FF z).1.1.length<=z.1.1.length+4*l.length:=by
  intro l
  induction l with
  |nil=>intro z _;exact bR _
  |cons r l ih=>
   intro z hl;have h1:=ih (FF z r) (fun x hx=>hl x (by simp[hx]));have h2:=(FE (eP r) (z.1,0)).1;have h3:=xG (hl r (by simp));have h4:(FF z r).1.1.length=((eP r).foldl DZ (z.1,0)).1.1.length:=rfl;rw[cJ,aV];dsimp only at h2;omega
 have:=main rs (([],[root tk]),[]) (pZ h);unfold cm;simp only[br]at this;omega
theorem Qk{rs:ai}{fs:aJ}(h1:qp rs=true)(h2:fZ fs=true){i:Nat}{x:Node}(hx:(jV (cm [] rs).1.2 fs)[i]?=some x):x.cond.wt<=1048576/\x.tokens.length<=390625/\(∀t∈x.tokens,TK 4 t)/\KD x.tokens:=by
 have hv:=pZ h1;have hok:=JH [] hv (Dg h1);rw[vm]at hx;obtain⟨y,hy,rfl⟩:=C1.1 hx;have Yy:=FS.J9 (by have:=BE h2;omega:rP aD.wt fs<=1048576);have QR:∀c∈fO (cm [] rs).1.2 (dG i),c.wt<=1048576:=by
  intro c hc;obtain⟨z,hz,e⟩:=Eo hc;rw[<-e];exact hok.wt z hz
 refine⟨hok.wt y (aE hy),RG (hok.path i) (uD h2),fun t ht=>?_,a0y (KP h2)⟩;exact(PU Yy _ [⟨[],[]⟩] 0 QR P4 t ht).le (by have:=hok.path i;omega)
theorem SL{rs:ai}{fs:aJ}(t:Int)(h1:qp rs=true)(h2:fZ fs=true)(hr:rP aK.wt rs<=1048576):NU (mI rs fs t):=by
 have hv:=pZ h1;have h6:=Dg h1;have hw:=BE h2;have hl:=Mi [] hv h6;refine⟨hr,by show rP aD.wt fs<=1048576;omega,?_,?_,?_,?_,?_⟩
 ·show(cm [] rs).2.length<=1048576;rw[(vp [] rs).2.1];omega
 ·show(kY (cm [] rs).1.1 fs).length<=1048576;unfold kY;rw[ax];have:=Mj [] h1;omega
 ·intro a ha;obtain⟨y,hy,rfl⟩:=bu.1 (show a∈(cm [] rs).1.1.map _ from ha);refine⟨(vq [] hv y hy).1,?_,fun f hf=>?_⟩
  ·have:=sy (fun f=>(nN y.shape f []).2) fs;have:=uD h2;show(tu y.shape [] fs).length<=1048576;unfold tu;omega
  ·have:=EU (Gd h2 f (gA.1 hf).1);omega
 ·show(jV (cm [] rs).1.2 fs).length<=1048576;rw[Nk];omega
 ·intro x hx;obtain⟨i,hi⟩:=dZ (show x∈jV (cm [] rs).1.2 fs from hx);obtain⟨g1,g2,g3,_⟩:=Qk h1 h2 hi;exact⟨g1,by omega,fun t ht=>(g3 t ht).le (by omega)⟩
def adT(now old:ar):Nat:=now.length-Iz now old
theorem XM(now old:ar):Iz now old<=now.length:=sy _ _
theorem SD(t:aT)(l old:ar):Iz (t::l) old=(bif OX old t then 1 else 0)+Iz l old:=by
 unfold Iz;cases h:OX old t with
 |true=>rw[qn (by rw[h]),aV,aH];omega
 |false=>rw[nT (by simp[h]),aQ];omega
def stepT(al:bN)(f:aD)(x:Node)(now old:ar)(t:Int):Int:=
 if x.dL<0 then IntKind.i64.wrap (t+((adT now old:Nat):Int))else match hO al x.dL with
  |none=>t
  |some y=>bif (nN y.shape f []).2 then IntKind.i64.wrap (IntKind.i64.wrap (t+IntKind.i64.wrap (((adT now old:Nat):Int)*((y.facts.length:Nat):Int)))+((Iz now old:Nat):Int))else IntKind.i64.wrap (t+IntKind.i64.wrap (((adT now old:Nat):Int)*((y.facts.length:Nat):Int)))
def Ko(ns:bL)(p:Int):ar:=match hO ns p with|some x=>x.tokens|none=>[]
def trN(N0 N1:bL)(al:bN)(f:aD):bL->Int->Int
 | [],t=>t
 |x::xs,t=>trN N0 N1 al f xs (stepT al f x (Ko N1 x.parent) (Ko N0 x.parent) t)
theorem a5p(l:ar)(t:aT):sI l t=some (OX l t):=by
 unfold sI;have:∀(r:ar) (i:Nat),jt l t (some false) r i=some (OX r t):=by
  intro r
  induction r with
  |nil=>intro i;rfl
  |cons x r ih=>
   intro i;rw[jt,a5j,aA,ih];unfold OX;rw[xN];by_cases e:x.facts=t.facts
   ·rw[show((cmpL qN x.facts t.facts:Int)==0)=true by simp[Nc.2 e],aH,ay e,Bool.true_or]
   ·rw[show((cmpL qN x.facts t.facts:Int)==0)=false by
     have:cmpL qN x.facts t.facts≠0:=fun h=>e (Nc.1 h)
     simp[this],aQ,bH e,sX]
 exact this l 0
theorem X2(n:aI)(f:aD)(y3:aI×Unit)(u:Int)(i1:Nat)(x xx y:Node)(k:Int->Int->Option aI)(hy:hO n.nodes x.parent=some y):∀(l:ar) (i a b:Nat),a+l.length<=1099511627000->b+l.length<=1099511627000->
 jT n f y3 u i1 x xx k l i (a:Int) (b:Int)=k ((a+Iz l y.tokens:Nat):Int) ((b+adT l y.tokens:Nat):Int)
 | [],i,a,b,_,_=>rfl
 |t::l,i,a,b,h1,h2=>by
  simp only[aV]at h1 h2;have ih:=X2 n f y3 u i1 x xx y k hy l (i+1);have hle:=XM l y.tokens;rw[jT,hy,aA,a5p,aA];unfold adT at*;rw[SD,aV];cases OX y.tokens t with
  |true=>
   rw[aH,aH,JK (by omega),ih (a+1) b (by omega) (by omega)]
   congr 2<;>omega
  |false=>
   rw[aQ,aQ,JK (by omega),ih a (b+1) (by omega) (by omega)]
   congr 2<;>omega
def a7n(N0 N1:bL)(al:bN)(x:Node):Prop:=(∃p0 p1,hO N0 x.parent=some p0/\hO N1 x.parent=some p1/\p1.tokens.length<=1048576)/\(x.dL<0\/∃y,hO al x.dL=some y/\y.shape.wt<=1048576)
theorem X1(n:aI)(f:aD)(y3:aI×Unit)(k:Int->Option aI)(hf:f.wt<=1048576):∀(l:bL) (i:Nat) (u:Int),1<=i->(∀x∈l,a7n n.nodes y3.1.nodes y3.1.bE x)->fL n f y3 k l i u=k (trN n.nodes y3.1.nodes y3.1.bE f l u)
 | [],_,_,_,_=>rfl
 |x::l,i,u,hi,hU=>by
  have ih:=X1 n f y3 k hf l (i+1);have hU':=fun z (hz:z∈l)=>hU z (by simp[hz])
  obtain⟨⟨p0,p1,e0,e1,hl⟩,ha⟩:=hU x (by simp);rw[fL,show(((i:Nat):Int)==0)=false by simp;omega,aQ,e1,aA,sU (by omega),aH];rw[show(0:Int)=((0:Nat):Int)from rfl,X2 n f y3 u i x p1 p0 _ e0 p1.tokens 0 0 0 (by omega) (by omega),cY,cY,trN];unfold stepT;rw[show Ko y3.1.nodes x.parent=p1.tokens by unfold Ko;rw[e1],show Ko n.nodes x.parent=p0.tokens by unfold Ko;rw[e0]];by_cases hal:x.dL<0
  ·rw[ay (by simpa using hal),aH,bK hal,ih _ (by omega) hU']
  ·rw[bH (by simpa using hal),aQ,az hal];rcases ha with ha|⟨y,hy,hyw⟩
   ·exact absurd ha hal
   ·rw[hy,aA,a3K y.shape f [] hyw hf PB.nil,aA,ax];dsimp only;cases(nN y.shape f []).2 with
    |true=>rw[aH,aH,ih _ (by omega) hU']
    |false=>rw[aQ,aQ,ih _ (by omega) hU']
theorem ON{α:Type}(l:List α)(i:Nat):hO l (dG i)=l[i]?:=by
 unfold hO dG;rw[ay (by omega),aH];rfl
theorem a3d{rs:ai}{fs0 fs:aJ}(h1:qp rs=true)(h0:fZ fs0=true)(h2:fZ fs=true){i:Nat}(hi:1<=i){x:Node}(hx:(cm [] rs).1.2[i]?=some x):
 ∃(p:Nat) (q:Node),p<i/\x.parent=dG p/\(cm [] rs).1.2[p]?=some q/\(jV (cm [] rs).1.2 fs0)[p]?=some ⟨q.parent,q.cond,q.dL,tP (fO (cm [] rs).1.2 (dG p)) fs0⟩/\(jV (cm [] rs).1.2 fs)[p]?=some ⟨q.parent,q.cond,q.dL,tP (fO (cm [] rs).1.2 (dG p)) fs⟩/\
  x.cond.pat.args.length<=3/\x.cond.wt<=1048576/\((x.dL<0/\x.cond.kind≠1/\x.cond.kind≠2)\/∃(a:Nat) (y:aZ),x.dL=dG a/\(cm [] rs).1.1[a]?=some y/\y.shape=vW x.cond.pat/\y.shape.wt<=1048576):=by
 have hv:=pZ h1;obtain⟨p,hp,hpi⟩:=(vp [] rs).1.below i x hi hx;have RU:=(aF.1 hx).1;have hq:=aa (show p<(cm [] rs).1.2.length by omega);obtain⟨r,hr,hc⟩:=RE hi hx;have hal:=a0v [] rs x (aE hx);refine⟨p,_,hpi,hp,hq,by rw[vm,hq];rfl,by rw[vm,hq];rfl,(Kj (hv r hr) _ hc).2.1,Ep (hv r hr) _ hc,?_⟩;by_cases hk:x.cond.kind=1\/x.cond.kind=2
 ·obtain⟨a,e1,y,e2,e3⟩:=hal.1 hk;exact .inr ⟨a,y,e1,e2,e3,(vq [] hv y (aE e2)).1⟩
 ·exact .inl ⟨by rw[hal.2 hk];decide,fun e=>hk (.inl e),fun e=>hk (.inr e)⟩
def QB(n:aI)(fs:aJ)(f:aD):aI:=mI n.rules fs (trN n.nodes (jV (cm [] n.rules).1.2 fs) (kY (cm [] n.rules).1.1 fs) f ((jV (cm [] n.rules).1.2 fs).drop 1) n.cG)
theorem a5h(n:aI)(fs:aJ)(f:aD)(hn:K6 n=true)(hr:rP aK.wt n.rules<=1048576)(h2:fZ fs=true)(hf:f.wt<=1048576):qx n fs f=some (QB n fs f):=by
 obtain⟨h1,h0,ht,e⟩:=a3V hn;have hv:=pZ h1;have h6:=Dg h1;have Yy:=FS.J9 (by have:=BE h2;omega:rP aD.wt fs<=1048576);have hok:NU n:=by rw[e];exact SL _ h1 h0 hr
 have hN:n.nodes=jV (cm [] n.rules).1.2 n.facts:=congrArg aI.nodes e;have hA:n.bE=kY (cm [] n.rules).1.1 n.facts:=congrArg aI.bE e;have hE:n.ends=(cm [] n.rules).2:=congrArg aI.ends e;have hform:n.nodes.map pJ=(cm [] n.rules).1.2.map pJ:=by rw[hN];exact HV _ _ _ _
 have hp0:=JH [] hv h6;have a35:AR n.nodes:=by
  refine⟨hok.nodes,fun x hx=>(hok.node x hx).1,fun i=>?_⟩;rw[u7 hform];exact hp0.path i
 have hfA:kY n.bE fs=kY (cm [] n.rules).1.1 fs:=by
  rw[hA];unfold kY;rw[yq];rfl
 have hfN:jV n.nodes fs=jV (cm [] n.rules).1.2 fs:=by
  have key:∀(l m:bL) (i:Nat),l.map uk=m.map uk->nK n.nodes fs l i=nK (cm [] n.rules).1.2 fs m i:=by
   intro l
   induction l with
   |nil=>intro m i hm;cases m with
    |nil=>rfl
    |cons y m=>simp at hm
   |cons x l ih=>intro m i hm;cases m with
    |nil=>simp at hm
    |cons y m=>
     rw[av,av]at hm;obtain⟨q1,q2⟩:=kr hm;have e1:x.parent=y.parent:=(jS q1).1;have e2:x.dL=y.dL:=(jS (jS q1).2).1;have e3:x.cond=y.cond:=(jS (jS q1).2).2;rw[nK,nK,ih m (i+1) q2,u7 hform,e1,e2,e3]
  refine key _ _ 0 ?_;rw[hN];have:∀(ns l:bL) (i:Nat),(nK ns n.facts l i).map uk=l.map uk:=by
   intro ns l
   induction l with
   |nil=>intro i;rfl
   |cons x l ih=>intro i;rw[nK,av,ih];rfl
  exact this _ _ _
 unfold qx;rw[M9 n hok,aA,a1U n fs Yy (uD h2) hok.bE (fun x hx=>(hok.dL x hx).1) a35,aA,hfA,hfN];have hlen:=Nk (cm [] n.rules).1.2 fs;have aBJ:=Mi [] hv h6;dsimp only;rw[sU (by omega),aH];have tv:jV (cm [] n.rules).1.2 fs=(jV (cm [] n.rules).1.2 fs).take 1++(jV (cm [] n.rules).1.2 fs).drop 1:=(cD 1 _).symm;cases hns:jV (cm [] n.rules).1.2 fs with
 |nil=>
  have:=(vp [] n.rules).1.pos;rw[hns]at hlen;simp at hlen;omega
 |cons x0 l=>
  rw[fL,show(((0:Nat):Int)==0)=true from rfl,aH,X1 n f _ _ hf l 1 _ (bR _) (fun x hx=>?_)]
  ·unfold QB mI;rw[hns,hE];rfl
  ·obtain⟨i,hi⟩:=dZ hx;have hi2:(jV (cm [] n.rules).1.2 fs)[i+1]?=some x:=by rw[hns];exact hi
   rw[vm]at hi2;obtain⟨z,hz,rfl⟩:=C1.1 hi2;obtain⟨p,q,_,e1,_,e3,e4,_,_,e7⟩:=a3d h1 h0 h2 (i:=i+1) (by omega) hz;have g4:=(Qk h1 h2 e4).2.1;have u3:=(show hO n.nodes z.parent=(jV (cm [] n.rules).1.2 n.facts)[p]? by rw[e1,ON,hN]).trans e3;have u4:=(show hO (x0::l) z.parent=(jV (cm [] n.rules).1.2 fs)[p]? by rw[e1,ON,hns]).trans e4;refine⟨⟨_,_,u3,u4,by omega⟩,?_⟩
   ·rcases e7 with⟨e7,_⟩|⟨a,y,e7,e8,_,e10⟩
    ·exact .inl e7
    ·refine .inr ⟨⟨y.shape,tu y.shape [] fs⟩,?_,e10⟩;show hO (kY (cm [] n.rules).1.1 fs) z.dL=_;rw[e7,ON];unfold kY;rw[bt,e8];rfl
end Go.Cx
namespace Go.Cx
open Go.RowKit Go.Proofs Tryz
structure Ren(h:Bytes->Bytes)(V:Bytes->Prop):Prop where
 var:∀v,V v->fQ v=true
 Qo:∀t,fQ t=false->h t=t
 Sq:∀v,V v->fQ (h v)=true
 inj:∀u v,V u->V v->h u=h v->u=v
structure RB(h:Bytes->Bytes)(V:Bytes->Prop)(b b':List aR):Prop where
 len:b'.length=b.length
 get:∀v,V v->dD (h v) b'=dD v b
 ok:iH b=true
 ok':iH b'=true
def KG(h:Bytes->Bytes)(c:aL):aL:=⟨c.kind,⟨c.pat.rel,c.pat.args.map h⟩,h c.left,h c.right⟩
theorem RB.ext{h:Bytes->Bytes}{V:Bytes->Prop}(hr:Ren h V){b b':aM}(H:RB h V b b'){x y:Bytes}(hx:V x):(xB b' (h x) y).2=(xB b x y).2/\((xB b x y).2=true->RB h V (xB b x y).1 (xB b' (h x) y).1):=by
 unfold xB;rw[H.ok,H.ok',hr.var x hx,hr.Sq x hx,H.get x hx,H.len];simp only[fC];cases ha:fR y with
 |false=>exact⟨rfl,fun h=>by cases h⟩
 |true=>
  rw[aH,aH];cases hf:dD x b with
  |some o=>
   dsimp only;cases o==y with
   |true=>exact⟨rfl,fun _=>H⟩
   |false=>exact⟨rfl,fun h=>by cases h⟩
  |none=>
   dsimp only;cases hl:decide (b.length=6)with
   |true=>exact⟨rfl,fun h=>by cases h⟩
   |false=>
    have hl':b.length≠6:=of_decide_eq_false hl;refine⟨rfl,fun _=>⟨?_,?_,?_,?_⟩⟩
    ·rw[aQ,aQ,Bs,Bs,H.len]
    ·intro v hv;rw[aQ,aQ];by_cases e:v=x
     ·subst e;rw[Bg _ hf,Bg _ (by rw[H.get v hx,hf])]
     ·rw[uN (fun e2=>e e2.symm),uN (fun e2=>e (hr.inj _ _ hx hv e2).symm),H.get v hv]
    ·exact Dh (hr.var x hx) ha H.ok hf hl'
    ·exact Dh (hr.Sq x hx) ha H.ok' (by rw[H.get x hx,hf]) (by rw[H.len];exact hl')
theorem RB.sV{h:Bytes->Bytes}{V:Bytes->Prop}(hr:Ren h V):∀(l r:aG) (b b':aM),(∀x∈l,nj x=true)->(∀x∈l,fQ x=true->V x)->RB h V b b'->(sV (l.map h) r b').2=(sV l r b).2/\((sV l r b).2=true->RB h V (sV l r b).1 (sV (l.map h) r b').1)
 | [],r,b,b',_,_,H=>⟨rfl,fun _=>H⟩
 |x::xs,[],b,b',_,_,H=>⟨rfl,fun h=>by cases h⟩
 |x::xs,y::ys,b,b',ht,hV,H=>by
  have ih:=fun c c'=>RB.sV hr xs ys c c' (fun z hz=>ht z (by simp[hz])) (fun z hz=>hV z (by simp[hz]))
  rw[av];simp only[Cx.sV];cases hx:fR x with
  |true=>
   have hxx:h x=x:=hr.Qo x (I2 hx);rw[hxx,hx];simp only[aH];cases x==y with
   |true=>exact ih b b' H
   |false=>exact⟨rfl,fun h=>by cases h⟩
  |false=>
   have hv:fQ x=true:=by have:=ht x (by simp);unfold nj at this;rw[hx]at this;simpa using this
   have ha':fR (h x)=false:=oP (hr.Sq x (hV x (by simp) hv));rw[ha'];simp only[aQ];obtain⟨e1,e2⟩:=H.ext hr (y:=y) (hV x (by simp) hv);rw[e1];cases he:(xB b x y).2 with
   |false=>exact⟨rfl,fun h=>by cases h⟩
   |true=>simp only[aH];exact ih _ _ (e2 he)
theorem Md{h:Bytes->Bytes}{V:Bytes->Prop}(hr:Ren h V){t:Bytes}(hV:fQ t=true->V t):nj (h t)=nj t:=by
 cases hv:fQ t with
 |false=>rw[hr.Qo t hv]
 |true=>unfold nj;rw[hr.Sq t (hV hv),hv];simp
theorem Tq{h:Bytes->Bytes}{V:Bytes->Prop}(hr:Ren h V){p:aD}(hV:∀x∈p.args,fQ x=true->V x)(hp:xq p=true):xq ⟨p.rel,p.args.map h⟩=true:=by
 unfold xq at hp⊢;simp only[aS,aj]at hp⊢;refine⟨?_,hp.2.1,by rw[ax];exact hp.2.2⟩;intro x hx;obtain⟨y,hy,rfl⟩:=bu.1 hx;rw[Md hr (hV y hy)];exact hp.1 y hy
def CV(V:Bytes->Prop)(c:aL):Prop:=∀x∈c.pat.args++[c.left,c.right],fQ x=true->V x
theorem CV.args{V:Bytes->Prop}{c:aL}(h:CV V c):∀x∈c.pat.args,fQ x=true->V x:=fun x hx=>h x (by simp[hx])
theorem CV.left{V:Bytes->Prop}{c:aL}(h:CV V c):fQ c.left=true->V c.left:=h _ (by simp)
theorem CV.right{V:Bytes->Prop}{c:aL}(h:CV V c):fQ c.right=true->V c.right:=h _ (by simp)
theorem R1{h:Bytes->Bytes}{V:Bytes->Prop}(hr:Ren h V){c:aL}(hV:CV V c)(hc:nF c=true):nF (KG h c)=true:=by
 by_cases hk:c.kind=1\/c.kind=2
 ·obtain⟨hp,hl,hrr⟩:=BK hc hk;have e:h []=[]:=hr.Qo [] rfl;unfold nF;have h0:(decide ((KG h c).kind=1)||decide ((KG h c).kind=2))=true:=by show(decide (c.kind=1)||decide (c.kind=2))=true;simpa using hk
  rw[h0,aH];show(xq ⟨c.pat.rel,c.pat.args.map h⟩&&(h c.left==[]&&h c.right==[]))=true;rw[hl,hrr,e,Tq hr hV.args hp];rfl
 ·have h1:c.kind≠1:=fun e=>hk (.inl e)
  have h2:c.kind≠2:=fun e=>hk (.inr e)
  obtain⟨h3,hz,hl,hrr⟩:=Li hc h1 h2;unfold nF;have h0:(decide ((KG h c).kind=1)||decide ((KG h c).kind=2))=false:=by simp[KG,h1,h2]
  rw[h0,aQ];show(bif (decide (c.kind=3)||decide (c.kind=4)||decide (c.kind=5))then(Bu ⟨c.pat.rel,c.pat.args.map h⟩&&(nj (h c.left)&&nj (h c.right)))else false)=true;rw[h3,aH,Md hr hV.left,Md hr hV.right,hl,hrr];unfold Bu at hz⊢;rw[ax];simpa using hz
theorem RB.nN{h:Bytes->Bytes}{V:Bytes->Prop}(hr:Ren h V){p f:aD}{b b':aM}(hV:∀x∈p.args,fQ x=true->V x)(hp:xq p=true)(H:RB h V b b'):(nN ⟨p.rel,p.args.map h⟩ f b').2=(nN p f b).2/\((nN p f b).2=true->RB h V (nN p f b).1 (nN ⟨p.rel,p.args.map h⟩ f b').1):=by
 unfold Cx.nN;rw[hp,Tq hr hV hp,H.ok,H.ok',ax];dsimp only;cases(true&&(oB f&&(true&&(p.rel==f.rel&&decide (p.args.length=f.args.length)))))with
 |false=>exact⟨rfl,fun h=>by cases h⟩
 |true=>exact RB.sV hr _ _ _ _ (PR hp) hV H
theorem RB.oy{h:Bytes->Bytes}{V:Bytes->Prop}(hr:Ren h V){b b':aM}(H:RB h V b b'){t:Bytes}(hV:fQ t=true->V t):oy b' (h t)=oy b t:=by
 unfold Cx.oy;cases hv:fQ t with
 |false=>rw[hr.Qo t hv,hv];rfl
 |true=>rw[oP hv,hr.Sq t (hV hv),oP (hr.Sq t (hV hv)),H.get t (hV hv)];rfl
theorem RB.Aw{h:Bytes->Bytes}{V:Bytes->Prop}(hr:Ren h V){c:aL}{b b':aM}{fs:aJ}(hV:CV V c)(hc:nF c=true)(H:RB h V b b'):Aw (KG h c) b' fs=Aw c b fs:=by
 unfold Cx.Aw;rw[hc,R1 hr hV hc,H.ok,H.ok'];show(true&&(true&&(bif decide (c.kind=1)then decide (0<(tu ⟨c.pat.rel,c.pat.args.map h⟩ b' fs).length)else bif decide (c.kind=2)then decide ((tu ⟨c.pat.rel,c.pat.args.map h⟩ b' fs).length=0)else Rv (KG h c) b')))=_;by_cases hk:c.kind=1\/c.kind=2
 ·have hp:=(BK hc hk).1;have e:tu ⟨c.pat.rel,c.pat.args.map h⟩ b' fs=tu c.pat b fs:=by
   unfold tu
   congr 1;funext f
   exact(RB.nN hr hV.args hp H).1
  rw[e];rcases hk with hk|hk
  ·rw[ay hk];rfl
  ·rw[ay hk];cases decide (c.kind=1)<;>rfl
 ·have h1:c.kind≠1:=fun e=>hk (.inl e)
  have h2:c.kind≠2:=fun e=>hk (.inr e)
  rw[bH h1,bH h2];simp only[aQ];unfold Rv Gb;rw[hc,R1 hr hV hc,H.ok,H.ok'];show(true&&(true&&(true&&decide (c.kind>=3)&&(true&&((Cx.oy b' (h c.left)).2&&((Cx.oy b' (h c.right)).2&&(bif decide (c.kind=3)then(Cx.oy b' (h c.left)).1==(Cx.oy b' (h c.right)).1 else bif decide (c.kind=4)then !((Cx.oy b' (h c.left)).1==(Cx.oy b' (h c.right)).1)else ltB (Cx.oy b' (h c.left)).1 (Cx.oy b' (h c.right)).1)))))))=_;rw[RB.oy hr H hV.left,RB.oy hr H hV.right]
structure RT(h:Bytes->Bytes)(V:Bytes->Prop)(t t':aT):Prop where
 facts:t'.facts=t.facts
 bind:RB h V t.bind t'.bind
inductive RL(R:aT->aT->Prop):List aT->List aT->Prop
 |nil:RL R [] []
 |cons {a b:aT} {l m:ar}:R a b->RL R l m->RL R (a::l) (b::m)
theorem RL.app{R:aT->aT->Prop}{a b c d:ar}(h:RL R a b)(k:RL R c d):RL R (a++c) (b++d):=by
 induction h with
 |nil=>exact k
 |cons x _ ih=>exact .cons x ih
theorem RL.one{R:aT->aT->Prop}{a b:aT}(h:R a b):RL R [a] [b]:=.cons h .nil
theorem RL.flat{α:Type}{R:aT->aT->Prop}(f g:α->ar):∀(l:List α),(∀x∈l,RL R (f x) (g x))->RL R (l.flatMap f) (l.flatMap g)
 | [],_=>.nil
 |x::xs,h=>by rw[cH,cH];exact(h x (by simp)).app (RL.flat f g xs fun y hy=>h y (by simp[hy]))
theorem a0S{h:Bytes->Bytes}{V:Bytes->Prop}(hr:Ren h V){c:aL}{fs:aJ}{t t':aT}(hV:CV V c)(hc:nF c=true)(H:RT h V t t'):RL (RT h V) (Bn c fs t) (Bn (KG h c) fs t'):=by
 unfold Bn;rw[RB.Aw hr hV hc H.bind];show RL _ _ (bif decide (c.kind=1)then fs.flatMap (ext1 (KG h c) t')else bif Cx.Aw c t.bind fs then [t']else []);by_cases h1:c.kind=1
 ·rw[ay h1,aH,aH];refine RL.flat _ _ fs fun f _=>?_
  unfold ext1;have hp:=(BK hc (.inl h1)).1;obtain⟨e1,e2⟩:=RB.nN hr (f:=f) hV.args hp H.bind;show RL _ _ (bif (Cx.nN ⟨c.pat.rel,c.pat.args.map h⟩ f t'.bind).2 then [⟨t'.facts++[f],(Cx.nN ⟨c.pat.rel,c.pat.args.map h⟩ f t'.bind).1⟩]else []);rw[e1];cases hm:(Cx.nN c.pat f t.bind).2 with
  |false=>exact .nil
  |true=>exact .one ⟨by rw[H.facts],e2 hm⟩
 ·rw[bH h1,aQ,aQ];cases Cx.Aw c t.bind fs with
  |false=>exact .nil
  |true=>exact .one H
theorem To{h:Bytes->Bytes}{V:Bytes->Prop}(hr:Ren h V){c:aL}{fs:aJ}(hV:CV V c)(hc:nF c=true):∀ {l m:ar},RL (RT h V) l m->RL (RT h V) (rM fs l c) (rM fs m (KG h c))
 |_,_,.nil=>.nil
 |_,_,.cons hx hl=>by unfold rM;rw[cH,cH];exact(a0S hr hV hc hx).app (To hr hV hc hl)
theorem Yf{h:Bytes->Bytes}{V:Bytes->Prop}(hr:Ren h V){fs:aJ}:∀(cs:ah) {l m:ar},(∀c∈cs,CV V c/\nF c=true)->RL (RT h V) l m->RL (RT h V) (cs.foldl (rM fs) l) ((cs.map (KG h)).foldl (rM fs) m)
 | [],_,_,_,H=>H
 |c::cs,_,_,hc,H=>by
  rw[av,cJ,cJ];exact Yf hr cs (fun x hx=>hc x (by simp[hx])) (To hr (hc c (by simp)).1 (hc c (by simp)).2 H)
theorem RB.nil(h:Bytes->Bytes)(V:Bytes->Prop):RB h V [] []:=⟨rfl,fun _ _=>rfl,rfl,rfl⟩
theorem Ul{r:aK}(h:fP r=true):Ren (Cq (gN r)) (fun v=>v∈yJ r.conds) where
 var:=fun v hv=>(A6.1 hv).2
 Qo:=fun t ht=>Qn ht
 Sq:=fun v hv=>by
  obtain⟨i,p,hi,_,_,e⟩:=El h hv;rw[e];exact Tn i hi
 inj:=fun u v hu hv e=>by
  obtain⟨i,p,hi,g1,e1,e2⟩:=El h hu;obtain⟨j,q,hj,g2,e3,e4⟩:=El h hv;rw[e2,e4]at e;have:=a0R i hi j hj e;subst this;rw[g1]at g2;cases g2;rw[<-e1,<-e3]
theorem a1E{r:aK}{c:aL}(hc:c∈r.conds):CV (fun v=>v∈yJ r.conds) c:=fun x hx hv=>A6.2 ⟨bg.2 ⟨c,hc,hx⟩,hv⟩
theorem wbU{r:aK}(h:fP r=true){fs:aJ}:∀(cs:ah) (A:ar),(∀c∈cs,c∈r.conds)->(∀t∈A,WB (eY (yJ r.conds)) t.bind)->∀u∈cs.foldl (rM fs) A,WB (eY (yJ r.conds)) u.bind
 | [],_,_,hA=>hA
 |c::cs,A,hc,hA=>by
  rw[cJ];refine wbU h cs _ (fun x hx=>hc x (by simp[hx])) (fun u hu=>?_);obtain⟨t,ht,hu⟩:=bg.1 hu;have hcm:=hc c (by simp);have hcb:=Ae h c hcm;unfold Bn at hu;by_cases hk:c.kind=1
  ·rw[ay hk,aH]at hu;obtain⟨f,_,hu⟩:=bg.1 hu;unfold ext1 at hu;cases hm:(nN c.pat f t.bind).2 with
   |false=>rw[hm]at hu;cases hu
   |true=>
    rw[hm,aH]at hu;rw[cA.1 hu];exact((XY (KH h) (hA t ht) (BK hcb (.inl hk)).1 (fun x hx hv=>oq.2 ((a1E hcm).args x hx hv))).2 hm).1
  ·rw[bH hk,aQ]at hu;cases hh:Aw c t.bind fs with
   |false=>rw[hh]at hu;cases hu
   |true=>rw[hh,aH]at hu;rw[cA.1 hu];exact hA t ht
theorem OO{U:aG}(hU:U.length<=6){b b':aM}(hb:WB U b)(hb':iH b'=true){h:Bytes->Bytes}(hg:∀v∈U,dD (h v) b'=dD v b):∀(N:aM) (w:aM),(N.map aR.var).Nodup->(∀p∈N,p.var∈U/\p.value=h p.var/\fQ p.var=true/\fQ p.value=true)->WB U w->(∀p∈N,dD p.var w=none)->
 WB U (N.foldl (Vx b') w)/\∀v,dD v (N.foldl (Vx b') w)=if v∈N.map aR.var then dD v b else dD v w
 | [],w,_,_,hw,_=>⟨hw,fun v=>by simp⟩
 |p::N,w,hn,hp,hw,hf=>by
  rw[av,dB]at hn;obtain⟨p1,p2,p3,p4⟩:=hp p (by simp);have hpw:=hf p (by simp);have hval:oy b' p.value=match dD p.var b with|some v=>(v,true)|none=>([],false):=by
   unfold oy;rw[oP p4,p4,aQ,aH,p2,hg _ p1]
   all_goals(cases dD p.var b<;>rfl)
  have hnot:∀q∈N,q.var≠p.var:=fun q hq e=>hn.1 (by rw[<-e];exact bu.2 ⟨q,hq,rfl⟩)
  rw[cJ];cases hfb:dD p.var b with
  |none=>
   rw[hfb]at hval;have e:Vx b' w p=w:=by unfold Vx;rw[hval];rfl
   rw[e];obtain⟨g1,g2⟩:=OO hU hb hb' hg N w hn.2 (fun q hq=>hp q (by simp[hq])) hw (fun q hq=>hf q (by simp[hq]));refine⟨g1,fun v=>?_⟩;rw[g2 v,av];by_cases hv:v=p.var
   ·subst hv;rw[az hn.1,bK (by simp),hfb,hpw]
   ·by_cases GS:v∈N.map aR.var
    ·rw[bK GS,bK (by simp[GS])]
    ·rw[az GS,az (by simp only[bB,yF];exact⟨hv,GS⟩)]
  |some o=>
   rw[hfb]at hval;have e:Vx b' w p=vz p.var o w:=by unfold Vx;rw[hval];rfl
   rw[e];have ho:fR o=true:=by
    obtain⟨q,hq,_,e2⟩:=xC hfb;rw[<-e2];exact(BH (tX hb.ok) q hq).2
   obtain⟨g1,g2⟩:=OO hU hb hb' hg N (vz p.var o w) hn.2 (fun q hq=>hp q (by simp[hq])) (hw.set hU p1 p3 ho hpw) (fun q hq=>by
    rw[uN (fun e=>hnot q hq e.symm)];exact hf q (by simp[hq]))
   refine⟨g1,fun v=>?_⟩;rw[g2 v,av,uM hpw];by_cases hv:v=p.var
   ·subst hv;rw[az hn.1,bK rfl,bK (by simp),hfb]
   ·rw[az hv];by_cases GS:v∈N.map aR.var
    ·rw[bK GS,bK (by simp[GS])]
    ·rw[az GS,az (by simp only[bB,yF];exact⟨hv,GS⟩)]
theorem ZS{r:aK}(h:fP r=true){t t':aT}(ht:WB (eY (yJ r.conds)) t.bind)(H:RT (Cq (gN r)) (fun v=>v∈yJ r.conds) t t'):cfT r t'=⟨r.name,t.facts,t.bind⟩:=by
 have hN:=Bm (vX r.conds) RS.nil;have hmem:∀p∈gN r,p.var∈eY (yJ r.conds)/\p.value=Cq (gN r) p.var/\fQ p.var=true/\fQ p.value=true:=fun p hp=>by
  obtain⟨n1,n2⟩:=(MQ h).1 p hp;refine⟨?_,(LM (N:=gN r) hN hp).symm,n1,n2⟩;rcases Jy _ _ hp with h1|h1
  ·cases h1
  ·exact oq.2 (A6.2 h1)
 obtain⟨g1,g2⟩:=OO (KH h) ht H.bind.ok' (h:=Cq (gN r)) (fun v hv=>H.bind.get v (oq.1 hv)) (gN r) [] hN hmem (WB.nil _) (fun p _=>rfl);have e:bkB t'.bind (gN r)=t.bind:=by
  refine g1.ext ht fun v=>?_
  unfold bkB at*;rw[g2 v];by_cases hv:v∈(gN r).map aR.var
  ·rw[bK hv]
  ·rw[az hv];cases hf:dD v t.bind with
   |none=>rfl
   |some o=>
    exfalso;obtain⟨q,hq,e1,_⟩:=xC hf;have hU:=oq.1 (ht.sub q hq);rw[e1]at hU;obtain⟨i,p,_,M3,he,_⟩:=El h hU;exact hv (bu.2 ⟨p,aE M3,he⟩)
 unfold cfT;rw[e,H.facts]
theorem RL.map_eq{α:Type}{R:aT->aT->Prop}{f g:aT->α}:∀ {l m:ar},RL R l m->(∀a∈l,∀b,R a b->g b=f a)->m.map g=l.map f
 |_,_,.nil,_=>rfl
 |_,_,.cons hx hl,h=>by
  rw[av,av,h _ (by simp) _ hx,RL.map_eq hl (fun a ha b hb=>h a (by simp[ha]) b hb)]
theorem ZW{r:aK}(h:fP r=true)(fs:aJ):(tP (eP r) fs).map (cfT r)=(tP r.conds fs).map fun t=>(⟨r.name,t.facts,t.bind⟩:bS):=by
 have H:=Yf (Ul h) (fs:=fs) r.conds (fun c hc=>⟨a1E hc,Ae h c hc⟩) (RL.one (a:=⟨[],[]⟩) (b:=⟨[],[]⟩) ⟨rfl,RB.nil _ _⟩);refine RL.map_eq H fun t ht t' hR=>?_
 exact ZS h (wbU h r.conds [⟨[],[]⟩] (fun _ hc=>hc) (fun t ht=>by rw[cA.1 ht];exact WB.nil _) t ht) hR
theorem a0P{rs:ai}(fs:aJ)(t:Int){i:Nat}{r:aK}(hr:rs[i]?=some r):WL (mI rs fs t) i=tP (eP r) fs:=by
 obtain⟨b,e1,e2,e3⟩:=(vp [] rs).2.2 i r hr;have hx:=aa e2;have e4:hO (jV (cm [] rs).1.2 fs) (dG b)=some ⟨((cm [] rs).1.2[b]).parent,((cm [] rs).1.2[b]).cond,((cm [] rs).1.2[b]).dL,tP (eP r) fs⟩:=by
  unfold hO dG jV;rw[ay (by omega),aH];show(nK _ fs _ 0)[b]?=_;rw[F8,hx,cY,e3];rfl
 unfold WL mI;dsimp only;rw[e1];dsimp only;rw[e4]
theorem Xa{rs:ai}(hv:∀r∈rs,fP r=true)(fs:aJ)(t:Int):∀(l:ai) (i:Nat),(∀(j:Nat) r,l[j]?=some r->rs[i+j]?=some r)->TG (mI rs fs t) l i=l.flatMap fun r=>(tP r.conds fs).map fun u=>(⟨r.name,u.facts,u.bind⟩:bS)
 | [],_,_=>rfl
 |r::l,i,h=>by
  have h0:=h 0 r rfl;rw[rU]at h0;rw[TG,a0P fs t h0,ZW (hv r (aE h0)),cH,Xa hv fs t l (i+1) (fun j x hx=>by
   rw[show i+1+j=i+(j+1)by omega];exact h (j+1) x (by simpa using hx))]
theorem SJ{r:aK}{fs:aJ}(h1:fP r=true)(h2:fZ fs=true):mtB r fs=(tP r.conds fs).map fun t=>⟨r.name,t.facts,t.bind⟩:=by
 unfold mtB;rw[a4M h1 h2 (bR _),wz]
theorem W7{rs:ai}{fs:aJ}(t:Int)(h1:qp rs=true)(h2:fZ fs=true):TG (mI rs fs t) rs 0=Vq rs fs:=by
 have hv:=pZ h1;rw[Xa hv fs t rs 0 (fun j r hj=>by rw[cY];exact hj)];unfold Vq;rw[h1,aH];have:∀l:ai,(∀r∈l,fP r=true)->(l.flatMap fun r=>(tP r.conds fs).map fun u=>(⟨r.name,u.facts,u.bind⟩:bS))=l.flatMap fun r=>mtB r fs:=by
  intro l
  induction l with
  |nil=>intro _;rfl
  |cons r l ih=>intro hl;rw[cH,cH,ih (fun x hx=>hl x (by simp[hx])),SJ (hl r (by simp)) h2]
 exact this rs hv
end Go.Cx
namespace Go.Cx
open Go.RowKit Go.Proofs Tryz
theorem F7(A:bN)(fs:aJ):(kY A fs).length=A.length:=by unfold kY;rw[ax]
theorem Rn(A:bN)(x:aZ)(fs:aJ):kY (A++[x]) fs=kY A fs++[⟨x.shape,tu x.shape [] fs⟩]:=by unfold kY;rw[bG];rfl
def a0X(n:aI)(f:aD):aI×Bool:=bif K6 n&&(NA n.facts f).2 then(QB n (NA n.facts f).1 f,true)else(n,false)
def a0x(n:aI)(f:aD):aI×Bool:=bif K6 n&&(L9 n.facts f).2 then(QB n (L9 n.facts f).1 f,true)else(n,false)
theorem ZR{l:aJ}{f:aD}(h:(L9 l f).2=true):fZ (L9 l f).1=true:=by
 unfold L9 at h⊢;split at h
 ·rename_i hc;rw[bK hc];exact T7 f hc.1
 ·cases h
theorem a5w(n:aI)(f:aD)(h:NU n)(hf:f.wt<=1048576):lV n f=some (a0X n f):=by
 unfold lV CI a0X;rw[SA n h.rules h.facts,aA];cases hb:K6 n with
 |false=>rw[bz,aH,M9 n h];rfl
 |true=>
  rw[bQ,aQ,a5g n.facts f h.facts hf,aA];cases ha:(NA n.facts f).2 with
  |false=>rw[bz,aH,M9 n h];rfl
  |true=>rw[bQ,aQ,a5h n _ f hb h.rules (ZQ ha) hf];rfl
theorem a62(n:aI)(f:aD)(h:NU n)(hf:f.wt<=1048576):j8 n f=some (a0x n f):=by
 unfold j8 AT a0x;rw[SA n h.rules h.facts,aA];cases hb:K6 n with
 |false=>rw[bz,aH,M9 n h];rfl
 |true=>
  rw[bQ,aQ,a5x n.facts f h.facts,aA];cases ha:(L9 n.facts f).2 with
  |false=>rw[bz,aH,M9 n h];rfl
  |true=>rw[bQ,aQ,a5h n _ f hb h.rules (ZR ha) hf];rfl
theorem Ni{rs:ai}(h:qp rs=true):(⟨rs,(cm [⟨[],[]⟩] rs).2,(cm [⟨[],[]⟩] rs).1.1,(cm [⟨[],[]⟩] rs).1.2,[],0⟩:aI)=mI rs [] 0:=by
 have hv:=pZ h;unfold mI;rw[UN (vq [] hv),UO hv];have e1:(cm [⟨[],[]⟩] rs).2=(cm [] rs).2:=by rw[gV,gV]
 have e2:(cm [⟨[],[]⟩] rs).1.1=(cm [] rs).1.1:=by rw[gV,gV]
 rw[e1,e2]
def a7Q:aI:=⟨[],[],[],[],[],0⟩
theorem a0g(rs:ai)(h:rP aK.wt rs<=1048576):jM rs=some (bif qp rs then(mI rs [] 0,true)else(a7Q,false)):=by
 rw[Y7 rs h];cases hb:qp rs with
 |false=>rfl
 |true=>rw[aH,aH,Ni hb]
end Go.Cx
namespace Go.Cx
open Go.RowKit Go.Proofs Tryz
theorem OM{α:Type}{l:List α}{i:Int}{x:α}(h:hO l i=some x):x∈l:=by
 unfold hO at h;cases hd:decide (0<=i)with
 |false=>rw[hd]at h;cases h
 |true=>rw[hd,aH]at h;exact aE h
theorem Le:∀ {a b:aJ} {p q:Option aD},chainB p a=true->chainB q b=true->(∀x,x∈a↔x∈b)->a=b
 | [],[],_,_,_,_,_=>rfl
 | [],y::ys,_,_,_,_,h=>absurd ((h y).2 (by simp)) (by simp)
 |x::xs,[],_,_,_,_,h=>absurd ((h x).1 (by simp)) (by simp)
 |x::xs,y::ys,p,q,ha,hb,h=>by
  obtain⟨_,_,h3⟩:=rO ha;obtain⟨_,_,k3⟩:=rO hb;have e:x=y:=by
   rcases bB.1 ((h x).1 (by simp))with e|hx
   ·exact e
   rcases bB.1 ((h y).2 (by simp))with e|hy
   ·exact e.symm
   exact absurd (Ge (x6 k3 x hx) (x6 h3 y hy)) (BJ y)
  subst e;have:xs=ys:=Le h3 k3 fun z=>⟨fun hz=>by
   rcases bB.1 ((h z).1 (by simp[hz]))with rfl|q
   ·exact absurd (x6 h3 z hz) (BJ z)
   ·exact q,fun hz=>by
   rcases bB.1 ((h z).2 (by simp[hz]))with rfl|q
   ·exact absurd (x6 k3 z hz) (BJ z)
   ·exact q⟩
  rw[this]
theorem Vt{a b:aJ}(ha:fZ a=true)(hb:fZ b=true)(h:∀x,x∈a↔x∈b):a=b:=by
 unfold fZ at ha hb;simp only[aS]at ha hb;exact Le ha.1 hb.1 h
theorem WD{f x:aD}{l:aJ}:x∈GB f l↔x∈l/\x≠f:=by
 unfold GB;rw[gA];simp
theorem Zh{f:aD}{l:aJ}(h1:fZ (kZ f l)=true)(h2:fZ l=true)(hn:f∉l):GB f (kZ f l)=l:=by
 refine Vt (T7 f h1) h2 fun x=>?_
 rw[WD,Iy];constructor
 ·rintro⟨h|h,hne⟩
  ·exact absurd h hne
  ·exact h
 ·exact fun h=>⟨.inr h,fun e=>hn (e▸h)⟩
theorem a0N(rs:ai)(fs:aJ)(t u:Int):J3 (mI rs fs t) (mI rs fs u)=true:=by
 unfold J3 mI;simp
end Go.Cx
namespace Go.Cx
open Go.RowKit Go.Proofs Tryz
theorem xm{p f:aD}{b:aM}(h:p.rel≠f.rel):(nN p f b).2=false:=by
 have e:(p.rel==f.rel)=false:=cy.2 h;unfold nN;rw[e];simp
theorem KY{p f:aD}{b:aM}(h:p.rel≠f.rel):∀fs:aJ,tu p b (kZ f fs)=tu p b fs
 | []=>by unfold tu kZ;simp[xm h]
 |x::xs=>by
  have ih:=KY (b:=b) h xs;unfold tu at ih⊢;rw[kZ];split
  ·rw[nT (by simp[xm h])]
  ·rw[BA,BA,ih]
theorem KW{c:aL}{t:aT}{f:aD}(h:c.pat.rel≠f.rel):∀fs:aJ,(kZ f fs).flatMap (ext1 c t)=fs.flatMap (ext1 c t)
 | []=>by unfold kZ ext1;simp[xm h]
 |x::xs=>by
  have e:ext1 c t f=[]:=by unfold ext1;rw[xm h];rfl
  rw[kZ];split
  ·rw[cH,e,cw]
  ·rw[cH,cH,KW h xs]
theorem Qp{c:aL}{f:aD}(h:c.pat.rel≠f.rel)(fs:aJ)(A:ar):rM (kZ f fs) A c=rM fs A c:=by
 unfold rM
 congr 1
 funext t
 unfold Bn Aw;rw[KW h,KY h]
theorem Eu{f:aD}(fs:aJ):∀(cs:ah) (A:ar),(∀c∈cs,c.pat.rel≠f.rel)->cs.foldl (rM (kZ f fs)) A=cs.foldl (rM fs) A
 | [],_,_=>rfl
 |c::cs,A,h=>by rw[cJ,cJ,Qp (h c (by simp)),Eu fs cs _ fun x hx=>h x (by simp[hx])]
theorem SE(l:ar):Iz l l=l.length:=by
 unfold Iz;have e:(l.filter fun t=>OX l t)=l:=yX.2 fun t ht=>by unfold OX;exact cv.2 ⟨t,ht,by simp⟩
 rw[e]
theorem Vo(l:ar):adT l l=0:=by unfold adT;rw[SE];omega
theorem Mm{N:bL}{al:bN}{f:aD}(ha:∀y∈al,(nN y.shape f []).2=false):∀(l:bL) (t:Int),0<=t->t<=1000000000000000000->trN N N al f l t=t
 | [],_,_,_=>rfl
 |x::xs,t,h0,h1=>by
  have:stepT al f x (Ko N x.parent) (Ko N x.parent) t=t:=by
   unfold stepT;rw[Vo];split
   ·rw[eM (pN.i64.2 (by omega))];omega
   ·cases e:hO al x.dL with
    |none=>rfl
    |some y=>
     dsimp only;rw[ha y (OM e),aQ,show((0:Nat):Int)*((y.facts.length:Nat):Int)=0 by simp,eM (n:=0) (pN.i64.2 (by omega)),eM (pN.i64.2 (by omega))];omega
  rw[trN,this,Mm ha xs t h0 h1]
end Go.Cx
namespace Go.Cx
open Go.RowKit Go.Proofs Tryz
theorem ZY(P:aD->Prop){al:bN}{ns:bL}{p:Int}{c:aL}(h:∀x∈al,P x.shape)(hc:P (vW c.pat)):∀x∈(Hq al ns p c).1.1,P x.shape:=by
 unfold Hq;cases Ms p c ns 0 with
 |some i=>exact h
 |none=>
  show∀x∈(Mr al c).1,P x.shape;unfold Mr;by_cases hk:c.kind=1\/c.kind=2
  ·rw[bK hk];unfold Re;cases T5 (vW c.pat) al 0 with
   |some i=>exact h
   |none=>
    intro x hx;rcases af.1 hx with hx|hx
    ·exact h x hx
    ·rw[cA.1 hx];exact hc
  ·rw[az hk];exact h
theorem Tw(P:aD->Prop):∀(cs:ah) (s:(bN×bL)×Int),(∀x∈s.1.1,P x.shape)->(∀c∈cs,P (vW c.pat))->∀x∈(cs.foldl DZ s).1.1,P x.shape
 | [],_,h,_=>h
 |c::cs,s,h,hc=>Tw P cs (DZ s c) (ZY P h (hc c (by simp))) (fun x hx=>hc x (by simp[hx]))
theorem Ya(P:aD->Prop)(tk:ar){rs:ai}(h:∀r∈rs,∀c∈eP r,P (vW c.pat)):∀x∈(cm tk rs).1.1,P x.shape:=by
 have main:∀(l:ai) (z:(bN×bL)×bJ),(∀r∈l,∀c∈eP r,P (vW c.pat))->(∀x∈z.1.1,P x.shape)->∀x∈(l.foldl FF z).1.1,P x.shape:=by
  intro l
  induction l with
  |nil=>intro z _ hz;exact hz
  |cons r l ih=>
   intro z hl hz;exact ih (FF z r) (fun x hx=>hl x (by simp[hx])) (Tw P (eP r) (z.1,0) hz (hl r (by simp)))
 exact main rs _ h (fun x hx=>by cases hx)
structure VM(rs:List aK)(f:aD):Prop where
 ne:f.rel≠[]
 cond:∀r∈rs,∀c∈r.conds,c.pat.rel≠f.rel
theorem VM.plain{rs:ai}{f:aD}(h:VM rs f):∀r∈rs,∀c∈eP r,c.pat.rel≠f.rel:=by
 intro r hr c hc;obtain⟨d,hd,rfl⟩:=bu.1 hc;exact h.cond r hr d hd
theorem VM.dL{rs:ai}{f:aD}(h:VM rs f)(tk:ar):∀x∈(cm tk rs).1.1,x.shape.rel≠f.rel:=
 Ya (fun s=>s.rel≠f.rel) tk fun r hr c hc=>h.plain r hr c hc
theorem VM.path{rs:ai}{f:aD}(h:VM rs f)(tk:ar)(v:Int):∀c∈fO (cm tk rs).1.2 v,c.pat.rel≠f.rel:=by
 intro c hc;obtain⟨x,hx,rfl⟩:=Eo hc;obtain⟨i,hi⟩:=dZ hx;by_cases h0:i=0
 ·subst h0;rw[gV]at hi;cases hi;exact fun e=>h.ne e.symm
 ·obtain⟨r,hr,hc⟩:=RE (by omega) hi;exact h.plain r hr _ hc
theorem GP{rs:ai}{f:aD}(h:VM rs f)(tk:ar)(fs:aJ):jV (cm tk rs).1.2 (kZ f fs)=jV (cm tk rs).1.2 fs:=by
 refine kw fun i=>?_
 have:tP (fO (cm tk rs).1.2 (dG i)) (kZ f fs)=tP (fO (cm tk rs).1.2 (dG i)) fs:=Eu fs _ _ (h.path tk (dG i));rw[vm,vm,this]
theorem Ka{rs:ai}{f:aD}(h:VM rs f)(tk:ar)(fs:aJ):∀y∈kY (cm tk rs).1.1 fs,(nN y.shape f []).2=false:=by
 intro y hy;obtain⟨z,hz,rfl⟩:=bu.1 hy;exact xm (h.dL tk z hz)
theorem Qw{rs:ai}{fs:aJ}{t:Int}{f:aD}(h1:qp rs=true)(h2:fZ fs=true)(h0:0<=t)(ht:t<=1000000000000000000)(hF:VM rs f)(hf:oB f=true)(hn:f∉fs)(h24:fs.length<24):
 a0X (mI rs fs t) f=(mI rs (kZ f fs) t,true):=by
 have hb:K6 (mI rs fs t)=true:=by rw[LJ h1 h2];exact ay h0
 have ha:NA (mI rs fs t).facts f=(kZ f fs,true):=by unfold NA;exact bK ⟨h2,hf,hn,by show fs.length≠24;omega⟩
 unfold a0X;rw[hb,ha];show(QB (mI rs fs t) (kZ f fs) f,true)=_;unfold QB;show(mI rs (kZ f fs) (trN (jV (cm [] rs).1.2 fs) (jV (cm [] rs).1.2 (kZ f fs)) (kY (cm [] rs).1.1 (kZ f fs)) f ((jV (cm [] rs).1.2 (kZ f fs)).drop 1) t),true)=_;rw[<-GP hF [] fs,Mm (Ka hF [] _) _ t h0 ht]
theorem RF{rs:ai}{fs:aJ}{t:Int}{f:aD}(h1:qp rs=true)(h2:fZ fs=true)(h0:0<=t)(ht:t<=1000000000000000000)(hF:VM rs f)(hf:oB f=true)(hn:f∉fs)(h24:fs.length<24):
 a0x (mI rs (kZ f fs) t) f=(mI rs fs t,true):=by
 have h3:=I1 hf h2 hn (by omega);have hb:K6 (mI rs (kZ f fs) t)=true:=by rw[LJ h1 h3];exact ay h0
 have ha:L9 (mI rs (kZ f fs) t).facts f=(fs,true):=by
  unfold L9;show(if fZ (kZ f fs)=true/\f∈kZ f fs then(GB f (kZ f fs),true)else(kZ f fs,false))=_;rw[bK ⟨h3,(Iy f fs f).2 (.inl rfl)⟩,Zh h3 h2 hn]
 unfold a0x;rw[hb,ha];show(QB (mI rs (kZ f fs) t) fs f,true)=_;unfold QB;show(mI rs fs (trN (jV (cm [] rs).1.2 (kZ f fs)) (jV (cm [] rs).1.2 fs) (kY (cm [] rs).1.1 fs) f ((jV (cm [] rs).1.2 fs).drop 1) t),true)=_;rw[GP hF [] fs,Mm (Ka hF [] _) _ t h0 ht]
theorem Pu{rs:ai}{fs:aJ}{f:aD}(h1:qp rs=true)(h2:fZ fs=true)(hF:VM rs f)(hf:oB f=true)(hn:f∉fs)(h24:fs.length<24):Vq rs (kZ f fs)=Vq rs fs:=by
 have h3:=I1 hf h2 hn (by omega);have main:∀l:ai,(∀r∈l,r∈rs)->(l.flatMap fun r=>mtB r (kZ f fs))=l.flatMap fun r=>mtB r fs:=by
  intro l
  induction l with
  |nil=>intro _;rfl
  |cons r l ih=>
   intro hl;have hr:=hl r (by simp);have hv:=pZ h1 r hr;have e:tP r.conds (kZ f fs)=tP r.conds fs:=Eu fs _ _ (hF.cond r hr);rw[cH,cH,ih fun x hx=>hl x (by simp[hx]),SJ hv h3,SJ hv h2,e]
 unfold Vq;rw[h1,aH,aH];exact main rs fun _ h=>h
end Go.Cx
namespace Go.Cx
open Go.RowKit Go.Proofs Tryz
def fE(c:cj):Prop:=0<=c.i/\c.b.length<=4096
theorem T9(x:Int):0<=GL .i64 x 255/\GL .i64 x 255<=255:=by
 unfold GL;have h:(BitVec.ofInt IntKind.i64.bits x&&& BitVec.ofInt IntKind.i64.bits 255).toNat<=255:=by
  rw[BitVec.toNat_and];exact dY Nat.and_le_right (by decide)
 rw[eM (pN.i64.2 (by omega))];omega
theorem a6X(c:cj)(h:fE c):∃c' x,oS c=some (c',x)/\fE c'/\0<=x/\x<=255:=by
 obtain⟨h1,h2⟩:=h;unfold oS;rw[ax];by_cases hi:c.i<(c.b.length:Int)
 ·have hlt:c.i.toNat<c.b.length:=by omega
  have e:hO c.b c.i=some c.b[c.i.toNat]:=by unfold hO;rw[ay h1,aH];exact aa hlt
  rw[ay hi,aH,e,aA];refine⟨_,_,rfl,⟨?_,h2⟩,T9 _⟩;show 0<=IntKind.i64.wrap (c.i+1);rw[eM (pN.i64.2 (by omega))];omega
 ·rw[bH hi,aQ];exact⟨_,_,rfl,⟨h1,h2⟩,T9 _⟩
theorem yR(c:cj)(n:Int)(h:fE c)(h0:0<n)(h1:n<=256):∃c' r,di c n=some (c',r)/\fE c'/\0<=r/\r<n:=by
 obtain⟨c',x,e,hc,hx,hx2⟩:=a6X c h;unfold di;have e1:decide (n<=0)=false:=by simp;omega
 have e2:decide (n<=256)=true:=by simp;omega
 have e3:(decide (0<=x)&&decide (0<n))=true:=by simp;omega
 rw[e1,aQ,e2,aH,e,aA,e3,aH];exact⟨_,_,rfl,hc,Int.emod_nonneg _ (by omega),Int.emod_lt_of_pos _ h0⟩
theorem YE(c:cj)(n:Int)(h:fE c)(h0:0<n)(h1:n<=256):∃c' b,qW c n=some (c',b)/\fE c':=by
 obtain⟨c',x,e,hc,_⟩:=yR c n h h0 h1;unfold qW;rw[e,aA];exact⟨_,_,rfl,hc⟩
theorem a4F(c:cj)(l:aG)(h:fE c)(h0:0<l.length)(h1:l.length<=256):∃c' s,uI c l=some (c',s)/\fE c'/\s∈l:=by
 obtain⟨c',x,e,hc,hx,hx2⟩:=yR c (l.length:Int) h (by omega) (by omega);unfold uI;rw[ax,e,aA];have hlt:x.toNat<l.length:=by omega
 have e2:hO l x=some l[x.toNat]:=by unfold hO;rw[ay hx,aH];exact aa hlt
 rw[e2,aA];exact⟨_,_,rfl,hc,oY hlt⟩
theorem Xz(c:cj)(h:fE c):∃c' s,iv c=some (c',s)/\fE c'/\s.length<=16:=by
 unfold iv;obtain⟨c',s,e,hc,hs⟩:=a4F c ([[97],[98],[99],[49],[50]]:aG) h (by decide) (by decide);rw[e,aA];have:∀s∈([[97],[98],[99],[49],[50]]:aG),s.length<=16:=by decide
 exact⟨_,_,rfl,hc,this s hs⟩
theorem Sg(c:cj)(h:fE c):∃c' s,oU c=some (c',s)/\fE c'/\s.length<=16:=by
 unfold oU;obtain⟨c1,b,e,hc⟩:=YE c 4 h (by decide) (by decide);rw[e,aA];cases b with
 |true=>
  obtain⟨c2,s,e2,OY,hs⟩:=Xz c1 hc;rw[aH,e2,aA];exact⟨_,_,rfl,OY,hs⟩
 |false=>
  obtain⟨c2,s,e2,OY,hs⟩:=a4F c1 ([[63,120],[63,121],[63,122]]:aG) hc (by decide) (by decide);rw[aQ,e2,aA];have:∀s∈([[63,120],[63,121],[63,122]]:aG),s.length<=16:=by decide
  exact⟨_,_,rfl,OY,this s hs⟩
theorem a6n(c:cj)(h:fE c):∃c' r n,nC c=some (c',(r,n))/\fE c'/\r.length<=16/\0<=n/\n<=2:=by
 unfold nC;obtain⟨c1,x,e,hc,hx,hx2⟩:=yR c 6 h (by decide) (by decide);rw[e,aA];have key:x=0\/x=1\/x=2\/x=3\/x=4\/x=5:=by omega
 rcases key with rfl|rfl|rfl|rfl|rfl|rfl<;>exact⟨c1,_,_,rfl,hc,by decide,by decide,by decide⟩
def C4(k:Nat)(p:aD):Prop:=p.rel.length<=16/\p.args.length<=k/\∀x∈p.args,x.length<=16
theorem O8:∀(l:aG),(∀x∈l,x.length<=16)->rP tw l<=17*l.length
 | [],_=>by simp[rP]
 |x::l,h=>by
  have h1:=O8 l fun y hy=>h y (by simp[hy])
  have h2:=h x (by simp);rw[oG,aV];unfold tw at*;omega
theorem a0f(y:cj×(Bytes×Int))(k:bJ->Int->Int->aG->Option (cj×aD)):∀(m:Nat) (fu:Nat) (v:Int) (c:cj) (w:aG),y.2.2-v=(m:Int)->m<fu->0<=v->y.2.2<=100->w.length+m<=1000->fE c->(∀x∈w,x.length<=16)->
 ∃c' w',gK y k fu v c.b c.i c.h w=k c'.b c'.i c'.h w'/\fE c'/\w'.length<=w.length+m/\∀x∈w',x.length<=16:=by
 intro m
 induction m with
 |zero=>
  intro fu v c w hv hf h0 hy hw hc hx;cases fu with
  |zero=>omega
  |succ fu=>
   have e:decide (v<y.2.2)=false:=by simp;omega
   rw[gK,e,aQ];exact⟨c,w,rfl,hc,by omega,hx⟩
 |succ m ih=>
  intro fu v c w hv hf h0 hy hw hc hx;cases fu with
  |zero=>omega
  |succ fu=>
   have e:decide (v<y.2.2)=true:=by simp;omega
   obtain⟨c1,s,e2,hc1,hs⟩:=Sg c hc;have WK:oU (⟨c.b,c.i,c.h⟩:cj)=some (c1,s):=e2;have e3:IntKind.i64.wrap (v+1)=v+1:=eM (pN.i64.2 (by omega));rw[gK,e,aH,WK,aA,ic (by omega) (by decide),aH,e3];obtain⟨c',w',q1,q2,q3,q4⟩:=ih fu (v+1) c1 (w++[s]) (by omega) (by omega) (by omega) hy (by simp;omega) hc1 (fun x Zz=>by
    rcases af.1 Zz with h|h
    ·exact hx x h
    ·simp at h;subst h;exact hs)
   exact⟨c',w',q1,q2,by simp at q3;omega,q4⟩
theorem Sc(c:cj)(h:fE c):∃c' p,gx c=some (c',p)/\fE c'/\C4 2 p:=by
 unfold gx;obtain⟨c1,r,n,e,hc,hr,hn,hn2⟩:=a6n c h;rw[e,aA];obtain⟨c',w',q1,q2,q3,q4⟩:=a0f (c1,(r,n)) (fun a b d q=>some ((⟨a,b,d⟩:cj),(⟨r,q⟩:aD))) n.toNat fuel 0 c1 [] (by simp;omega) (by unfold fuel;omega) (by omega) (by simp;omega) (by simp;omega) hc (by simp);exact⟨_,_,q1,q2,hr,by show w'.length<=2;simp at q3;omega,q4⟩
theorem a6i(code:bJ)(h:code.length<=4096):∃c,wL code=some c/\fE c:=by
 unfold wL;have key:∀(k:Int->Option cj) (r:bJ) (i:Nat) (v:Int),∃z,ny code k r i v=k z:=by
  intro k r
  induction r with
  |nil=>intro i v;exact⟨v,rfl⟩
  |cons x r ih=>
   intro i v;rw[ny];cases decide ((i:Int)<4000)with
   |true=>exact ih _ _
   |false=>exact⟨v,rfl⟩
 obtain⟨z,e⟩:=key (fun z=>some (⟨code,0,z⟩:cj)) code 0 (IntKind.i64.wrap (851207+(IntKind.i64.wrap (3*((code.map yx).length:Int)))));rw[sU (by omega),aH,e];exact⟨_,rfl,by show(0:Int)<=0;omega,h⟩
end Go.Cx
namespace Go.Cx
open Go.RowKit Go.Proofs Tryz
theorem a2B(c:cj)(l:bJ)(h:fE c)(h0:0<l.length)(h1:l.length<=256):∃c' s,s4 c l=some (c',s)/\fE c'/\s∈l:=by
 obtain⟨c',x,e,hc,hx,hx2⟩:=yR c (l.length:Int) h (by omega) (by omega);unfold s4;rw[ax,e,aA];have hlt:x.toNat<l.length:=by omega
 have e2:hO l x=some l[x.toNat]:=by unfold hO;rw[ay hx,aH];exact aa hlt
 rw[e2,aA];exact⟨_,_,rfl,hc,oY hlt⟩
def a2g(j:Nat):Bytes:=if j<10 then [UInt8.ofNat (48+j)]else [UInt8.ofNat (48+j/10),UInt8.ofNat (48+j%10)]
theorem Zj{j:Nat}(h:j<100):Lib.decDigits j=a2g j:=by
 unfold a2g;by_cases h1:j<10
 ·rw[bK h1,Lib.decDigits,dif_pos h1]
 ·rw[az h1,Lib.decDigits,dif_neg h1,Lib.decDigits,dif_pos (by omega)];rfl
end Go.Cx
namespace Go.Cx
open Go.RowKit Go.Proofs Tryz
def Df(c:aL):Prop:=C4 4 c.pat/\c.left.length<=16/\c.right.length<=16
def OK(a:Action):Prop:=C4 4 a.pat
def zR(n:Nat)(r:aK):Prop:=r.name.length<=16/\(r.conds.length<=n/\∀c∈r.conds,Df c)/\(r.cg.length<=n/\∀a∈r.cg,OK a)
theorem FH{α:Type}{w:α->Nat}{B:Nat}:∀(l:List α),(∀x∈l,w x<=B)->rP w l<=(B+1)*l.length
 | [],_=>by simp[rP]
 |x::l,h=>by
  have h1:=FH l fun y hy=>h y (by simp[hy])
  have h2:=h x (by simp);rw[oG,aV,Nat.mul_add];omega
theorem C4.wt4{p:aD}(h:C4 4 p):tw p.rel+rP tw p.args<=100:=by
 have:=O8 p.args h.2.2;have h1:=h.1;have h2:=h.2.1;unfold tw at*;omega
theorem Df.wt{c:aL}(h:Df c):c.wt<=200:=by
 have h1:=h.1.wt4;have h2:=h.2.1;have h3:=h.2.2;unfold aL.wt;unfold tw at*;omega
theorem OK.wt{a:Action}(h:OK a):a.wt<=200:=by
 have h1:=C4.wt4 h;unfold Action.wt;unfold tw at*;omega
theorem zR.wt{n:Nat}{r:aK}(h:zR n r)(hn:n<=1000):r.wt<=1048576:=by
 obtain⟨h1,⟨h2,h3⟩,h4,h5⟩:=h;have c1:=FH (w:=aL.wt) (B:=200) r.conds (fun x hx=>(h3 x hx).wt);have c2:=FH (w:=Action.wt) (B:=200) r.cg (fun x hx=>(h5 x hx).wt);have d1:(200+1)*r.conds.length<=201*1000:=eN _ (by omega);have d2:(200+1)*r.cg.length<=201*1000:=eN _ (by omega);unfold aK.wt;unfold tw at*;omega
def LP(p:aD):Bool:=decide (p.rel.length<=16)&&(decide (p.args.length<=4)&&p.args.all fun x=>decide (x.length<=16))
theorem O0{p:aD}(h:LP p=true):C4 4 p:=by
 unfold LP at h;simp only[aS,bD,aj]at h;exact h
def PM(r:aK):Bool:=(decide (r.name.length<=16)&&((decide (r.conds.length<=4)&&r.conds.all fun c=>LP c.pat&&(decide (c.left.length<=16)&&decide (c.right.length<=16)))&&(decide (r.cg.length<=4)&&r.cg.all fun a=>LP a.pat)))&&(decide (1<=r.conds.length)&&decide (1<=r.cg.length))
theorem V1{r:aK}(h:PM r=true):zR 4 r/\1<=r.conds.length/\1<=r.cg.length:=by
 unfold PM at h;simp only[aS,bD,aj]at h;obtain⟨⟨h1,⟨h2,h3⟩,h4,h5⟩,h6,h7⟩:=h;exact⟨⟨h1,⟨h2,fun c hc=>⟨O0 (h3 c hc).1,(h3 c hc).2⟩⟩,h4,fun a ha=>O0 (h5 a ha)⟩,h6,h7⟩
theorem a4G(c:cj)(l r:Bytes)(h:fE c)(hl:l.length<=16)(hr:r.length<=16):∃c' x,sn c l r=some (c',x)/\fE c'/\Df x:=by
 unfold sn;obtain⟨c1,k,e,hc,_⟩:=a2B c [3,4,4,5] h (by decide) (by decide);rw[e,aA];exact⟨_,_,rfl,hc,⟨by simp,by simp,by simp⟩,hl,hr⟩
theorem a3v(c:cj)(h:fE c):∃c' x,oV c=some (c',x)/\fE c'/\Df x:=by
 unfold oV;obtain⟨c1,k,e,hc,_,_⟩:=yR c 5 h (by decide) (by decide);rw[e,aA];have one:∀k:Int,∃c' x,((gx c1).bind fun y4=>(some (y4.1,(⟨k,y4.2,[],[]⟩:aL))))=some (c',x)/\fE c'/\Df x:=fun k=>by
  obtain⟨c2,p,e2,OY,hp⟩:=Sc c1 hc;rw[e2,aA];exact⟨_,_,rfl,OY,⟨hp.1,by have:=hp.2.1;show p.args.length<=4;omega,hp.2.2⟩,by simp,by simp⟩
 cases(k==(0:Int))with
 |true=>rw[aH];exact one 1
 |false=>
  rw[aQ];cases(k==(1:Int))with
  |true=>rw[aH];exact one 1
  |false=>
   rw[aQ];cases(k==(2:Int))with
   |true=>rw[aH];exact one 2
   |false=>
    obtain⟨c2,l,e2,OY,hl⟩:=Sg c1 hc;obtain⟨c3,r,e3,hc3,hr⟩:=Sg c2 OY;obtain⟨c4,x,e4,hc4,hx⟩:=a4G c3 l r hc3 hl hr;rw[aQ,e2,aA,e3,aA,e4,aA];exact⟨_,_,rfl,hc4,hx⟩
def Tj(s:Bytes):Bool:=match kO s with
 |some (r,_)=>PM r&&fP r
 |none=>false
def Pm(r:aK):Prop:=zR 4 r/\fP r=true/\1<=r.conds.length/\1<=r.cg.length
theorem a0h(K:aG)(c:cj)(m:Int)(h:fE c)(hm:0<m)(h0:0<K.length)(h1:K.length<=256)(hK:K.all Tj=true):
 ∃c' r,((di c (NK m ((K.map tx).length:Int))).bind fun y1=>((hO K y1.2).bind fun x3=>((kO x3).bind fun y5=>(some (y1.1,y5.1)))))=some (c',r)/\fE c'/\Pm r:=by
 have hlen:((K.map tx).length:Int)=(K.length:Int):=by simp
 have hmin:0<NK m ((K.map tx).length:Int)/\NK m ((K.map tx).length:Int)<=(K.length:Int):=by
  unfold NK;rw[hlen];split<;>omega
 obtain⟨c1,x,e,hc,hx,hx2⟩:=yR c _ h hmin.1 (by omega);have hlt:x.toNat<K.length:=by omega
 have e2:hO K x=some K[x.toNat]:=by unfold hO;rw[ay hx,aH];exact aa hlt
 have hk:=aj.1 hK _ (oY hlt);unfold Tj at hk;rw[e,aA,e2,aA];cases hp:kO K[x.toNat]with
 |none=>rw[hp]at hk;cases hk
 |some p=>
  rw[hp]at hk;simp only[aS]at hk;obtain⟨q1,q2,q3⟩:=V1 hk.1;exact⟨_,_,rfl,hc,q1,hk.2,q2,q3⟩
theorem YA(c:cj)(m:Int)(h:fE c)(hm:0<m):∃c' r,iZ c m=some (c',r)/\fE c'/\Pm r:=by
 unfold iZ;refine a0h _ c m h hm ?_ ?_ ?_
 ·decide
 ·decide
 ·kernel_rfl
theorem a0j(y1:cj×Int):∀(m:Nat) (fu:Nat) (v:Int) (c:cj) (w:ah),v=(m:Int)->m<fu->m<=50->w.length+m<=100->fE c->(∀x∈w,Df x)->
 ∃c' w',(∀k,ew y1 k fu v c.b c.i c.h w=k c'.b c'.i c'.h w')/\fE c'/\w'.length=w.length+m/\∀x∈w',Df x:=by
 intro m
 induction m with
 |zero=>
  intro fu v c w hv hf hm hn hc hw;cases fu with
  |zero=>omega
  |succ fu=>
   have e:decide (v>0)=false:=by simp;omega
   exact⟨c,w,fun k=>by rw[ew,e,aQ],hc,rfl,hw⟩
 |succ m ih=>
  intro fu v c w hv hf hm hn hc hw;cases fu with
  |zero=>omega
  |succ fu=>
   have e:decide (v>0)=true:=by simp;omega
   obtain⟨c1,x,e2,hc1,hx⟩:=a3v c hc;have WK:oV (⟨c.b,c.i,c.h⟩:cj)=some (c1,x):=e2;have e3:IntKind.i64.wrap (v-1)=v-1:=eM (pN.i64.2 (by omega));obtain⟨c',w',q1,q2,q3,q4⟩:=ih fu (v-1) c1 (w++[x]) (by omega) (by omega) (by omega) (by simp;omega) hc1 (fun y hy=>by
    rcases af.1 hy with h|h
    ·exact hw y h
    ·simp at h;subst h;exact hx)
   exact⟨c',w',fun k=>by rw[ew,e,aH,WK,aA,ic (by omega) (by decide),aH,e3];exact q1 k,q2,by simp at q3;omega,q4⟩
theorem a0k(y1:cj×Int)(q:ah)(y:aG)(vI:cj×aD):∀(m:Nat) (fu:Nat) (v:Nat) (c:cj) (w:aG),w.length=v+m->m<fu->w.length<=100->fE c->(∀x∈w,x.length<=16)->
 ∃c' w',(∀k,ck y1 q y vI k fu (v:Int) c.b c.i c.h w=k c'.b c'.i c'.h w')/\fE c'/\w'.length=w.length/\∀x∈w',x.length<=16:=by
 intro m
 induction m with
 |zero=>
  intro fu v c w hv hf hm hc hw;cases fu with
  |zero=>omega
  |succ fu=>
   have e:decide ((v:Int)<((w.map tx).length:Int))=false:=by simp;omega
   exact⟨c,w,fun k=>by rw[ck,e,aQ],hc,rfl,hw⟩
 |succ m ih=>
  intro fu v c w hv hf hm hc hw;cases fu with
  |zero=>omega
  |succ fu=>
   have e:decide ((v:Int)<((w.map tx).length:Int))=true:=by simp;omega
   have hlt:v<w.length:=by omega
   have e1:hO w (v:Int)=some w[v]:=by unfold hO;rw[ay (by omega),aH];exact aa hlt
   have hx:=hw w[v] (oY hlt);have e4:IntKind.i64.wrap ((v:Int)+1)=((v+1:Nat):Int):=by rw[eM (pN.i64.2 (by omega))];rfl
   have st:∀k,ck y1 q y vI k (fu+1) (v:Int) c.b c.i c.h w=(bif fQ w[v]then(bif !(y.contains w[v])then((iv (⟨c.b,c.i,c.h⟩:cj)).bind fun y83=>ck y1 q y vI k fu ((v+1:Nat):Int) y83.1.b y83.1.i y83.1.h (w.set (v:Int).toNat y83.2))else ck y1 q y vI k fu ((v+1:Nat):Int) c.b c.i c.h w)else ck y1 q y vI k fu ((v+1:Nat):Int) c.b c.i c.h w):=by
    intro k;rw[ck,e,aH,e1,aA,PJ w[v] (by omega),aA,e4,V0,aA]
   obtain⟨c0,w0,p1,p2,p3,p4⟩:=ih fu (v+1) c w (by omega) (by omega) hm hc hw;cases hv1:fQ w[v]with
   |false=>exact⟨c0,w0,fun k=>by rw[st k,hv1,aQ];exact p1 k,p2,p3,p4⟩
   |true=>
    cases GS:y.contains w[v]with
    |true=>exact⟨c0,w0,fun k=>by rw[st k,hv1,GS,aH,bQ,aQ];exact p1 k,p2,p3,p4⟩
    |false=>
     obtain⟨c1,s,e2,hc1,hs⟩:=Xz c hc;have WK:iv (⟨c.b,c.i,c.h⟩:cj)=some (c1,s):=e2;obtain⟨c',w',q1,q2,q3,q4⟩:=ih fu (v+1) c1 (w.set (v:Int).toNat s) (by simp;omega) (by omega) (by simpa using hm) hc1 (fun x Zz=>by
      rcases uW Zz with h|h
      ·exact hw x h
      ·subst h;exact hs)
     exact⟨c',w',fun k=>by rw[st k,hv1,GS,aH,bz,aH,WK,aA];exact q1 k,q2,by simpa using q3,q4⟩
theorem a6m(c:cj)(h:fE c):∃c' r,o4 c=some (c',r)/\fE c'/\Pm r:=by
 unfold o4;obtain⟨c1,n,e1,hc1,_,_⟩:=yR c 4 h (by decide) (by decide);obtain⟨c2,p,e2,OY,hp⟩:=Sc c1 hc1;obtain⟨c3,m,e3,hc3,hm,hm2⟩:=yR c2 3 OY (by decide) (by decide);rw[e1,aA,e2,aA,e3,aA];have hp4:C4 4 p:=⟨hp.1,by have:=hp.2.1;omega,hp.2.2⟩
 obtain⟨c4,cs,q1,hc4,Rs,hsm⟩:=a0j (c1,n) m.toNat fuel m c3 [(⟨1,p,[],[]⟩:aL)] (by omega) (by unfold fuel;omega) (by omega) (by simp;omega) hc3 (fun x hx=>by
  simp at hx;subst hx;exact⟨hp4,by simp,by simp⟩)
 have hcs:1<=cs.length/\cs.length<=3:=by simp at Rs;omega
 rw[q1];dsimp only;have hw0:(⟨[114],n,cs,[]⟩:aK).wt<=1048576:=zR.wt (n:=4) ⟨by simp,⟨by show cs.length<=4;omega,hsm⟩,by simp,by simp⟩ (by decide);obtain⟨c5,q,e5,hc5,hq⟩:=Sc c4 hc4;have e5':gx (⟨c4.b,c4.i,c4.h⟩:cj)=some (c5,q):=e5;rw[SZ (⟨[114],n,cs,[]⟩:aK) _ hw0,aA,e5',aA];dsimp only;obtain⟨c6,qa,r1,hc6,r3,r4⟩:=a0k (c1,n) cs (eY (zT (⟨[114],n,cs,[]⟩:aK) ((cs.map aL.c).length:Int))) (c5,q) q.args.length fuel 0 c5 q.args (by simp) (by have:=hq.2.1;unfold fuel;omega) (by have:=hq.2.1;omega) hc5 hq.2.2;have r1':=r1;rw[show((0:Nat):Int)=0 from rfl]at r1';rw[r1'];obtain⟨c7,k,e7,hc7,_⟩:=a2B c6 [1,1,2] hc6 (by decide) (by decide);have e7':s4 (⟨c6.b,c6.i,c6.h⟩:cj) [1,1,2]=some (c7,k):=e7;obtain⟨c8,b,e8,hc8⟩:=YE c7 6 hc7 (by decide) (by decide);have Xw:∀n,n<=4->room n 48=true:=fun n hn=>Es (by omega) (by decide)
 rw[e7',aA];dsimp only;rw[Xw _ (by simp),aH,e8,aA];have hq4:C4 4 (⟨q.rel,qa⟩:aD):=⟨hq.1,by show qa.length<=4;have:=hq.2.1;omega,r4⟩
 have fin:∀(al:eG),1<=al.length->al.length<=2->(∀a∈al,OK a)->∃c' r,((nA (⟨[114],n,cs,al⟩:aK)).bind fun y92=>(bif !(y92)then((iZ c8 99).bind fun y95=>(some (y95.1,y95.2)))else(some (c8,(⟨[114],n,cs,al⟩:aK)))))=some (c',r)/\fE c'/\Pm r:=by
  intro al ha1 ha2 ha;have hsr:zR 4 (⟨[114],n,cs,al⟩:aK):=⟨by simp,⟨by show cs.length<=4;omega,hsm⟩,by show al.length<=4;omega,ha⟩
  rw[a2F _ (hsr.wt (by decide)),aA];cases hr:fP (⟨[114],n,cs,al⟩:aK)with
  |true=>exact⟨_,_,rfl,hc8,hsr,hr,hcs.1,ha1⟩
  |false=>
   obtain⟨c9,r,e9,hc9,hr9⟩:=YA c8 99 hc8 (by decide);rw[bz,aH,e9,aA];exact⟨_,_,rfl,hc9,hr9⟩
 cases b with
 |true=>
  dsimp only;rw[aH,Xw _ (by simp),aH];exact fin _ (by simp) (by simp) (fun a ha=>by
   simp at ha;rcases ha with rfl|rfl
   ·exact hq4
   ·exact⟨by simp,by simp,by simp⟩)
 |false=>
  dsimp only;rw[aQ];exact fin _ (by simp) (by simp) (fun a ha=>by
   simp at ha;subst ha;exact hq4)
theorem a3w(c:cj)(h:fE c):∃c' r,iw c=some (c',r)/\fE c'/\Pm r:=by
 unfold iw;obtain⟨c1,b,e,hc⟩:=YE c 3 h (by decide) (by decide);rw[e,aA];cases b with
 |true=>
  obtain⟨c2,r,e2,OY,hr⟩:=a6m c1 hc;rw[aH,e2,aA];exact⟨_,_,rfl,OY,hr⟩
 |false=>
  obtain⟨c2,r,e2,OY,hr⟩:=YA c1 99 hc (by decide);rw[aQ,e2,aA];exact⟨_,_,rfl,OY,hr⟩
end Go.Cx
namespace Go.Cx
open Go.RowKit Go.Proofs Tryz
end Go.Cx
namespace Go.Cx
open Go.RowKit Go.Proofs Tryz
theorem a3s(c:cj)(h:fE c):∃c' s,iv c=some (c',s)/\fE c'/\fR s=true:=by
 unfold iv;obtain⟨c',s,e,hc,hs⟩:=a4F c ([[97],[98],[99],[49],[50]]:aG) h (by decide) (by decide);rw[e,aA];have:∀s∈([[97],[98],[99],[49],[50]]:aG),fR s=true:=by decide
 exact⟨_,_,rfl,hc,this s hs⟩
theorem a6o(c:cj)(h:fE c):∃c' r n,nC c=some (c',(r,n))/\fE c'/\wQ r=true/\r.length<=2/\0<=n/\n<=2:=by
 unfold nC;obtain⟨c1,x,e,hc,hx,hx2⟩:=yR c 6 h (by decide) (by decide);rw[e,aA];have key:x=0\/x=1\/x=2\/x=3\/x=4\/x=5:=by omega
 rcases key with rfl|rfl|rfl|rfl|rfl|rfl<;>exact⟨c1,_,_,rfl,hc,by decide,by decide,by decide,by decide⟩
theorem Y6(y:cj×(Bytes×Int))(k:bJ->Int->Int->aG->Option (cj×aD)):∀(m:Nat) (fu:Nat) (v:Int) (c:cj) (w:aG),y.2.2-v=(m:Int)->m<fu->0<=v->y.2.2<=100->w.length+m<=1000->fE c->(∀x∈w,fR x=true)->
 ∃c' w',kV y k fu v c.b c.i c.h w=k c'.b c'.i c'.h w'/\fE c'/\w'.length<=w.length+m/\∀x∈w',fR x=true:=by
 intro m
 induction m with
 |zero=>
  intro fu v c w hv hf h0 hy hw hc hx;cases fu with
  |zero=>omega
  |succ fu=>
   have e:decide (v<y.2.2)=false:=by simp;omega
   rw[kV,e,aQ];exact⟨c,w,rfl,hc,by omega,hx⟩
 |succ m ih=>
  intro fu v c w hv hf h0 hy hw hc hx;cases fu with
  |zero=>omega
  |succ fu=>
   have e:decide (v<y.2.2)=true:=by simp;omega
   obtain⟨c1,s,e2,hc1,hs⟩:=a3s c hc;have WK:iv (⟨c.b,c.i,c.h⟩:cj)=some (c1,s):=e2;have e3:IntKind.i64.wrap (v+1)=v+1:=eM (pN.i64.2 (by omega));rw[kV,e,aH,WK,aA,ic (by omega) (by decide),aH,e3];obtain⟨c',w',q1,q2,q3,q4⟩:=ih fu (v+1) c1 (w++[s]) (by omega) (by omega) (by omega) hy (by simp;omega) hc1 (fun x Zz=>by
    rcases af.1 Zz with h|h
    ·exact hx x h
    ·simp at h;subst h;exact hs)
   exact⟨c',w',q1,q2,by simp at q3;omega,q4⟩
theorem a0e(c:cj)(h:fE c):∃c' p,sj c=some (c',p)/\fE c'/\oB p=true/\p.rel.length<=2:=by
 unfold sj;obtain⟨c1,r,n,e,hc,hr,Zt,hn,hn2⟩:=a6o c h;rw[e,aA];obtain⟨c',w',q1,q2,q3,q4⟩:=Y6 (c1,(r,n)) (fun a b d q=>some ((⟨a,b,d⟩:cj),(⟨r,q⟩:aD))) n.toNat fuel 0 c1 [] (by simp;omega) (by unfold fuel;omega) (by omega) (by simp;omega) (by simp;omega) hc (by simp);refine⟨_,_,q1,q2,?_,Zt⟩;unfold oB;simp only[aS,bD,aj];exact⟨q4,hr,by simp at q3;omega⟩
theorem a2A(a:aJ)(f:aD)(K:Bool->aJ->Option aJ):∀(rest:aJ) (i:Nat) (w:aJ),(∀x∈rest,x.args.length<=1048576)->w.length+rest.length<=1048576->cr a f K rest i true w=K true (w++rest)
 | [],i,w,_,_=>by simp[cr]
 |x::xs,i,w,hs,hl=>by
  simp only[aV]at hl;rw[cr,bQ,aQ,Cb x (by have:=hs x (by simp);omega),aA,ic (w:=w) (c:=aD.c) (y:=[D.str x.rel,D.sl (x.args.map tx)]) (b:=40) (by omega) (by decide),aH,a2A a f K xs (i+1) (w++[x]) (fun y hy=>hs y (by simp[hy])) (by simp;omega)];simp
theorem a29(a:aJ)(f:aD)(K:Bool->aJ->Option aJ):∀(rest:aJ) (p:Option aD) (i:Nat) (w:aJ),(∀x∈rest,x.args.length<=1048576)->w.length+rest.length<=1048576->chainB p rest=true->f∈rest->cr a f K rest i false w=K true (w++rest)
 | [],_,_,_,_,_,_,h=>by cases h
 |x::xs,p,i,w,hs,hl,hc,hm=>by
  simp only[aV]at hl;obtain⟨_,_,h3⟩:=rO hc;have cx:=Cb x (by have:=hs x (by simp);omega);have rx:=ic (w:=w) (c:=aD.c) (y:=[D.str x.rel,D.sl (x.args.map tx)]) (b:=40) (by omega) (by decide);rw[cr,bz,aH,Y2,aA];by_cases e:x=f
  ·rw[e,Nb,<-e];rw[ay (by omega:(0:Int)>=0),aH,aA,bH (by omega:¬(0:Int)>0),aQ,cx,aA,rx,aH,a2A a x K xs (i+1) (w++[x]) (fun y hy=>hs y (by simp[hy])) (by simp;omega)];simp
  ·have hxs:f∈xs:=by
    rcases bB.1 hm with q|q
    ·exact absurd q.symm e
    ·exact q
   have hlt:=x6 h3 f hxs;rw[bH (by omega),aQ,cx,aA,rx,aH,a29 a f K xs (some x) (i+1) (w++[x]) (fun y hy=>hs y (by simp[hy])) (by simp;omega) h3 hxs];simp
theorem a6l{l:aJ}{f:aD}(hl:fZ l=true)(hf:oB f=true)(hn:l.length<24):∃l',s5 l f=some l'/\fZ l'=true/\l'.length<=l.length+1/\∀x∈l',x∈l\/x=f:=by
 have hargs:∀x∈l,x.args.length<=1048576:=fun x hx=>aD.dK (by have:=EU (Gd hl x hx);omega)
 by_cases hm:f∈l
 ·refine⟨l,?_,hl,by omega,fun x hx=>.inl hx⟩;have hc:chainB none l=true:=by
   unfold fZ at hl;rw[aS]at hl;exact hl.1
  unfold s5;rw[a29 l f _ l none 0 [] hargs (by simp;omega) hc hm];rfl
 ·refine⟨kZ f l,a6e l f (by have:=aD.dK (n:=1048576) (by have:=EU hf;omega:f.wt<=1048576);omega) (fun x hx=>by have:=hargs x hx;omega) (by omega) hm,I1 hf hl hm (by omega),by rw[MB];omega,fun x hx=>?_⟩;rcases(Iy f l x).1 hx with h|h
  ·exact .inr h
  ·exact .inl h
theorem a4D(k:bJ->Int->Int->aJ->Option (cj×aJ)):∀(m:Nat) (fu:Nat) (v:Int) (c:cj) (w:aJ),v=(m:Int)->m<fu->w.length+m<=20->fE c->fZ w=true->(∀x∈w,x.rel.length<=2)->
 ∃c' w',mF k fu v c.b c.i c.h w=k c'.b c'.i c'.h w'/\fE c'/\fZ w'=true/\w'.length<=w.length+m/\∀x∈w',x.rel.length<=2:=by
 intro m
 induction m with
 |zero=>
  intro fu v c w hv hf hm hc hw hr;cases fu with
  |zero=>omega
  |succ fu=>
   have e:decide (v>0)=false:=by simp;omega
   rw[mF,e,aQ];exact⟨c,w,rfl,hc,hw,by omega,hr⟩
 |succ m ih=>
  intro fu v c w hv hf hm hc hw hr;cases fu with
  |zero=>omega
  |succ fu=>
   have e:decide (v>0)=true:=by simp;omega
   obtain⟨c1,f,e2,hc1,hf1,Zq⟩:=a0e c hc;have WK:sj (⟨c.b,c.i,c.h⟩:cj)=some (c1,f):=e2;obtain⟨w1,e4,hw1,hl1,hm1⟩:=a6l hw hf1 (by omega);have e3:IntKind.i64.wrap (v-1)=v-1:=eM (pN.i64.2 (by omega));rw[mF,e,aH,WK,aA,e4,aA,e3];obtain⟨c',w',q1,q2,q3,q4,q5⟩:=ih fu (v-1) c1 w1 (by omega) (by omega) (by omega) hc1 hw1 (fun x hx=>by
    rcases hm1 x hx with h|h
    ·exact hr x h
    ·rw[h];exact Zq)
   exact⟨c',w',q1,q2,q3,by omega,q5⟩
theorem a6q(c:cj)(n:Int)(h:fE c)(h0:0<=n)(hn:n<=19):∃c' l,wM c n=some (c',l)/\fE c'/\fZ l=true/\(l.length:Int)<=n/\∀x∈l,x.rel.length<=2:=by
 unfold wM;have e3:IntKind.i64.wrap (n+1)=n+1:=eM (pN.i64.2 (by omega));obtain⟨c1,x,e,hc,hx,hx2⟩:=yR c (n+1) h (by omega) (by omega);rw[e3,e,aA];obtain⟨c',w',q1,q2,q3,q4,q5⟩:=a4D (fun a b d q=>some ((⟨a,b,d⟩:cj),q)) x.toNat fuel x c1 [] (by omega) (by unfold fuel;omega) (by simp;omega) hc rfl (by simp);exact⟨_,_,q1,q2,q3,by simp at q4;omega,q5⟩
theorem KV(r:aK)(n:Bytes):∀(cs:ah) (i:Nat),rX ⟨n,r.prio,r.conds,r.cg⟩ cs i=rX r cs i
 | [],_=>rfl
 |c::cs,i=>by
  rw[rX,rX,KV r n cs (i+1)];rfl
theorem SY{r:aK}{n:Bytes}(h:fP r=true)(hn:wQ n=true):fP ⟨n,r.prio,r.conds,r.cg⟩=true:=by
 unfold fP at h⊢;dsimp only;rw[KV];simp only[aS]at h⊢;exact⟨⟨⟨⟨hn,h.1.1.1.2⟩,h.1.1.2⟩,h.1.2⟩,h.2.1,h.2.2.1,h.2.2.2⟩
theorem QH:∀ {l:ai} {k i:Nat} {r:aK},(l.map aK.name).Nodup->l[i]?=some r->Bh r.name l k=((k+i:Nat):Int)
 | [],_,_,_,_,h=>by simp at h
 |x::xs,k,i,r,hn,h=>by
  rw[av,dB]at hn;cases i with
  |zero=>
   simp at h;subst h;rw[Bh];simp
  |succ i=>
   have hx:xs[i]?=some r:=by simpa using h
   have hne:¬x.name=r.name:=fun e=>hn.1 (by rw[e];exact bu.2 ⟨r,aE hx,rfl⟩)
   rw[Bh,show(x.name==r.name)=false from cy.2 hne,aQ,QH hn.2 hx]
   congr 1;omega
theorem T6{all:ai}(hn:(all.map aK.name).Nodup):∀(l:ai) (i:Nat),(∀r∈l,fP r=true)->(∀(j:Nat) r,l[j]?=some r->all[i+j]?=some r)->Ku all l i=true
 | [],_,_,_=>rfl
 |r::l,i,hv,ha=>by
  have h0:=QH (k:=0) hn (ha 0 r rfl);rw[Ku,hv r (by simp),ay (by rw[h0];congr 1;omega),T6 hn l (i+1) (fun x hx=>hv x (by simp[hx])) (fun j x hx=>by rw[show i+1+j=i+(j+1)by omega];exact ha (j+1) x (by simpa using hx))];rfl
theorem ZP{l:ai}(hn:(l.map aK.name).Nodup)(hv:∀r∈l,fP r=true)(h6:l.length<=6):qp l=true:=by
 unfold qp;rw[T6 hn l 0 hv (fun j r hj=>by rw[cY];exact hj)];simp;omega
def Z7(m:Nat):Bytes:=[114,UInt8.ofNat (48+m)]
theorem a3o:∀m,m<=7->wQ (Z7 m)=true/\∀j,j<=7->Z7 m=Z7 j->m=j:=by decide
theorem Xv{m:Nat}(h:m<=7):([114]:Bytes)++Lib.itoa (m:Int)=Z7 m:=by
 have:Lib.itoa (m:Int)=Lib.decDigits m:=by unfold Lib.itoa;rw[az (by omega)];rfl
 rw[this,Zj (by omega)];unfold a2g Z7;rw[bK (by omega)];rfl
theorem a4C(k:bJ->Int->Int->ai->Option (cj×ai))(P:aK->Prop)(hP:∀c c' r,fE c->iw c=some (c',r)->P r):∀(m:Nat) (fu:Nat) (v:Int) (c:cj) (w:ai),v=(m:Int)->m<fu->w.length+m<=6->fE c->(∀r∈w,fP r=true/\zR 4 r/\∃r0,P r0/\r.conds=r0.conds)->(w.map aK.name).Nodup->(∀r∈w,∃j,m<j/\j<=7/\r.name=Z7 j)->
 ∃c' w',mH k fu v c.b c.i c.h w=k c'.b c'.i c'.h w'/\fE c'/\w'.length<=w.length+m/\(∀r∈w',fP r=true/\zR 4 r/\∃r0,P r0/\r.conds=r0.conds)/\(w'.map aK.name).Nodup:=by
 intro m
 induction m with
 |zero=>
  intro fu v c w hv hf hm hc hw hn hj;cases fu with
  |zero=>omega
  |succ fu=>
   have e:decide (v>0)=false:=by simp;omega
   rw[mH,e,aQ];exact⟨c,w,rfl,hc,by omega,hw,hn⟩
 |succ m ih=>
  intro fu v c w hv hf hm hc hw hn hj;cases fu with
  |zero=>omega
  |succ fu=>
   have e:decide (v>0)=true:=by simp;omega
   obtain⟨c1,r,e2,hc1,hr⟩:=a3w c hc;have WK:iw (⟨c.b,c.i,c.h⟩:cj)=some (c1,r):=e2;have e3:IntKind.i64.wrap (v-1)=v-1:=eM (pN.i64.2 (by omega));have e5:=a42 v (pN.i64.2 (by omega));have e6:([114]:Bytes)++Lib.itoa v=Z7 (m+1):=by rw[hv];exact Xv (by omega)
   have e7:decide (([114]:Bytes).length+(Lib.itoa v).length<=maxLen)=true:=by
    have:=congrArg List.length e6;rw[bC]at this;rw[this];rfl
   have hnm:=a3o (m+1) (by omega);rw[mH,e,aH,WK,aA,e5,aA,e7,aH,ic (by omega) (by decide),aH,e3,e6];have a5W:=SY hr.2.1 hnm.1;obtain⟨c',w',q1,q2,q3,q4,q5⟩:=ih fu (v-1) c1 (w++[⟨Z7 (m+1),r.prio,r.conds,r.cg⟩]) (by omega) (by omega) (by simp;omega) hc1 (fun x hx=>by
    rcases af.1 hx with h|h
    ·exact hw x h
    ·rw[cA.1 h];exact⟨a5W,⟨by show(Z7 (m+1)).length<=16;unfold Z7;simp,hr.1.2⟩,r,hP c c1 r hc e2,rfl⟩) (by
    rw[bG,bM];refine⟨hn,by simp,fun a ha b hb e=>?_⟩;simp at hb;obtain⟨x,hx,rfl⟩:=bu.1 ha;obtain⟨j,j1,j2,j3⟩:=hj x hx;have:=hnm.2 j j2 (by rw[<-j3,e,hb]);omega) (fun x hx=>by
    rcases af.1 hx with h|h
    ·obtain⟨j,j1,j2,j3⟩:=hj x h;exact⟨j,by omega,j2,j3⟩
    ·rw[cA.1 h];exact⟨m+1,by omega,by omega,rfl⟩)
   exact⟨c',w',q1,q2,by simp at q3;omega,q4,q5⟩
theorem zR.wt4{r:aK}(h:zR 4 r):r.wt<=10000:=by
 obtain⟨h1,⟨h2,h3⟩,h4,h5⟩:=h;have c1:=FH (w:=aL.wt) (B:=200) r.conds (fun x hx=>(h3 x hx).wt);have c2:=FH (w:=Action.wt) (B:=200) r.cg (fun x hx=>(h5 x hx).wt);have d1:(200+1)*r.conds.length<=201*4:=eN _ (by omega);have d2:(200+1)*r.cg.length<=201*4:=eN _ (by omega);unfold aK.wt;unfold tw at*;omega
theorem a6p(P:aK->Prop)(hP:∀c c' r,fE c->iw c=some (c',r)->P r)(c:cj)(n:Int)(h:fE c)(h0:0<=n)(hn:n<=6):∃c' l,wN c n=some (c',l)/\fE c'/\qp l=true/\rP aK.wt l<=1048576/\∀r∈l,∃r0,P r0/\r.conds=r0.conds:=by
 unfold wN;have e3:IntKind.i64.wrap (n+1)=n+1:=eM (pN.i64.2 (by omega));obtain⟨c1,x,e,hc,hx,hx2⟩:=yR c (n+1) h (by omega) (by omega);rw[e3,e,aA];obtain⟨c',w',q1,q2,q3,q4,q5⟩:=a4C (fun a b d q=>some ((⟨a,b,d⟩:cj),q)) P hP x.toNat fuel x c1 [] (by omega) (by unfold fuel;omega) (by simp;omega) hc (by simp) (by simp) (by simp);have h6:w'.length<=6:=by simp at q3;omega
 refine⟨_,_,q1,q2,ZP q5 (fun r hr=>(q4 r hr).1) h6,?_,fun r hr=>(q4 r hr).2.2⟩;have h1:=FH (w:=aK.wt) (B:=10000) w' (fun r hr=>zR.wt4 (q4 r hr).2.1);have:(10000+1)*w'.length<=(10000+1)*6:=eN _ h6;omega
end Go.Cx
namespace Go.Cx
open Go.RowKit Go.Proofs Tryz
theorem Y8(n:aI)(fs y:aJ)(K:bN->Option aI)(Yy:FS fs)(A:bN)(hA:∀a∈A,a.shape.wt<=1048576)(hl:A.length<=1048576):∀(rest pre:bN) (fu:Nat),A=pre++rest->rest.length<fu->
 kX n fs y K fu (pre.length:Int) (kY pre fs++rest)=K (kY A fs)
 | [],pre,fu,e,hu=>by
  obtain⟨fu,rfl⟩:∃m,fu=m+1:=⟨fu-1,by simp at hu;omega⟩
  rw[dA]at e;rw[kX,dA,ax,F7,bH (by omega),aQ,e]
 |x::rest,pre,fu,e,hu=>by
  obtain⟨fu,rfl⟩:∃m,fu=m+1:=⟨fu-1,by simp at hu;omega⟩
  simp only[aV]at hu;have hlen:A.length=pre.length+(rest.length+1):=by rw[e];simp
  have hx:=hA x (by rw[e];simp);have ih:=Y8 n fs y K Yy A hA hl rest (pre++[x]) fu (by rw[e];simp) (by omega);have LH:hO (kY pre fs++x::rest) (pre.length:Int)=some x:=by
   have:=wE (a:=kY pre fs++x::rest) (pre:=kY pre fs) (xs:=rest) (x:=x) rfl;rw[F7]at this;exact this
  have qc:(kY pre fs++x::rest).set (pre.length:Int).toNat ⟨x.shape,tu x.shape [] fs⟩=kY (pre++[x]) fs++rest:=by
   have:=setAt (kY pre fs) rest x ⟨x.shape,tu x.shape [] fs⟩;rw[F7]at this;rw[pX,this,Rn,cu];rfl
  rw[kX,ax,bC,F7,aV,ay (by omega),aH,LH,aA,a41 x.shape [] fs hx PB.nil Yy,aA,JK (by omega),qc];rw[bC,ey]at ih;exact ih
theorem Y9(n:aI)(fs y:aJ)(q:bN)(K:bL->Option aI)(hf:FS fs)(h24:fs.length<=24)(ns:bL)(hp:AR ns):∀(rest pre:bL) (fu:Nat),(pre++rest).map pJ=ns.map pJ->rest.length<fu->
 jE n fs y q K fu (pre.length:Int) (pre++rest)=K (pre++nK ns fs rest pre.length)
 | [],pre,fu,he,hu=>by
  obtain⟨fu,rfl⟩:∃m,fu=m+1:=⟨fu-1,by simp at hu;omega⟩
  rw[jE,dA,ax,bH (by omega),aQ,nK,dA]
 |x::rest,pre,fu,he,hu=>by
  obtain⟨fu,rfl⟩:∃m,fu=m+1:=⟨fu-1,by simp at hu;omega⟩
  simp only[aV]at hu;have hlen:(pre++x::rest).length=ns.length:=by have:=congrArg List.length he;simpa using this
  have hlt:=hp.len;have hok:NOk ⟨n.rules,n.ends,q,pre++x::rest,y,n.cG⟩:=by
   refine⟨by show(pre++x::rest).length<=1048576;rw[hlen];exact hp.len,fun z hz=>?_⟩;have hm:pJ z∈ns.map pJ:=by rw[<-he];exact bu.2 ⟨z,hz,rfl⟩
   obtain⟨w,hw,e⟩:=bu.1 hm;have:w.cond=z.cond:=(jS e).2;rw[<-this];exact hp.wt w hw
  have Wj:fO (pre++x::rest) ((pre.length:Nat):Int)=fO ns (dG pre.length):=u7 he _;have QR:∀c∈fO ns (dG pre.length),c.wt<=1048576:=by
   intro c hc;obtain⟨z,hz,e⟩:=Eo hc;rw[<-e];exact hp.wt z hz
  have LH:hO (pre++x::rest) (pre.length:Int)=some x:=wE rfl;have ih:=Y9 n fs y q K hf h24 ns hp rest (pre++[⟨x.parent,x.cond,x.dL,tP (fO ns (dG pre.length)) fs⟩]) fu (by rw[<-he];simp[pJ]) (by omega);rw[bC,aV]at hlen;rw[jE,ax,bC,aV,ay (by omega),aH,YF _ _ hok,aA];show((o5 (fO (pre++x::rest) (pre.length:Int)) fs).bind _)=_;rw[Wj,a2H _ fs QR (hp.path _) hf h24,aA,LH,aA,JK (by omega),pX,setAt];rw[bC,ey,cu]at ih;rw[show pre++(⟨x.parent,x.cond,x.dL,tP (fO ns (dG pre.length)) fs⟩:Node)::rest=pre++([⟨x.parent,x.cond,x.dL,tP (fO ns (dG pre.length)) fs⟩]++rest)from rfl,ih,nK];simp
theorem a3y(n:aI)(fs:aJ)(hf:FS fs)(h24:fs.length<=24)(ha:n.bE.length<=1048576)(hs:∀x∈n.bE,x.shape.wt<=1048576)(hp:AR n.nodes):su n fs=some ⟨n.rules,n.ends,kY n.bE fs,jV n.nodes fs,fs,n.cG⟩:=by
 have hl:=hp.len;unfold su;rw[A8 fs hf.1 (fun f Zq=>by have:=aD.dK (hf.2 f Zq);omega),aA];have e1:=Y8 n fs fs (fun(nP:bN)=>(jE n fs fs nP (fun(ot:bL)=>(some (⟨n.rules,n.ends,nP,ot,fs,n.cG⟩:aI))) fuel 0 n.nodes)) hf n.bE hs ha n.bE [] fuel rfl (by unfold fuel;omega);refine e1.trans ?_;have e2:=Y9 n fs fs (kY n.bE fs) (fun(ot:bL)=>(some (⟨n.rules,n.ends,kY n.bE fs,ot,fs,n.cG⟩:aI))) hf h24 n.nodes hp n.nodes [] fuel rfl (by unfold fuel;omega);exact e2
theorem WO{rs:ai}{fs:aJ}(h1:qp rs=true)(h2:fZ fs=true)(hr:rP aK.wt rs<=1048576):su (mI rs [] 0) fs=some (mI rs fs 0):=by
 have hv:=pZ h1;have h6:=Dg h1;have Yy:=FS.J9 (fs:=fs) (by have:=BE h2;omega);have e:mI rs [] 0=⟨rs,(cm [] rs).2,(cm [] rs).1.1,(cm [⟨[],[]⟩] rs).1.2,[],0⟩:=by
  rw[<-Ni h1]
  congr 1
  ·rw[gV,gV]
  ·rw[gV,gV]
 have hf:(cm [⟨[],[]⟩] rs).1.2.map pJ=(cm [] rs).1.2.map pJ:=by rw[gV,gV];rfl
 rw[e,a3y _ fs Yy (uD h2) (by show(cm [] rs).1.1.length<=1048576;have:=Mj [] h1;omega) (fun x hx=>(vq [] hv x hx).1) (JH [⟨[],[]⟩] hv h6)];unfold mI;dsimp only;have:jV (cm [⟨[],[]⟩] rs).1.2 fs=jV (cm [] rs).1.2 fs:=by
  refine kw fun i=>?_
  rw[vm,vm,u7 hf (dG i)];rw[gV,gV];cases i with
  |zero=>rfl
  |succ i=>rfl
 rw[this]
theorem a3x(P:aK->Prop)(hP:∀c c' r,fE c->iw c=some (c',r)->P r)(c:cj)(h:fE c):∃c' rs fs t,v7 c=some (c',mI rs fs t)/\fE c'/\qp rs=true/\rP aK.wt rs<=1048576/\fZ fs=true/\fs.length<=8/\(∀x∈fs,x.rel.length<=2)/\0<=t/\t<50/\∀r∈rs,∃r0,P r0/\r.conds=r0.conds:=by
 unfold v7;obtain⟨c1,rs,e1,h1,r1,r2,r3⟩:=a6p P hP c 4 h (by decide) (by decide);obtain⟨c2,fs,e2,h2,f1,f2,f3⟩:=a6q c1 8 h1 (by decide) (by decide);obtain⟨c3,t,e3,h3,t0,t1⟩:=yR c2 50 h2 (by decide) (by decide);rw[e1,aA,a0g rs r2,r1,aH,aA];dsimp only;rw[e2,aA];dsimp only;rw[WO r1 f1 r2,aA,e3,aA];exact⟨_,rs,fs,t,rfl,h3,r1,r2,f1,by omega,f3,t0,t1,r3⟩
theorem Uz(P:aK->Prop)(hP:∀c c' r,fE c->iw c=some (c',r)->P r)(code:bJ)(h:code.length<=4096):∃rs fs t,lG code=some (mI rs fs t)/\qp rs=true/\rP aK.wt rs<=1048576/\fZ fs=true/\fs.length<=8/\(∀x∈fs,x.rel.length<=2)/\0<=t/\t<50/\∀r∈rs,∃r0,P r0/\r.conds=r0.conds:=by
 unfold lG;obtain⟨c0,e0,h0⟩:=a6i code h;obtain⟨c1,rs,fs,t,e1,_,q⟩:=a3x P hP c0 h0;rw[e0,aA,e1,aA];exact⟨rs,fs,t,rfl,q⟩
end Go.Cx
namespace Go.Cx
open Go.RowKit Go.Proofs Tryz
theorem a3k{c c':cj}{q:Bytes×Int}(h:nC c=some (c',q)):q.1.length<=2:=by
 unfold nC at h;obtain⟨y1,_,h⟩:=b9.1 h;obtain⟨x3,h3,h⟩:=b9.1 h;obtain⟨x5,_,h⟩:=b9.1 h;cases h;have:∀s∈([[111,110],[111,110],[97,116],[112],[113],[122]]:aG),s.length<=2:=by decide
 exact this x3 (OM h3)
theorem Qy(y:cj×(Bytes×Int))(k:bJ->Int->Int->aG->Option (cj×aD)){res:cj×aD}:∀(fu:Nat) (v:Int) (a:bJ) (b d:Int) (w:aG),gK y k fu v a b d w=some res->∃a' b' d' w',k a' b' d' w'=some res
 |0,_,_,_,_,_,h=>by rw[gK]at h;cases h
 |fu+1,v,a,b,d,w,h=>by
  rw[gK]at h;cases hd:decide (v<y.2.2)with
  |false=>rw[hd,aQ]at h;exact⟨_,_,_,_,h⟩
  |true=>
   rw[hd,aH]at h;obtain⟨y1,_,h⟩:=b9.1 h;cases hr:room ((w.map tx).length+[[D.str y1.2]].length) 16 with
   |false=>rw[hr,aQ]at h;cases h
   |true=>rw[hr,aH]at h;exact Qy y k fu _ _ _ _ _ h
theorem JC{c c':cj}{p:aD}(h:gx c=some (c',p)):p.rel.length<=2:=by
 unfold gx at h;obtain⟨y1,h1,h⟩:=b9.1 h;obtain⟨_,_,_,_,h⟩:=Qy _ _ _ _ _ _ _ _ h;cases h;exact a3k (q:=y1.2) (c':=y1.1) h1
theorem Xn{c c':cj}{x:aL}(h:oV c=some (c',x)):x.pat.rel.length<=2:=by
 unfold oV at h;obtain⟨y1,_,h⟩:=b9.1 h;cases h0:(y1.2==0:Bool)with
 |true=>
  rw[h0,aH]at h;obtain⟨y4,h4,h⟩:=b9.1 h;cases h;exact JC (c':=y4.1) h4
 |false=>
  rw[h0,aQ]at h;cases h1:(y1.2==1:Bool)with
  |true=>
   rw[h1,aH]at h;obtain⟨y4,h4,h⟩:=b9.1 h;cases h;exact JC (c':=y4.1) h4
  |false=>
   rw[h1,aQ]at h;cases h2:(y1.2==2:Bool)with
   |true=>
    rw[h2,aH]at h;obtain⟨y4,h4,h⟩:=b9.1 h;cases h;exact JC (c':=y4.1) h4
   |false=>
    rw[h2,aQ]at h;obtain⟨Pe,_,h⟩:=b9.1 h;obtain⟨JM,_,h⟩:=b9.1 h;obtain⟨NO,h16,h⟩:=b9.1 h;unfold sn at h16;obtain⟨z,_,h16⟩:=b9.1 h16;cases h16;cases h;simp
def RZ(r:aK):Prop:=∀x∈r.conds,x.pat.rel.length<=2
def Qb(s:Bytes):Bool:=match kO s with
 |some (r,_)=>r.conds.all fun x=>decide (x.pat.rel.length<=2)
 |none=>true
theorem Uv(K:aG){c c':cj}{m:Int}{r:aK}(hK:K.all Qb=true)(h:((di c (NK m ((K.map tx).length:Int))).bind fun y1=>((hO K y1.2).bind fun x3=>((kO x3).bind fun y5=>(some (y1.1,y5.1)))))=some (c',r)):RZ r:=by
 obtain⟨y1,_,h⟩:=b9.1 h;obtain⟨x3,h3,h⟩:=b9.1 h;obtain⟨y5,h5,h⟩:=b9.1 h;cases h;have:=aj.1 hK x3 (OM h3);unfold Qb at this;rw[h5]at this;intro x hx;have:=aj.1 this x hx;simpa using this
theorem Qz{c c':cj}{m:Int}{r:aK}(h:iZ c m=some (c',r)):RZ r:=by
 unfold iZ at h;refine Uv _ ?_ h;kernel_rfl
theorem Ny(y1:cj×Int)(k:bJ->Int->Int->ah->Option (cj×aK)){res:cj×aK}:∀(fu:Nat) (v:Int) (a:bJ) (b d:Int) (w:ah),(∀x∈w,x.pat.rel.length<=2)->ew y1 k fu v a b d w=some res->∃a' b' d' w',(∀x∈w',x.pat.rel.length<=2)/\k a' b' d' w'=some res
 |0,_,_,_,_,_,_,h=>by rw[ew]at h;cases h
 |fu+1,v,a,b,d,w,hw,h=>by
  rw[ew]at h;cases hd:decide (v>0)with
  |false=>rw[hd,aQ]at h;exact⟨_,_,_,_,hw,h⟩
  |true=>
   rw[hd,aH]at h;obtain⟨y,hy,h⟩:=b9.1 h;have hy2:=Xn (c':=y.1) (x:=y.2) hy;cases hr:room ((w.map aL.c).length+[[D.int .i64 y.2.kind,D.str y.2.pat.rel,D.sl (y.2.pat.args.map tx),D.str y.2.left,D.str y.2.right]].length) 80 with
   |false=>rw[hr,aQ]at h;cases h
   |true=>
    rw[hr,aH]at h;exact Ny y1 k fu _ _ _ _ _ (fun x hx=>by
     rcases af.1 hx with hx|hx
     ·exact hw x hx
     ·rw[cA.1 hx];exact hy2) h
theorem FC(y1:cj×Int)(q:ah)(y:aG)(y3:cj×aD)(k:bJ->Int->Int->aG->Option (cj×aK)){res:cj×aK}:∀(fu:Nat) (v:Int) (a:bJ) (b d:Int) (w:aG),ck y1 q y y3 k fu v a b d w=some res->∃a' b' d' w',k a' b' d' w'=some res
 |0,_,_,_,_,_,h=>by rw[ck]at h;cases h
 |fu+1,v,a,b,d,w,h=>by
  rw[ck]at h;cases hd:decide (v<((w.map tx).length:Int))with
  |false=>rw[hd,aQ]at h;exact⟨_,_,_,_,h⟩
  |true=>
   rw[hd,aH]at h;obtain⟨x,_,h⟩:=b9.1 h;obtain⟨z,_,h⟩:=b9.1 h;cases z with
   |false=>rw[aQ]at h;exact FC y1 q y y3 k fu _ _ _ _ _ h
   |true=>
    rw[aH]at h;obtain⟨z2,_,h⟩:=b9.1 h;cases z2 with
    |true=>rw[bQ,aQ]at h;exact FC y1 q y y3 k fu _ _ _ _ _ h
    |false=>
     rw[bz,aH]at h;obtain⟨z3,_,h⟩:=b9.1 h;exact FC y1 q y y3 k fu _ _ _ _ _ h
theorem Q0{α:Type}{b:Bool}{x:Option α}{r:α}(h:(bif b then x else none)=some r):x=some r:=by
 cases b with
 |true=>exact h
 |false=>cases h
theorem TC{α:Type}{b:Bool}{x y:Option α}{r:α}(h:(bif b then x else y)=some r):x=some r\/y=some r:=by
 cases b with
 |true=>exact .inl h
 |false=>exact .inr h
theorem Xp{c0 c':cj}{r r0:aK}{b:Option Bool}(hr:RZ r0)(h:(b.bind fun y=>(bif !(y)then((iZ c0 99).bind fun y5=>(some (y5.1,y5.2)))else(some (c0,r0))))=some (c',r)):RZ r:=by
 obtain⟨y,_,h⟩:=b9.1 h;cases y with
 |true=>rw[bQ,aQ]at h;cases h;exact hr
 |false=>
  rw[bz,aH]at h;obtain⟨y5,h5,h⟩:=b9.1 h;cases h;exact Qz (c':=y5.1) h5
theorem a0Y{c c':cj}{r:aK}(h:o4 c=some (c',r)):RZ r:=by
 unfold o4 at h;obtain⟨y1,_,h⟩:=b9.1 h;obtain⟨y3,h3,h⟩:=b9.1 h;obtain⟨y5,_,h⟩:=b9.1 h;obtain⟨_,_,_,w,hw,h⟩:=Ny _ _ _ _ _ _ _ _ (fun x hx=>by rw[cA.1 hx];exact JC (c':=y3.1) h3) h;obtain⟨Hp,_,h⟩:=b9.1 h;obtain⟨ua,_,h⟩:=b9.1 h;obtain⟨_,_,_,q,h⟩:=FC _ _ _ _ _ _ _ _ _ _ _ h;obtain⟨yT,_,h⟩:=b9.1 h;obtain⟨Hj,_,h⟩:=b9.1 (Q0 h);rcases TC h with h|h
 ·refine Xp ?_ (Q0 h);exact hw
 ·refine Xp ?_ h;exact hw
theorem Xo{c c':cj}{r:aK}(h:iw c=some (c',r)):RZ r:=by
 unfold iw at h;obtain⟨y1,_,h⟩:=b9.1 h;rcases TC h with h|h
 ·obtain⟨y4,h4,h⟩:=b9.1 h;cases h;exact a0Y (c':=y4.1) h4
 ·obtain⟨y4,h4,h⟩:=b9.1 h;cases h;exact Qz (c':=y4.1) h4
end Go.Cx
namespace Go.Cx
open Go.RowKit Go.Proofs Tryz
set_option maxRecDepth 100000
variable{Γ:ul}{N:Nat->St->Prop}
def CL(aB:bJ):Option Bool:=(some (decide ((((aB.map yx).length:Int):Int)>4096)))
theorem Ck{aB:bJ}{r:Bool}(h:CL aB=some r):Good prog 10 [D.sl (aB.map yx)] (D.bool r):=by
 refine gd func10 [[none]] 6 fun hr Γ hΓ=>?_
 rw[CL]at h;cases h;exact aW.ret hΓ
def lF(aB:cX)(aY:cX)(k1:Option Bool):cX->Nat->Option Bool
 | [],i1=>(k1)
 |bU::cO,i1=>((hO aY (i1:Int)).bind fun x30=>((rG bU x30).bind fun O9=>(bif !(O9)then(some false)else(lF aB aY k1 cO (i1+1)))))
def tg(aB:cX)(aY:cX):Option Bool:=(bif (((aB.map bS.c).length:Int):Int) != ((aY.map bS.c).length:Int)then(some false)else(lF aB aY (some true) aB 0))
def IK(aB:cX)(aY:cX)(dQ:Int):St:=⟨[(0,D.sl (aB.map bS.c)),(1,D.sl (aY.map bS.c)),(5,D.int .i64 dQ)],[]⟩
theorem Gx(hΓ:Γ.nt=27){aB:cX}{aY:cX}{r:Bool}{k1:Option Bool}(eF:k1=some r->Ax Γ N f22 (.q [[none]] (D.bool r)) [1,1,1] ⟨[],[]⟩)(hm1:aB.length<=maxLen):∀(rest:cX) (i1:Nat),aB.drop i1=rest->lF aB aY k1 rest i1=some r->Ar Γ N f22 (.q [[none]] (D.bool r)) [1,1,0,1,0] (rest.length+1) (IK aB aY (i1:Int)):=by
 intro rest
 induction rest with
 |nil=>
  intro i1 b8 h;rw[lF]at h;refine aU fun N1 cc cL=>?_
  exact((aW.ge bS.c b8).a [.hl 0 [] []]).ex hΓ cc (eF h)
 |cons bU cO ih1=>
  intro i1 b8 h;rw[lF]at h;refine aU fun N1 cc cL=>?_
  obtain⟨x30,h31,h⟩:=aC h;obtain⟨O9,h33,h⟩:=aC h;have gr:=(((((aW.lt bS.c b8).a [.n 8]).l (bO bS.c 3 (dc b8) rfl)).l (gq bS.c 3 h31 rfl)).g (DO h33))
  obtain⟨h34,h⟩|⟨h34,h⟩:=aO h
  ·have h:=aN h;subst h;exact(gr.b h34).ret hΓ
  ·exact((gr.b h34).a [.cn [0,1,5] []]).ct hΓ cL (iS b8 hm1) (ih1 (i1+1) (dn b8) h)
theorem Fi{aB:cX}{aY:cX}{r:Bool}(h:tg aB aY=some r):Good prog 22 [D.sl (aB.map bS.c),D.sl (aY.map bS.c)] (D.bool r):=by
 refine gd func22 [[none]] 27 fun hr Γ hΓ=>?_
 rw[tg]at h;obtain⟨h1,h⟩|⟨h1,h⟩:=aO h
 ·have h:=aN h;subst h;exact(aW.b h1).ret hΓ
 ·refine((aW.b h1).a [.cn [0,1,5] []]).lp hΓ (Gx hΓ (fun h=>?_) (by have:=(ij.sl (hr _ (aE (i:=0) rfl))).1;simpa using this) aB 0 rfl h);have h:=aN h;subst h;exact aW.ret hΓ
end Go.Cx
namespace Go.Cx
open Go.RowKit Go.Proofs Tryz
set_option maxRecDepth 100000
variable{Γ:ul}{N:Nat->St->Prop}
def uG(aB:bJ):Option Bool:=((CL aB).bind fun y1=>(bif y1 then(some true)else((lG aB).bind fun y4=>((lV y4 (⟨[102,111,114,101,105,103,110],[[97]]⟩:aD)).bind fun y6=>(bif !(y6.2)then(some false)else(bif (y6.1.cG:Int) != y4.cG then(some false)else((mT y6.1).bind fun GG=>((mT y4).bind fun Pe=>((tg GG Pe).bind fun JM=>(bif !(JM)then(some false)else((j8 y6.1 (⟨[102,111,114,101,105,103,110],[[97]]⟩:aD)).bind fun Hl=>(bif Hl.2 then(bif (Hl.1.cG:Int)==y4.cG then((lX Hl.1 y4).bind fun Kr=>(some Kr))else(some false))else(some false)))))))))))))
theorem DD{aB:bJ}{r:Bool}(h:uG aB=some r):Good prog 5 [D.sl (aB.map yx)] (D.bool r):=by
 refine gd func5 [[none]] 56 fun hr Γ hΓ=>?_
 rw[uG]at h;obtain⟨y1,h2,h⟩:=aC h;obtain⟨h3,h⟩|⟨h3,h⟩:=aO h
 ·have h:=aN h;subst h;exact((aW.g (Ck h2)).b h3).ret hΓ
 ·obtain⟨y4,h5,h⟩:=aC h;obtain⟨y6,h7,h⟩:=aC h;have pW:=((((((aW.g (Ck h2)).b h3).g (yz h5)).a [.d (D.iE [D.agg [D.fr 80 4 (y6.1.rules.map aK.c),D.fr 3 1 (y6.1.ends.map jf),D.fr 93 3 (y6.1.bE.map aZ.c),D.fr 50 8 (y6.1.nodes.map Node.c),D.fr 37 2 (y6.1.facts.map aD.c),D.int .i64 y6.1.cG],D.bool y6.2])]).w (show Good prog 21 [D.agg (aI.c y4),D.agg [D.str ([102,111,114,101,105,103,110]),D.sl ([[D.str ([97])]])]] (D.iE [D.agg [D.fr 80 4 (y6.1.rules.map aK.c),D.fr 3 1 (y6.1.ends.map jf),D.fr 93 3 (y6.1.bE.map aZ.c),D.fr 50 8 (y6.1.nodes.map Node.c),D.fr 37 2 (y6.1.facts.map aD.c),D.int .i64 y6.1.cG],D.bool y6.2])from by first| (simpa only[bG,av,bZ,bh,bn]using qS h7)|exact qS h7| (have t:=qS h7;simp only[bG,bh,bn,aD.c]at t;exact t))).a [.n 13])
  obtain⟨h8,h⟩|⟨h8,h⟩:=aO h
  ·have h:=aN h;subst h;exact((pW.r 6 h8).T 8).ret hΓ
  ·have gr:=(pW.r 6 h8)
   obtain⟨h9,h⟩|⟨h9,h⟩:=aO h
   ·have h:=aN h;subst h;exact((gr.r 7 h9).T 1).ret hΓ
   ·obtain⟨GG,h11,h⟩:=aC h;obtain⟨Pe,h13,h⟩:=aC h;obtain⟨JM,h15,h⟩:=aC h;have kp:=(((((((gr.r 2 h9).g (vc h11)).r 2 h9).g (vc h13)).b h9).g (Fi h15)).r 2 h9)
    obtain⟨h16,h⟩|⟨h16,h⟩:=aO h
    ·have h:=aN h;subst h;exact(kp.b h16).ret hΓ
    ·obtain⟨Hl,h18,h⟩:=aC h;have ko:=(((kp.b h16).a [.d (D.iE [D.agg [D.fr 80 4 (Hl.1.rules.map aK.c),D.fr 3 1 (Hl.1.ends.map jf),D.fr 93 3 (Hl.1.bE.map aZ.c),D.fr 50 8 (Hl.1.nodes.map Node.c),D.fr 37 2 (Hl.1.facts.map aD.c),D.int .i64 Hl.1.cG],D.bool Hl.2])]).w (show Good prog 24 [D.agg (aI.c y6.1),D.agg [D.str ([102,111,114,101,105,103,110]),D.sl ([[D.str ([97])]])]] (D.iE [D.agg [D.fr 80 4 (Hl.1.rules.map aK.c),D.fr 3 1 (Hl.1.ends.map jf),D.fr 93 3 (Hl.1.bE.map aZ.c),D.fr 50 8 (Hl.1.nodes.map Node.c),D.fr 37 2 (Hl.1.facts.map aD.c),D.int .i64 Hl.1.cG],D.bool Hl.2])from by first| (simpa only[bG,av,bZ,bh,bn]using oJ h18)|exact oJ h18| (have t:=oJ h18;simp only[bG,bh,bn,aD.c]at t;exact t)))
     obtain⟨h19,h⟩|⟨h19,h⟩:=aO h
     ·have tN:=(ko.r 6 h19)
      obtain⟨h20,h⟩|⟨h20,h⟩:=aO h
      ·obtain⟨Kr,h22,h⟩:=aC h;have h:=aN h;subst h;exact(((tN.r 3 h20).g (uw h22)).b h20).ret hΓ
      ·have h:=aN h;subst h;exact(tN.r 4 h20).ret hΓ
     ·have h:=aN h;subst h;exact((ko.r 6 h19).F 4).ret hΓ
end Go.Cx
namespace Go.Cx
open Go.RowKit Go.Proofs Tryz
namespace LawFnForeign
theorem Ow(l:cX):tg l l=some true:=by
 unfold tg;rw[show((((l.map bS.c).length:Int):Int) != ((l.map bS.c).length:Int))=false by simp,aQ];have main:∀(r:cX) (i:Nat),l.drop i=r->lF l l (some true) r i=some true:=by
  intro r
  induction r with
  |nil=>intro i _;rfl
  |cons x r ih=>
   intro i h;have hx:l[i]?=some x:=(drop_cons h).1;have LH:hO l (i:Int)=some x:=by unfold hO;rw[ay (by omega),aH];exact hx
   rw[lF,LH,aA,a4B,aA,ay rfl,bQ,aQ];exact ih (i+1) (drop_cons h).2.2
 exact main l 0 rfl
def Rq:aD:=⟨[102,111,114,101,105,103,110],[[97]]⟩
theorem a3Z(code:bJ):uG code=some true:=by
 unfold uG CL;rw[aA,ax];by_cases hc:code.length<=4096
 ·rw[bH (by omega),aQ];obtain⟨rs,fs,t,e1,r1,r2,f1,f2,f3,t0,t1,hR⟩:=Uz RZ (fun c c' r _ h=>Xo h) code hc;have hw:=BE f1;have hF:VM rs Rq:=⟨by decide,fun r hr c hc e=>by
   obtain⟨r0,h0,h1⟩:=hR r hr;have:=h0 c (by rw[<-h1];exact hc);rw[e]at this;exact absurd this (by decide)⟩
  have hf:oB Rq=true:=by decide
  have hn:Rq∉fs:=fun h=>by have:=f3 _ h;exact absurd this (by decide)
  have f3':=I1 hf f1 hn (by omega);have hw':=BE f3';have q1:=Qw (t:=t) r1 f1 t0 (by omega) hF hf hn (by omega);have q2:=RF (t:=t) r1 f1 t0 (by omega) hF hf hn (by omega);have q3:=Pu r1 f1 hF hf hn (by omega);have n1:=SL t r1 f1 r2;have n2:=SL t r1 f3' r2;have hfw:Rq.wt<=1048576:=by have:=EU hf;omega
  rw[e1,aA];show((lV (mI rs fs t) Rq).bind _)=_;rw[a5w _ Rq n1 hfw,aA,q1];dsimp only;rw[bQ,aQ,show(((mI rs (kZ Rq fs) t).cG:Int) != ((mI rs fs t).cG))=false by simp[mI],aQ,a1T _ r2 (show rP aD.wt (kZ Rq fs)<=1048576 by omega),aA,a1T _ r2 (show rP aD.wt fs<=1048576 by omega),aA];have b1:K6 (mI rs fs t)=true:=by rw[LJ r1 f1];exact ay t0
  have b2:K6 (mI rs (kZ Rq fs) t)=true:=by rw[LJ r1 f3'];exact ay t0
  have ec:(bif K6 (mI rs (kZ Rq fs) t)then TG (mI rs (kZ Rq fs) t) (mI rs (kZ Rq fs) t).rules 0 else [])=bif K6 (mI rs fs t)then TG (mI rs fs t) (mI rs fs t).rules 0 else []:=by
   rw[b1,b2,aH,aH];exact(W7 t r1 f3').trans (q3.trans (W7 t r1 f1).symm)
  rw[ec,Ow,aA,bQ,aQ];show((j8 (mI rs (kZ Rq fs) t) Rq).bind _)=_;rw[a62 _ Rq n2 hfw,aA,q2];dsimp only;rw[aH,show(((mI rs fs t).cG:Int)==((mI rs fs t).cG))=true by simp,aH,a5v,aA,a0N]
 ·rw[ay (by omega),aH]
theorem XN(code:bJ):Good prog 5 [D.sl (code.map yx)] (.bool true):=DD (a3Z code)
end LawFnForeign
end Go.Cx

/- Bindings, matching, conditions that hold, and tokens in plain words: of the program and of the reference. No condition but bounds on sizes. -/
import Derived.Test.YtcmgbmkjnekbkaaGreatDoorPEmptyNetworkG5
import Derived.Test.YtcmgbmkjnekbkaaGreatDoorPEmptyNetworkG3
import Derived.Test.YtcmgbmkjnekbkaaGreatDoorPEmptyNetworkG4
import Derived.ProofKit
set_option linter.unusedVariables false
set_option linter.unusedSimpArgs false
namespace Go.Cx
open Go.RowKit Go.Proofs Tryz
def PB(b:aQ):Prop:=b.length<=1048576/\∀x∈b,x.var.length<=1048576/\x.value.length<=1048576
theorem PB.nil:PB []:=⟨by simp,by simp⟩
def De:Option aS->aQ->Bool
 |_,[]=>true
 |p,x::xs=>nK x.var&&(lm x.value&&((match p with|some q=>Op.bytesLess q.var x.var|none=>true)&&De (some x) xs))
def vm(b:aQ):Bool:=De none b&&decide (b.length<=6)
theorem Jq{b:aQ}(h:vm b=true):b.length<=6:=by
 unfold vm at h;simp only[aX,bO]at h;exact h.2
theorem Rt{isV YD:Bytes->Option Bool}{a:aQ}{L:aQ->Nat->Option Bool}{k:Option Bool}(ha:a.length<=1099511627770)(hV:∀x:Bytes,x.length<=1048576->isV x=some (nK x))(hA:∀x:Bytes,x.length<=1048576->YD x=some (lm x))(rM:∀i,L [] i=k)
 (sF:∀x xs i,L (x::xs) i=((isV x.var).bind fun y=>(bif !(y)then(some false)else((YD x.value).bind fun z=>(bif !(z)then(some false)else(bif decide (((i:Int):Int)>0)then((sK a (IntKind.i64.wrap ((i:Int)-1))).bind fun q=>(bif !(Op.bytesLess q.var x.var)then(some false)else(L xs (i+1))))else(L xs (i+1)))))))):
 ∀(l pre:aQ),a=pre++l->(∀x∈l,x.var.length<=1048576/\x.value.length<=1048576)->L l pre.length=bif De pre.getLast? l then k else some false:=by
 intro l
 induction l with
 |nil=>intro pre _ _;rw[rM];rfl
 |cons x xs ih=>
  intro pre h hf;have hl:a.length=pre.length+(xs.length+1):=by rw[h];simp
  have t:=ih (pre++[x]) (by simp[h]) (fun y hy=>hf y (by simp[hy]));rw[aM,mM,qH]at t;rw[sF,hV _ (hf x (by simp)).1,aA,hA _ (hf x (by simp)).2,aA,t];simp only[De];cases nK x.var with
  |false=>rfl
  |true=>
   cases lm x.value with
   |false=>rfl
   |true=>
    simp only[c8,ay,pF];rcases ze pre with rfl|⟨p,z,Xm⟩
    ·simp
    ·rw[zc]at Xm;subst Xm;have e0:decide (((p++[z]).length:Int)>0)=true:=by simp<;>omega
     have e1:IntKind.i64.wrap (((p++[z]).length:Int)-1)=(p.length:Int):=by
      rw[jO (qY.i64.2 (by simp at hl⊢;omega))];simp
     have e2:sK a (p.length:Int)=some z:=Ey (xs:=x::xs) (by rw[h];simp);rw[e0,aa,e1,e2,aA,qH];show _=bif (Op.bytesLess z.var x.var&&De (some x) xs)then k else some false
     cases Op.bytesLess z.var x.var<;>rfl
theorem PR(b:aQ)(h:PB b):iX b=some (vm b):=by
 unfold iX vm;have t:=fun k=>Rt (isV:=jA) (YD:=eO) (a:=b) (L:=fe b k) (k:=k) (by have:=h.1;omega) Qc H8 (fun _=>rfl) (fun _ _ _=>rfl) b [] rfl h.2
 rw[show fe b (some true) b 0=_ from t _];by_cases h6:b.length<=6
 ·have e:decide (((b.map aS.c).length:Int)>6)=false:=by rw[ai];simp;omega
  rw[e,ay,cV h6,DO];show(bif De none b then _ else _)=_;cases De none b<;>rfl
 ·have e:decide (((b.map aS.c).length:Int)>6)=true:=by rw[ai];simp;omega
  rw[e,aa,bL h6,Bool.and_false]
def Gw(t:Bytes):aQ->Option Bytes
 | []=>none
 |x::xs=>bif x.var==t then some x.value else Gw t xs
def DK(b:aQ)(t:Bytes):Bytes×Bool:=bif lm t then(t,true)else bif nK t then(match Gw t b with|some v=>(v,true)|none=>([],false))else([],false)
theorem Y9(b:aQ)(t:Bytes)(ht:t.length<=1048576):lz b t=some (DK b t):=by
 unfold lz DK;have key:∀(l:aQ) (i:Nat),jC b t (some ([],false)) l i=some (match Gw t l with|some v=>(v,true)|none=>([],false)):=by
  intro l
  induction l with
  |nil=>intro i;rfl
  |cons x xs ih=>
   intro i;rw[jC,ih];simp only[Gw];cases x.var==t<;>rfl
 rw[H8 t ht,aA,Qc t ht,aA,key];cases lm t<;>cases nK t<;>rfl
theorem Sm(b:aQ)(h:b.length<=1099511627776):lV b=some b:=by
 unfold lV;rw[Pa h (by decide)];simp
def LJ(v val:Bytes):aQ->aQ
 | []=>[⟨v,val⟩]
 |x::xs=>bif !(Op.bytesLess x.var v||x.var==v)then⟨v,val⟩::x::xs else x::LJ v val xs
theorem Tr(v val:Bytes)(b:aQ):(LJ v val b).length=b.length+1:=by
 induction b with
 |nil=>rfl
 |cons x xs ih=>simp only[LJ];cases !(Op.bytesLess x.var v||x.var==v)<;>simp[ih]
theorem Ts(v val:Bytes)(b:aQ){x:aS}(h:x∈LJ v val b):x=⟨v,val⟩\/x∈b:=by
 induction b with
 |nil=>simp[LJ]at h;exact .inl h
 |cons y ys ih=>
  simp only[LJ]at h;cases hc: !(Op.bytesLess y.var v||y.var==v)with
  |true=>
   rw[hc,aa]at h;rcases bG.1 h with h|h
   ·exact .inl h
   ·exact .inr h
  |false=>
   rw[hc,ay]at h;rcases bG.1 h with h|h
   ·exact .inr (by simp[h])
   ·rcases ih h with h|h
    ·exact .inl h
    ·exact .inr (by simp[h])
theorem Vw{γ:Type}{v val:Bytes}{L:aQ->Nat->Bool->aQ->Option γ}{k:Bool->aQ->Option γ}{K:aQ->Option γ}(hk1:∀w,k true w=K w)(hk2:∀w:aQ,w.length<1099511627770->k false w=K (w++[⟨v,val⟩]))(rM:∀i d w,L [] i d w=k d w)
 (sF:∀x xs i d w,L (x::xs) i d w=(bif !(d)then(bif !(Op.bytesLess x.var v||(x.var:Bytes)==v)then(bif room ((w.map aS.c).length+([[D.str v,D.str val]]).length) 32 then(bif room (((w.map aS.c)++([[D.str v,D.str val]])).length+([[D.str x.var,D.str x.value]]).length) 32 then(L xs (i+1) true ((w++([(⟨v,val⟩:aS)]))++([x])))else none)else none)else(bif room ((w.map aS.c).length+([[D.str x.var,D.str x.value]]).length) 32 then(L xs (i+1) d (w++([x])))else none))else(bif room ((w.map aS.c).length+([[D.str x.var,D.str x.value]]).length) 32 then(L xs (i+1) d (w++([x])))else none))):
 ∀(l:aQ) (i:Nat) (w:aQ),w.length+l.length<1099511627760->L l i false w=K (w++LJ v val l):=by
 have c1:∀(l:aQ) (i:Nat) (w:aQ),w.length+l.length<1099511627765->L l i true w=K (w++l):=by
  intro l
  induction l with
  |nil=>intro i w _;rw[rM,hk1,cB]
  |cons x xs ih=>
   intro i w hw;simp only[aG]at hw;rw[sF,c8,ay,mS (by omega) (by decide),aa,ih (i+1) (w++[x]) (by simp;omega)];simp
 intro l
 induction l with
 |nil=>intro i w hw;simp only[b8]at hw;rw[rM,hk2 _ (by omega)];rfl
 |cons x xs ih=>
  intro i w hw;simp only[aG]at hw;have r1:∀y:aK,room ((w.map aS.c).length+([y]).length) 32=true:=fun y=>mS (by omega) (by decide)
  have r2:room (((w.map aS.c)++([[D.str v,D.str val]])).length+([[D.str x.var,D.str x.value]]).length) 32=true:=KF (by simp;omega) (by decide);have t1:=ih (i+1) (w++[x]) (by simp;omega);have t2:=c1 xs (i+1) ((w++[⟨v,val⟩])++[x]) (by simp;omega);rw[sF,j6,aa,r1,r1,r2];simp only[aa,LJ];cases !(Op.bytesLess x.var v||x.var==v)with
  |true=>rw[aa,aa,t2];simp
  |false=>rw[ay,ay,t1];simp
def JX(b:aQ)(v val:Bytes):aQ×Bool:=bif vm b&&(nK v&&lm val)then(match Gw v b with|some o=>bif o==val then(b,true)else([],false)|none=>bif decide (b.length=6)then([],false)else(LJ v val b,true))else([],false)
theorem PA{b:aQ}{v val:Bytes}(h:PB b)(hv:v.length<=1048576)(hl:val.length<=1048576):PB (JX b v val).1:=by
 unfold JX;cases hb:vm b&&(nK v&&lm val)with
 |false=>exact PB.nil
 |true=>
  rw[aa];have h6:b.length<=6:=Jq (by simp only[aX]at hb;exact hb.1);cases Gw v b with
  |some o=>simp only;cases o==val<;>first|exact h|exact PB.nil
  |none=>
   simp only;cases decide (b.length=6)with
   |true=>exact PB.nil
   |false=>
    refine⟨by simp only[ay,Tr];omega,fun x hx=>?_⟩;rcases Ts _ _ _ hx with rfl|hx
    ·exact⟨hv,hl⟩
    ·exact h.2 x hx
theorem a2i(b:aQ)(v val:Bytes)(h:PB b)(hv:v.length<=1048576)(hl:val.length<=1048576):pH b v val=some (JX b v val):=by
 unfold pH JX;have hlen:=h.1;have t:=(Vw (v:=v) (val:=val) (K:=fun w=>some ((w,true):aQ×Bool)) (L:=iV b v val (fun(z:Bool) (q:aQ)=>(bif !(z)then(bif room ((q.map aS.c).length+([[D.str v,D.str val]]).length) 32 then(some (q++([(⟨v,val⟩:aS)]),true))else none)else(some (q,true))))) (fun w=>rfl) (fun w hw=>by show(bif !false then _ else _)=_;rw[mS (by omega) (by decide)];rfl) (fun _ _ _=>rfl) (fun _ _ _ _ _=>rfl) b 0 [] (by simp;omega))
 rw[PR b h,aA,Qc v hv,aA,H8 val hl,aA,Y9 b v hv,aA,Sm b (by omega),aA,t];cases hb:vm b with
 |false=>rfl
 |true=>
  have h6:=Jq hb;have e6:decide ((((b.map aS.c).length:Int):Int)>=6)=decide (b.length=6):=by
   rw[ai];congr 1;rw[ya];omega
  rw[e6];cases hvv:nK v with
  |false=>rfl
  |true=>
   cases lm val with
   |false=>rfl
   |true=>
    have MW:DK b v=(match Gw v b with|some o=>(o,true)|none=>([],false)):=by unfold DK;rw[LV hvv,hvv];rfl
    rw[MW];simp only[c8,ay,pF,DO,aa];cases Gw v b with
    |some o=>simp only[aa];cases o==val<;>rfl
    |none=>simp only[ay];cases decide (b.length=6)<;>rfl
def Mh:aE->aE->aQ->aQ×Bool
 | [],_,w=>(w,true)
 |_::_,[],_=>([],false)
 |x::xs,y::ys,w=>bif lm x then(bif x==y then Mh xs ys w else([],false))else(bif (JX w x y).2 then Mh xs ys (JX w x y).1 else([],false))
def yM(p f:aL)(b:aQ):aQ×Bool:=bif C2 p&&(Bj f&&(vm b&&(p.rel==f.rel&&decide (p.args.length=f.args.length))))then Mh p.args f.args b else([],false)
theorem Ky:∀(l r:aE) (w:aQ),PB w->(∀x∈l,x.length<=1048576)->(∀x∈r,x.length<=1048576)->PB (Mh l r w).1
 | [],_,w,h,_,_=>h
 |_::_,[],_,_,_,_=>PB.nil
 |x::xs,y::ys,w,h,hl,hr=>by
  simp only[Mh];have i1:=Ky xs ys w h (fun z hz=>hl z (by simp[hz])) (fun z hz=>hr z (by simp[hz]));have i2:=Ky xs ys (JX w x y).1 (PA h (hl x (by simp)) (hr y (by simp))) (fun z hz=>hl z (by simp[hz])) (fun z hz=>hr z (by simp[hz]));cases lm x with
  |true=>cases x==y<;>first|exact i1|exact PB.nil
  |false=>cases(JX w x y).2<;>first|exact i2|exact PB.nil
theorem Vc{p f:aL}{b:aQ}(hb:PB b)(hp:p.wt<=1048576)(hf:f.wt<=1048576):PB (yM p f b).1:=by
 unfold yM;cases C2 p&&(Bj f&&(vm b&&(p.rel==f.rel&&decide (p.args.length=f.args.length))))with
 |false=>exact PB.nil
 |true=>exact Ky _ _ _ hb (fun x hx=>aL.rU hp hx) (fun x hx=>aL.rU hf hx)
theorem Vd{YD:Bytes->Option Bool}{ext:aQ->Bytes->Bytes->Option (aQ×Bool)}{fa:aE}{L:aE->Nat->aQ->Option (aQ×Bool)}(hA:∀x:Bytes,x.length<=1048576->YD x=some (lm x))(hE:∀w x y,PB w->x.length<=1048576->y.length<=1048576->ext w x y=some (JX w x y))(rM:∀i w,L [] i w=some (w,true))
 (sF:∀x xs i w,L (x::xs) i w=((YD x).bind fun y=>(bif y then((sK fa (i:Int)).bind fun z=>(bif !((x:Bytes)==z)then(some ([],false))else(L xs (i+1) w)))else((sK fa (i:Int)).bind fun z=>((ext w x z).bind fun q=>(bif !(q.2)then(some ([],false))else(L xs (i+1) q.1))))))):
 ∀(l pre rest:aE) (w:aQ),fa=pre++rest->l.length=rest.length->(∀x∈l,x.length<=1048576)->(∀x∈rest,x.length<=1048576)->PB w->L l pre.length w=some (Mh l rest w):=by
 intro l
 induction l with
 |nil=>intro pre rest w _ _ _ _ _;rw[rM];simp[Mh]
 |cons x xs ih=>
  intro pre rest w h hl hx hr hw;cases rest with
  |nil=>simp at hl
  |cons y ys=>
   have t:=fun w' hw'=>ih (pre++[y]) ys w' (by simp[h]) (by simpa using hl) (fun z hz=>hx z (by simp[hz])) (fun z hz=>hr z (by simp[hz])) hw'
   simp only[aM,mM]at t;rw[sF,hA x (hx x (by simp)),aA,Ey h,aA,aA,hE w x y hw (hx x (by simp)) (hr y (by simp)),aA];simp only[Mh];cases lm x with
   |true=>
    simp only[aa];cases x==y with
    |true=>simp only[c8,ay,aa];exact t w hw
    |false=>rfl
   |false=>
    simp only[ay];cases hq:(JX w x y).2 with
    |true=>simp only[c8,ay,aa];exact t _ (PA hw (hx x (by simp)) (hr y (by simp)))
    |false=>rfl
theorem YJ(a b:aE):((((a.map tx).length:Int):Int) != ((b.map tx).length:Int))= !decide (a.length=b.length):=by
 rw[ai,ai];by_cases h:a.length=b.length
 ·simp[h]
 ·rw[bL h];simp;omega
theorem a06(p f:aL)(b:aQ)(hp:p.wt<=1048576)(hf:f.wt<=1048576)(hb:PB b):iY p f b=some (yM p f b):=by
 unfold iY yM;have hlen:=hb.1;rw[Y3 p hp,aA,Zz f hf,aA,PR b hb,aA,Sm b (by omega),aA,YJ];cases C2 p with
 |false=>rfl
 |true=>
  cases Bj f with
  |false=>rfl
  |true=>
   cases vm b with
   |false=>rfl
   |true=>
    cases p.rel==f.rel with
    |false=>rfl
    |true=>
     by_cases h:p.args.length=f.args.length
     ·rw[cV h];have t:=Vd (YD:=eO) (ext:=pH) (fa:=f.args) (L:=gr p f (fun(q:aQ)=>(some (q,true)))) H8 (fun w x y hw hx hy=>a2i w x y hw hx hy) (fun _ _=>rfl) (fun _ _ _ _=>rfl) p.args [] f.args b rfl h (fun x hx=>aL.rU hp hx) (fun x hx=>aL.rU hf hx) hb;exact t
     ·rw[bL h];rfl
def ltB(l r:Bytes):Bool:=match DI l,DI r with|some x,some y=>decide (x<y)|_,_=>false
def Xf(c:aI)(b:aQ):Bool:=HI c&&(vm b&&((DK b c.left).2&&((DK b c.right).2&&(bif decide (c.kind=3)then(DK b c.left).1==(DK b c.right).1 else bif decide (c.kind=4)then !((DK b c.left).1==(DK b c.right).1)else ltB (DK b c.left).1 (DK b c.right).1))))
theorem CF(a b:Int):(a==b)=decide (a=b):=by rw[bn];simp
theorem a05(c:aI)(b:aQ)(hc:c.wt<=1048576)(hb:PB b):nW c b=some (Xf c b):=by
 unfold nW Xf;rw[a0B c hc,aA,PR b hb,aA,Y9 b c.left (aI.zH hc),aA,Y9 b c.right (aI.wS hc),aA,CF,CF];cases HI c with
 |false=>rfl
 |true=>
  cases vm b with
  |false=>rfl
  |true=>
   cases(DK b c.left).2 with
   |false=>rfl
   |true=>
    cases(DK b c.right).2 with
    |false=>rfl
    |true=>
     cases decide (c.kind=3)with
     |true=>rfl
     |false=>
      cases decide (c.kind=4)with
      |true=>rfl
      |false=>
       simp only[c8,ay,pF];unfold ltB;rw[Sp,aA,Sp,aA];unfold pI;cases DI (DK b c.left).1 with
       |none=>rfl
       |some x=>
        cases DI (DK b c.right).1 with
        |none=>rfl
        |some y=>
         simp only[aa]
         congr 1
         by_cases h:x<y
         ·simp[h]
         ·simp[h]
def DH(p:aL)(b:aQ)(fs:ar):ar:=fs.filter fun f=>(yM p f b).2
def FS(fs:ar):Prop:=fs.length<=1048576/\∀f∈fs,f.wt<=1048576
theorem V5{γ:Type}{mf:aL->Option (aQ×Bool)}{cp:aL->Option aL}{p:aL}{b:aQ}{L:ar->Nat->ar->Option γ}{k:ar->Option γ}(hm:∀f:aL,f.wt<=1048576->mf f=some (yM p f b))(hc:∀f:aL,f.wt<=1048576->cp f=some f)(rM:∀i w,L [] i w=k w)
 (sF:∀x xs i w,L (x::xs) i w=((mf x).bind fun y=>(bif y.2 then((cp x).bind fun z=>(bif room ((w.map aL.c).length+([[D.str z.rel,D.sl (z.args.map tx)]]).length) 40 then(L xs (i+1) (w++([z])))else none))else(L xs (i+1) w)))):
 ∀(l:ar) (i:Nat) (w:ar),(∀f∈l,f.wt<=1048576)->w.length+l.length<1099511627700->L l i w=k (w++DH p b l):=by
 intro l
 induction l with
 |nil=>intro i w _ _;rw[rM];simp[DH]
 |cons x xs ih=>
  intro i w hl hw;simp only[aG]at hw;have hx:=hl x (by simp);rw[sF,hm x hx,aA,hc x hx,aA,mS (by omega) (by decide),aa];have e:DH p b (x::xs)=bif (yM p x b).2 then x::DH p b xs else DH p b xs:=by
   unfold DH;rw[List.filter_cons];cases(yM p x b).2<;>rfl
  rw[e];cases(yM p x b).2 with
  |true=>rw[aa,aa,ih _ _ (fun f hf=>hl f (by simp[hf])) (by simp;omega)];simp
  |false=>rw[ay,ay,ih _ _ (fun f hf=>hl f (by simp[hf])) (by omega)]
theorem a02(p:aL)(b:aQ)(fs:ar)(hp:p.wt<=1048576)(hb:PB b)(hf:FS fs):gL p b fs=some (DH p b fs):=by
 unfold gL;have h1:=hf.1;refine(V5 (mf:=fun f=>iY p f b) (cp:=gX) (p:=p) (b:=b) (L:=ey p b fs _) (k:=fun q=>some q) (fun f h=>a06 p f b hp h hb) (fun f h=>OA f (by have:=aL.ga h;omega)) (fun _ _=>rfl) (fun _ _ _ _=>rfl) fs 0 [] hf.2 (by simp;omega)).trans ?_;simp
def MS(c:aI)(b:aQ)(fs:ar):Bool:=oG c&&(vm b&&(bif decide (c.kind=1)then decide (0<(DH c.pat b fs).length)else bif decide (c.kind=2)then decide ((DH c.pat b fs).length=0)else Xf c b))
theorem YI(l:ar):decide ((((l.map aL.c).length:Int):Int)>0)=decide (0<l.length):=by rw[ai];congr 1;rw[ya];omega
theorem len_eq(l:ar):((((l.map aL.c).length:Int):Int)==0)=decide (l.length=0):=by rw[ai,CF];congr 1;rw[ya];omega
theorem a04(c:aI)(b:aQ)(fs:ar)(hc:c.wt<=1048576)(hb:PB b)(hf:FS fs):nV c b fs=some (MS c b fs):=by
 unfold nV MS;rw[Sj c hc,aA,PR b hb,aA,a02 c.pat b fs (aI.fT hc) hb hf,aA,aA,a05 c b hc hb,aA,CF,CF,YI,len_eq];cases oG c with
 |false=>rfl
 |true=>
  cases vm b with
  |false=>rfl
  |true=>cases decide (c.kind=1)<;>cases decide (c.kind=2)<;>rfl
end Go.Cx
namespace Go.Cx
open Go.RowKit Go.Proofs Tryz
theorem W8{p:aL}(h:C2 p=true):∀t∈p.args,qD t=true:=by
 unfold C2 at h;rw[aX]at h;exact fun t ht=>au.1 h.1 t ht
end Go.Cx
namespace Go.Cx
open Go.RowKit Go.Proofs Tryz
theorem MX(l:ar)(h:l.length<=1048576)(hf:∀f∈l,f.args.length<=1048576):jt l=some l:=by
 unfold jt;refine(Ir (c:=aL.c) (b:=40) (f:=gX) (g:=fun x=>x) (L:=jU l _) (k:=fun q=>some q) (by decide) (fun _ _=>rfl) (fun _ _ _ _=>rfl) l 0 [] (fun f h=>OA f (by have:=hf f h;omega)) (by simp;omega)).trans ?_;simp
def TK(n:Nat)(t:aq):Prop:=t.facts.length<=n/\(∀f∈t.facts,f.wt<=1048576)/\PB t.bind
theorem TK.le{n m:Nat}{t:aq}(h:TK n t)(hm:n<=m):TK m t:=⟨by have:=h.1;omega,h.2⟩
def ext1(c:aI)(t:aq)(f:aL):bX:=bif (yM c.pat f t.bind).2 then [⟨t.facts++[f],(yM c.pat f t.bind).1⟩]else []
def Iv(c:aI)(fs:ar)(t:aq):bX:=bif decide (c.kind=1)then fs.flatMap (ext1 c t)else bif MS c t.bind fs then [t]else []
def zJ(fs:ar)(l:bX)(c:aI):bX:=l.flatMap (Iv c fs)
def Hf(cs:aY)(fs:ar):bX:=cs.foldl (zJ fs) [⟨[],[]⟩]
theorem S5(c:aI)(t:aq)(f:aL):(ext1 c t f).length<=1:=by unfold ext1;cases(yM c.pat f t.bind).2<;>simp
theorem MH(c:aI)(t:aq)(fs:ar):(fs.flatMap (ext1 c t)).length<=fs.length:=by
 induction fs with
 |nil=>simp
 |cons f fs ih=>rw[eF,aM];have:=S5 c t f;simp only[aG];omega
theorem Mq(c:aI)(fs:ar)(t:aq):(Iv c fs t).length<=fs.length+1:=by
 unfold Iv;cases decide (c.kind=1)with
 |true=>have:=MH c t fs;rw[aa];omega
 |false=>cases MS c t.bind fs<;>simp
theorem Mr(fs:ar)(l:bX)(c:aI):(zJ fs l c).length<=l.length*(fs.length+1):=by
 unfold zJ
 induction l with
 |nil=>simp
 |cons t l ih=>rw[eF,aM,aG,Nat.succ_mul];have:=Mq c fs t;omega
theorem Vh{c:aI}{fs:ar}{t:aq}{n:Nat}(h:TK n t)(hc:c.wt<=1048576)(hf:FS fs):∀u∈Iv c fs t,TK (n+1) u:=by
 intro u hu;unfold Iv at hu;cases hk:decide (c.kind=1)with
 |false=>
  rw[hk,ay]at hu;cases hh:MS c t.bind fs with
  |false=>rw[hh]at hu;cases hu
  |true=>
   rw[hh,aa,dX]at hu;subst hu;exact h.le (by omega)
 |true=>
  rw[hk,aa]at hu;obtain⟨f,hf1,hu⟩:=bp.1 hu;unfold ext1 at hu;cases hm:(yM c.pat f t.bind).2 with
  |false=>rw[hm]at hu;cases hu
  |true=>
   rw[hm,aa,dX]at hu;subst hu;refine⟨by have:=h.1;simp;omega,?_,Vc h.2.2 (aI.fT hc) (hf.2 f hf1)⟩;intro g hg;rcases aU.1 hg with hg|hg
   ·exact h.2.1 g hg
   ·rw[dX]at hg;rw[hg];exact hf.2 f hf1
theorem PW{c:aI}{fs:ar}{l:bX}{n:Nat}(h:∀t∈l,TK n t)(hc:c.wt<=1048576)(hf:FS fs):∀u∈zJ fs l c,TK (n+1) u:=by
 intro u hu;obtain⟨t,ht,hu⟩:=bp.1 hu;exact Vh (h t ht) hc hf u hu
theorem V4{γ:Type}{mf:aL->Option (aQ×Bool)}{cps:Option ar}{cp:aL->Option aL}{c:aI}{t:aq}{L:ar->Nat->bX->Option γ}{k:bX->Option γ}(hm:∀f:aL,f.wt<=1048576->mf f=some (yM c.pat f t.bind))(hcs:cps=some t.facts)(hc:∀f:aL,f.wt<=1048576->cp f=some f)(ht:t.facts.length<=1048576)(rM:∀i w,L [] i w=k w)
 (sF:∀x xs i w,L (x::xs) i w=((mf x).bind fun y=>(bif y.2 then(cps.bind fun q=>((cp x).bind fun z=>(bif room ((q.map aL.c).length+([[D.str z.rel,D.sl (z.args.map tx)]]).length) 40 then(bif room ((w.map aq.c).length+([[D.sl ((q.map aL.c)++([[D.str z.rel,D.sl (z.args.map tx)]])),D.sl (y.1.map aS.c)]]).length) 48 then(L xs (i+1) (w++([(⟨q++([z]),y.1⟩:aq)])))else none)else none)))else(L xs (i+1) w)))):
 ∀(l:ar) (i:Nat) (w:bX),(∀f∈l,f.wt<=1048576)->w.length+l.length<1099511627770->L l i w=k (w++l.flatMap (ext1 c t)):=by
 intro l
 induction l with
 |nil=>intro i w _ _;rw[rM];simp
 |cons x xs ih=>
  intro i w hl hw;simp only[aG]at hw;have hx:=hl x (by simp);rw[sF,hm x hx,aA,hcs,aA,hc x hx,aA,mS (by omega) (by decide),aa,mS (by omega) (by decide),aa,eF];rw[show ext1 c t x=bif (yM c.pat x t.bind).2 then [⟨t.facts++[x],(yM c.pat x t.bind).1⟩]else []from rfl];cases(yM c.pat x t.bind).2 with
  |true=>rw[aa,aa,ih _ _ (fun f hf=>hl f (by simp[hf])) (by simp;omega)];simp
  |false=>rw[ay,ay,ih _ _ (fun f hf=>hl f (by simp[hf])) (by omega)];simp
theorem VV(c:aI):((c.kind:Int) != 1)= !decide (c.kind=1):=by
 show(!((c.kind:Int)==1))=_;rw[CF]
theorem TL:∀t∈[(⟨[],[]⟩:aq)],TK 0 t:=by
 intro t ht;rw[dX]at ht;subst ht;exact⟨by simp,by simp,PB.nil⟩
theorem X1{n:Nat}(h:n<=4):[(⟨[],[]⟩:aq)].length*25^n<=390625:=by
 have:=Nat.pow_le_pow_right (n:=25) (by decide) h;simp only[mM,kP];exact this
theorem VS(c0:aY)(fs:ar)(w0:bX)(i1:Nat)(c:aI)(k:bX->Option bX)(hc:c.wt<=1048576)(hf:FS fs):∀(l:bX) (i:Nat) (w:bX),(∀t∈l,TK 1048576 t)->w.length+l.length*(fs.length+1)<1099511627700->eP c0 fs w0 i1 c k l i w=k (w++zJ fs l c):=by
 intro l;have h1:=hf.1
 induction l with
 |nil=>intro i w _ _;rw[eP];simp[zJ]
 |cons t l ih=>
  intro i w hl hw;rw[aG,Nat.succ_mul]at hw;have ht:=hl t (by simp);have e:zJ fs (t::l) c=Iv c fs t++zJ fs l c:=by simp[zJ]
  have hn:=Mq c fs t;have he:=MH c t fs;rw[eP,VV,a04 c t.bind fs hc ht.2.2 hf,aA,mS (by omega) (by decide),aa,tK (by omega),aa,e];rw[V4 (mf:=fun f=>iY c.pat f t.bind) (cps:=jt t.facts) (cp:=gX) (c:=c) (t:=t) (L:=iL c0 fs i w0 t i1 c _) (k:=_) (fun f h=>a06 c.pat f t.bind (aI.fT hc) h ht.2.2) (MX t.facts ht.1 (fun f hf=>by have:=aL.ga (ht.2.1 f hf);omega)) (fun f h=>OA f (by have:=aL.ga h;omega)) ht.1 (fun _ _=>rfl) (fun _ _ _ _=>rfl) fs 0 w hf.2 (by omega)];unfold Iv;cases decide (c.kind=1)with
  |true=>simp only[c8,ay,aa];rw[ih _ _ (fun u hu=>hl u (by simp[hu])) (by rw[aM];omega)];simp
  |false=>
   simp only[j6,aa,ay];cases MS c t.bind fs with
   |true=>simp only[aa];rw[ih _ _ (fun u hu=>hl u (by simp[hu])) (by rw[aM];simp;omega)];simp
   |false=>simp only[ay];rw[ih _ _ (fun u hu=>hl u (by simp[hu])) (by omega)];simp
theorem Y8(c0:aY)(fs:ar)(k:bX->Option bX)(hf:FS fs)(h24:fs.length<=24):∀(cs:aY) (i:Nat) (w:bX) (n:Nat),(∀c∈cs,c.wt<=1048576)->(∀t∈w,TK n t)->n+cs.length<=1048576->w.length*25^cs.length<=390625->iK c0 fs k cs i w=k (cs.foldl (zJ fs) w):=by
 intro cs
 induction cs with
 |nil=>intro i w n _ _ _ _;rfl
 |cons c cs ih=>
  intro i w n hc hw hn hl;simp only[aG]at hn;rw[aG,yZ,Em (25^cs.length) 25,<-Nat.mul_assoc]at hl;have hp:1<=25^cs.length:=Nat.one_le_pow _ _ (by decide);have zW:w.length*25<=390625:=cZ (Nat.le_mul_of_pos_right _ hp) hl;have h25:w.length*(fs.length+1)<=w.length*25:=dw _ (by omega);rw[iK,tK (by omega),aa,VS c0 fs w i c _ (hc c (by simp)) hf w 0 [] (fun t ht=>(hw t ht).le (by omega)) (by simp only[b8];omega),cC];refine ih _ _ (n+1) (fun x hx=>hc x (by simp[hx])) (PW hw (hc c (by simp)) hf) (by omega) ?_;exact cZ (dO _ (cZ (Mr fs w c) h25)) hl
theorem a0C(cs:aY)(fs:ar)(hc:∀c∈cs,c.wt<=1048576)(h4:cs.length<=4)(hf:FS fs)(h24:fs.length<=24):og cs fs=some (Hf cs fs):=by
 unfold og;exact Y8 cs fs _ hf h24 cs 0 _ 0 hc TL (by omega) (X1 h4)
theorem R3{r:aH}(h:kL r=true):r.conds.length<=4:=by
 unfold kL at h;simp only[aX,bO]at h;omega
theorem II{r:aH}:∀ {l:aY} {i:Nat},rV r l i=true->∀c∈l,oG c=true
 | [],_,_,c,hc=>by cases hc
 |x::xs,i,h,c,hc=>by
  simp only[rV,aX]at h;rcases bG.1 hc with rfl|hc
  ·exact h.1.1.1
  ·exact II h.2 c hc
theorem HH{r:aH}(h:kL r=true):∀c∈r.conds,oG c=true:=by
 unfold kL at h;simp only[aX]at h;exact II h.2.1
theorem CC{l:ar}(h:Aj l=true):l.length<=24:=by
 unfold Aj at h;simp only[aX,bO]at h;exact h.2
theorem U5{cs:aY}{fs:ar}(h4:cs.length<=4)(h24:fs.length<=24):(Hf cs fs).length<=390625:=by
 have key:∀(cs:aY) (w:bX),w.length*25^cs.length<=390625->(cs.foldl (zJ fs) w).length<=390625:=by
  intro cs
  induction cs with
  |nil=>intro w h;simpa using h
  |cons c cs ih=>
   intro w h;rw[aG,yZ,Em (25^cs.length) 25,<-Nat.mul_assoc]at h;refine ih _ ?_;have h25:w.length*(fs.length+1)<=w.length*25:=dw _ (by omega);exact cZ (dO _ (cZ (Mr fs w c) h25)) h
 exact key cs _ (X1 h4)
theorem Lz{all:af}:∀ {l:af} {i:Nat},JV all l i=true->∀r∈l,kL r=true
 | [],_,_,r,hr=>by cases hr
 |x::xs,i,h,r,hr=>by
  simp only[JV,aX]at h;rcases bG.1 hr with rfl|hr
  ·exact h.1.1
  ·exact Lz h.2 r hr
theorem tj{l:af}(h:th l=true):∀r∈l,kL r=true:=by
 unfold th at h;simp only[aX]at h;exact Lz h.1
end Go.Cx
namespace Go.Cx
open Go.RowKit Go.Proofs Tryz
theorem KA:∀(a b:aE),a.Nodup->(∀x∈a,x∈b)->a.length<=b.length
 | [],b,_,_=>Af _
 |x::xs,b,hn,hs=>by
  rw[eo]at hn;have h1:=KA xs (b.erase x) hn.2 fun y hy=>(List.mem_erase_of_ne (fun e=>hn.1 (by rw[<-e];exact hy))).2 (hs y (by simp[hy]))
  have h2:=nC (hs x (by simp));have h3:0<b.length:=yY (hs x (by simp));simp only[aG];omega
theorem R4{r:aH}(h:kL r=true):(eH (zi r.conds)).length<=6:=by
 unfold kL at h;simp only[aX,bO]at h;omega
theorem QA{c:aI}(hc:oG c=true)(hk:c.kind=1\/c.kind=2):C2 c.pat=true/\c.left=[]/\c.right=[]:=by
 unfold oG at hc;have:(decide (c.kind=1)||decide (c.kind=2))=true:=by simpa using hk
 rw[this,aa]at hc;simp only[aX,cR]at hc;exact⟨hc.1,hc.2.1,hc.2.2⟩
theorem Nf{c:aI}(hc:oG c=true)(h1:c.kind≠1)(h2:c.kind≠2):(decide (c.kind=3)||decide (c.kind=4)||decide (c.kind=5))=true/\CA c.pat=true/\qD c.left=true/\qD c.right=true:=by
 unfold oG at hc;rw[bL h1,bL h2,rD,ay]at hc;cases h:(decide (c.kind=3)||decide (c.kind=4)||decide (c.kind=5))with
 |false=>rw[h]at hc;cases hc
 |true=>
  rw[h,aa]at hc;simp only[aX]at hc;exact⟨rfl,hc.1,hc.2.1,hc.2.2⟩
structure WB(U:List Bytes)(b:List aS):Prop where
 ok:vm b=true
 sub:∀p∈b,p.var∈U
theorem IG{r:aH}:∀ {pre rest:aY} {c:aI} {i:Nat},rV r (pre++c::rest) i=true->oG c=true/\(i+pre.length=0->c.kind=1)/\∀v∈mj c,HU r (i+pre.length) c v=true
 | [],rest,c,i,h=>by
  rw[cC]at h;unfold rV at h;rw[Jp]at h;simp only[aX,l6,me,rz,bO]at h;refine⟨h.1.1.1,fun e=>?_,fun v hv=>au.1 h.1.2 v hv⟩;rcases h.1.1.2 with q|q
  ·exact absurd (by simpa using e) q
  ·exact q
 |x::pre,rest,c,i,h=>by
  rw[cv]at h;unfold rV at h;rw[aX]at h;have:=IG h.2;rw[aG,show i+(pre.length+1)=i+1+pre.length by omega];exact this
theorem LF{r:aH}(h:kL r=true):rV r r.conds 0=true:=by
 unfold kL at h;simp only[aX]at h;exact h.2.1
end Go.Cx
namespace Go.Cx
open Go.RowKit Go.Proofs Tryz
def UP(sh:aL):bE->Nat->Option Nat
 | [],_=>none
 |x::xs,i=>if x.shape=sh then some i else UP sh xs (i+1)
def UO(al:bE)(sh:aL):bE×Int:=match UP sh al 0 with
 |some i=>(al,e9 i)
 |none=>(al++[⟨sh,[]⟩],e9 al.length)
theorem HK{n:Nat}(h:n<=1099511627776):IntKind.i64.wrap (((n+1:Nat):Int)-1)=e9 n:=by
 unfold e9;rw[jO (qY.i64.2 (by omega))];omega
theorem a2x(n:aR)(sh:aL)(k:Option (aR×Int)):∀(l:bE) (i:Nat),jL n sh k l i=match UP sh l i with|some j=>some (n,e9 j)|none=>k:=by
 intro l
 induction l with
 |nil=>intro i;rfl
 |cons x l ih=>
  intro i;rw[jL,To,aA,ih,UP];by_cases h:x.shape=sh
  ·rw[cV h,aa,bM h];rfl
  ·rw[bL h,ay,b9 h]
theorem sAl(n:aR)(sh:aL)(h:n.bU.length<=1048576):oC n sh=some (⟨n.rules,n.ends,(UO n.bU sh).1,n.nodes,n.facts,n.cu⟩,(UO n.bU sh).2):=by
 unfold oC;rw[tK (by omega),aa,a2x,mS (by omega) (by decide),aa];unfold UO;cases UP sh n.bU 0 with
 |some j=>rfl
 |none=>
  dsimp only;rw[show((n.bU.map aW.c)++[[D.str sh.rel,D.sl (sh.args.map tx),D.sl []]]).length=n.bU.length+1 by simp,HK (by omega)]
theorem a2e(n:aR)(sh:aL)(k:Option (aR×Int)):∀(l:bE) (i:Nat),dY n sh k l i=match UP sh l i with|some j=>some (n,e9 j)|none=>k:=by
 intro l
 induction l with
 |nil=>intro i;rfl
 |cons x l ih=>
  intro i;rw[dY,Sq,aA,ih,UP];by_cases h:x.shape=sh
  ·rw[cV h,aa,bM h];rfl
  ·rw[bL h,ay,b9 h]
theorem iAl(n:aR)(sh:aL)(h:n.bU.length<=1048576):gH n sh=some (⟨n.rules,n.ends,(UO n.bU sh).1,n.nodes,n.facts,n.cu⟩,(UO n.bU sh).2):=by
 unfold gH;rw[tK (by omega),aa,a2e,mS (by omega) (by decide),aa];unfold UO;cases UP sh n.bU 0 with
 |some j=>rfl
 |none=>
  dsimp only;rw[show((n.bU.map aW.c)++[[D.str sh.rel,D.sl (sh.args.map tx),D.sl []]]).length=n.bU.length+1 by simp,HK (by omega)]
def Jr(p:Int)(c:aI):bB->Nat->Option Nat
 | [],_=>none
 |x::xs,i=>if 0<i/\x.parent=p/\x.cond=c then some i else Jr p c xs (i+1)
def Na(al:bE)(c:aI):bE×Int:=if c.kind=1\/c.kind=2 then UO al (Ef c.pat)else(al, -1)
def HR(al:bE)(ns:bB)(p:Int)(c:aI):(bE×bB)×Int:=match Jr p c ns 0 with
 |some i=>((al,ns),e9 i)
 |none=>(((Na al c).1,ns++[⟨p,c,(Na al c).2,[]⟩]),e9 ns.length)
theorem M8(p:Int)(c:aI)(ns:bB):Jr p c ns 0=Jr p c (ns.drop 1) 1:=by
 cases ns with
 |nil=>rfl
 |cons x ns=>rw[Jr,b9 (fun h=>by omega)];rfl
def Qt(n:aR)(z:(bE×bB)×Int):aR×Int:=(⟨n.rules,n.ends,z.1.1,z.1.2,n.facts,n.cu⟩,z.2)
theorem a2z(n:aR)(p:Int)(c:aI)(k:Option (aR×Int))(hn:n.nodes.length<=1048576):∀(d v fu:Nat),v+d=n.nodes.length+1->1<=v->d<fu->fE n p c k fu (v:Int)=match Jr p c (n.nodes.drop v) v with|some j=>some (n,e9 j)|none=>k:=by
 intro d
 induction d with
 |zero=>
  intro v fu hv h1 hf;obtain⟨fu,rfl⟩:∃m,fu=m+1:=⟨fu-1,by omega⟩
  rw[fE,ai,bL (by omega),ay,sM (by omega)];rfl
 |succ d ih=>
  intro v fu hv h1 hf;obtain⟨fu,rfl⟩:∃m,fu=m+1:=⟨fu-1,by omega⟩
  by_cases hl:v<n.nodes.length
  ·have hx:n.nodes[v]?=some n.nodes[v]:=aV hl;have e3:sK n.nodes (v:Int)=some n.nodes[v]:=by unfold sK;rw[cV (by omega),aa];exact hx
   rw[qk hl,Jr,fE,ai,cV (by omega),aa,e3,aA,UG (by omega),ih (v+1) fu (by omega) (by omega) (by omega),Yi,aA];generalize n.nodes[v]=x;by_cases hp:x.parent=p
   ·rw[show((x.parent:Int)==p)=true by simp[hp],aa];by_cases hc:x.cond=c
    ·rw[cV hc,aa,bM ⟨by omega,hp,hc⟩];rfl
    ·rw[bL hc,ay,b9 (fun h=>hc h.2.2)]
   ·rw[show((x.parent:Int)==p)=false by simp[hp],ay,b9 (fun h=>hp h.2.1)]
  ·rw[fE,ai,bL (by omega),ay,sM (by omega)];rfl
theorem sCh(n:aR)(p:Int)(c:aI)(hn:n.nodes.length<=1048576)(ha:n.bU.length<=1048576)(hc:c.wt<=1048576):qU n p c=some (Qt n (HR n.bU n.nodes p c)):=by
 have hp:=aI.fT hc;have hargs:=aL.ga hp;unfold qU;have e:=a2z n p c;rw[show(1:Int)=((1:Nat):Int)from rfl,e _ hn n.nodes.length 1 fuel (by omega) (bH _) (by unfold fuel;omega),<-M8,Th c (by omega),aA,Yk c.pat hp,aA,sAl n _ ha,aA];unfold HR Na Qt;cases Jr p c n.nodes 0 with
 |some j=>rfl
 |none=>
  dsimp only;rw[mS (by omega) (by decide),aa];by_cases h1:c.kind=1
  ·rw[show((c.kind:Int)==((1:Nat):Int))=true by simp[h1],aa,bM (.inl h1)];simp[HK,hn,show n.nodes.length<=1099511627776 by omega]
   first|done| (unfold e9;rw[jO (qY.i64.2 (by omega))])
  ·rw[show((c.kind:Int)==((1:Nat):Int))=false by simp[h1],ay];by_cases h2:c.kind=2
   ·rw[show((c.kind:Int)==(2:Int))=true by simp[h2],aa,bM (.inr h2)];simp[HK,hn,show n.nodes.length<=1099511627776 by omega]
    first|done| (unfold e9;rw[jO (qY.i64.2 (by omega))])
   ·rw[show((c.kind:Int)==(2:Int))=false by simp[h2],ay,b9 (by omega)]
    first|rw[mS (by omega) (by decide),aa]|rw[aA,mS (by omega) (by decide),aa]|skip
    simp[HK,hn,show n.nodes.length<=1099511627776 by omega]
    first|done| (unfold e9;rw[jO (qY.i64.2 (by omega))])
theorem a2g(n:aR)(p:Int)(c:aI)(k:Option (aR×Int)):∀(l:bB) (i:Nat),cg n p c k l i=match Jr p c l i with|some j=>some (n,e9 j)|none=>k:=by
 intro l
 induction l with
 |nil=>intro i;rfl
 |cons x l ih=>
  intro i;rw[cg,Jr,ih,Y5,aA];by_cases hi:0<i
  ·rw[cV (by omega),aa];by_cases hp:x.parent=p
   ·rw[show((x.parent:Int)==p)=true by simp[hp],aa];by_cases hc:x.cond=c
    ·rw[cV hc,aa,bM ⟨hi,hp,hc⟩];rfl
    ·rw[bL hc,ay,b9 (fun h=>hc h.2.2)]
   ·rw[show((x.parent:Int)==p)=false by simp[hp],ay,b9 (fun h=>hp h.2.1)]
  ·rw[bL (by omega),ay,b9 (fun h=>hi h.1)]
theorem iCh(n:aR)(p:Int)(c:aI)(hn:n.nodes.length<=1048576)(ha:n.bU.length<=1048576)(hc:c.wt<=1048576):iU n p c=some (Qt n (HR n.bU n.nodes p c)):=by
 have hp:=aI.fT hc;have hargs:=aL.ga hp;unfold iU;rw[tK (by omega),aa,a2g,O9 c (by omega),Y7 c.pat hp,aA,iAl n _ ha,aA,aA];unfold HR Na Qt;cases Jr p c n.nodes 0 with
 |some j=>rfl
 |none=>
  dsimp only;rw[mS (by omega) (by decide),aa];by_cases h1:c.kind=1
  ·rw[show((c.kind:Int)==(1:Int))=true by simp[h1],aa,bM (.inl h1)];simp[HK,hn,show n.nodes.length<=1099511627776 by omega]
   first|done| (unfold e9;rw[jO (qY.i64.2 (by omega))])
  ·rw[show((c.kind:Int)==(1:Int))=false by simp[h1],ay];by_cases h2:c.kind=2
   ·rw[show((c.kind:Int)==(2:Int))=true by simp[h2],aa,bM (.inr h2)];simp[HK,hn,show n.nodes.length<=1099511627776 by omega]
    first|done| (unfold e9;rw[jO (qY.i64.2 (by omega))])
   ·rw[show((c.kind:Int)==(2:Int))=false by simp[h2],ay,b9 (by omega)]
    first|rw[mS (by omega) (by decide),aa]|rw[aA,mS (by omega) (by decide),aa]|skip
    simp[HK,hn,show n.nodes.length<=1099511627776 by omega]
    first|done| (unfold e9;rw[jO (qY.i64.2 (by omega))])
def Eg(s:(bE×bB)×Int)(c:aI):(bE×bB)×Int:=HR s.1.1 s.1.2 s.2 c
def G1(z:(bE×bB)×bZ)(r:aH):(bE×bB)×bZ:=(((gG r).foldl Eg (z.1,0)).1,z.2++[((gG r).foldl Eg (z.1,0)).2])
def root(tk:bX):Node:=⟨-1,⟨0,⟨[],[]⟩,[],[]⟩, -1,tk⟩
def kJ(tk:bX)(rs:af):(bE×bB)×bZ:=rs.foldl G1 (([],[root tk]),[])
theorem Up(al:bE)(sh:aL):(UO al sh).1.length<=al.length+1:=by
 unfold UO;cases UP sh al 0<;>simp
theorem Uu(al:bE)(c:aI):(Na al c).1.length<=al.length+1:=by
 unfold Na;by_cases h:c.kind=1\/c.kind=2
 ·rw[bM h];exact Up _ _
 ·rw[b9 h];exact Nat.le_succ _
theorem Ke(al:bE)(ns:bB)(p:Int)(c:aI):(HR al ns p c).1.1.length<=al.length+1/\(HR al ns p c).1.2.length<=ns.length+1:=by
 unfold HR;cases Jr p c ns 0 with
 |some i=>exact⟨Nat.le_succ _,Nat.le_succ _⟩
 |none=>exact⟨Uu _ _,by simp⟩
theorem CJ:∀(cs:aY) (s:(bE×bB)×Int),(cs.foldl Eg s).1.1.length<=s.1.1.length+cs.length/\(cs.foldl Eg s).1.2.length<=s.1.2.length+cs.length
 | [],s=>⟨bH _,bH _⟩
 |c::cs,s=>by
  have h1:=Ke s.1.1 s.1.2 s.2 c;have h2:=CJ cs (Eg s c);have h3:(Eg s c).1.1.length<=s.1.1.length+1/\(Eg s c).1.2.length<=s.1.2.length+1:=h1;rw[cj,aG];omega
theorem a0g(a:af)(i:Nat)(y:aY)(k:Int->Int->af->bZ->bE->bB->ar->Option (aR×Bool)):∀(cs:aY) (j:Nat) (v u:Int) (w3:af) (w4:bZ) (al:bE) (ns:bB) (w7:ar),(∀c∈cs,c.wt<=1048576)->al.length+cs.length<=1048576->ns.length+cs.length<=1048576->
 fQ a i y k cs j v u w3 w4 al ns w7=k (cs.foldl Eg ((al,ns),v)).2 u w3 w4 (cs.foldl Eg ((al,ns),v)).1.1 (cs.foldl Eg ((al,ns),v)).1.2 w7:=by
 intro cs
 induction cs with
 |nil=>intros;rfl
 |cons c cs ih=>
  intro j v u w3 w4 al ns w7 hc ha hn;simp only[aG]at ha hn;have h1:=Ke al ns v c;rw[fQ,sCh _ v c (show ns.length<=1048576 by omega) (show al.length<=1048576 by omega) (hc c (by simp)),aA];unfold Qt;dsimp only;rw[ih _ _ _ _ _ _ _ _ (fun x hx=>hc x (by simp[hx])) (by omega) (by omega)];rfl
theorem a0A(a:af)(i:Nat)(y:aY)(k:Int->Int->af->bZ->bE->bB->ar->Option aR):∀(cs:aY) (j:Nat) (v u:Int) (w3:af) (w4:bZ) (al:bE) (ns:bB) (w7:ar),(∀c∈cs,c.wt<=1048576)->al.length+cs.length<=1048576->ns.length+cs.length<=1048576->
 gw a i y k cs j v u w3 w4 al ns w7=k (cs.foldl Eg ((al,ns),v)).2 u w3 w4 (cs.foldl Eg ((al,ns),v)).1.1 (cs.foldl Eg ((al,ns),v)).1.2 w7:=by
 intro cs
 induction cs with
 |nil=>intros;rfl
 |cons c cs ih=>
  intro j v u w3 w4 al ns w7 hc ha hn;simp only[aG]at ha hn;have h1:=Ke al ns v c;rw[gw,iCh _ v c (show ns.length<=1048576 by omega) (show al.length<=1048576 by omega) (hc c (by simp)),aA];unfold Qt;dsimp only;rw[ih _ _ _ _ _ _ _ _ (fun x hx=>hc x (by simp[hx])) (by omega) (by omega)];rfl
theorem Jz:∀(ts:aE) (N:aQ) {p:aS},p∈ts.foldl jM N->p∈N\/(p.var∈ts/\nK p.var=true)
 | [],_,_,h=>.inl h
 |t::ts,N,p,h=>by
  rcases Jz ts (jM N t) h with h1|h1
  ·unfold jM at h1;cases hv:nK t&& !Bp N t with
   |false=>rw[hv]at h1;exact .inl h1
   |true=>
    rw[hv,aa]at h1;simp only[aX]at hv;rcases aU.1 h1 with h2|h2
    ·exact .inl h2
    ·rw[dX.1 h2];exact .inr ⟨by simp,hv.1⟩
  ·exact .inr ⟨by simp[h1.1],h1.2⟩
theorem Fm{l:aY}{v:Bytes}:v∈zi l↔v∈uc l/\nK v=true:=by
 unfold zi uc mj gl;simp only[bp,fV];constructor
 ·rintro⟨c,hc,hm,hv⟩;exact⟨⟨c,hc,hm⟩,hv⟩
 ·rintro⟨⟨c,hc,hm⟩,hv⟩;exact⟨c,hc,hm,hv⟩
theorem Qr{r:aH}(h:kL r=true):(mI r).length<=6:=by
 have h1:((mI r).map aS.var).length<=(eH (zi r.conds)).length:=by
  refine KA _ _ (Fp _ Ov.nil) fun x hx=>?_
  obtain⟨p,hp,rfl⟩:=cO.1 hx;rcases Jz _ _ hp with h1|h1
  ·cases h1
  ·exact qh.2 (Fm.2 h1)
 rw[ai]at h1;exact cZ h1 (R4 h)
theorem TB{r:aH}(h:kL r=true){v:Bytes}(hv:v∈zi r.conds):∃i p,i<6/\(mI r)[i]?=some p/\p.var=v/\CH (mI r) v=Z3 i:=by
 obtain⟨ht,MW⟩:=Fm.1 hv;obtain⟨p,hp,he⟩:=ML _ [] ht MW;have hp':p∈mI r:=hp;obtain⟨i,hi,Kl,hval,_⟩:=Oo (Hs _ UN.nil) hp';refine⟨i,p,by have:=Qr h;unfold mI at this;omega,Kl,he,?_⟩;rw[<-he];exact(LD (N:=mI r) (Fp (uc r.conds) Ov.nil) hp').trans hval
theorem Fw{r:aH}(h:kL r=true){x:Bytes}(hx:x.length<=16)(hV:nK x=true->x∈zi r.conds):(CH (mI r) x).length<=16:=by
 cases hv:nK x with
 |false=>rw[show CH (mI r) x=x from TG hv];exact hx
 |true=>
  obtain⟨i,p,hi,_,_,e⟩:=TB h (hV hv);rw[e];exact PV i hi
theorem Ht:∀(l:aE),(∀x∈l,x.length<=16)->qB tw l<=17*l.length
 | [],_=>by simp[qB]
 |x::l,h=>by
  have h1:=Ht l fun y hy=>h y (by simp[hy])
  have h2:=h x (by simp);rw[mL,aG];unfold tw at*;omega
theorem JE{t:Bytes}(h:qD t=true):t.length<=16:=by have:=R8 h;omega
theorem IF{c:aI}(h:oG c=true):c.pat.rel.length<=8/\c.pat.args.length<=3/\(∀x∈c.pat.args,x.length<=16)/\c.left.length<=16/\c.right.length<=16:=by
 by_cases hk:c.kind=1\/c.kind=2
 ·obtain⟨hp,hl,hr⟩:=QA h hk;have ht:=W8 hp;unfold C2 at hp;simp only[aX,bO]at hp;have:=K8 hp.2.1;rw[hl,hr];exact⟨by omega,by omega,fun x hx=>JE (ht x hx),by simp,by simp⟩
 ·obtain⟨_,hz,hl,hr⟩:=Nf h (fun e=>hk (.inl e)) (fun e=>hk (.inr e));unfold CA at hz;simp only[aX,cR,bO]at hz;have h0:c.pat.args=[]:=cS (by omega);rw[hz.1,h0];exact⟨by simp,by simp,fun x hx=>(by cases hx),JE hl,JE hr⟩
theorem J3{r:aH}(h:kL r=true):∀c∈gG r,c.wt<=1048576:=by
 intro c' V8;obtain⟨c,hc,rfl⟩:=cO.1 V8;obtain⟨h1,h2,h3,h4,h5⟩:=IF (HH h c hc);have hV:∀x∈c.pat.args++[c.left,c.right],nK x=true->x∈zi r.conds:=fun x hx hv=>Fm.2 ⟨bp.2 ⟨c,hc,hx⟩,hv⟩
 have a1:(CH (mI r) c.left).length<=16:=Fw h h4 (hV _ (by simp));have a2:(CH (mI r) c.right).length<=16:=Fw h h5 (hV _ (by simp));have a3:=Ht (c.pat.args.map (CH (mI r))) (fun x hx=>by
  obtain⟨y,hy,rfl⟩:=cO.1 hx;exact Fw h (h3 y hy) (hV y (by simp[hy])))
 rw[ai]at a3;unfold J7 aI.wt;dsimp only;unfold tw at*;omega
theorem vT{r:aH}(h:kL r=true):(gG r).length<=4:=by unfold gG;rw[ai];exact R3 h
theorem Oy{r:aH}{n:Nat}(h:r.wt<=n){a:Action}(ha:a∈r.cc):a.pat.args.length<=n:=by
 have h1:=aH.Eu h;have h2:=qE (w:=Action.wt) ha;have h3:=oQ tw a.pat.args;simp only[Action.wt]at h2;omega
theorem Yc(p:aL)(h:p.args.length<=1099511627770):gT p=some p:=by
 unfold gT;rw[Yl p.args (by omega)];rfl
theorem Xy(p:aL)(h:p.args.length<=1099511627770):fM p=some p:=by
 unfold fM;rw[Kt p.args (by omega)];rfl
theorem Yd(r:aH)(h:r.wt<=1048576):pV r=some r:=by
 have h1:=aH.oW h;have h2:=aH.Eu h;have h3:=oQ aI.wt r.conds;have h4:=oQ Action.wt r.cc;unfold pV;rw[Ir (c:=aI.c) (b:=80) (f:=nI) (g:=fun x=>x) (L:=lf r _) (k:=_) (by decide) (fun _ _=>rfl) (fun _ _ _ _=>rfl) _ _ _ (fun c hc=>Th c (by have:=aL.ga (aI.fT (aH.nN h hc));omega)) (by simp;omega)];rw[Ir (c:=Action.c) (b:=48) (f:=fun a:Action=>(gT a.pat).bind fun y=>some (⟨a.kind,y⟩:Action)) (g:=fun x=>x) (L:=kF r _ _) (k:=_) (by decide) (fun _ _=>rfl) (fun x xs i w=>by rw[kF];cases gT x.pat<;>rfl) _ _ _ (fun a ha=>by rw[Yc a.pat (by have:=Oy h ha;omega)];rfl) (by simp;omega)];simp
theorem Tg(l:af)(h:qB aH.wt l<=1048576):p7 l=some l:=by
 have h3:=oQ aH.wt l;unfold p7;rw[Ir (c:=aH.c) (b:=72) (f:=pV) (g:=fun x=>x) (L:=kE l _) (k:=_) (by decide) (fun _ _=>rfl) (fun _ _ _ _=>rfl) _ _ _ (fun r hr=>Yd r (by have:=qE (w:=aH.wt) hr;omega)) (by simp;omega)];simp
theorem Sk(l:aY)(h:l.length<=1048576)(hw:∀c∈l,c.wt<=1048576):nZ l=some l:=by
 unfold nZ;rw[Ir (c:=aI.c) (b:=80) (f:=gW) (g:=fun x=>x) (L:=jT l _) (k:=_) (by decide) (fun _ _=>rfl) (fun _ _ _ _=>rfl) _ _ _ (fun c hc=>O9 c (by have:=aL.ga (aI.fT (hw c hc));omega)) (by simp;omega)];simp
theorem Xz(r:aH)(h:r.wt<=1048576):mW r=some r:=by
 have h1:=aH.oW h;have h2:=aH.Eu h;have h3:=oQ aI.wt r.conds;have h4:=oQ Action.wt r.cc;unfold mW;rw[Sk r.conds (by omega) (fun c hc=>aH.nN h hc),aA];rw[Ir (c:=Action.c) (b:=48) (f:=fun a:Action=>(fM a.pat).bind fun y=>some (⟨a.kind,y⟩:Action)) (g:=fun x=>x) (L:=iJ r _ _) (k:=_) (by decide) (fun _ _=>rfl) (fun x xs i w=>by rw[iJ];cases fM x.pat<;>rfl) _ _ _ (fun a ha=>by rw[Xy a.pat (by have:=Oy h ha;omega)];rfl) (by simp;omega)];simp
theorem Sl(l:af)(h:qB aH.wt l<=1048576):nc l=some l:=by
 have h3:=oQ aH.wt l;unfold nc;rw[Ir (c:=aH.c) (b:=72) (f:=mW) (g:=fun x=>x) (L:=jV l _) (k:=_) (by decide) (fun _ _=>rfl) (fun _ _ _ _=>rfl) _ _ _ (fun r hr=>Xz r (by have:=qE (w:=aH.wt) hr;omega)) (by simp;omega)];simp
theorem a0f(a:af)(k:Int->af->bZ->bE->bB->ar->Option (aR×Bool)):∀(l:af) (i:Nat) (u:Int) (w2:af) (es:bZ) (al:bE) (ns:bB) (w6:ar),(∀r∈l,r.wt<=1048576/\kL r=true)->es.length+l.length<=1000->al.length+4*l.length<=1000->ns.length+4*l.length<=1000->
 fP a k l i u w2 es al ns w6=k u w2 (l.foldl G1 ((al,ns),es)).2 (l.foldl G1 ((al,ns),es)).1.1 (l.foldl G1 ((al,ns),es)).1.2 w6:=by
 intro l
 induction l with
 |nil=>intros;rfl
 |cons r l ih=>
  intro i u w2 es al ns w6 hr he ha hn;simp only[aG]at he ha hn;obtain⟨hw,hb⟩:=hr r (by simp);have h4:=vT hb;have hl:=CJ (gG r) ((al,ns),0);dsimp only at hl;rw[fP,Yb r hw,aA,tK (by omega),aa,a0g _ _ _ _ _ _ _ _ _ _ _ _ _ (J3 hb) (by omega) (by omega),mS (by omega) (by decide),aa,ih _ _ _ _ _ _ _ (fun x hx=>hr x (by simp[hx])) (by simp;omega) (by omega) (by omega)];rfl
theorem Ye(rs:af)(h:qB aH.wt rs<=1048576):hG rs=some (bif th rs then(⟨rs,(kJ [⟨[],[]⟩] rs).2,(kJ [⟨[],[]⟩] rs).1.1,(kJ [⟨[],[]⟩] rs).1.2,[],0⟩,true)else(⟨[],[],[],[],[],0⟩,false)):=by
 unfold hG;rw[a2y rs h,aA];cases hb:th rs with
 |false=>rfl
 |true=>
  have h6:rs.length<=6:=by unfold th at hb;simp only[aX,bO]at hb;omega
  rw[c8,ay,aa,Tg rs h,aA,a0f _ _ _ _ _ _ _ _ _ _ (fun r hr=>⟨by have:=qE (w:=aH.wt) hr;omega,tj hb r hr⟩) (by simp;omega) (by simp;omega) (by simp;omega)];rfl
theorem a09(a:af)(k:Int->af->bZ->bE->bB->ar->Option aR):∀(l:af) (i:Nat) (u:Int) (w2:af) (es:bZ) (al:bE) (ns:bB) (w6:ar),(∀r∈l,r.wt<=1048576/\kL r=true)->es.length+l.length<=1000->al.length+4*l.length<=1000->ns.length+4*l.length<=1000->
 gu a k l i u w2 es al ns w6=k u w2 (l.foldl G1 ((al,ns),es)).2 (l.foldl G1 ((al,ns),es)).1.1 (l.foldl G1 ((al,ns),es)).1.2 w6:=by
 intro l
 induction l with
 |nil=>intros;rfl
 |cons r l ih=>
  intro i u w2 es al ns w6 hr he ha hn;simp only[aG]at he ha hn;obtain⟨hw,hb⟩:=hr r (by simp);have h4:=vT hb;have hl:=CJ (gG r) ((al,ns),0);dsimp only at hl;rw[gu,Xx r hw,aA,tK (by omega),aa,a0A _ _ _ _ _ _ _ _ _ _ _ _ _ (J3 hb) (by omega) (by omega),mS (by omega) (by decide),aa,ih _ _ _ _ _ _ _ (fun x hx=>hr x (by simp[hx])) (by simp;omega) (by omega) (by omega)];rfl
theorem a2k(rs:af)(h:qB aH.wt rs<=1048576)(hb:th rs=true):ni rs=some ⟨rs,(kJ [] rs).2,(kJ [] rs).1.1,(kJ [] rs).1.2,[],0⟩:=by
 unfold ni;have h6:rs.length<=6:=by unfold th at hb;simp only[aX,bO]at hb;omega
 rw[Sl rs h,aA,a09 _ _ _ _ _ _ _ _ _ _ (fun r hr=>⟨by have:=qE (w:=aH.wt) hr;omega,tj hb r hr⟩) (by simp;omega) (by simp;omega) (by simp;omega)];rfl
def XO(al:bE)(ns:bB)(p:Int)(c:aI):(bE×bB)×Int:=match Jr p c ns 1 with
 |some i=>((al,ns),e9 i)
 |none=>(((Na al c).1,ns++[⟨p,c,(Na al c).2,[]⟩]),e9 (ns.length+1))
theorem Rx(tk:bX)(al:bE)(ns:bB)(p:Int)(c:aI):HR al (root tk::ns) p c=(((XO al ns p c).1.1,root tk::(XO al ns p c).1.2),(XO al ns p c).2):=by
 unfold HR XO;rw[M8,List.drop_succ_cons,Ad];cases Jr p c ns 1<;>rfl
def YY(s:(bE×bB)×Int)(c:aI):(bE×bB)×Int:=XO s.1.1 s.1.2 s.2 c
def UY(z:(bE×bB)×bZ)(r:aH):(bE×bB)×bZ:=(((gG r).foldl YY (z.1,0)).1,z.2++[((gG r).foldl YY (z.1,0)).2])
def Vn(rs:af):(bE×bB)×bZ:=rs.foldl UY (([],[]),[])
theorem NA(tk:bX):∀(cs:aY) (al:bE) (ns:bB) (v:Int),cs.foldl Eg ((al,root tk::ns),v)=(((cs.foldl YY ((al,ns),v)).1.1,root tk::(cs.foldl YY ((al,ns),v)).1.2),(cs.foldl YY ((al,ns),v)).2)
 | [],_,_,_=>rfl
 |c::cs,al,ns,v=>by
  rw[cj,cj];show cs.foldl Eg (HR al (root tk::ns) v c)=_;rw[Rx,NA tk cs];rfl
theorem NC(tk:bX):∀(rs:af) (al:bE) (ns:bB) (es:bZ),rs.foldl G1 ((al,root tk::ns),es)=(((rs.foldl UY ((al,ns),es)).1.1,root tk::(rs.foldl UY ((al,ns),es)).1.2),(rs.foldl UY ((al,ns),es)).2)
 | [],_,_,_=>rfl
 |r::rs,al,ns,es=>by
  rw[cj,cj];have e:G1 ((al,root tk::ns),es) r=(((UY ((al,ns),es) r).1.1,root tk::(UY ((al,ns),es) r).1.2),(UY ((al,ns),es) r).2):=by
   unfold G1 UY;dsimp only;rw[NA]
  rw[e,NC tk rs]
theorem tS(tk:bX)(rs:af):kJ tk rs=(((Vn rs).1.1,root tk::(Vn rs).1.2),(Vn rs).2):=NC tk rs [] [] []
theorem JC(tk:bX){rs:af}(h:∀r∈rs,kL r=true)(h6:rs.length<=6):(kJ tk rs).1.2.length<=25:=by
 have main:∀(l:af) (z:(bE×bB)×bZ),(∀r∈l,kL r=true)->(l.foldl G1 z).1.2.length<=z.1.2.length+4*l.length:=by
  intro l
  induction l with
  |nil=>intro z _;exact bH _
  |cons r l ih=>
   intro z hl;have h1:=ih (G1 z r) (fun x hx=>hl x (by simp[hx]));have h2:=(CJ (gG r) (z.1,0)).2;have h3:=vT (hl r (by simp));have h4:(G1 z r).1.2.length=((gG r).foldl Eg (z.1,0)).1.2.length:=rfl;rw[cj,aG];dsimp only at h2;omega
 have:=main rs (([],[root tk]),[]) h;unfold kJ;simp only[aG,b8]at this;omega
end Go.Cx
namespace Go.Cx
open Go.RowKit Go.Proofs Tryz
def uI(x:Node):Int×aI:=(x.parent,x.cond)
theorem KK{a b:bB}(h:a.map uI=b.map uI):∀(k v:Nat),Jk a k v=Jk b k v
 |0,_=>rfl
 |k+1,v=>by
  have e:(a[v]?).map uI=(b[v]?).map uI:=by rw[<-bg,<-bg,h]
  unfold Jk;cases ha:a[v]? with
  |none=>
   cases hb:b[v]? with
   |none=>rfl
   |some y=>rw[ha,hb]at e;cases e
  |some x=>
   cases hb:b[v]? with
   |none=>rw[ha,hb]at e;cases e
   |some y=>
    rw[ha,hb]at e;have e1:x.parent=y.parent:=(Prod.mk.inj (oS e)).1;dsimp only;rw[e1,KK h k]
theorem Kf{a b:bB}(h:a.map uI=b.map uI):xI a=xI b:=by
 funext i
 have e:(a[i]?).map uI=(b[i]?).map uI:=by rw[<-bg,<-bg,h]
 unfold xI;cases ha:a[i]? with
 |none=>
  cases hb:b[i]? with
  |none=>rfl
  |some y=>rw[ha,hb]at e;cases e
 |some x=>
  cases hb:b[i]? with
  |none=>rw[ha,hb]at e;cases e
  |some y=>
   rw[ha,hb]at e;have e2:x.cond=y.cond:=(Prod.mk.inj (oS e)).2;show some x.cond=some y.cond;rw[e2]
theorem Mu{a b:bB}(h:a.map uI=b.map uI)(v:Int):j3 a v=j3 b v:=by
 have hl:a.length=b.length:=by have:=congrArg List.length h;simpa using this
 unfold j3 Fu;rw[hl,KK h,Kf h]
def zU(al:bE)(fs:ar):bE:=al.map fun a=>⟨a.shape,DH a.shape [] fs⟩
def vA(ns:bB)(fs:ar):bB->Nat->bB
 | [],_=>[]
 |x::xs,i=>⟨x.parent,x.cond,x.oU,Hf (j3 ns (e9 i)) fs⟩::vA ns fs xs (i+1)
def zV(ns:bB)(fs:ar):bB:=vA ns fs ns 0
theorem IQ(ns:bB)(fs:ar):∀(l:bB) (i:Nat),(vA ns fs l i).map uI=l.map uI
 | [],_=>rfl
 |x::l,i=>by rw[vA,bI,IQ ns fs l];rfl
theorem QT(ns:bB)(fs:ar)(l:bB)(i:Nat):(vA ns fs l i).length=l.length:=by
 have:=congrArg List.length (IQ ns fs l i);simpa using this
theorem setAt{α:Type}(pre l:List α)(x y:α):(pre++x::l).set pre.length y=pre++y::l:=by
 rw[jg _ _ (bH _),lI];rfl
structure KX(ns:List Node):Prop where
 len:ns.length<=1048576
 wt:∀x∈ns,x.cond.wt<=1048576
 path:∀i:Nat,(j3 ns (e9 i)).length<=4
theorem Mv{ns:bB}{v:Int}{c:aI}(h:c∈j3 ns v):∃x∈ns,x.cond=c:=by
 unfold j3 at h;split at h
 ·unfold Fu at h;obtain⟨i,_,hc⟩:=bt.1 h;unfold xI at hc;cases hx:ns[i]? with
  |none=>rw[hx]at hc;cases hc
  |some x=>rw[hx]at hc;exact⟨x,aB hx,oS hc⟩
 ·cases h
theorem S6(n:aR)(fs y:ar)(k:bE->Option (aR×Unit))(hf:FS fs):∀(l pre:bE),(∀x∈l,x.shape.wt<=1048576)->eA n fs y k l pre.length (pre++l)=k (pre++zU l fs):=by
 intro l
 induction l with
 |nil=>intro pre _;rfl
 |cons x l ih=>
  intro pre hw;have hx:(pre++x::l)[pre.length]?=some x:=by simp
  have hlt:decide (pre.length<((pre++x::l).map aW.c).length)=true:=by simp
  rw[eA,hlt,aa,hx,aA,a02 x.shape [] fs (hw x (by simp)) PB.nil hf,aA,aa,setAt];have:=ih (pre++[⟨x.shape,DH x.shape [] fs⟩]) (fun z hz=>hw z (by simp[hz]));rw[aM,mM,bN]at this;rw[show pre++(⟨x.shape,DH x.shape [] fs⟩:aW)::l=pre++([⟨x.shape,DH x.shape [] fs⟩]++l)from rfl,this];simp[zU]
theorem XR(n:aR)(fs y:ar)(q:bE)(k:Option (aR×Unit))(hf:FS fs)(h24:fs.length<=24)(ns:bB)(hp:KX ns):∀(l pre:bB),(pre++l).map uI=ns.map uI->
 dH n fs y q k l pre.length (pre++l)=some (⟨n.rules,n.ends,q,pre++vA ns fs l pre.length,y,n.cu⟩,()):=by
 intro l
 induction l with
 |nil=>intro pre _;rfl
 |cons x l ih=>
  intro pre he;have hx:(pre++x::l)[pre.length]?=some x:=by simp
  have hlt:decide (pre.length<((pre++x::l).map Node.c).length)=true:=by simp
  have hlen:(pre++x::l).length=ns.length:=by have:=congrArg List.length he;simpa using this
  have hok:NOk ⟨n.rules,n.ends,q,pre++x::l,y,n.cu⟩:=by
   refine⟨by show(pre++x::l).length<=1048576;rw[hlen];exact hp.len,fun z hz=>?_⟩;have hm:uI z∈ns.map uI:=by rw[<-he];exact cO.2 ⟨z,hz,rfl⟩
   obtain⟨w,hw,e⟩:=cO.1 hm;have:w.cond=z.cond:=(Prod.mk.inj e).2;rw[<-this];exact hp.wt w hw
  have Zj:j3 (pre++x::l) ((pre.length:Nat):Int)=j3 ns (e9 pre.length):=Mu he _;have QX:∀c∈j3 ns (e9 pre.length),c.wt<=1048576:=by
   intro c hc;obtain⟨z,hz,e⟩:=Mv hc;rw[<-e];exact hp.wt z hz
  rw[dH,Y4 _ _ hok,aA,Zj,a0C _ fs QX (hp.path _) hf h24,aA,hlt,aa,hx,aA,setAt];have:=ih (pre++[⟨x.parent,x.cond,x.oU,Hf (j3 ns (e9 pre.length)) fs⟩]) (by
   rw[<-he];simp[uI])
  rw[aM,mM,bN]at this;rw[show pre++(⟨x.parent,x.cond,x.oU,Hf (j3 ns (e9 pre.length)) fs⟩:Node)::l=pre++([⟨x.parent,x.cond,x.oU,Hf (j3 ns (e9 pre.length)) fs⟩]++l)from rfl,this,vA];simp
theorem a00(n:aR)(fs:ar)(hf:FS fs)(h24:fs.length<=24)(ha:n.bU.length<=1048576)(hs:∀x∈n.bU,x.shape.wt<=1048576)(hp:KX n.nodes):j9 n fs=some (⟨n.rules,n.ends,zU n.bU fs,zV n.nodes fs,fs,n.cu⟩,()):=by
 unfold j9;have h1:=S6 n fs fs;have hl:=hp.len;rw[MX fs hf.1 (fun f ZY=>by have:=aL.ga (hf.2 f ZY);omega),aA,tK (by omega),aa];have e1:=S6 n fs fs (fun(kI:bE)=>(bif decide (n.nodes.length<=maxLen)then(dH n fs fs kI none n.nodes 0 n.nodes)else none)) hf n.bU [] hs;refine e1.trans ?_;rw[cC,tK (by omega),aa];exact XR n fs fs _ none hf h24 n.nodes hp n.nodes [] rfl
end Go.Cx
namespace Go.Cx
open Go.RowKit Go.Proofs Tryz
theorem NF(ns:bB):∀(k k' v:Nat),1<=v->v<=k->v<=k'->Jk ns k v=Jk ns k' v
 |0,_,v,h1,h2,_=>by omega
 |k+1,0,v,h1,_,h3=>by omega
 |k+1,k'+1,v,h1,h2,h3=>by
  unfold Jk;cases hx:ns[v]? with
  |none=>rfl
  |some x=>
   dsimp only;by_cases hp:1<=x.parent/\x.parent<(v:Int)
   ·rw[bM hp,bM hp,NF ns k k' x.parent.toNat (by omega) (by omega) (by omega)]
   ·rw[b9 hp,b9 hp]
theorem qW(ns:bB):j3 ns (e9 0)=[]:=by unfold j3 e9;rw[b9 (by omega)]
theorem wN{ns:bB}{i:Nat}{x:Node}(hx:ns[i]?=some x)(h1:1<=i){p:Nat}(hp:x.parent=e9 p)(hpi:p<i):j3 ns (e9 i)=j3 ns (e9 p)++[x.cond]:=by
 have hl:=(aD.1 hx).1;unfold e9 at hp;have e1:j3 ns (e9 i)=Fu ns i i:=by unfold j3 e9;rw[bM (by omega)];rfl
 obtain⟨k,rfl⟩:∃k,i=k+1:=⟨i-1,by omega⟩
 rw[e1,OP hx];by_cases h0:1<=p
 ·rw[bM (by omega)];have e2:j3 ns (e9 p)=Fu ns p p:=by unfold j3 e9;rw[bM (by omega)];rfl
  rw[e2,hp,sL];unfold Fu;rw[NF ns k p p h0 (by omega) (bH _)]
 ·rw[b9 (by omega),show p=0 by omega,qW]
def NR(ns:bB):Prop:=∀(i:Nat) x,1<=i->ns[i]?=some x->∃p:Nat,x.parent=e9 p/\p<i
theorem Gi{ns:bB}(hb:NR ns)(m:bB):∀(n i:Nat),i<=n->i<ns.length->j3 (ns++m) (e9 i)=j3 ns (e9 i):=by
 intro n
 induction n with
 |zero=>
  intro i h1 _;rw[show i=0 by omega,qW,qW]
 |succ n ih=>
  intro i h1 h2;by_cases h0:i=0
  ·rw[h0,qW,qW]
  ·have hx:ns[i]?=some ns[i]:=aV h2;have hx':(ns++m)[i]?=some ns[i]:=by rw[aj h2];exact hx
   obtain⟨p,hp,hpi⟩:=hb i _ (by omega) hx;rw[wN hx (by omega) hp hpi,wN hx' (by omega) hp hpi,ih p (by omega) (by omega)]
structure zS(R:List aI->Prop)(ns:List Node):Prop where
 pos:1<=ns.length
 below:NR ns
 path:∀i:Nat,1<=i->i<ns.length->R (j3 ns (e9 i))
theorem M9{p:Int}{c:aI}:∀ {l:bB} {i j:Nat},Jr p c l i=some j->∃x,l[j-i]?=some x/\i<=j/\0<j/\x.parent=p/\x.cond=c
 |x::l,i,j,h=>by
  unfold Jr at h;split at h
  ·rename_i hc;cases h;exact⟨x,by simp,bH _,hc.1,hc.2.1,hc.2.2⟩
  ·obtain⟨y,h1,h2,h3,h4,h5⟩:=M9 h;refine⟨y,?_,by omega,h3,h4,h5⟩;rw[show j-i=(j-(i+1))+1 by omega];exact h1
theorem zS.step{R:aY->Prop}{al:bE}{ns:bB}(h:zS R ns){a:Nat}(ha:a<ns.length){c:aI}(hR:R (j3 ns (e9 a)++[c])):
 zS R (HR al ns (e9 a) c).1.2/\∃b:Nat,(HR al ns (e9 a) c).2=e9 b/\b<(HR al ns (e9 a) c).1.2.length/\j3 (HR al ns (e9 a) c).1.2 (e9 b)=j3 ns (e9 a)++[c]:=by
 unfold HR;cases hc:Jr (e9 a) c ns 0 with
 |some j=>
  obtain⟨x,h1,h2,h3,h4,h5⟩:=M9 hc;rw[sO]at h1;have hj:=(aD.1 h1).1;obtain⟨p,hp,VB⟩:=h.below j x (by omega) h1;have:p=a:=by rw[hp]at h4;unfold e9 at h4;omega
  subst this;exact⟨h,j,rfl,hj,by rw[wN h1 (by omega) hp VB,h5]⟩
 |none=>
  dsimp only;have hbel:NR (ns++[⟨e9 a,c,(Na al c).2,[]⟩]):=by
   intro i x h1 hx;by_cases hi:i<ns.length
   ·rw[aj hi]at hx;exact h.below i x h1 hx
   ·rw[av (by omega)]at hx;have hi2:i=ns.length:=by
     have:=(aD.1 hx).1;simp at this;omega
    rw[hi2,lI]at hx;cases hx;exact⟨a,rfl,by omega⟩
  have hnew:j3 (ns++[⟨e9 a,c,(Na al c).2,[]⟩]) (e9 ns.length)=j3 ns (e9 a)++[c]:=by
   have hx:(ns++[(⟨e9 a,c,(Na al c).2,[]⟩:Node)])[ns.length]?=some ⟨e9 a,c,(Na al c).2,[]⟩:=by simp
   have h1:=h.pos;rw[wN hx (by omega) (p:=a) rfl ha,Gi h.below _ a a (bH _) ha]
  refine⟨⟨by simp,hbel,fun i h1 h2=>?_⟩,ns.length,rfl,by simp,hnew⟩;by_cases hi:i<ns.length
  ·rw[Gi h.below _ i i (bH _) hi];exact h.path i h1 hi
  ·have:i=ns.length:=by simp at h2;omega
   rw[this,hnew];exact hR
theorem zS.rule{R:aY->Prop}:∀(cs:aY) {al:bE} {ns:bB} {a:Nat},zS R ns->a<ns.length->(∀j:Nat,1<=j->j<=cs.length->R (j3 ns (e9 a)++cs.take j))->
 zS R (cs.foldl Eg ((al,ns),e9 a)).1.2/\∃b:Nat,(cs.foldl Eg ((al,ns),e9 a)).2=e9 b/\b<(cs.foldl Eg ((al,ns),e9 a)).1.2.length/\j3 (cs.foldl Eg ((al,ns),e9 a)).1.2 (e9 b)=j3 ns (e9 a)++cs
 | [],al,ns,a,h,ha,_=>⟨h,a,rfl,ha,by simp⟩
 |c::cs,al,ns,a,h,ha,hR=>by
  obtain⟨h1,b,h2,h3,h4⟩:=h.step (al:=al) ha (c:=c) (by have:=hR 1 (bH _) (by simp);simpa using this);have e:Eg ((al,ns),e9 a) c=(((HR al ns (e9 a) c).1.1,(HR al ns (e9 a) c).1.2),e9 b):=by
   show HR al ns (e9 a) c=_;rw[<-h2]
  rw[cj,e];obtain⟨k1,d,k2,k3,k4⟩:=zS.rule cs (al:=(HR al ns (e9 a) c).1.1) h1 h3 (fun j DU hj2=>by
   rw[h4,bN];have:=hR (j+1) (by omega) (by simp;omega);simpa using this)
  exact⟨k1,d,k2,k3,by rw[k4,h4];simp⟩
theorem Uv(al:bE)(ns:bB)(p:Int)(c:aI):∃m,(HR al ns p c).1.2=ns++m:=by
 unfold HR;cases Jr p c ns 0 with
 |some i=>exact⟨[],by simp⟩
 |none=>exact⟨[⟨p,c,(Na al c).2,[]⟩],rfl⟩
theorem Pe:∀(cs:aY) (s:(bE×bB)×Int),∃m,(cs.foldl Eg s).1.2=s.1.2++m
 | [],s=>⟨[],by simp⟩
 |c::cs,s=>by
  obtain⟨m,h⟩:=Uv s.1.1 s.1.2 s.2 c;obtain⟨m2,h2⟩:=Pe cs (Eg s c);refine⟨m++m2,?_⟩;rw[cj,h2];show(HR s.1.1 s.1.2 s.2 c).1.2++m2=_;rw[h,bN]
def Ox(rs:af)(p:aY):Prop:=∃r∈rs,∃j:Nat,1<=j/\j<=(gG r).length/\p=(gG r).take j
theorem NB(all:af):∀(l:af) (al:bE) (ns:bB) (es:bZ),(∀r∈l,r∈all)->zS (Ox all) ns->
 zS (Ox all) (l.foldl G1 ((al,ns),es)).1.2/\(∃m,(l.foldl G1 ((al,ns),es)).1.2=ns++m)/\∃fs,(l.foldl G1 ((al,ns),es)).2=es++fs/\fs.length=l.length/\
  ∀(i:Nat) r,l[i]?=some r->∃b:Nat,fs[i]?=some (e9 b)/\b<(l.foldl G1 ((al,ns),es)).1.2.length/\j3 (l.foldl G1 ((al,ns),es)).1.2 (e9 b)=gG r
 | [],al,ns,es,_,h=>⟨h,⟨[],by simp⟩,[],by simp,rfl,fun i r hr=>by simp at hr⟩
 |r::l,al,ns,es,hm,h=>by
  obtain⟨h1,b,h2,h3,h4⟩:=zS.rule (gG r) (al:=al) h (a:=0) (by have:=h.pos;omega) (fun j DU hj2=>by
   rw[qW,cC];exact⟨r,hm r (by simp),j,DU,hj2,rfl⟩)
  obtain⟨m1,hm1⟩:=Pe (gG r) ((al,ns),e9 0);obtain⟨k1,⟨m2,hm2⟩,fs,k2,k3,k4⟩:=NB all l ((gG r).foldl Eg ((al,ns),e9 0)).1.1 ((gG r).foldl Eg ((al,ns),e9 0)).1.2 (es++[e9 b]) (fun x hx=>hm x (by simp[hx])) h1;have e:G1 ((al,ns),es) r=((((gG r).foldl Eg ((al,ns),e9 0)).1.1,((gG r).foldl Eg ((al,ns),e9 0)).1.2),es++[e9 b]):=by
   rw[<-h2];rfl
  rw[cj,e];refine⟨k1,⟨m1++m2,by rw[hm2,hm1,bN]⟩,e9 b::fs,by rw[k2];simp,by simp[k3],?_⟩;intro i x hx;cases i with
  |zero=>
   have:r=x:=by simpa using hx
   subst this;refine⟨b,rfl,by rw[hm2];simp;omega,?_⟩;rw[hm2,Gi h1.below _ b b (bH _) h3,h4,qW];rfl
  |succ i=>exact k4 i x (by simpa using hx)
theorem R2(R:aY->Prop)(tk:bX):zS R [root tk]:=
 ⟨bH _,fun i x h1 hx=>by
  have:=(aD.1 hx).1;simp at this;omega,fun i h1 h2=>by simp at h2;omega⟩
theorem CK(tk:bX)(rs:af):zS (Ox rs) (kJ tk rs).1.2/\(kJ tk rs).2.length=rs.length/\∀(i:Nat) r,rs[i]?=some r->∃b:Nat,(kJ tk rs).2[i]?=some (e9 b)/\b<(kJ tk rs).1.2.length/\j3 (kJ tk rs).1.2 (e9 b)=gG r:=by
 obtain⟨h1,_,fs,h2,h3,h4⟩:=NB rs rs [] [root tk] [] (fun r hr=>hr) (R2 _ tk);rw[cC]at h2;refine⟨h1,?_,?_⟩
 ·show(rs.foldl G1 (([],[root tk]),[])).2.length=_;rw[h2,h3]
 ·intro i r hr;obtain⟨b,k1,k2,k3⟩:=h4 i r hr;refine⟨b,?_,k2,k3⟩;show(rs.foldl G1 (([],[root tk]),[])).2[i]?=_;rw[h2];exact k1
theorem Mx{r:aH}(h:kL r=true):∃c cs,gG r=c::cs/\c.kind=1:=by
 have hb:=LF h;cases hc:r.conds with
 |nil=>
  unfold kL at h;rw[hc]at h;simp at h
 |cons c cs=>
  refine⟨J7 (mI r) c,cs.map (J7 (mI r)),by unfold gG;rw[hc];rfl,?_⟩;exact(IG (pre:=[]) (i:=0) (c:=c) (rest:=cs) (by rw[cC,<-hc];exact hb)).2.1 rfl
theorem KG{rs:af}(h:∀r∈rs,kL r=true){p:aY}(hp:Ox rs p):p.length<=4/\∃c cs,p=c::cs/\c.kind=1:=by
 obtain⟨r,hr,j,h1,h2,rfl⟩:=hp;have:=vT (h r hr);refine⟨by rw[cG];omega,?_⟩;obtain⟨c,cs,e,hk⟩:=Mx (h r hr);obtain⟨j,rfl⟩:∃k,j=k+1:=⟨j-1,by omega⟩
 exact⟨c,cs.take j,by rw[e];rfl,hk⟩
theorem RC{c:aI}{cs:aY}(hk:c.kind=1):Hf (c::cs) []=[]:=by
 have h0:∀(l:aY),l.foldl (zJ []) []=[]:=by
  intro l
  induction l with
  |nil=>rfl
  |cons x l ih=>rw[cj];exact ih
 unfold Hf;rw[cj];have:zJ [] [⟨[],[]⟩] c=[]:=by
  unfold zJ Iv;rw[cV hk];rfl
 rw[this,h0]
theorem My{r:aH}(h:kL r=true):∀c∈gG r,c.pat.rel.length<=8/\c.pat.args.length<=3/\∀x∈c.pat.args,x.length<=16:=by
 intro c' V8;obtain⟨c,hc,rfl⟩:=cO.1 V8;obtain⟨h1,h2,h3,h4,h5⟩:=IF (HH h c hc);have hV:∀x∈c.pat.args++[c.left,c.right],nK x=true->x∈zi r.conds:=fun x hx hv=>Fm.2 ⟨bp.2 ⟨c,hc,hx⟩,hv⟩
 refine⟨h1,by show(c.pat.args.map _).length<=3;rw[ai];exact h2,fun x hx=>?_⟩;obtain⟨y,hy,rfl⟩:=cO.1 hx;exact Fw h (h3 y hy) (hV y (by simp[hy]))
theorem Tu{p:aL}(h1:p.rel.length<=8)(h2:p.args.length<=3)(h3:∀x∈p.args,x.length<=16):(Ef p).wt<=1048576:=by
 have a3:=Ht (p.args.map (CH (p.args.foldl jM []))) (fun x hx=>by
  obtain⟨y,hy,rfl⟩:=cO.1 hx;exact YX (by omega) (h3 y hy))
 rw[ai]at a3;show aL.wt ⟨p.rel,p.args.map (CH (p.args.foldl jM []))⟩<=1048576;unfold aL.wt;dsimp only;unfold tw at*;omega
def sR(al:bE):Prop:=∀x∈al,x.shape.wt<=1048576/\x.facts=[]
theorem Nb{al:bE}{ns:bB}{p:Int}{c:aI}(h:sR al)(hc:(Ef c.pat).wt<=1048576):sR (HR al ns p c).1.1:=by
 unfold HR;cases Jr p c ns 0 with
 |some i=>exact h
 |none=>
  show sR (Na al c).1;unfold Na;by_cases hk:c.kind=1\/c.kind=2
  ·rw[bM hk];unfold UO;cases UP (Ef c.pat) al 0 with
   |some i=>exact h
   |none=>
    intro x hx;rcases aU.1 hx with hx|hx
    ·exact h x hx
    ·rw[dX.1 hx];exact⟨hc,rfl⟩
  ·rw[b9 hk];exact h
theorem JB:∀(cs:aY) (s:(bE×bB)×Int),sR s.1.1->(∀c∈cs,(Ef c.pat).wt<=1048576)->sR (cs.foldl Eg s).1.1
 | [],_,h,_=>h
 |c::cs,s,h,hc=>JB cs (Eg s c) (Nb h (hc c (by simp))) (fun x hx=>hc x (by simp[hx]))
theorem C5(tk:bX){rs:af}(h:∀r∈rs,kL r=true):sR (kJ tk rs).1.1:=by
 have main:∀(l:af) (z:(bE×bB)×bZ),(∀r∈l,kL r=true)->sR z.1.1->sR (l.foldl G1 z).1.1:=by
  intro l
  induction l with
  |nil=>intro z _ hz;exact hz
  |cons r l ih=>
   intro z hl hz;refine ih (G1 z r) (fun x hx=>hl x (by simp[hx])) ?_;exact JB (gG r) (z.1,0) hz (fun c hc=>by
    obtain⟨p1,p2,p3⟩:=My (hl r (by simp)) c hc;exact Tu p1 p2 p3)
 exact main rs _ h (fun x hx=>by cases hx)
theorem Pf(tk:bX){rs:af}(h:∀r∈rs,kL r=true)(h6:rs.length<=6):KX (kJ tk rs).1.2:=by
 have hp:=(CK tk rs).1;have hl:=JC tk h h6;refine⟨by omega,?_,?_⟩
 ·intro x hx;obtain⟨i,hi⟩:=cX hx;have Nw:=(aD.1 hi).1;by_cases h0:i=0
  ·subst h0;rw[tS]at hi;cases hi;unfold root aI.wt;simp[qB,tw]
  ·obtain⟨p,hpp,hpi⟩:=hp.below i x (by omega) hi;obtain⟨r,hr,j,j1,j2,e⟩:=hp.path i (by omega) Nw;rw[wN hi (by omega) hpp hpi]at e;have hm:x.cond∈gG r:=cM (by rw[<-e];simp:x.cond∈(gG r).take j);exact J3 (h r hr) _ hm
 ·intro i;by_cases hi:1<=i/\i<(kJ tk rs).1.2.length
  ·exact(KG h (hp.path i hi.1 hi.2)).1
  ·unfold j3 e9;rw[b9 (by omega)];simp
theorem Xw(rs:af)(fs:ar)(t:Int)(hr:qB aH.wt rs<=1048576)(hb:th rs=true)(hf:FS fs)(h24:fs.length<=24):qe rs fs t=some ⟨rs,(kJ [] rs).2,zU (kJ [] rs).1.1 fs,zV (kJ [] rs).1.2 fs,fs,t⟩:=by
 have h6:rs.length<=6:=by unfold th at hb;simp only[aX,bO]at hb;omega
 have hv:=tj hb;have hsh:=C5 [] hv;have hal:(kJ [] rs).1.1.length<=1048576:=by
  have main:∀(l:af) (z:(bE×bB)×bZ),(∀r∈l,kL r=true)->(l.foldl G1 z).1.1.length<=z.1.1.length+4*l.length:=by
   intro l
   induction l with
   |nil=>intro z _;exact bH _
   |cons r l ih=>
    intro z hl;have h1:=ih (G1 z r) (fun x hx=>hl x (by simp[hx]));have h2:=(CJ (gG r) (z.1,0)).1;have h3:=vT (hl r (by simp));have h4:(G1 z r).1.1.length=((gG r).foldl Eg (z.1,0)).1.1.length:=rfl;rw[cj,aG];dsimp only at h2;omega
  have:=main rs (([],[root []]),[]) hv;unfold kJ;simp only[b8]at this;omega
 unfold qe;rw[a2k rs hr hb,aA,a00 _ fs hf h24 hal (fun x hx=>(hsh x hx).1) (Pf [] hv h6)];rfl
theorem QO{al:bE}(h:sR al):zU al []=al:=by
 unfold zU;have:∀l:bE,(∀x∈l,x.facts=[])->l.map (fun a=>(⟨a.shape,DH a.shape [] []⟩:aW))=l:=by
  intro l
  induction l with
  |nil=>intro _;rfl
  |cons x l ih=>
   intro hl;rw[bI,ih (fun y hy=>hl y (by simp[hy]))];have:=hl x (by simp);cases x;simp only at this;subst this;rfl
 exact this al fun x hx=>(h x hx).2
theorem Uw{al:bE}{ns:bB}{p:Int}{c:aI}(h:∀x∈ns,x.tokens=[]):∀x∈(XO al ns p c).1.2,x.tokens=[]:=by
 unfold XO;cases Jr p c ns 1 with
 |some i=>exact h
 |none=>
  intro x hx;rcases aU.1 hx with hx|hx
  ·exact h x hx
  ·rw[dX.1 hx]
theorem Pc:∀(cs:aY) (s:(bE×bB)×Int),(∀x∈s.1.2,x.tokens=[])->∀x∈(cs.foldl YY s).1.2,x.tokens=[]
 | [],_,h=>h
 |c::cs,s,h=>Pc cs (YY s c) (Uw h)
theorem Vo(rs:af):∀x∈(Vn rs).1.2,x.tokens=[]:=by
 have main:∀(l:af) (z:(bE×bB)×bZ),(∀x∈z.1.2,x.tokens=[])->∀x∈(l.foldl UY z).1.2,x.tokens=[]:=by
  intro l
  induction l with
  |nil=>intro z hz;exact hz
  |cons r l ih=>intro z hz;exact ih (UY z r) (Pc (gG r) (z.1,0) hz)
 exact main rs _ (fun x hx=>by cases hx)
theorem IR(ns:bB):∀(l:bB) (i:Nat),(∀x∈l,x.tokens=[])->(∀j:Nat,i<=j->j<i+l.length->Hf (j3 ns (e9 j)) []=[])->vA ns [] l i=l
 | [],_,_,_=>rfl
 |x::l,i,ht,hp=>by
  rw[vA,hp i (bH _) (by simp),IR ns l (i+1) (fun y hy=>ht y (by simp[hy])) (fun j h1 h2=>hp j (by omega) (by simp only[aG];omega))];have:=ht x (by simp);cases x;simp only at this;subst this;rfl
theorem QS{rs:af}(h:∀r∈rs,kL r=true):zV (kJ [] rs).1.2 []=(kJ [⟨[],[]⟩] rs).1.2:=by
 have hp:=(CK [] rs).1;have e:(kJ [] rs).1.2=root []::(Vn rs).1.2:=by rw[tS]
 have e2:(kJ [⟨[],[]⟩] rs).1.2=root [⟨[],[]⟩]::(Vn rs).1.2:=by rw[tS]
 have hlen:(kJ [] rs).1.2.length=(Vn rs).1.2.length+1:=by rw[e];rfl
 unfold zV;rw[e2];have h1:=IR (kJ [] rs).1.2 (Vn rs).1.2 1 (Vo rs) (fun j j1 j2=>by
  obtain⟨_,c,cs,ec,hk⟩:=KG h (hp.path j j1 (by rw[hlen];omega));rw[ec];exact RC hk)
 have h2:vA (kJ [] rs).1.2 [] (kJ [] rs).1.2 0=vA (kJ [] rs).1.2 [] (root []::(Vn rs).1.2) 0:=by rw[<-e]
 rw[h2,vA,h1,qW];rfl
end Go.Cx
namespace Go.Cx
open Go.RowKit Go.Proofs Tryz
def Mm(rs:af)(fs:ar)(t:Int):aR:=⟨rs,(kJ [] rs).2,zU (kJ [] rs).1.1 fs,zV (kJ [] rs).1.2 fs,fs,t⟩
theorem FS.a0V{fs:ar}(h:qB aL.wt fs<=1048576):FS fs:=⟨by have:=oQ aL.wt fs;omega,fun f hf=>by have:=qE (w:=aL.wt) hf;omega⟩
end Go.Cx
namespace Go.Cx
open Go.RowKit Go.Proofs Tryz
theorem Pg{fs:ar}(hf:FS fs):∀(cs:aY) (l:bX) (n:Nat),(∀c∈cs,c.wt<=1048576)->(∀t∈l,TK n t)->∀t∈cs.foldl (zJ fs) l,TK (n+cs.length) t
 | [],l,n,_,hl=>hl
 |c::cs,l,n,hc,hl=>by
  have:=Pg hf cs (zJ fs l c) (n+1) (fun x hx=>hc x (by simp[hx])) (PW hl (hc c (by simp)) hf);rw[aG,show n+(cs.length+1)=n+1+cs.length from by omega];exact this
theorem tR{α:Type}{m:α->Nat}{B:Nat}:∀(l:List α),(∀x∈l,m x<=B)->gF m l<=B*l.length
 | [],_=>by simp[gF]
 |x::l,h=>by
  have h1:=tR l fun y hy=>h y (by simp[hy])
  have h2:=h x (by simp);rw[pE,aG,Nat.mul_add];omega
theorem K7{n:Nat}(l:ar)(hl:l.length<=n)(hf:∀f∈l,f.wt<=1048576):gF aL.j5 l<=6291462*n:=by
 have:=tR (m:=aL.j5) (B:=6291462) l fun f hf'=>by have:=aL.wL f;have:=hf f hf';omega
 exact cZ this (dw _ hl)
theorem Qp(l:aQ)(h:PB l):gF aS.j5 l<=2*1048576:=by
 have:=tR (m:=aS.j5) (B:=2) l fun f _=>by simp[aS.j5]
 exact cZ this (dw _ h.1)
theorem TK.j5{t:aq}(h:TK 4 t):t.j5<=100000000:=by
 have h1:=K7 (n:=4) t.facts h.1 h.2.1;have h2:=Qp t.bind h.2.2;unfold aq.j5;omega
end Go.Cx
namespace Go.Cx
open Go.RowKit Go.Proofs Tryz
theorem Jy(ns:bB)(fs:ar):∀(l:bB) (i j:Nat),(vA ns fs l i)[j]?=(l[j]?).map fun x=>⟨x.parent,x.cond,x.oU,Hf (j3 ns (e9 (i+j))) fs⟩
 | [],_,_=>by simp[vA]
 |x::l,i,0=>by simp[vA]
 |x::l,i,j+1=>by
  rw[vA,di,di,Jy ns fs l (i+1) j,show i+1+j=i+(j+1)by omega]
end Go.Cx
namespace Go.Cx
open Go.RowKit Go.Proofs Tryz
theorem Ju{a b:Bytes}(h:yf a b>0):yf b a<0:=by
 unfold yf at h⊢;by_cases h1:Op.bytesLess a b=true
 ·rw[bM h1]at h;omega
 ·rw[b9 h1]at h;by_cases h2:a=b
  ·rw[bM h2]at h;omega
  ·have h3:Op.bytesLess b a=true:=by
    cases hb:Op.bytesLess b a with
    |true=>rfl
    |false=>exact absurd (GM (by simpa using h1) hb) h2
   rw[bM h3];omega
theorem Jv{a b:Bytes}(h:yf a b=0):a=b:=cq fun hne=>V1 hne h
theorem ID{a b:Bytes}(h:yf a b<0):yf b a>0:=by
 unfold yf at h⊢;by_cases h1:Op.bytesLess a b=true
 ·have h3:=Ez h1;have h4:¬(Op.bytesLess b a=true):=by rw[h3];simp
  have h5:¬b=a:=fun e=>by subst e;rw[s7]at h1;cases h1
  rw[b9 h4,b9 h5];omega
 ·rw[b9 h1]at h;by_cases h2:a=b
  ·rw[bM h2]at h;omega
  ·rw[b9 h2]at h;omega
theorem Jt(a b:Bytes):(IA a b>0->IA b a<0)/\(IA a b=0->a=b)/\(IA a b<0->IA b a>0):=by
 have num:∀ {s:Bytes} {n:Nat},DI s=some n->Lib.decDigits n=s:=by
  intro s n h;unfold DI at h;split at h
  ·split at h
   ·split at h
    ·rename_i h2;cases h;exact h2
    ·cases h
   ·cases h
  ·cases h
 unfold IA;cases ha:DI a with
 |none=>
  cases hb:DI b with
  |none=>exact⟨Ju,Jv,ID⟩
  |some y=>simp
 |some x=>
  cases hb:DI b with
  |none=>simp
  |some y=>
   simp only[IC];refine⟨fun h=>?_,fun h=>?_,fun h=>?_⟩
   ·split at h
    ·omega
    ·split at h
     ·rw[bM (by omega)];omega
     ·omega
   ·split at h
    ·omega
    ·split at h
     ·omega
     ·have:x=y:=by omega
      rw[<-num ha,<-num hb,this]
   ·split at h
    ·rw[b9 (by omega),bM (by omega)];omega
    ·split at h<;>omega
theorem IK{α:Type}{g:α->α->Int}(hg:∀a b,(g a b>0->g b a<0)/\(g a b=0->a=b)/\(g a b<0->g b a>0)):∀(a b:List α),
 (∀z,tJ g a b=some z->z≠0/\∃y,tJ g b a=some y/\(z>0->y<0)/\(z<0->y>0))/\(tJ g a b=none->tJ g b a=none/\(a.length=b.length->a=b))
 | [],[]=>⟨fun z h=>(by simp[tJ]at h),fun _=>⟨rfl,fun _=>rfl⟩⟩
 | [],y::ys=>⟨fun z h=>(by simp[tJ]at h),fun _=>⟨by simp[tJ],fun h=>by simp at h⟩⟩
 |x::xs,[]=>⟨fun z h=>(by simp[tJ]at h),fun _=>⟨by simp[tJ],fun h=>by simp at h⟩⟩
 |x::xs,y::ys=>by
  obtain⟨i1,i2⟩:=IK hg xs ys;obtain⟨g1,g2,g3⟩:=hg x y;by_cases h0:g x y=0
  ·have e:=g2 h0;subst e;simp only[tJ,h0,ne_eq,not_true_eq_false,vb];exact⟨i1,fun h=>⟨(i2 h).1,fun hl=>by rw[(i2 h).2 (by simpa using hl)]⟩⟩
  ·have h1:g y x≠0:=by
    intro e;by_cases hp:g x y>0
    ·have:=g1 hp;omega
    ·have:=g3 (by omega);omega
   simp only[tJ,ne_eq,h0,h1,not_false_eq_true,nM];refine⟨fun z h=>?_,fun h=>by cases h⟩;cases h;exact⟨h0,_,rfl,g1,g3⟩
theorem Q8{α:Type}{g:α->α->Int}(hg:∀a b,(g a b>0->g b a<0)/\(g a b=0->a=b)/\(g a b<0->g b a>0))(a b:List α):(cmpL g a b>0->cmpL g b a<0)/\(cmpL g a b=0->a=b)/\(cmpL g a b<0->cmpL g b a>0):=by
 obtain⟨h1,h2⟩:=IK hg a b;unfold cmpL;cases hd:tJ g a b with
 |some z=>
  obtain⟨hz,y,hy,p,q⟩:=h1 z hd;rw[hy];exact⟨p,fun e=>absurd e hz,q⟩
 |none=>
  obtain⟨h3,h4⟩:=h2 hd;rw[h3];simp only[IC];refine⟨fun h=>?_,fun h=>?_,fun h=>?_⟩
  ·split at h
   ·omega
   ·split at h
    ·rw[bM (by omega)];omega
    ·omega
  ·split at h
   ·omega
   ·split at h
    ·omega
    ·exact h4 (by omega)
  ·split at h
   ·rw[b9 (by omega),bM (by omega)];omega
   ·split at h<;>omega
theorem Q7(a b:aL):(F1 a b>0->F1 b a<0)/\(F1 a b=0->a=b)/\(F1 a b<0->F1 b a>0):=by
 obtain⟨h1,h2,h3⟩:=Q8 Jt a.args b.args;unfold F1;by_cases hr:a.rel=b.rel
 ·rw[b9 (by simpa using hr),b9 (by simpa using hr.symm)];refine⟨h1,fun h=>?_,h3⟩;cases a;cases b;simp only at hr h2 h;rw[hr,h2 h]
 ·have VC:b.rel≠a.rel:=fun e=>hr e.symm
  rw[bM hr,bM VC];exact⟨Ju,fun h=>absurd (Jv h) hr,ID⟩
theorem IE{a b c:Bytes}(h1:yf a b<0)(h2:yf b c<0):yf a c<0:=by
 have lt:∀ {x y:Bytes},yf x y<0->Op.bytesLess x y=true:=by
  intro x y h;unfold yf at h;split at h
  ·assumption
  ·split at h<;>omega
 have:=xp (lt h1) (lt h2);unfold yf;rw[bM this];omega
theorem V0{x y:Int}:IC x y<0↔x<y:=by
 unfold IC;split
 ·omega
 ·split<;>omega
theorem Nc{a b c:Bytes}(h1:IA a b<0)(h2:IA b c<0):IA a c<0:=by
 unfold IA at*;cases ha:DI a<;>cases hb:DI b<;>cases hc:DI c<;>simp only[ha,hb,hc]at h1 h2⊢ <;>first|omega|exact IE h1 h2| (rw[V0]at*;omega)
theorem Uz{α:Type}(g:α->α->Int):cmpL g [] []=0:=rfl
theorem Uy{α:Type}(g:α->α->Int)(y:α)(ys:List α):cmpL g [] (y::ys)= -1:=by
 unfold cmpL tJ IC;simp<;>omega
theorem P6{α:Type}(g:α->α->Int)(x:α)(xs:List α):cmpL g (x::xs) []=1:=by
 unfold cmpL tJ IC;simp<;>omega
theorem Ux{α:Type}(g:α->α->Int)(x y:α)(xs ys:List α):cmpL g (x::xs) (y::ys)=if g x y≠0 then g x y else cmpL g xs ys:=by
 unfold cmpL;rw[tJ];by_cases h:g x y≠0
 ·rw[bM h,bM h]
 ·rw[b9 h,b9 h,aG,aG];cases tJ g xs ys with
  |some z=>rfl
  |none=>
   show IC _ _=IC _ _;unfold IC
   congr 1
   ·rw[ya];omega
   ·congr 1
    rw[ya];omega
theorem IB{α:Type}{g:α->α->Int}(h0:∀a b,g a b=0->a=b)(ht:∀a b c,g a b<0->g b c<0->g a c<0):∀(a b c:List α),cmpL g a b<0->cmpL g b c<0->cmpL g a c<0
 | [],[],c,h1,_=>by rw[Uz]at h1;omega
 |_::_,[],c,h1,_=>by rw[P6]at h1;omega
 |_,y::ys,[],_,h2=>by rw[P6]at h2;omega
 | [],y::ys,z::zs,_,_=>by rw[Uy];omega
 |x::xs,y::ys,z::zs,h1,h2=>by
  rw[Ux]at*;by_cases e1:g x y=0
  ·have:=h0 _ _ e1;subst this;rw[b9 (by omega)]at h1;by_cases e2:g x z=0
   ·rw[b9 (by omega)]at h2⊢;exact IB h0 ht xs ys zs h1 h2
   ·rw[bM e2]at h2⊢;exact h2
  ·rw[bM e1]at h1;by_cases e2:g y z=0
   ·have:=h0 _ _ e2;subst this;rw[bM e1];exact h1
   ·rw[bM e2]at h2;have:=ht x y z h1 h2;rw[bM (by omega)];exact this
theorem Nd{a b c:aL}(h1:F1 a b<0)(h2:F1 b c<0):F1 a c<0:=by
 unfold F1 at*;by_cases e1:a.rel=b.rel
 ·by_cases e2:b.rel=c.rel
  ·rw[b9 (by simpa using e1)]at h1;rw[b9 (by simpa using e2)]at h2;rw[b9 (by simpa using e1.trans e2)];exact IB (fun a b=>(Jt a b).2.1) (fun _ _ _=>Nc) _ _ _ h1 h2
  ·rw[bM e2]at h2;rw[e1,bM e2];exact h2
 ·rw[bM e1]at h1;by_cases e2:b.rel=c.rel
  ·rw[<-e2,bM e1];exact h1
  ·rw[bM e2]at h2;have:=IE h1 h2;have hne:a.rel≠c.rel:=fun e=>by rw[e,Q9]at this;omega
   rw[bM hne];exact this
theorem Q6(a:aL):¬F1 a a<0:=by
 intro h;have:=(Q7 a a).2.2 h;omega
theorem Am{p:Option aL}{x:aL}{xs:ar}(h:chainB p (x::xs)=true):Bj x=true/\(∀q,p=some q->F1 q x<0)/\chainB (some x) xs=true:=by
 cases p with
 |none=>simp[chainB]at h;exact⟨h.1,by simp,h.2⟩
 |some q=>
  simp only[chainB,aX,bO]at h;exact⟨h.1.1,fun q' e=>by cases e;exact h.1.2,h.2⟩
theorem Js:∀ {l:ar} {p:aL},chainB (some p) l=true->∀x∈l,F1 p x<0
 | [],_,_,_,h=>by cases h
 |y::ys,p,h,x,hx=>by
  obtain⟨_,h2,h3⟩:=Am h;have hp:=h2 p rfl;rcases bG.1 hx with rfl|hx
  ·exact hp
  ·exact Nd hp (Js h3 x hx)
theorem F0:∀ {l:ar} {p:Option aL},chainB p l=true->l.Nodup
 | [],_,_=>List.nodup_nil
 |x::xs,p,h=>by
  obtain⟨_,_,h3⟩:=Am h;rw[eo];exact⟨fun hx=>Q6 x (Js h3 x hx),F0 h3⟩
theorem Lx{l:ar}(h:Aj l=true):l.Nodup:=by
 unfold Aj at h;simp only[aX]at h;exact F0 h.1
theorem Gv:∀ {l:ar} {p:Option aL},chainB p l=true->∀x∈l,Bj x=true
 | [],_,_,_,h=>by cases h
 |y::ys,p,h,x,hx=>by
  obtain⟨h1,_,h3⟩:=Am h;rcases bG.1 hx with rfl|hx
  ·exact h1
  ·exact Gv h3 x hx
end Go.Cx
namespace Go.Cx
open Go.RowKit Go.Proofs Tryz
def KD(A:bX):Prop:=A.Pairwise fun t u=>t.facts≠u.facts
theorem EP{c:aI}{t u:aq}{f:aL}(h:u∈ext1 c t f):u.facts=t.facts++[f]:=by
 unfold ext1 at h;cases hm:(yM c.pat f t.bind).2 with
 |false=>rw[hm]at h;cases h
 |true=>rw[hm,aa]at h;rw[dX.1 h]
theorem Iw{c:aI}{fs:ar}{t u:aq}(h:u∈Iv c fs t):(c.kind=1/\∃f∈fs,u.facts=t.facts++[f])\/(c.kind≠1/\u=t):=by
 unfold Iv at h;by_cases hk:c.kind=1
 ·rw[cV hk,aa]at h;obtain⟨f,hf,hu⟩:=bp.1 h;exact .inl ⟨hk,f,hf,EP hu⟩
 ·rw[bL hk,ay]at h;cases hh:MS c t.bind fs with
  |false=>rw[hh]at h;cases h
  |true=>rw[hh,aa]at h;exact .inr ⟨hk,dX.1 h⟩
theorem Vi{c:aI}{fs:ar}{A:bX}(hf:fs.Nodup)(hA:KD A):KD (zJ fs A c):=by
 unfold KD zJ;rw[zg];refine⟨fun t _=>?_,?_⟩
 ·unfold Iv;cases decide (c.kind=1)with
  |true=>
   rw[aa,zg];refine⟨fun f _=>?_,?_⟩
   ·unfold ext1;cases(yM c.pat f t.bind).2<;>simp
   ·exact List.Pairwise.imp (fun {f g} hne x hx y hy e=>by
     rw[EP hx,EP hy]at e;exact hne (by simpa using e)) hf
  |false=>cases MS c t.bind fs<;>simp
 ·exact List.Pairwise.imp (fun {t u} hne x hx y hy e=>by
   rcases Iw hx with⟨k,f,_,e1⟩|⟨k,e1⟩<;>rcases Iw hy with⟨k',g,_,e2⟩|⟨k',e2⟩
   ·rw[e1,e2]at e;exact hne (List.append_inj' e rfl).1
   ·exact k' k
   ·exact k k'
   ·rw[e1,e2]at e;exact hne e) hA
theorem KD.one(t:aq):KD [t]:=List.pairwise_singleton _ _
theorem PE{fs:ar}(hf:fs.Nodup):∀(cs:aY) {A:bX},KD A->KD (cs.foldl (zJ fs) A)
 | [],_,h=>h
 |c::cs,_,h=>PE hf cs (Vi hf h)
theorem W9{cs:aY}{fs:ar}(hf:fs.Nodup):KD (Hf cs fs):=PE hf cs (KD.one _)
end Go.Cx
namespace Go.Cx
open Go.RowKit Go.Proofs Tryz
end Go.Cx
namespace Go.Cx
open Go.RowKit Go.Proofs Tryz
structure ZG(n:aR):Prop where
 rules:qB aH.wt n.rules<=1048576
 facts:qB aL.wt n.facts<=1048576
 ends:n.ends.length<=1048576
 bU:n.bU.length<=1048576
 oU:∀a∈n.bU,a.shape.wt<=1048576/\FS a.facts
 nodes:n.nodes.length<=1048576
 node:∀x∈n.nodes,x.cond.wt<=1048576/\x.tokens.length<=1048576/\∀t∈x.tokens,TK 1048576 t
theorem MI{f:aL}(h:Bj f=true):f.wt<=100:=by
 unfold Bj at h;simp only[aX,bO,au]at h;obtain⟨h1,h2,h3⟩:=h;have a1:=K8 h2;have a2:=Ht f.args (fun x hx=>by have:=CD (h1 x hx);omega);unfold aL.wt tw;unfold tw at a2;omega
theorem I7{fs:ar}(h:Aj fs=true):∀f∈fs,Bj f=true:=by
 unfold Aj at h;simp only[aX]at h;exact Gv h.1
theorem KN{α:Type}{w:α->Nat}{B:Nat}:∀(l:List α),(∀x∈l,w x<=B)->qB w l<=(B+1)*l.length
 | [],_=>by simp[qB]
 |x::l,h=>by
  have h1:=KN l fun y hy=>h y (by simp[hy])
  have h2:=h x (by simp);rw[mL,aG,Nat.mul_add];omega
theorem I8{fs:ar}(h:Aj fs=true):qB aL.wt fs<=2424:=by
 have h1:=KN (w:=aL.wt) (B:=100) fs fun f hf=>MI (I7 h f hf)
 have h2:=CC h;have:(100+1)*fs.length<=(100+1)*24:=dw _ h2;omega
theorem QR(ns:bB)(fs:ar)(i:Nat):(zV ns fs)[i]?=(ns[i]?).map fun x=>⟨x.parent,x.cond,x.oU,Hf (j3 ns (e9 i)) fs⟩:=by
 unfold zV;rw[Jy,cY]
theorem Jx(ns:bB)(fs:ar):(zV ns fs).length=ns.length:=QT ns fs ns 0
theorem Ew{rs:af}(h:th rs=true):rs.length<=6:=by unfold th at h;simp only[aX,bO]at h;omega
theorem JD{rs:af}(tk:bX)(h:th rs=true):(kJ tk rs).1.1.length<=24:=by
 have h6:=Ew h;have main:∀(l:af) (z:(bE×bB)×bZ),(∀r∈l,kL r=true)->(l.foldl G1 z).1.1.length<=z.1.1.length+4*l.length:=by
  intro l
  induction l with
  |nil=>intro z _;exact bH _
  |cons r l ih=>
   intro z hl;have h1:=ih (G1 z r) (fun x hx=>hl x (by simp[hx]));have h2:=(CJ (gG r) (z.1,0)).1;have h3:=vT (hl r (by simp));have h4:(G1 z r).1.1.length=((gG r).foldl Eg (z.1,0)).1.1.length:=rfl;rw[cj,aG];dsimp only at h2;omega
 have:=main rs (([],[root tk]),[]) (tj h);unfold kJ;simp only[b8]at this;omega
theorem Mn{rs:af}{fs:ar}(h1:th rs=true)(h2:Aj fs=true){i:Nat}{x:Node}(hx:(zV (kJ [] rs).1.2 fs)[i]?=some x):x.cond.wt<=1048576/\x.tokens.length<=390625/\(∀t∈x.tokens,TK 4 t)/\KD x.tokens:=by
 have hv:=tj h1;have hok:=Pf [] hv (Ew h1);rw[QR]at hx;obtain⟨y,hy,rfl⟩:=Option.map_eq_some_iff.1 hx;have hFS:=FS.a0V (by have:=I8 h2;omega:qB aL.wt fs<=1048576);have QX:∀c∈j3 (kJ [] rs).1.2 (e9 i),c.wt<=1048576:=by
  intro c hc;obtain⟨z,hz,e⟩:=Mv hc;rw[<-e];exact hok.wt z hz
 refine⟨hok.wt y (aB hy),U5 (hok.path i) (CC h2),fun t ht=>?_,W9 (Lx h2)⟩;exact(Pg hFS _ [⟨[],[]⟩] 0 QX TL t ht).le (by have:=hok.path i;omega)
theorem YN{rs:af}{fs:ar}(t:Int)(h1:th rs=true)(h2:Aj fs=true)(hr:qB aH.wt rs<=1048576):ZG (Mm rs fs t):=by
 have hv:=tj h1;have h6:=Ew h1;have hw:=I8 h2;have hl:=JC [] hv h6;refine⟨hr,by show qB aL.wt fs<=1048576;omega,?_,?_,?_,?_,?_⟩
 ·show(kJ [] rs).2.length<=1048576;rw[(CK [] rs).2.1];omega
 ·show(zU (kJ [] rs).1.1 fs).length<=1048576;unfold zU;rw[ai];have:=JD [] h1;omega
 ·intro a ha;obtain⟨y,hy,rfl⟩:=cO.1 (show a∈(kJ [] rs).1.1.map _ from ha);refine⟨(C5 [] hv y hy).1,?_,fun f hf=>?_⟩
  ·have:=sw (fun f=>(yM y.shape f []).2) fs;have:=CC h2;show(DH y.shape [] fs).length<=1048576;unfold DH;omega
  ·have:=MI (I7 h2 f (fV.1 hf).1);omega
 ·show(zV (kJ [] rs).1.2 fs).length<=1048576;rw[Jx];omega
 ·intro x hx;obtain⟨i,hi⟩:=cX (show x∈zV (kJ [] rs).1.2 fs from hx);obtain⟨g1,g2,g3,_⟩:=Mn h1 h2 hi;exact⟨g1,by omega,fun t ht=>(g3 t ht).le (by omega)⟩
end Go.Cx
namespace Go.Cx
open Go.RowKit Go.Proofs Tryz
theorem QN(A:bE)(fs:ar):(zU A fs).length=A.length:=by unfold zU;rw[ai]
theorem Vf{rs:af}{fs:ar}(t:Int)(h1:th rs=true)(h2:Aj fs=true)(hr:qB aH.wt rs<=1048576):aR.L5 (Mm rs fs t)<=4611686018427387000:=by
 have hok:=YN t h1 h2 hr;have hv:=tj h1;have h6:=Ew h1;have h24:=CC h2;have hl:=JC [] hv h6;have a1:=Bz aH.j5 aH.wt rs (fun y=>aH.wL y);have a2:=tR (m:=fun _:Int=>1) (B:=1) (kJ [] rs).2 (fun _ _=>bH _);rw[(CK [] rs).2.1]at a2;have a3:=tR (m:=aW.j5) (B:=6291468+6291462*24) (zU (kJ [] rs).1.1 fs) (fun a ha=>by
  obtain⟨g1,g2⟩:=hok.oU a ha;have b1:=aL.wL a.shape;have b3:a.facts.length<=24:=by
   obtain⟨y,_,rfl⟩:=cO.1 ha;exact cZ (sw _ _) h24
  have b2:=K7 (n:=24) a.facts b3 g2.2;unfold aW.j5;unfold aL.j5 at b1;omega)
 have a4:=tR (m:=Node.j5) (B:=6291468+100000000*390625) (zV (kJ [] rs).1.2 fs) (fun x hx=>by
  obtain⟨i,hi⟩:=cX hx;obtain⟨g1,g2,g3,_⟩:=Mn h1 h2 hi;have b1:=aL.wL x.cond.pat;have b0:=aI.fT g1;have b2:=tR (m:=aq.j5) (B:=100000000) x.tokens (fun u hu=>(g3 u hu).j5);have b3:100000000*x.tokens.length<=100000000*390625:=dw _ g2;unfold Node.j5;unfold aL.j5 at b1;omega)
 have a5:=Bz aL.j5 aL.wt fs (fun y=>aL.wL y);have a6:=I8 h2;have a7:=JD [] h1;rw[QN]at a3;rw[Jx]at a4;have c3:(6291468+6291462*24)*(kJ [] rs).1.1.length<=(6291468+6291462*24)*24:=dw _ a7;have c4:(6291468+100000000*390625)*(kJ [] rs).1.2.length<=(6291468+100000000*390625)*25:=dw _ hl;unfold aR.L5 Mm;dsimp only;omega
theorem Q5:Aj []=true:=rfl
theorem QH{rs:af}(h:th rs=true):(⟨rs,(kJ [⟨[],[]⟩] rs).2,(kJ [⟨[],[]⟩] rs).1.1,(kJ [⟨[],[]⟩] rs).1.2,[],0⟩:aR)=Mm rs [] 0:=by
 have hv:=tj h;unfold Mm;rw[QO (C5 [] hv),QS hv];have e1:(kJ [⟨[],[]⟩] rs).2=(kJ [] rs).2:=by rw[tS,tS]
 have e2:(kJ [⟨[],[]⟩] rs).1.1=(kJ [] rs).1.1:=by rw[tS,tS]
 rw[e1,e2]
def UM:aR:=⟨[],[],[],[],[],0⟩
theorem Vq(rs:af)(h:qB aH.wt rs<=1048576):hG rs=some (bif th rs then(Mm rs [] 0,true)else(UM,false)):=by
 rw[Ye rs h];cases hb:th rs with
 |false=>rfl
 |true=>rw[aa,aa,QH hb]
theorem VJ(rs:af)(hr:qB aH.wt rs<=1048576)(hb:th rs=true):qe rs [] 0=some (Mm rs [] 0):=
 Xw rs [] 0 hr hb ⟨by simp,fun f hf=>by cases hf⟩ (by simp)
theorem VK(rs:af)(h:qB aH.wt rs<=1048576):gq rs=some (bif th rs then(Mm rs [] 0,true)else(UM,false)):=by
 unfold gq;rw[a2f rs h,aA];cases hb:th rs with
 |false=>rfl
 |true=>rw[c8,ay,VJ rs h hb];rfl
end Go.Cx
namespace Go.Cx
open Go.RowKit Go.Proofs Tryz
set_option maxRecDepth 100000
variable{Γ:pG}{N:Nat->St->Prop}
def jG(aC:af):Option Bool:=((qR aC 1048576).bind fun y1=>(bif decide ((y1:Int)<0)then(some true)else((kT aC).bind fun y4=>((hG y4).bind fun y6=>((kT aC).bind fun y8=>((gq y8).bind fun C8=>((jx C8.1 y6.1).bind fun Uc=>(bif !(Uc)then(some false)else(bif (C8.2:Bool) != y6.2 then(some false)else((kT aC).bind fun Z9=>((nr y8 Z9).bind fun RR=>(bif !(RR)then(some false)else((lY y8 1).bind fun RI=>(bif decide ((RI.2:Int)<0)then(some false)else((jx C8.1 y6.1).bind fun JK=>(bif !(JK)then(some false)else((mE C8.1 1).bind fun jj=>((k7 (⟨jj.1.rules,jj.1.ends,jj.1.bU,jj.1.nodes,jj.1.facts,C8.1.cu⟩:aR) 1).bind fun DM=>(bif decide ((DM:Int)<0)then(some false)else(bif (DM:Int) != jj.2 then(some false)else((kT aC).bind fun JL=>((gq JL).bind fun Ud=>((jx Ud.1 y6.1).bind fun LY=>(bif !(LY)then(some false)else(bif (Ud.2:Bool) != y6.2 then(some false)else((k7 (⟨jj.1.rules,jj.1.ends,jj.1.bU,jj.1.nodes,jj.1.facts,C8.1.cu⟩:aR) 1).bind fun xk=>(bif decide ((xk:Int)<0)then(some false)else(bif (xk:Int) != jj.2 then(some false)else(some true)))))))))))))))))))))))))))))
theorem su{aC:af}{r:Bool}(h:jG aC=some r):Good prog 4 [D.sl (aC.map aH.c)] (D.bool r):=by
 refine gd func4 [[none]] 96 fun hr Γ hΓ=>?_
 rw[jG]at h;obtain⟨y1,h2,h⟩:=aF h;obtain⟨h3,h⟩|⟨h3,h⟩:=aN h
 ·have h:=aJ h;subst h;exact(((aT.a [.dc (D.int .i64 y1)]).w (uy h2)).b h3).ret hΓ
 ·obtain⟨y4,h5,h⟩:=aF h;obtain⟨y6,h7,h⟩:=aF h;obtain⟨y8,h9,h⟩:=aF h;obtain⟨C8,h11,h⟩:=aF h;obtain⟨Uc,h13,h⟩:=aF h;have nL:=(((((((((((((aT.a [.dc (D.int .i64 y1)]).w (uy h2)).b h3).a [.dc (D.fr 31 4 (y4.map aH.c))]).w (nQ h5)).a [.dc (D.iE [D.agg [D.fr 31 4 (y6.1.rules.map aH.c),D.fr 3 1 (y6.1.ends.map jd),D.fr 124 3 (y6.1.bU.map aW.c),D.fr 73 8 (y6.1.nodes.map Node.c),D.fr 127 2 (y6.1.facts.map aL.c),D.int .i64 y6.1.cu],D.bool y6.2])]).w (xK h7)).a [.dc (D.fr 31 4 (y8.map aH.c))]).w (nQ h9)).a [.dc (D.iE [D.agg [D.fr 31 4 (C8.1.rules.map aH.c),D.fr 3 1 (C8.1.ends.map jd),D.fr 124 3 (C8.1.bU.map aW.c),D.fr 73 8 (C8.1.nodes.map Node.c),D.fr 127 2 (C8.1.facts.map aL.c),D.int .i64 C8.1.cu],D.bool C8.2])]).w (rF h11)).a [.dc (D.bool Uc)]).w (pq h13))
  obtain⟨h14,h⟩|⟨h14,h⟩:=aN h
  ·have h:=aJ h;subst h;exact((nL.r 4 h14).T 1).ret hΓ
  ·have gJ:=(nL.r 4 h14)
   obtain⟨h15,h⟩|⟨h15,h⟩:=aN h
   ·have h:=aJ h;subst h;exact(gJ.b h15).ret hΓ
   ·obtain⟨Z9,h17,h⟩:=aF h;obtain⟨RR,h19,h⟩:=aF h;have oR:=(((((gJ.b h15).a [.dc (D.fr 31 4 (Z9.map aH.c))]).w (nQ h17)).a [.dc (D.bool RR)]).w (qy h19))
    obtain⟨h20,h⟩|⟨h20,h⟩:=aN h
    ·have h:=aJ h;subst h;exact(oR.b h20).ret hΓ
    ·obtain⟨RI,h22,h⟩:=aF h;have nS:=(((oR.b h20).w (tH h22)).a [.gv [7] [(4,RI.1.map aH.c)] (D.int .i64 RI.2)])
     obtain⟨h23,h⟩|⟨h23,h⟩:=aN h
     ·have h:=aJ h;subst h;exact((nS.r 5 h23).T 5).ret hΓ
     ·obtain⟨JK,h25,h⟩:=aF h;have vB:=((((nS.r 3 h23).a [.dc (D.bool JK)]).w (pq h25)).r 2 h23)
      obtain⟨h26,h⟩|⟨h26,h⟩:=aN h
      ·have h:=aJ h;subst h;exact((vB.r 4 h26).T 1).ret hΓ
      ·obtain⟨jj,h28,h⟩:=aF h;obtain⟨DM,h30,h⟩:=aF h;have xh:=(((((vB.r 4 h26).b h15).w (yB h28)).a [.gv [8,9,10,11,12] [(4,jj.1.rules.map aH.c),(1,jj.1.ends.map jd),(3,jj.1.bU.map aW.c),(8,jj.1.nodes.map Node.c),(2,jj.1.facts.map aL.c)] (D.int .i64 jj.2),.dc (D.int .i64 DM)]).w (show Good prog 18 [D.agg [D.sl (jj.1.rules.map aH.c),D.sl (jj.1.ends.map jd),D.sl (jj.1.bU.map aW.c),D.sl (jj.1.nodes.map Node.c),D.sl (jj.1.facts.map aL.c),D.int .i64 C8.1.cu],D.int .i64 1] (D.int .i64 DM)from by first| (simpa only[bR,bI,bP,eM,dl]using gI h30)|exact gI h30| (have t:=gI h30;simp only[bR,eM,dl,aR.c]at t;exact t)))
       obtain⟨h31,h⟩|⟨h31,h⟩:=aN h
       ·have h:=aJ h;subst h;exact(xh.b h31).ret hΓ
       ·obtain⟨h32,h⟩|⟨h32,h⟩:=aN h
        ·have h:=aJ h;subst h;exact((xh.b h31).b h32).ret hΓ
        ·obtain⟨JL,h34,h⟩:=aF h;obtain⟨Ud,h36,h⟩:=aF h;obtain⟨LY,h38,h⟩:=aF h;have EY:=((((((((xh.b h31).b h32).a [.dc (D.fr 31 4 (JL.map aH.c))]).w (nQ h34)).a [.dc (D.iE [D.agg [D.fr 31 4 (Ud.1.rules.map aH.c),D.fr 3 1 (Ud.1.ends.map jd),D.fr 124 3 (Ud.1.bU.map aW.c),D.fr 73 8 (Ud.1.nodes.map Node.c),D.fr 127 2 (Ud.1.facts.map aL.c),D.int .i64 Ud.1.cu],D.bool Ud.2])]).w (rF h36)).a [.dc (D.bool LY)]).w (pq h38))
         obtain⟨h39,h⟩|⟨h39,h⟩:=aN h
         ·have h:=aJ h;subst h;exact((EY.r 4 h39).T 1).ret hΓ
         ·have Iz:=(EY.r 4 h39)
          obtain⟨h40,h⟩|⟨h40,h⟩:=aN h
          ·have h:=aJ h;subst h;exact(Iz.b h40).ret hΓ
          ·obtain⟨xk,h42,h⟩:=aF h;have Ji:=(((Iz.b h40).a [.dc (D.int .i64 xk)]).w (show Good prog 18 [D.agg [D.sl (jj.1.rules.map aH.c),D.sl (jj.1.ends.map jd),D.sl (jj.1.bU.map aW.c),D.sl (jj.1.nodes.map Node.c),D.sl (jj.1.facts.map aL.c),D.int .i64 C8.1.cu],D.int .i64 1] (D.int .i64 xk)from by first| (simpa only[bR,bI,bP,eM,dl]using gI h42)|exact gI h42| (have t:=gI h42;simp only[bR,eM,dl,aR.c]at t;exact t)))
           obtain⟨h43,h⟩|⟨h43,h⟩:=aN h
           ·have h:=aJ h;subst h;exact(Ji.b h43).ret hΓ
           ·obtain⟨h44,h⟩|⟨h44,h⟩:=aN h
            ·have h:=aJ h;subst h;exact((Ji.b h43).b h44).ret hΓ
            ·have h:=aJ h;subst h;exact((Ji.b h43).b h44).ret hΓ
end Go.Cx
namespace Go.Cx
open Go.RowKit Go.Proofs Tryz
namespace LawEmptyNetwork
theorem both(rs:af)(h:qB aH.wt rs<=1048576):∃s,hG rs=some s/\gq rs=some s/\(aR.L5 s.1:Int)<=4611686018427387000:=by
 refine⟨_,Vq rs h,VK rs h,?_⟩;cases hb:th rs with
 |false=>rw[ay];unfold aR.L5 UM;simp[gF]
 |true=>
  rw[aa];have:=Vf 0 hb Q5 h;dsimp only;omega
theorem YH(rs:af)(p9:gm (.sl (rs.map aH.c))):jG rs=some true:=by
 unfold jG;obtain⟨r0,e0,l0,w0⟩:=Od rs p9 1048576 (by omega) (by omega);rw[e0,aA];by_cases c0:r0<0
 ·simp[c0]
 have n0:decide ((r0:Int)<0)=false:=bL c0;rw[n0,ay];have w0:=w0 (by omega);have hw:qB aH.wt rs<=1048576:=by omega
 obtain⟨s,es,ei,hm⟩:=both rs (by omega);have b0:=Bz aH.j5 aH.wt rs (fun y=>aH.wL y);obtain⟨x0,m0,_⟩:=Iu rs 1 (by omega) (by omega);obtain⟨g0,p0,q0,z0⟩:=Jh s.1 1 (by omega) (by omega);have a2r:decide (((1+((gF aH.j5 rs:Nat):Int)):Int)<0)=false:=bL (by omega);have a2s:decide (((1+((aR.L5 s.1:Nat):Int)):Int)<0)=false:=bL (by omega);simp only[es,ei,Oi rs (by omega),IM,m0,z0,p0,q0,Kh,a2r,a2s,aA,decide_true,c8,j6,ay,aa,fD,cw]
theorem T0(rs:af):Good prog 4 [.sl (rs.map aH.c)] (.bool true):=
 Good.YP ⟨_,func4,rfl,by decide⟩ fun h=>su (YH rs (h _ (by simp)))
end LawEmptyNetwork
end Go.Cx
namespace Go.Cx
open Go.RowKit
inductive Sh where
 |int (k:IntKind)
 |str
 |bool
 |sl (row:List Sh)
mutual
inductive Hz:Sh->D->Prop
 |int (k:IntKind) (n:Int):Hz (.int k) (.int k n)
 |str (s:Bytes):Hz .str (.str s)
 |bool (b:Bool):Hz .bool (.bool b)
 |sl (row:List Sh) (rows:List aK):(∀r∈rows,oT row r)->Hz (.sl row) (.sl rows)
inductive oT:List Sh->List D->Prop
 |nil:oT [] []
 |cons (s:Sh) (ss:List Sh) (d:D) (ds:aK):Hz s d->oT ss ds->oT (s::ss) (d::ds)
end
theorem oT.app{s1 s2:List Sh}{d1 d2:aK}(h1:oT s1 d1)(h2:oT s2 d2):oT (s1++s2) (d1++d2):=by
 induction s1 generalizing d1 with
 |nil=>cases h1;exact h2
 |cons s s1 ih=>cases h1 with|cons _ _ d ds h h'=>exact .cons _ _ _ _ h (ih h')
theorem oT.length{s:List Sh}{d:aK}(h:oT s d):d.length=s.length:=by
 induction s generalizing d with
 |nil=>cases h;rfl
 |cons s ss ih=>cases h with|cons _ _ d ds h h'=>simp[ih h']
def L7(P:Program):Nat->List Field->List (List Sh)->Bool
 |_,[],[]=>true
 |off,f::fs,r::rs=>(f.offset==off)&&(r.length==P.cellsOf f.type)&&L7 P (off+r.length) fs rs
 |_,_,_=>false
def xC(P:Program):Nat->TypeId->Option (List Sh)
 |0,_=>none
 |n+1,t=>match P.underlying t with
  |some .bool=>some [.bool]
  |some (.int k)=>some [.int k]
  |some .string=>some [.str]
  |some (.slice e)=>(xC P n e).bind fun r=>if r.length=P.cellsOf e/\0<r.length then some [.sl r]else none
  |some (.struct fs)=>(fs.toList.mapM fun f=>xC P n f.type).bind fun rs=>if L7 P 0 fs.toList rs=true/\rs.flatten.length=P.cellsOf t then some rs.flatten else none
  |_=>none
theorem Mg{α β:Type}{f:α->Option β}:∀ {l:List α} {ys:List β},l.mapM f=some ys->ys.length=l.length/\∀(i:Nat) x,l[i]?=some x->∃y,ys[i]?=some y/\f x=some y:=by
 intro l
 induction l with
 |nil=>intro ys h;simp at h;subst h;simp
 |cons a l ih=>
  intro ys h;simp only[Ae,Option.bind_eq_bind,Option.pure_def]at h;cases ha:f a with
  |none=>simp[ha]at h
  |some b=>
   cases hl:l.mapM f with
   |none=>simp[ha,hl]at h
   |some bs=>
    simp[ha,hl]at h;subst h;obtain⟨h1,h2⟩:=ih hl;refine⟨by simp[h1],fun i x hx=>?_⟩;cases i with
    |zero=>simp at hx;subst hx;exact⟨b,by simp,ha⟩
    |succ i=>simp at hx;obtain⟨y,k1,k2⟩:=h2 i x hx;exact⟨y,by simpa using k1,k2⟩
section
variable{P:Program}{w:World}{H:Type}{enc:TypeId×Value->H}{base:Nat}{sp:Nat->Bool}{held:Bool}
theorem I9{a:Addr}{n:Nat}{cs:bY}(h:w.cells? base a n=some cs):cs.length=n/\∀(j:Nat) c,cs[j]?=some c->w.cell? (a.add j)=some c:=by
 unfold World.cells? at h;split at h
 ·obtain⟨h1,h2⟩:=Mg h;refine⟨by simpa using h1,fun j c hj=>?_⟩;have hlt:j<n:=by have:=(aD.1 hj).1;rw[h1]at this;simpa using this
  obtain⟨y,k1,k2⟩:=h2 j j (by simp[hlt]);rw[hj]at k1;cases k1;exact k2
 ·cases h
theorem YK{k:IntKind}{n:Int}(h:(Lit.int k n).wf=true):qY k n:=by
 simpa[Lit.wf,qY]using h
theorem Pk:∀(fuel:Nat) {t:TypeId} {cs:bY} {d:DataW H} {ps:List MemPlace} {n:Nat} {Vx:List Sh},
 DataW.trod enc P w base sp held fuel t cs=some (d,ps)->xC P n t=some Vx->∃ds bs,jR w cs ds bs/\oT Vx ds:=by
 intro fuel
 induction fuel with
 |zero=>intro t cs d ps n Vx h;simp[DataW.trod]at h
 |succ fuel ih=>
  intro t cs d ps n Vx h hf;cases n with
  |zero=>simp[xC]at hf
  |succ n=>
   simp only[xC]at hf;simp only[DataW.trod]at h;split at hf
   ·rename_i hu;cases hf;simp only[hu]at h;split at h<;>rename_i h1<;>try(simp at h1;done)
    all_goals try(cases h;done)
    all_goals simp at h1
    exact⟨[.bool _],[],.cons _ _ _ _ [] [] rfl (.bool _) .nil,.cons _ _ _ _ (.bool _) .nil⟩
   ·rename_i k hu;cases hf;simp only[hu]at h;split at h<;>rename_i h1<;>try(simp at h1;done)
    all_goals try(cases h;done)
    all_goals simp at h1
    rename_i k1 k2 m _;subst h1;split at h
    ·rename_i hc;obtain⟨rfl,hwf⟩:=hc;exact⟨[.int _ _],[],.cons _ _ _ _ [] [] rfl (.int _ _ (YK hwf)) .nil,.cons _ _ _ _ (.int _ _) .nil⟩
    ·cases h
   ·rename_i hu;cases hf;simp only[hu]at h;split at h<;>rename_i h1<;>try(simp at h1;done)
    all_goals try(cases h;done)
    all_goals simp at h1
    split at h
    ·rename_i hc;exact⟨[.str _],[],.cons _ _ _ _ [] [] rfl (.str _ hc) .nil,.cons _ _ _ _ (.str _) .nil⟩
    ·cases h
   ·rename_i e hu;cases hr:xC P n e with
    |none=>simp[hr]at hf
    |some r=>
     simp only[hr,aA]at hf;split at hf
     ·rename_i hsz;cases hf;simp only[hu]at h;split at h<;>rename_i h1<;>try(simp at h1;done)
      all_goals try(cases h;done)
      all_goals simp at h1
      ·exact⟨[.sl []],[],.cons _ _ _ _ [] [] rfl .vD .nil,.cons _ _ _ _ (.sl _ _ (by simp)) .nil⟩
      ·rename_i a len cap
       try subst h1
       split at h
       ·rename_i hc;cases hm:(List.range len).mapM (fun i=>(w.cells? base (a.add (i*P.cellsOf e)) (P.cellsOf e)).bind (DataW.trod enc P w base sp held fuel e))with
        |none=>simp[hm]at h
        |some elems=>
         obtain⟨_,hall⟩:=Mg hm;have hel:∀i,i<len->∃cs ds bs,w.cells? base (a.add (i*P.cellsOf e)) (P.cellsOf e)=some cs/\jR w cs ds bs/\oT r ds:=by
          intro i hi;obtain⟨y,_,hy⟩:=hall i i (by simp[hi]);obtain⟨cs,hcs,hy⟩:=kX.1 hy;obtain⟨ds,bs,k1,k2⟩:=ih (d:=y.1) (ps:=y.2) hy hr;exact⟨cs,ds,bs,hcs,k1,k2⟩
         by_cases hl0:len=0
         ·subst hl0;exact⟨[.sl []],[],.cons _ _ _ _ [] [] rfl (.lN a cap hc.2.2) .nil,.cons _ _ _ _ (.sl _ _ (by simp)) .nil⟩
         ·
          obtain⟨cs0,QF,bs0,SD,hr0,a4H⟩:=hel 0 (by omega);obtain⟨hl1,XW⟩:=I9 SD;have hpos:0<cs0.length:=by rw[hl1];omega
          have hc0:=XW 0 cs0[0] (aV hpos);have ha0:(a.add (0*P.cellsOf e)).add 0=a:=by simp[Addr.add]
          rw[ha0]at hc0;obtain⟨b,off,spot⟩:=a;have Zr:spot=none:=by
           cases spot with
           |none=>rfl
           |some x=>
            unfold World.cell? at hc0;split at hc0
            ·simp at hc0
            ·cases hc0
          subst Zr;have hb:b<w.heap.size:=World.block_lt_of_cell? w _ hc0;have build:∀m,m<=len->∃(rows:List aK) (cs:bY) (bs:aP),rows.length=m/\cs.length=m*P.cellsOf e/\(∀(j:Nat) c,cs[j]?=some c->w.cell? ⟨b,off+j,none⟩=some c)/\
           jR w cs rows.flatten bs/\∀x∈rows,oT r x:=by
           intro m
           induction m with
           |zero=>intro _;exact⟨[],[],[],rfl,by simp,by simp,.nil,by simp⟩
           |succ m ihm=>
            intro hm1;obtain⟨rows,cs,bs,q1,q2,q3,q4,q5⟩:=ihm (by omega);obtain⟨cs',ds',bs',g1,g2,g3⟩:=hel m (by omega);obtain⟨g4,g5⟩:=I9 g1;refine⟨rows++[ds'],cs++cs',bs++bs',by simp[q1],by simp[q2,g4,iT],?_,?_,?_⟩
            ·intro j c hj;by_cases hlt:j<cs.length
             ·rw[aj hlt]at hj;exact q3 j c hj
             ·rw[av (by omega)]at hj;have:=g5 _ c hj;rw[Addr.add_lit,Addr.add_lit,q2]at this;have e1:off+m*P.cellsOf e+(j-m*P.cellsOf e)=off+j:=by omega
              rw[e1]at this;exact this
            ·rw[jQ];have:=q4.app g2;simpa using this
            ·intro x hx;rcases aU.1 hx with hx|hx
             ·exact q5 x hx
             ·simp at hx;subst hx;exact g3
          obtain⟨rows,cs,bs,q1,q2,q3,q4,q5⟩:=build len (bH _);subst q1;refine⟨[.sl rows],b::bs,?_,.cons _ _ _ _ (.sl _ _ q5) .nil⟩;have:=jR.cons (w:=w) _ [] _ [] _ [] rfl (Rd.sl b off cap r.length rows cs bs hb hc.2.1 hc.2.2 (fun x hx=>(q5 x hx).length) q3 q4) .nil;simpa using this
       ·cases h
     ·cases hf
   ·rename_i fs hu;cases hr:fs.toList.mapM (fun f=>xC P n f.type)with
    |none=>simp[hr]at hf
    |some rs=>
     simp only[hr,aA]at hf;split at hf
     ·rename_i hok;cases hf;simp only[hu]at h;split at h
      ·rename_i hlen;cases hm:fs.toList.mapM (fun f=>DataW.trod enc P w base sp held fuel f.type ((cs.drop f.offset).take (P.cellsOf f.type)))with
       |none=>simp[hm]at h
       |some xs=>
        have go:∀(fl:List Field) (rl:List (List Sh)) (xl:List (DataW H×List MemPlace)) (off:Nat),fl.mapM (fun f=>xC P n f.type)=some rl->
         fl.mapM (fun f=>DataW.trod enc P w base sp held fuel f.type ((cs.drop f.offset).take (P.cellsOf f.type)))=some xl->L7 P off fl rl=true->
         ∃ds bs,jR w ((cs.drop off).take rl.flatten.length) ds bs/\oT rl.flatten ds:=by
         intro fl
         induction fl with
         |nil=>
          intro rl xl off h1 _ _;simp at h1;subst h1;exact⟨[],[],by simpa using jR.nil,.nil⟩
         |cons f fl ihf=>
          intro rl xl off h1 h2 h3;simp only[Ae,Option.bind_eq_bind,Option.pure_def]at h1 h2;cases a1:xC P n f.type with
          |none=>simp[a1]at h1
          |some r1=>
           cases a2:fl.mapM (fun f=>xC P n f.type)with
           |none=>simp[a1,a2]at h1
           |some rl'=>
            simp[a1,a2]at h1;subst h1;cases b1:DataW.trod enc P w base sp held fuel f.type ((cs.drop f.offset).take (P.cellsOf f.type))with
            |none=>simp[b1]at h2
            |some x1=>
             cases b2:fl.mapM (fun f=>DataW.trod enc P w base sp held fuel f.type ((cs.drop f.offset).take (P.cellsOf f.type)))with
             |none=>simp[b1,b2]at h2
             |some xl'=>
              simp only[L7,aX,cR]at h3;obtain⟨⟨o1,o2⟩,o3⟩:=h3;obtain⟨Lf,WL,k1,k2⟩:=ih (d:=x1.1) (ps:=x1.2) b1 a1;obtain⟨ds2,UQ,k3,k4⟩:=ihf rl' xl' (off+r1.length) a2 b2 o3;refine⟨Lf++ds2,WL++UQ,?_,by simpa using k2.app k4⟩;have e1:(cs.drop off).take (r1::rl').flatten.length=(cs.drop f.offset).take (P.cellsOf f.type)++(cs.drop (off+r1.length)).take rl'.flatten.length:=by
               rw[o1,<-o2,dR,aM,<-fU,List.take_add]
              rw[e1];exact k1.app k3
        obtain⟨ds,bs,k1,k2⟩:=go fs.toList rs xs 0 hr hm hok.1;rw[Ad,hok.2,<-hlen,List.take_length]at k1;exact⟨ds,bs,k1,k2⟩
      ·cases h
     ·cases hf
   ·cases hf
def Rj(P:Program)(n:Nat)(t:TypeId)(d:D):Prop:=
 (wU P t=some true/\∃Vx cells,xC P n t=some Vx/\d=.agg cells/\oT Vx cells)\/(wU P t=some false/\∃sh,xC P n t=some [sh]/\Hz sh d)
inductive Jo(P:Program)(n:Nat):List TypeId->List D->Prop
 |nil:Jo P n [] []
 |cons (t:TypeId) (ts:List TypeId) (d:D) (ds:aK):Rj P n t d->Jo P n ts ds->Jo P n (t::ts) (d::ds)
def M0(P:Program)(n:Nat)(t:TypeId):Bool:=
 match wU P t,xC P n t with
 |some true,some _=>(match P.underlying t with|some (.struct _)=>true|_=>false)
 |some false,some [_]=>true
 |_,_=>false
theorem TM{n:Nat}{t:TypeId}{v:Value}{d:DataW H}{ps:List MemPlace}(hok:M0 P n t=true)(hval:Value.okWide P w .any base t v)(h:DataW.Trod enc P w 0 sp held t v d ps):
 ∃x bs,Rd w v x bs/\Rj P n t x:=by
 obtain⟨fuel,h⟩:=h;unfold M0 at hok;split at hok
 ·rename_i Vx ht hf;split at hok
  ·rename_i fs hu;unfold Value.okWide at hval;simp only[hu]at hval;obtain⟨cs,rfl,_⟩:=hval;obtain⟨ds,bs,k1,k2⟩:=Pk fuel h hf;refine⟨.agg ds,bs,?_,.inl ⟨ht,Vx,ds,hf,rfl,k2⟩⟩;have:=Rd.agg (w:=w) cs.toList ds bs k1;simpa using this
  ·cases hok
 ·rename_i sh ht hf;have hone:v.oneCell'=true:=by
   unfold wU at ht;split at ht<;>first
    | (cases ht;done)
    |skip
   rename_i dsc h1 h2 hu;unfold Value.okWide at hval;rw[hu]at hval;cases v with
   |agg cs=>
    cases dsc<;>first
     | (exfalso;exact h1 _ rfl)
     | (exfalso;exact h2 _ _ rfl)
     | (simp[Cell.okWide,Cell.ok,hu]at hval)
   |tuple vs=>
    cases dsc<;>first
     | (exfalso;exact h1 _ rfl)
     | (exfalso;exact h2 _ _ rfl)
     | (simp[Cell.okWide,Cell.ok,hu]at hval)
   |_=>rfl
  rw[KB hone]at h;obtain⟨ds,bs,k1,k2⟩:=Pk fuel h hf;cases k2 with
  |cons _ _ x ds' hx hn=>
   cases hn;cases k1 with
   |cons _ _ _ _ b1 b2 _ hrd hn=>exact⟨x,b1,hrd,.inr ⟨ht,sh,hf,hx⟩⟩
 ·cases hok
theorem Qu{n:Nat}:∀ {ts:List TypeId} {vs:bY} {ds:List (DataW H)} {ps:List MemPlace},(∀t∈ts,M0 P n t=true)->
 (∀(j:Nat) t v,ts[j]?=some t->vs[j]?=some v->Value.okWide P w .any base t v)->DataW.TrodAll enc P w 0 sp held ts vs ds ps->
 ∃xs bs,Ow w vs xs bs/\Jo P n ts xs/\ds.length=ts.length:=by
 intro ts
 induction ts with
 |nil=>
  intro vs ds ps _ _ h;cases vs with
  |nil=>cases ds with
   |nil=>exact⟨[],[],.nil,.nil,rfl⟩
   |cons=>cases h
  |cons=>cases ds<;>cases h
 |cons t ts ih=>
  intro vs ds ps hok hval h;cases vs with
  |nil=>cases h
  |cons v vs=>
   cases ds with
   |nil=>cases h
   |cons d ds=>
    obtain⟨p,q,h1,h2,rfl⟩:=h;obtain⟨x,b1,k1,k2⟩:=TM (hok t (by simp)) (hval 0 t v rfl rfl) h1;obtain⟨xs,b2,k3,k4,k5⟩:=ih (fun u hu=>hok u (by simp[hu])) (fun j u y hj hv=>hval (j+1) u y (by simpa using hj) (by simpa using hv)) h2;exact⟨x::xs,b1++b2,.cons _ _ _ _ _ _ k1 k3,.cons _ _ _ _ k2 k4,by simp[k5]⟩
theorem Jj{W W':World}(hl:laidOutB P=true)(hb:Below W.heap.size W W')(Ub:Nat->Bool):∀ {ts:List TypeId} {vs:bY} {ds:List (DataW H)} {ps:List MemPlace},
 (∀t∈ts,P.readableRec t=true/\t<P.types.size)->DataW.TrodAll enc P W 0 (fun _=>true) true ts vs ds ps->(∀x∈ps,x.block<W.heap.size)->(∀x∈ps,Ub x.block=true)->
 DataW.TrodAll enc P W' 0 Ub true ts vs ds ps:=by
 intro ts
 induction ts with
 |nil=>intro vs ds ps _ h _ _;cases vs<;>cases ds<;>first|exact h|cases h
 |cons t ts ih=>
  intro vs ds ps ht h hlt hsp;cases vs with
  |nil=>cases h
  |cons v vs=>
   cases ds with
   |nil=>cases h
   |cons d ds=>
    obtain⟨p,q,h1,h2,rfl⟩:=h;refine⟨p,q,?_,ih (fun u hu=>ht u (by simp[hu])) h2 (fun x hx=>hlt x (by simp[hx])) (fun x hx=>hsp x (by simp[hx])),rfl⟩;exact WideElems.Trod_stays hl (ht t (by simp)).1 (ht t (by simp)).2 h1 (fun x hx=>hb.same (hlt x (by simp[hx]))) (fun x hx=>hsp x (by simp[hx]))
theorem vf.sS{w:World}{v:Value}{b:Bool}{bs ts us:aP}(h:vf w v (.bool b) bs ts us):v=.bool b:=by
 cases h with|v h=>cases h with|cell h=>cases h with|pure h=>cases h;rfl
theorem Kv{f:FuncId}{fn:Func}{s:ChangeSpec}{n rt:Nat}{W:World}{args:Array Value}{ds gs:List (DataW H)}{before:List MemPlace}
 (hl:laidOutB P=true) (PK:∀t∈fn.params.toList,M0 P n t=true/\P.readableRec t=true/\t<P.types.size) (hres:fn.resultTypes= #[rt]) (hrt:P.underlying rt=some .bool)
 (hv:s.vars=[]) (hfn:∀ds:List (DataW H),ds.length=fn.params.toList.length->s.fn H ds= {results:=[.lit (.bool true)],args:=ds})
 (hvs:JR W fun _=>False) (kV:∀xs,Jo P n fn.params.toList xs->Good P f xs (.bool true))
 (hval:∀(j:Nat) t v,fn.params[j]?=some t->args[j]?=some v->Value.okWide P W .any base t v)
 (hW:DataW.Whole enc P fn.params.toList s.vars false W args.toList ds gs before):
 Calls P f args W fun e W'=>∃v,e=.returned v/\s.post enc P fn false true false false W args v W':=by
 have hW':=hW;obtain⟨p,q,hA,hV,hpq,hz,_⟩:=hW;have hgs:gs=[]/\q=[]:=by
  rw[hv]at hV;cases gs with
  |nil=>exact⟨rfl,hV⟩
  |cons=>cases hV
 obtain⟨rfl,rfl⟩:=hgs;rw[cB]at hpq;subst hpq;obtain⟨xs,bs,k1,k2,k3⟩:=Qu (fun t ht=>(PK t ht).1) (fun j t v hj hv=>hval j t v (by simpa using hj) (by simpa using hv)) hA;have hc:=(kV xs k2).2 W (fun _=>0) args.toList bs hvs k1 (fun _ _=>rfl) (fun b hb=>absurd rfl hb) (fun _=>Af _);rw[iR]at hc;refine hc.mono ?_;rintro e W' ⟨v,bs',ts,us,rfl,hb,hr,_⟩;refine⟨v,rfl,?_⟩;obtain rfl:=hr.sS;have hlt:=hW'.lt;have hfd:=hfn ds k3;have SV:∀(b:Nat) (sp:Nat->Bool) (hd:Bool),DataW.TrodAll enc P W' b sp hd fn.resultTypes.toList ((Value.bool true).resultList fn.resultTypes.size) [.lit (.bool true)] []:=by
  intro b sp hd;rw[hres];exact⟨[],[],⟨1,by simp[DataW.trod,hrt,Value.cells]⟩,rfl,rfl⟩
 have hargs:∀Ub:Nat->Bool,(∀x∈before,Ub x.block=true)->DataW.TrodAll enc P W' 0 Ub true fn.params.toList args.toList ds before:=
  fun Ub hsp=>Jj hl hb Ub (fun t ht=>(PK t ht).2) hA hlt hsp
 have hvars:∀Ub:Nat->Bool,DataW.TrodVars enc P W' Ub s.vars [] []:=fun Ub=>by rw[hv];rfl
 unfold ChangeSpec.post;refine⟨ds,[],before,[],before,[],hW',?_,?_,?_,hb.frame _,fun h=>by cases h⟩
 ·rw[cB,hfd];exact SV _ _ _
 ·rw[cB,hfd];exact hargs _ (fun x hx=>by simpa using hlt x hx)
 ·rw[cB,hfd];exact hvars _
end
end Go.Cx
namespace Go.Cx
open Go.RowKit
abbrev rq:=List Sh
theorem QD{α:Type}{c:α->aK}{row:rq}(hc:∀r,oT row r->∃x,r=c x):∀ {rows:List aK},(∀r∈rows,oT row r)->∃l:List α,rows=l.map c:=by
 intro rows
 induction rows with
 |nil=>intro _;exact⟨[],rfl⟩
 |cons r rows ih=>
  intro h;obtain⟨x,rfl⟩:=hc r (h r (by simp));obtain⟨l,rfl⟩:=ih (fun s hs=>h s (by simp[hs]));exact⟨x::l,rfl⟩
theorem F2{α:Type}{c:α->aK}{row:rq}(hc:∀r,oT row r->∃x,r=c x){d:D}(h:Hz (.sl row) d):∃l:List α,d=.sl (l.map c):=by
 cases h with
 |sl _ rows hr=>
  obtain⟨l,rfl⟩:=QD hc hr;exact⟨l,rfl⟩
theorem xw{d:D}(h:Hz .str d):∃s,d=.str s:=by cases h;exact⟨_,rfl⟩
theorem IJ{k:IntKind}{d:D}(h:Hz (.int k) d):∃n,d=.int k n:=by cases h;exact⟨_,rfl⟩
theorem jl{s:Sh}{ss:rq}{ds:aK}(h:oT (s::ss) ds):∃d r,ds=d::r/\Hz s d/\oT ss r:=by
 cases h with|cons _ _ d r h1 h2=>exact⟨d,r,rfl,h1,h2⟩
theorem CE{ds:aK}(h:oT [] ds):ds=[]:=by cases h;rfl
theorem P7(r:aK)(h:oT [.str] r):∃s,r=tx s:=by
 obtain⟨_,_,rfl,h1,h⟩:=jl h;cases CE h;obtain⟨s,rfl⟩:=xw h1;exact⟨s,rfl⟩
abbrev Tt:List Sh:=[.int .i64,.str,.sl [.str],.str,.str]
theorem QB(r:aK)(h:oT Tt r):∃x:aI,r=x.c:=by
 obtain⟨_,_,rfl,h1,h⟩:=jl h;obtain⟨_,_,rfl,h2,h⟩:=jl h;obtain⟨_,_,rfl,h3,h⟩:=jl h;obtain⟨_,_,rfl,h4,h⟩:=jl h;obtain⟨_,_,rfl,h5,h⟩:=jl h;cases CE h;obtain⟨a,rfl⟩:=IJ h1;obtain⟨b,rfl⟩:=xw h2;obtain⟨c,rfl⟩:=F2 P7 h3;obtain⟨d,rfl⟩:=xw h4;obtain⟨e,rfl⟩:=xw h5;exact⟨⟨a,⟨b,c⟩,d,e⟩,rfl⟩
abbrev N7:List Sh:=[.int .i64,.str,.sl [.str]]
theorem MA(r:aK)(h:oT N7 r):∃x:Action,r=x.c:=by
 obtain⟨_,_,rfl,h1,h⟩:=jl h;obtain⟨_,_,rfl,h2,h⟩:=jl h;obtain⟨_,_,rfl,h3,h⟩:=jl h;cases CE h;obtain⟨a,rfl⟩:=IJ h1;obtain⟨b,rfl⟩:=xw h2;obtain⟨c,rfl⟩:=F2 P7 h3;exact⟨⟨a,⟨b,c⟩⟩,rfl⟩
abbrev Yn:List Sh:=[.str,.int .i64,.sl Tt,.sl N7]
theorem QC(r:aK)(h:oT Yn r):∃x:aH,r=x.c:=by
 obtain⟨_,_,rfl,h1,h⟩:=jl h;obtain⟨_,_,rfl,h2,h⟩:=jl h;obtain⟨_,_,rfl,h3,h⟩:=jl h;obtain⟨_,_,rfl,h4,h⟩:=jl h;cases CE h;obtain⟨a,rfl⟩:=xw h1;obtain⟨b,rfl⟩:=IJ h2;obtain⟨c,rfl⟩:=F2 QB h3;obtain⟨d,rfl⟩:=F2 MA h4;exact⟨⟨a,b,c,d⟩,rfl⟩
section
variable{P:Program}{n:Nat}{t:TypeId}{d:D}
theorem Rj.cell{sh:Sh}(ha:wU P t=some false)(hf:xC P n t=some [sh])(h:Rj P n t d):Hz sh d:=by
 rcases h with⟨h1,_⟩|⟨_,sh',h1,h2⟩
 ·rw[ha]at h1;cases h1
 ·rw[hf]at h1;cases h1;exact h2
end
end Go.Cx
namespace Go.Cx
open Go.ChangeShapes Go.WideShapes Go.ChangeAt Go.RowKit
def jp0(P:Program)(f:FuncId)(fn:Func)(s:ChangeSpec)(c:OpenClaim):Bool:=(c.wf (OpenSpec.ofChange s)&&laidOutB P&&mapsRowed P)
def jp1(P:Program)(f:FuncId)(fn:Func)(s:ChangeSpec)(c:OpenClaim):Bool:=(fn.params.all (P.readableRec ·)&&namedTie P c.named s.vars)&&((c.stops==[])&&(P.stops==[])&&(c.knobs==[])&&(P.stopKnobs==[]))&&((c.maps==(fn.params.toList++s.plain.varTypes P).any (P.mapsRec ·))&&(c.ifaces==(fn.params.toList++s.plain.varTypes P).any (P.ifacesRec ·))&&(c.mapsOut==P.mapsAmong fn.resultTypes.toList))&&((c.loops==(fn.params.toList++s.plain.varTypes P).any (P.loopsFrom ·))&&(c.wideKeys==(fn.params.toList++s.plain.varTypes P++fn.resultTypes.toList).any (P.wideKeysFrom ·)))&&(s.vars.all (P.varReadable ·)&&fn.resultTypes.all (fun t=>P.readableRec t&&decide (t<P.types.size))&&(c.ifacesOut==fn.resultTypes.toList.any (P.ifacesRec ·))&&(c.loopsOut==fn.resultTypes.toList.any (P.loopsFrom ·)))&&((c.kinds==(if c.domain.isEmpty then []else fn.params.toList.map fun t=>match P.underlying t with|some (.int k)=>some k|_=>none))&&(c.pinned==c.pinnedBy))&&((c.veiled==(fn.params.toList++s.plain.varTypes P++fn.resultTypes.toList).any (P.veiledRec ·))&&c.veiledFits P fn.params.toList (fn.params.toList++s.plain.varTypes P++fn.resultTypes.toList))
def jp2(P:Program)(f:FuncId)(fn:Func)(s:ChangeSpec)(c:OpenClaim):Bool:=(c.inPlace==P.inPlace f)&&(c.unfollowed==P.unfollowed f)&&(c.recurses==P.recurses f)&&(c.named==P.varsNamed f)
def jp3(P:Program)(f:FuncId)(fn:Func)(s:ChangeSpec)(c:OpenClaim):Bool:=(c.plainKeys==P.plainKeys)&&(c.shortTexts.isNone&&P.stopsHeard)&&P.mayEnter&&(c.lifted==P.liftsFinal)&&(P.make==some c.make)
theorem Qg{P:Program}{f:FuncId}{fn:Func}{s:ChangeSpec}{c:OpenClaim}(h0:jp0 P f fn s c=true)(h1:jp1 P f fn s c=true)(h2:jp2 P f fn s c=true)(h3:jp3 P f fn s c=true):joinedFacts P f fn s c=true:=by
 unfold jp0 at h0;unfold jp1 at h1;unfold jp2 at h2;unfold jp3 at h3;unfold joinedFacts;simp only[aX]at h0 h1 h2 h3⊢;obtain⟨⟨a4x,a4y⟩,a4z⟩:=h0;obtain⟨⟨⟨⟨⟨⟨⟨a50,a52⟩,⟨⟨⟨a54,a55⟩,a56⟩,a57⟩⟩,⟨⟨a5D,a5E⟩,a5F⟩⟩,⟨a5G,a5H⟩⟩,⟨⟨⟨a5I,a5J⟩,a5K⟩,a5L⟩⟩,⟨a3h,a3i⟩⟩,⟨a3j,a3k⟩⟩:=h1;obtain⟨⟨⟨a58,a5A⟩,a5B⟩,a5C⟩:=h2;obtain⟨⟨⟨⟨a3b,⟨a3c,a3d⟩⟩,a3e⟩,a3f⟩,a3g⟩:=h3
 and_intros<;>assumption
end Go.Cx

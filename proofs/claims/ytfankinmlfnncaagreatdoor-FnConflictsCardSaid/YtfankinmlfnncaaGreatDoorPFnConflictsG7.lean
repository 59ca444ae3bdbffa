/- Bindings, matching, conditions that hold, and tokens in plain words: of the program and of the reference. No condition but bounds on sizes. -/
import Derived.Test.YtfankinmlfnncaaGreatDoorPFnConflictsG6
import Derived.Test.YtfankinmlfnncaaGreatDoorPFnConflictsG3
import Derived.ProofKit
set_option linter.unusedVariables false
set_option linter.unusedSimpArgs false
namespace Go.Cx
open Go.RowKit Go.Proofs Tryz
def PB(b:aM):Prop:=b.length<=1048576/\∀x∈b,x.var.length<=1048576/\x.value.length<=1048576
theorem PB.nil:PB []:=⟨by simp,by simp⟩
def nw:Option aQ->aM->Bool
 |_,[]=>true
 |p,x::xs=>fK x.var&&(fL x.value&&((match p with|some q=>Op.bytesLess q.var x.var|none=>true)&&nw (some x) xs))
def iH(b:aM):Bool:=nw none b&&decide (b.length<=6)
theorem F8{b:aM}(h:iH b=true):b.length<=6:=by
 unfold iH at h;simp only[aR,bA]at h;exact h.2
theorem Pf{isV Zm:Bytes->Option Bool}{a:aM}{L:aM->Nat->Option Bool}{k:Option Bool}(ha:a.length<=1099511627770)(hV:∀x:Bytes,x.length<=1048576->isV x=some (fK x))(hA:∀x:Bytes,x.length<=1048576->Zm x=some (fL x))(tu:∀i,L [] i=k)
 (uH:∀x xs i,L (x::xs) i=((isV x.var).bind fun y=>(bif !(y)then(some false)else((Zm x.value).bind fun z=>(bif !(z)then(some false)else(bif decide (((i:Int):Int)>0)then((iw a (IntKind.i64.wrap ((i:Int)-1))).bind fun q=>(bif !(Op.bytesLess q.var x.var)then(some false)else(L xs (i+1))))else(L xs (i+1)))))))):
 ∀(l pre:aM),a=pre++l->(∀x∈l,x.var.length<=1048576/\x.value.length<=1048576)->L l pre.length=bif nw pre.getLast? l then k else some false:=by
 intro l
 induction l with
 |nil=>intro pre _ _;rw[tu];rfl
 |cons x xs ih=>
  intro pre h hf;have hl:a.length=pre.length+(xs.length+1):=by rw[h];simp
  have t:=ih (pre++[x]) (by simp[h]) (fun y hy=>hf y (by simp[hy]));rw[ar,dS,nH]at t;rw[uH,hV _ (hf x (by simp)).1,aA,hA _ (hf x (by simp)).2,aA,t];simp only[nw];cases fK x.var with
  |false=>rfl
  |true=>
   cases fL x.value with
   |false=>rfl
   |true=>
    simp only[bh,aS,eH];rcases wP pre with rfl|⟨p,z,Ye⟩
    ·simp
    ·rw[wO]at Ye;subst Ye;have e0:decide (((p++[z]).length:Int)>0)=true:=by simp<;>omega
     have e1:IntKind.i64.wrap (((p++[z]).length:Int)-1)=(p.length:Int):=by
      rw[di (pF.i64.2 (by simp at hl⊢;omega))];simp
     have e2:iw a (p.length:Int)=some z:=vm (xs:=x::xs) (by rw[h];simp);rw[e0,aH,e1,e2,aA,nH];show _=bif (Op.bytesLess z.var x.var&&nw (some x) xs)then k else some false
     cases Op.bytesLess z.var x.var<;>rfl
theorem Td(b:aM)(h:PB b):kJ b=some (iH b):=by
 unfold kJ iH;have t:=fun k=>Pf (isV:=gZ) (Zm:=fP) (a:=b) (L:=jO b k) (k:=k) (by have:=h.1;omega) Ox Kc (fun _=>rfl) (fun _ _ _=>rfl) b [] rfl h.2
 refine(t _).trans ?_;have e:decide (((b.map aQ.c).length:Int)<=6)=decide (b.length<=6):=by rw[au];congr 1;rw[wk];omega
 rw[e];show(bif nw none b then _ else _)=_;cases nw none b<;>rfl
theorem TL(b:aM)(h:PB b):kB b=some (iH b):=by
 unfold kB iH;have t:=fun k=>Pf (isV:=l6) (Zm:=fM) (a:=b) (L:=gy b k) (k:=k) (by have:=h.1;omega) UI KP (fun _=>rfl) (fun _ _ _=>rfl) b [] rfl h.2
 rw[show gy b (some true) b 0=_ from t _];by_cases h6:b.length<=6
 ·have e:decide (((b.map aQ.c).length:Int)>6)=false:=by rw[au];simp;omega
  rw[e,aS,bD h6,xG];show(bif nw none b then _ else _)=_;cases nw none b<;>rfl
 ·have e:decide (((b.map aQ.c).length:Int)>6)=true:=by rw[au];simp;omega
  rw[e,aH,bM h6,vZ]
def dB(t:Bytes):aM->Option Bytes
 | []=>none
 |x::xs=>bif x.var==t then some x.value else dB t xs
def oq(b:aM)(t:Bytes):Bytes×Bool:=bif fL t then(t,true)else bif fK t then(match dB t b with|some v=>(v,true)|none=>([],false))else([],false)
theorem a0P(b:aM)(t:Bytes)(ht:t.length<=1048576):nN b t=some (oq b t):=by
 unfold nN oq;have key:∀(l:aM) (i:Nat),iG b t (some ([],false)) l i=some (bif fK t then(match dB t l with|some v=>(v,true)|none=>([],false))else([],false)):=by
  intro l
  induction l with
  |nil=>intro i;rw[iG];cases fK t<;>rfl
  |cons x xs ih=>
   intro i;rw[iG,Ox t ht,aA,ih];simp only[dB];cases x.var==t<;>cases fK t<;>rfl
 rw[Kc t ht,aA,key];cases fL t<;>rfl
theorem Zj(b:aM)(t:Bytes)(ht:t.length<=1048576):nL b t=some (oq b t):=by
 unfold nL oq;have key:∀(l:aM) (i:Nat),l8 b t (some ([],false)) l i=some (match dB t l with|some v=>(v,true)|none=>([],false)):=by
  intro l
  induction l with
  |nil=>intro i;rfl
  |cons x xs ih=>
   intro i;rw[l8,ih];simp only[dB];cases x.var==t<;>rfl
 rw[KP t ht,aA,UI t ht,aA,key];cases fL t<;>cases fK t<;>rfl
theorem SG(b:aM)(h:b.length<=1099511627776):qY b=some b:=by
 unfold qY;rw[Qh h (by decide)];simp
theorem Wm(b:aM)(h:b.length<=1099511627776):oY b=some b:=by
 unfold oY;rw[Qh h (by decide)];simp
def vX(v val:Bytes):aM->aM
 | []=>[⟨v,val⟩]
 |x::xs=>bif !(Op.bytesLess x.var v||x.var==v)then⟨v,val⟩::x::xs else x::vX v val xs
theorem Bj(v val:Bytes)(b:aM):(vX v val b).length=b.length+1:=by
 induction b with
 |nil=>rfl
 |cons x xs ih=>simp only[vX];cases !(Op.bytesLess x.var v||x.var==v)<;>simp[ih]
theorem Qk(v val:Bytes)(b:aM){x:aQ}(h:x∈vX v val b):x=⟨v,val⟩\/x∈b:=by
 induction b with
 |nil=>simp[vX]at h;exact .inl h
 |cons y ys ih=>
  simp only[vX]at h;cases hc: !(Op.bytesLess y.var v||y.var==v)with
  |true=>
   rw[hc,aH]at h;rcases bE.1 h with h|h
   ·exact .inl h
   ·exact .inr h
  |false=>
   rw[hc,aS]at h;rcases bE.1 h with h|h
   ·exact .inr (by simp[h])
   ·rcases ih h with h|h
    ·exact .inl h
    ·exact .inr (by simp[h])
theorem Tf{γ:Type}{v val:Bytes}{L:aM->Nat->Bool->aM->Option γ}{k:Bool->aM->Option γ}{K:aM->Option γ}(hk1:∀w,k true w=K w)(hk2:∀w:aM,w.length<1099511627770->k false w=K (w++[⟨v,val⟩]))(tu:∀i d w,L [] i d w=k d w)
 (uH:∀x xs i d w,L (x::xs) i d w=(bif !(d)then(bif !(Op.bytesLess x.var v||(x.var:Bytes)==v)then(bif room ((w.map aQ.c).length+([[D.str v,D.str val]]).length) 32 then(bif room (((w.map aQ.c)++([[D.str v,D.str val]])).length+([[D.str x.var,D.str x.value]]).length) 32 then(L xs (i+1) true ((w++([(⟨v,val⟩:aQ)]))++([x])))else none)else none)else(bif room ((w.map aQ.c).length+([[D.str x.var,D.str x.value]]).length) 32 then(L xs (i+1) d (w++([x])))else none))else(bif room ((w.map aQ.c).length+([[D.str x.var,D.str x.value]]).length) 32 then(L xs (i+1) d (w++([x])))else none))):
 ∀(l:aM) (i:Nat) (w:aM),w.length+l.length<1099511627760->L l i false w=K (w++vX v val l):=by
 have c1:∀(l:aM) (i:Nat) (w:aM),w.length+l.length<1099511627765->L l i true w=K (w++l):=by
  intro l
  induction l with
  |nil=>intro i w _;rw[tu,hk1,dA]
  |cons x xs ih=>
   intro i w hw;simp only[aT]at hw;rw[uH,bh,aS,gF (by omega) (by decide),aH,ih (i+1) (w++[x]) (by simp;omega)];simp
 intro l
 induction l with
 |nil=>intro i w hw;simp only[bW]at hw;rw[tu,hk2 _ (by omega)];rfl
 |cons x xs ih=>
  intro i w hw;simp only[aT]at hw;have r1:∀y:aL,room ((w.map aQ.c).length+([y]).length) 32=true:=fun y=>gF (by omega) (by decide)
  have r2:room (((w.map aQ.c)++([[D.str v,D.str val]])).length+([[D.str x.var,D.str x.value]]).length) 32=true:=Ka (by simp;omega) (by decide);have t1:=ih (i+1) (w++[x]) (by simp;omega);have t2:=c1 xs (i+1) ((w++[⟨v,val⟩])++[x]) (by simp;omega);rw[uH,cy,aH,r1,r1,r2];simp only[aH,vX];cases !(Op.bytesLess x.var v||x.var==v)with
  |true=>rw[aH,aH,t2];simp
  |false=>rw[aS,aS,t1];simp
theorem a1n(b:aM)(v val:Bytes)(h:b.length<1099511627700):tj b v val=some (vX v val b):=by
 unfold tj;exact Tf (v:=v) (val:=val) (K:=fun w=>some w) (L:=mD b v val (fun(z:Bool) (q:aM)=>(bif !(z)then(bif room ((q.map aQ.c).length+([[D.str v,D.str val]]).length) 32 then(some (q++([(⟨v,val⟩:aQ)])))else none)else(some q)))) (fun w=>rfl) (fun w hw=>by show(bif !false then _ else _)=_;rw[gF (by omega) (by decide)];rfl) (fun _ _ _=>rfl) (fun _ _ _ _ _=>rfl) b 0 [] (by simp;omega)
def wu(b:aM)(v val:Bytes):aM×Bool:=bif iH b&&(fK v&&fL val)then(match dB v b with|some o=>bif o==val then(b,true)else([],false)|none=>bif decide (b.length=6)then([],false)else(vX v val b,true))else([],false)
theorem Sz{b:aM}{v val:Bytes}(h:PB b)(hv:v.length<=1048576)(hl:val.length<=1048576):PB (wu b v val).1:=by
 unfold wu;cases hb:iH b&&(fK v&&fL val)with
 |false=>exact PB.nil
 |true=>
  rw[aH];have h6:b.length<=6:=F8 (by simp only[aR]at hb;exact hb.1);cases dB v b with
  |some o=>simp only;cases o==val<;>first|exact h|exact PB.nil
  |none=>
   simp only;cases decide (b.length=6)with
   |true=>exact PB.nil
   |false=>
    refine⟨by simp only[aS,Bj];omega,fun x hx=>?_⟩;rcases Qk _ _ _ hx with rfl|hx
    ·exact⟨hv,hl⟩
    ·exact h.2 x hx
theorem a92(b:aM)(v val:Bytes)(h:PB b)(hv:v.length<=1048576)(hl:val.length<=1048576):sU b v val=some (wu b v val):=by
 unfold sU wu;have hlen:=h.1;rw[Td b h,aA,Ox v hv,aA,Kc val hl,aA,a0P b v hv,aA,SG b (by omega),aA,a1n b v val (by omega),aA];have e6:((((b.map aQ.c).length:Int):Int)==6)=decide (b.length=6):=by
  rw[au,bn];simp;omega
 rw[e6];cases hb:iH b with
 |false=>rfl
 |true=>
  cases hvv:fK v with
  |false=>rfl
  |true=>
   cases fL val with
   |false=>rfl
   |true=>
    have GV:oq b v=(match dB v b with|some o=>(o,true)|none=>([],false)):=by unfold oq;rw[oN hvv,hvv];rfl
    rw[GV];simp only[bh,aS,eH,xG,aH];cases dB v b with
    |some o=>simp only[aH];cases o==val<;>rfl
    |none=>simp only[aS];cases decide (b.length=6)<;>rfl
theorem a5T(b:aM)(v val:Bytes)(h:PB b)(hv:v.length<=1048576)(hl:val.length<=1048576):qO b v val=some (wu b v val):=by
 unfold qO wu;have hlen:=h.1;have t:=(Tf (v:=v) (val:=val) (K:=fun w=>some ((w,true):aM×Bool)) (L:=k9 b v val (fun(z:Bool) (q:aM)=>(bif !(z)then(bif room ((q.map aQ.c).length+([[D.str v,D.str val]]).length) 32 then(some (q++([(⟨v,val⟩:aQ)]),true))else none)else(some (q,true))))) (fun w=>rfl) (fun w hw=>by show(bif !false then _ else _)=_;rw[gF (by omega) (by decide)];rfl) (fun _ _ _=>rfl) (fun _ _ _ _ _=>rfl) b 0 [] (by simp;omega))
 rw[TL b h,aA,UI v hv,aA,KP val hl,aA,Zj b v hv,aA,Wm b (by omega),aA,t];cases hb:iH b with
 |false=>rfl
 |true=>
  have h6:=F8 hb;have e6:decide ((((b.map aQ.c).length:Int):Int)>=6)=decide (b.length=6):=by
   rw[au];congr 1;rw[wk];omega
  rw[e6];cases hvv:fK v with
  |false=>rfl
  |true=>
   cases fL val with
   |false=>rfl
   |true=>
    have GV:oq b v=(match dB v b with|some o=>(o,true)|none=>([],false)):=by unfold oq;rw[oN hvv,hvv];rfl
    rw[GV];simp only[bh,aS,eH,xG,aH];cases dB v b with
    |some o=>simp only[aH];cases o==val<;>rfl
    |none=>simp only[aS];cases decide (b.length=6)<;>rfl
def sP:aG->aG->aM->aM×Bool
 | [],_,w=>(w,true)
 |_::_,[],_=>([],false)
 |x::xs,y::ys,w=>bif fL x then(bif x==y then sP xs ys w else([],false))else(bif (wu w x y).2 then sP xs ys (wu w x y).1 else([],false))
def p8(p f:aE)(b:aM):aM×Bool:=bif xh p&&(rO f&&(iH b&&(p.rel==f.rel&&decide (p.args.length=f.args.length))))then sP p.args f.args b else([],false)
theorem OY:∀(l r:aG) (w:aM),PB w->(∀x∈l,x.length<=1048576)->(∀x∈r,x.length<=1048576)->PB (sP l r w).1
 | [],_,w,h,_,_=>h
 |_::_,[],_,_,_,_=>PB.nil
 |x::xs,y::ys,w,h,hl,hr=>by
  simp only[sP];have i1:=OY xs ys w h (fun z hz=>hl z (by simp[hz])) (fun z hz=>hr z (by simp[hz]));have i2:=OY xs ys (wu w x y).1 (Sz h (hl x (by simp)) (hr y (by simp))) (fun z hz=>hl z (by simp[hz])) (fun z hz=>hr z (by simp[hz]));cases fL x with
  |true=>cases x==y<;>first|exact i1|exact PB.nil
  |false=>cases(wu w x y).2<;>first|exact i2|exact PB.nil
theorem Zv{p f:aE}{b:aM}(hb:PB b)(hp:p.wt<=1048576)(hf:f.wt<=1048576):PB (p8 p f b).1:=by
 unfold p8;cases xh p&&(rO f&&(iH b&&(p.rel==f.rel&&decide (p.args.length=f.args.length))))with
 |false=>exact PB.nil
 |true=>exact OY _ _ _ hb (fun x hx=>aE.sj hp hx) (fun x hx=>aE.sj hf hx)
theorem TR{Zm:Bytes->Option Bool}{ext:aM->Bytes->Bytes->Option (aM×Bool)}{fa:aG}{L:aG->Nat->aM->Option (aM×Bool)}(hA:∀x:Bytes,x.length<=1048576->Zm x=some (fL x))(hE:∀w x y,PB w->x.length<=1048576->y.length<=1048576->ext w x y=some (wu w x y))(tu:∀i w,L [] i w=some (w,true))
 (uH:∀x xs i w,L (x::xs) i w=((Zm x).bind fun y=>(bif y then((iw fa (i:Int)).bind fun z=>(bif !((x:Bytes)==z)then(some ([],false))else(L xs (i+1) w)))else((iw fa (i:Int)).bind fun z=>((ext w x z).bind fun q=>(bif !(q.2)then(some ([],false))else(L xs (i+1) q.1))))))):
 ∀(l pre rest:aG) (w:aM),fa=pre++rest->l.length=rest.length->(∀x∈l,x.length<=1048576)->(∀x∈rest,x.length<=1048576)->PB w->L l pre.length w=some (sP l rest w):=by
 intro l
 induction l with
 |nil=>intro pre rest w _ _ _ _ _;rw[tu];simp[sP]
 |cons x xs ih=>
  intro pre rest w h hl hx hr hw;cases rest with
  |nil=>simp at hl
  |cons y ys=>
   have t:=fun w' hw'=>ih (pre++[y]) ys w' (by simp[h]) (by simpa using hl) (fun z hz=>hx z (by simp[hz])) (fun z hz=>hr z (by simp[hz])) hw'
   simp only[ar,dS]at t;rw[uH,hA x (hx x (by simp)),aA,vm h,aA,aA,hE w x y hw (hx x (by simp)) (hr y (by simp)),aA];simp only[sP];cases fL x with
   |true=>
    simp only[aH];cases x==y with
    |true=>simp only[bh,aS,aH];exact t w hw
    |false=>rfl
   |false=>
    simp only[aS];cases hq:(wu w x y).2 with
    |true=>simp only[bh,aS,aH];exact t _ (Sz hw (hx x (by simp)) (hr y (by simp)))
    |false=>rfl
theorem X5(a b:aG):((((a.map tx).length:Int):Int) != ((b.map tx).length:Int))= !decide (a.length=b.length):=by
 rw[au,au];by_cases h:a.length=b.length
 ·simp[h]
 ·rw[bM h];simp;omega
theorem a6M(p f:aE)(b:aM)(hp:p.wt<=1048576)(hf:f.wt<=1048576)(hb:PB b):kL p f b=some (p8 p f b):=by
 unfold kL p8;have hlen:=hb.1;rw[a3f p hp,aA,a1e f hf,aA,Td b hb,aA,SG b (by omega),aA,X5];cases xh p with
 |false=>rfl
 |true=>
  cases rO f with
  |false=>rfl
  |true=>
   cases iH b with
   |false=>rfl
   |true=>
    cases p.rel==f.rel with
    |false=>rfl
    |true=>
     by_cases h:p.args.length=f.args.length
     ·rw[bD h];have t:=TR (Zm:=fP) (ext:=sU) (fa:=f.args) (L:=jR p f (fun(q:aM)=>(some (q,true)))) Kc (fun w x y hw hx hy=>a92 w x y hw hx hy) (fun _ _=>rfl) (fun _ _ _ _=>rfl) p.args [] f.args b rfl h (fun x hx=>aE.sj hp hx) (fun x hx=>aE.sj hf hx) hb;exact t
     ·rw[bM h];rfl
theorem a5a(p f:aE)(b:aM)(hp:p.wt<=1048576)(hf:f.wt<=1048576)(hb:PB b):kC p f b=some (p8 p f b):=by
 unfold kC p8;have hlen:=hb.1;rw[a2u p hp,aA,a13 f hf,aA,TL b hb,aA,Wm b (by omega),aA,X5];cases xh p with
 |false=>rfl
 |true=>
  cases rO f with
  |false=>rfl
  |true=>
   cases iH b with
   |false=>rfl
   |true=>
    cases p.rel==f.rel with
    |false=>rfl
    |true=>
     by_cases h:p.args.length=f.args.length
     ·rw[bD h];have t:=TR (Zm:=fM) (ext:=qO) (fa:=f.args) (L:=jG p f (fun(q:aM)=>(some (q,true)))) KP (fun w x y hw hx hy=>a5T w x y hw hx hy) (fun _ _=>rfl) (fun _ _ _ _=>rfl) p.args [] f.args b rfl h (fun x hx=>aE.sj hp hx) (fun x hx=>aE.sj hf hx) hb;exact t
     ·rw[bM h];rfl
def ltB(l r:Bytes):Bool:=match wL l,wL r with|some x,some y=>decide (x<y)|_,_=>false
def Rb(c:aN)(b:aM):Bool:=Gc c&&(iH b&&((oq b c.left).2&&((oq b c.right).2&&(bif decide (c.kind=3)then(oq b c.left).1==(oq b c.right).1 else bif decide (c.kind=4)then !((oq b c.left).1==(oq b c.right).1)else ltB (oq b c.left).1 (oq b c.right).1))))
theorem xI(a b:Int):(a==b)=decide (a=b):=by rw[bn];simp
theorem a6J(c:aN)(b:aM)(hc:c.wt<=1048576)(hb:PB b):rI c b=some (Rb c b):=by
 unfold rI Rb;rw[Y2 c hc,aA,Td b hb,aA,a0P b c.left (aN.AS hc),aA,a0P b c.right (aN.xm hc),aA,xI,xI];cases Gc c with
 |false=>rfl
 |true=>
  cases iH b with
  |false=>rfl
  |true=>
   cases(oq b c.left).2 with
   |false=>rfl
   |true=>
    cases(oq b c.right).2 with
    |false=>rfl
    |true=>
     cases decide (c.kind=3)with
     |true=>rfl
     |false=>
      cases decide (c.kind=4)with
      |true=>rfl
      |false=>
       simp only[bh,aS,eH];unfold sH ltB;rw[Ow,aA,aA,Ow,aA,aA,a1c,aA];unfold pI A9;cases wL (oq b c.left).1 with
       |none=>rfl
       |some x=>
        cases wL (oq b c.right).1 with
        |none=>rfl
        |some y=>
         simp only[aH]
         congr 1
         unfold FM;by_cases h:x<y
         ·have h1:(x:Int)<y:=by omega
          simp[h1,h]
         ·have h1:¬(x:Int)<y:=by omega
          by_cases h2:(x:Int)>y
          ·simp[h1,h,h2]
          ·simp[h1,h,h2]
theorem a5Z(c:aN)(b:aM)(hc:c.wt<=1048576)(hb:PB b):qx c b=some (Rb c b):=by
 unfold qx Rb;rw[a5g c hc,aA,TL b hb,aA,Zj b c.left (aN.AS hc),aA,Zj b c.right (aN.xm hc),aA,xI,xI];cases Gc c with
 |false=>rfl
 |true=>
  cases iH b with
  |false=>rfl
  |true=>
   cases(oq b c.left).2 with
   |false=>rfl
   |true=>
    cases(oq b c.right).2 with
    |false=>rfl
    |true=>
     cases decide (c.kind=3)with
     |true=>rfl
     |false=>
      cases decide (c.kind=4)with
      |true=>rfl
      |false=>
       simp only[bh,aS,eH];unfold ltB;rw[OQ,aA,OQ,aA];unfold pI;cases wL (oq b c.left).1 with
       |none=>rfl
       |some x=>
        cases wL (oq b c.right).1 with
        |none=>rfl
        |some y=>
         simp only[aH]
         congr 1
         by_cases h:x<y
         ·simp[h]
         ·simp[h]
def vU(p:aE)(b:aM)(fs:aP):aP:=fs.filter fun f=>(p8 p f b).2
def FS(fs:aP):Prop:=fs.length<=1048576/\∀f∈fs,f.wt<=1048576
theorem FS.of{fs:aP}(h:qm aE.wt fs<=1048576):FS fs:=⟨by have:=tE aE.wt fs;omega,fun f hf=>by have:=qL (w:=aE.wt) hf;omega⟩
theorem T5{γ:Type}{mf:aE->Option (aM×Bool)}{cp:aE->Option aE}{p:aE}{b:aM}{L:aP->Nat->aP->Option γ}{k:aP->Option γ}(hm:∀f:aE,f.wt<=1048576->mf f=some (p8 p f b))(hc:∀f:aE,f.wt<=1048576->cp f=some f)(tu:∀i w,L [] i w=k w)
 (uH:∀x xs i w,L (x::xs) i w=((mf x).bind fun y=>(bif y.2 then((cp x).bind fun z=>(bif room ((w.map aE.c).length+([[D.str z.rel,D.sl (z.args.map tx)]]).length) 40 then(L xs (i+1) (w++([z])))else none))else(L xs (i+1) w)))):
 ∀(l:aP) (i:Nat) (w:aP),(∀f∈l,f.wt<=1048576)->w.length+l.length<1099511627700->L l i w=k (w++vU p b l):=by
 intro l
 induction l with
 |nil=>intro i w _ _;rw[tu];simp[vU]
 |cons x xs ih=>
  intro i w hl hw;simp only[aT]at hw;have hx:=hl x (by simp);rw[uH,hm x hx,aA,hc x hx,aA,gF (by omega) (by decide),aH];have e:vU p b (x::xs)=bif (p8 p x b).2 then x::vU p b xs else vU p b xs:=by
   unfold vU;rw[List.filter_cons];cases(p8 p x b).2<;>rfl
  rw[e];cases(p8 p x b).2 with
  |true=>rw[aH,aH,ih _ _ (fun f hf=>hl f (by simp[hf])) (by simp;omega)];simp
  |false=>rw[aS,aS,ih _ _ (fun f hf=>hl f (by simp[hf])) (by omega)]
theorem a3b(p:aE)(b:aM)(fs:aP)(hp:p.wt<=1048576)(hb:PB b)(hf:FS fs):gP p b fs=some (vU p b fs):=by
 unfold gP;have h1:=hf.1;refine(T5 (mf:=fun f=>kL p f b) (cp:=eO) (p:=p) (b:=b) (L:=fq p b fs _) (k:=fun q=>some q) (fun f h=>a6M p f b hp h hb) (fun f h=>zx f (by have:=aE.fB h;omega)) (fun _ _=>rfl) (fun _ _ _ _=>rfl) fs 0 [] hf.2 (by simp;omega)).trans ?_;simp
theorem a5W(p:aE)(b:aM)(fs:aP)(hp:p.wt<=1048576)(hb:PB b)(hf:FS fs):iK p b fs=some (vU p b fs):=by
 unfold iK;have h1:=hf.1;refine(T5 (mf:=fun f=>kC p f b) (cp:=iq) (p:=p) (b:=b) (L:=fm p b fs _) (k:=fun q=>some q) (fun f h=>a5a p f b hp h hb) (fun f h=>Rs f (by have:=aE.fB h;omega)) (fun _ _=>rfl) (fun _ _ _ _=>rfl) fs 0 [] hf.2 (by simp;omega)).trans ?_;simp
def Ba(c:aN)(b:aM)(fs:aP):Bool:=nJ c&&(iH b&&(bif decide (c.kind=1)then decide (0<(vU c.pat b fs).length)else bif decide (c.kind=2)then decide ((vU c.pat b fs).length=0)else Rb c b))
theorem X4(l:aP):decide ((((l.map aE.c).length:Int):Int)>0)=decide (0<l.length):=by rw[au];congr 1;rw[wk];omega
theorem len_eq(l:aP):((((l.map aE.c).length:Int):Int)==0)=decide (l.length=0):=by rw[au,xI];congr 1;rw[wk];omega
theorem a6I(c:aN)(b:aM)(fs:aP)(hc:c.wt<=1048576)(hb:PB b)(hf:FS fs):rH c b fs=some (Ba c b fs):=by
 unfold rH Ba;rw[Xd c hc,aA,Td b hb,aA,a3b c.pat b fs (aN.gE hc) hb hf,aA,aA,a6J c b hc hb,aA,xI,xI,X4,len_eq];cases nJ c with
 |false=>rfl
 |true=>
  cases iH b with
  |false=>rfl
  |true=>cases decide (c.kind=1)<;>cases decide (c.kind=2)<;>rfl
theorem a5Y(c:aN)(b:aM)(fs:aP)(hc:c.wt<=1048576)(hb:PB b)(hf:FS fs):qw c b fs=some (Ba c b fs):=by
 unfold qw Ba;rw[Wj c hc,aA,TL b hb,aA,a5W c.pat b fs (aN.gE hc) hb hf,aA,aA,a5Z c b hc hb,aA,xI,xI,X4,len_eq];cases nJ c with
 |false=>rfl
 |true=>
  cases iH b with
  |false=>rfl
  |true=>cases decide (c.kind=1)<;>cases decide (c.kind=2)<;>rfl
end Go.Cx
namespace Go.Cx
open Go.RowKit Go.Proofs Tryz
def Fix(h:Bytes->Bytes):Prop:=∀y,fL y=true->h y=y
theorem tr{t v val:Bytes}(h:v≠t):∀(w:aM),dB t (vX v val w)=dB t w
 | []=>by
  have:(v==t)=false:=by simpa using h
  simp only[vX,dB,this,aS]
 |x::xs=>by
  have hv:(v==t)=false:=by simpa using h
  rw[vX];cases !(Op.bytesLess x.var v||x.var==v)with
  |true=>rw[aH,dB];simp only[hv,aS]
  |false=>rw[aS,dB,dB,tr h xs]
theorem BW{v val:Bytes}:∀(w:aM),dB v w=none->dB v (vX v val w)=some val
 | [],_=>by simp[vX,dB]
 |x::xs,h=>by
  rw[dB]at h;rw[vX];cases hx:x.var==v with
  |true=>rw[hx]at h;cases h
  |false=>
   rw[hx,aS]at h;cases !(Op.bytesLess x.var v||false)with
   |true=>rw[aH,dB];simp
   |false=>rw[aS,dB,hx,aS];exact BW xs h
theorem wz{t o:Bytes}:∀ {w:aM},dB t w=some o->∃p∈w,p.var=t/\p.value=o
 |x::xs,h=>by
  rw[dB]at h;cases hx:x.var==t with
  |true=>rw[hx,aH]at h;cases h;exact⟨x,by simp,by simpa using hx,rfl⟩
  |false=>
   rw[hx,aS]at h;obtain⟨p,hp,h1⟩:=wz h;exact⟨p,by simp[hp],h1⟩
theorem Li{t:Bytes}:∀ {w:aM},dB t w=none->∀p∈w,p.var≠t
 |x::xs,h,p,hp=>by
  rw[dB]at h;cases hx:x.var==t with
  |true=>rw[hx]at h;cases h
  |false=>
   rw[hx,aS]at h;rcases bE.1 hp with rfl|hp
   ·simpa using hx
   ·exact Li h p hp
theorem pY(p:Option aQ)(x:aQ)(xs:aM):nw p (x::xs)=(fK x.var&&(fL x.value&&((match p with|some q=>Op.bytesLess q.var x.var|none=>true)&&nw (some x) xs))):=by
 cases p<;>rfl
theorem NK{v val:Bytes}(hv:fK v=true)(ha:fL val=true):∀(w:aM) (p:Option aQ),nw p w=true->dB v w=none->(∀q,p=some q->Op.bytesLess q.var v=true)->nw p (vX v val w)=true
 | [],p,_,_,hp=>by
  simp only[vX,nw,hv,ha,eH,xG];cases p with
  |none=>rfl
  |some q=>exact hp q rfl
 |x::xs,p,hc,hf,hp=>by
  rw[pY]at hc;simp only[aR]at hc;obtain⟨c1,c2,c3,c4⟩:=hc;rw[dB]at hf;cases hx:x.var==v with
  |true=>rw[hx]at hf;cases hf
  |false=>
   rw[hx,aS]at hf;rw[vX,hx,sS];cases hl:Op.bytesLess x.var v with
   |true=>
    rw[bh,aS,pY];simp only[aR];exact⟨c1,c2,c3,NK hv ha xs (some x) c4 hf (fun q hq=>by cases hq;exact hl)⟩
   |false=>
    have h2:Op.bytesLess v x.var=true:=by
     cases h3:Op.bytesLess v x.var with
     |true=>rfl
     |false=>
      have:=Dm hl h3;rw[this]at hx;simp at hx
    rw[cy,aH,pY];simp only[aR];refine⟨hv,ha,?_,?_⟩
    ·cases p with
     |none=>rfl
     |some q=>exact hp q rfl
    ·rw[pY];simp only[aR];exact⟨c1,c2,h2,c4⟩
theorem Dk{v val:Bytes}{w:aM}(hv:fK v=true)(ha:fL val=true)(hb:iH w=true)(hf:dB v w=none)(hl:w.length≠6):iH (vX v val w)=true:=by
 have h6:=F8 hb;unfold iH at hb⊢;rw[aR]at hb⊢;exact⟨NK hv ha w none hb.1 hf (fun q h=>by cases h),by rw[Bj];simp;omega⟩
theorem P4{p:aE}(h:xh p=true):∀t∈p.args,nr t=true:=by
 unfold xh at h;rw[aR]at h;exact fun t ht=>ai.1 h.1 t ht
end Go.Cx
namespace Go.Cx
open Go.RowKit Go.Proofs Tryz
theorem J8(l:aP)(h:l.length<=1048576)(hf:∀f∈l,f.args.length<=1048576):jh l=some l:=by
 unfold jh;refine(It (c:=aE.c) (b:=40) (f:=eO) (g:=fun x=>x) (L:=mo l _) (k:=fun q=>some q) (by decide) (fun _ _=>rfl) (fun _ _ _ _=>rfl) l 0 [] (fun f h=>zx f (by have:=hf f h;omega)) (by simp;omega)).trans ?_;simp
theorem Lw(l:aP)(h:l.length<=1048576)(hf:∀f∈l,f.args.length<=1048576):kG l=some l:=by
 unfold kG;refine(It (c:=aE.c) (b:=40) (f:=iq) (g:=fun x=>x) (L:=lX l _) (k:=fun q=>some q) (by decide) (fun _ _=>rfl) (fun _ _ _ _=>rfl) l 0 [] (fun f h=>Rs f (by have:=hf f h;omega)) (by simp;omega)).trans ?_;simp
def TK(n:Nat)(t:aY):Prop:=t.facts.length<=n/\(∀f∈t.facts,f.wt<=1048576)/\PB t.bind
theorem TK.le{n m:Nat}{t:aY}(h:TK n t)(hm:n<=m):TK m t:=⟨by have:=h.1;omega,h.2⟩
theorem a3W(t:aY)(h:TK 1048576 t):uX t=some t:=by
 unfold uX;rw[J8 t.facts h.1 (fun f hf=>by have:=aE.fB (h.2.1 f hf);omega),aA,SG t.bind (by have:=h.2.2.1;omega),aA]
def ext1(c:aN)(t:aY)(f:aE):bB:=bif (p8 c.pat f t.bind).2 then [⟨t.facts++[f],(p8 c.pat f t.bind).1⟩]else []
def CW(c:aN)(fs:aP)(t:aY):bB:=bif decide (c.kind=1)then fs.flatMap (ext1 c t)else bif Ba c t.bind fs then [t]else []
def tU(fs:aP)(l:bB)(c:aN):bB:=l.flatMap (CW c fs)
def uf(cs:ah)(fs:aP):bB:=cs.foldl (tU fs) [⟨[],[]⟩]
theorem Vs(c:aN)(t:aY)(f:aE):(ext1 c t f).length<=1:=by unfold ext1;cases(p8 c.pat f t.bind).2<;>simp
theorem Le(c:aN)(t:aY)(fs:aP):(fs.flatMap (ext1 c t)).length<=fs.length:=by
 induction fs with
 |nil=>simp
 |cons f fs ih=>rw[cm,ar];have:=Vs c t f;simp only[aT];omega
theorem MI(c:aN)(fs:aP)(t:aY):(CW c fs t).length<=fs.length+1:=by
 unfold CW;cases decide (c.kind=1)with
 |true=>have:=Le c t fs;rw[aH];omega
 |false=>cases Ba c t.bind fs<;>simp
theorem MJ(fs:aP)(l:bB)(c:aN):(tU fs l c).length<=l.length*(fs.length+1):=by
 unfold tU
 induction l with
 |nil=>simp
 |cons t l ih=>rw[cm,ar,aT,yd];have:=MI c fs t;omega
theorem a02{c:aN}{fs:aP}{t:aY}{n:Nat}(h:TK n t)(hc:c.wt<=1048576)(hf:FS fs):∀u∈CW c fs t,TK (n+1) u:=by
 intro u hu;unfold CW at hu;cases hk:decide (c.kind=1)with
 |false=>
  rw[hk,aS]at hu;cases hh:Ba c t.bind fs with
  |false=>rw[hh]at hu;cases hu
  |true=>
   rw[hh,aH,cI]at hu;subst hu;exact h.le (by omega)
 |true=>
  rw[hk,aH]at hu;obtain⟨f,hf1,hu⟩:=bg.1 hu;unfold ext1 at hu;cases hm:(p8 c.pat f t.bind).2 with
  |false=>rw[hm]at hu;cases hu
  |true=>
   rw[hm,aH,cI]at hu;subst hu;refine⟨by have:=h.1;simp;omega,?_,Zv h.2.2 (aN.gE hc) (hf.2 f hf1)⟩;intro g hg;rcases aU.1 hg with hg|hg
   ·exact h.2.1 g hg
   ·rw[cI]at hg;rw[hg];exact hf.2 f hf1
theorem Oe{c:aN}{fs:aP}{l:bB}{n:Nat}(h:∀t∈l,TK n t)(hc:c.wt<=1048576)(hf:FS fs):∀u∈tU fs l c,TK (n+1) u:=by
 intro u hu;obtain⟨t,ht,hu⟩:=bg.1 hu;exact a02 (h t ht) hc hf u hu
theorem T0{γ:Type}{mf:aE->Option (aM×Bool)}{cps:Option aP}{cp:aE->Option aE}{c:aN}{t:aY}{L:aP->Nat->bB->Option γ}{k:bB->Option γ}(hm:∀f:aE,f.wt<=1048576->mf f=some (p8 c.pat f t.bind))(hcs:cps=some t.facts)(hc:∀f:aE,f.wt<=1048576->cp f=some f)(ht:t.facts.length<=1048576)(tu:∀i w,L [] i w=k w)
 (uH:∀x xs i w,L (x::xs) i w=((mf x).bind fun y=>(bif y.2 then(cps.bind fun q=>((cp x).bind fun z=>(bif room ((q.map aE.c).length+([[D.str z.rel,D.sl (z.args.map tx)]]).length) 40 then(bif room ((w.map aY.c).length+([[D.sl ((q.map aE.c)++([[D.str z.rel,D.sl (z.args.map tx)]])),D.sl (y.1.map aQ.c)]]).length) 48 then(L xs (i+1) (w++([(⟨q++([z]),y.1⟩:aY)])))else none)else none)))else(L xs (i+1) w)))):
 ∀(l:aP) (i:Nat) (w:bB),(∀f∈l,f.wt<=1048576)->w.length+l.length<1099511627770->L l i w=k (w++l.flatMap (ext1 c t)):=by
 intro l
 induction l with
 |nil=>intro i w _ _;rw[tu];simp
 |cons x xs ih=>
  intro i w hl hw;simp only[aT]at hw;have hx:=hl x (by simp);rw[uH,hm x hx,aA,hcs,aA,hc x hx,aA,gF (by omega) (by decide),aH,gF (by omega) (by decide),aH,cm];rw[show ext1 c t x=bif (p8 c.pat x t.bind).2 then [⟨t.facts++[x],(p8 c.pat x t.bind).1⟩]else []from rfl];cases(p8 c.pat x t.bind).2 with
  |true=>rw[aH,aH,ih _ _ (fun f hf=>hl f (by simp[hf])) (by simp;omega)];simp
  |false=>rw[aS,aS,ih _ _ (fun f hf=>hl f (by simp[hf])) (by omega)];simp
theorem TP(c:aN):((c.kind:Int) != 1)= !decide (c.kind=1):=by
 show(!((c.kind:Int)==1))=_;rw[xI]
theorem a3e(l0:bB)(c:aN)(fs:aP)(k:bB->Option bB)(hc:c.wt<=1048576)(hf:FS fs):∀(l:bB) (i:Nat) (w:bB),(∀t∈l,TK 1048576 t)->w.length+l.length*(fs.length+1)<1099511627700->gu l0 c fs k l i w=k (w++tU fs l c):=by
 intro l;have h1:=hf.1
 induction l with
 |nil=>intro i w _ _;rw[gu];simp[tU]
 |cons t l ih=>
  intro i w hl hw;rw[aT,yd]at hw;have ht:=hl t (by simp);have e:tU fs (t::l) c=CW c fs t++tU fs l c:=by simp[tU]
  have hn:=MI c fs t;have he:=Le c t fs;rw[gu,TP,a6I c t.bind fs hc ht.2.2 hf,aA,a3W t ht,aA,gF (by omega) (by decide),aH,sO (by omega),aH,e];rw[T0 (mf:=fun f=>kL c.pat f t.bind) (cps:=jh t.facts) (cp:=eO) (c:=c) (t:=t) (L:=n8 l0 c fs i t _) (k:=_) (fun f h=>a6M c.pat f t.bind (aN.gE hc) h ht.2.2) (J8 t.facts ht.1 (fun f hf=>by have:=aE.fB (ht.2.1 f hf);omega)) (fun f h=>zx f (by have:=aE.fB h;omega)) ht.1 (fun _ _=>rfl) (fun _ _ _ _=>rfl) fs 0 w hf.2 (by omega)];unfold CW;cases decide (c.kind=1)with
  |true=>simp only[bh,aS,aH];rw[ih _ _ (fun u hu=>hl u (by simp[hu])) (by rw[ar];omega)];simp
  |false=>
   simp only[cy,aH,aS];cases Ba c t.bind fs with
   |true=>simp only[aH];rw[ih _ _ (fun u hu=>hl u (by simp[hu])) (by rw[ar];simp;omega)];simp
   |false=>simp only[aS];rw[ih _ _ (fun u hu=>hl u (by simp[hu])) (by omega)];simp
theorem a6O(l:bB)(c:aN)(fs:aP)(hc:c.wt<=1048576)(hf:FS fs)(hl:∀t∈l,TK 1048576 t)(hn:l.length*(fs.length+1)<1099511627700):uY l c fs=some (tU fs l c):=by
 unfold uY;rw[a3e l c fs _ hc hf l 0 [] hl (by simpa using hn)];simp
theorem Og:∀t∈[(⟨[],[]⟩:aY)],TK 0 t:=by
 intro t ht;rw[cI]at ht;subst ht;exact⟨by simp,by simp,PB.nil⟩
theorem XP{n:Nat}(h:n<=4):[(⟨[],[]⟩:aY)].length*25^n<=390625:=by
 have:=tI (n:=25) (by decide) h;simp only[dS,nI];exact this
theorem a3q(c0:ah)(fs:aP)(k:bB->Option bB)(hf:FS fs)(h24:fs.length<=24):∀(cs:ah) (i:Nat) (w:bB) (n:Nat),(∀c∈cs,c.wt<=1048576)->(∀t∈w,TK n t)->n+cs.length<=1048576->w.length*25^cs.length<=390625->jz c0 fs k cs i w=k (cs.foldl (tU fs) w):=by
 intro cs
 induction cs with
 |nil=>intro i w n _ _ _ _;rfl
 |cons c cs ih=>
  intro i w n hc hw hn hl;simp only[aT]at hn;rw[aT,vf,Bv (25^cs.length) 25,<-GK]at hl;have hp:1<=25^cs.length:=Nat.one_le_pow _ _ (by decide);have BZ:w.length*25<=390625:=dh (B1 _ hp) hl;have h25:w.length*(fs.length+1)<=w.length*25:=cr _ (by omega);rw[jz,a6O w c fs (hc c (by simp)) hf (fun t ht=>(hw t ht).le (by omega)) (by omega),aA];refine ih _ _ (n+1) (fun x hx=>hc x (by simp[hx])) (Oe hw (hc c (by simp)) hf) (by omega) ?_;exact dh (dW _ (dh (MJ fs w c) h25)) hl
theorem Y4(cs:ah)(fs:aP)(hc:∀c∈cs,c.wt<=1048576)(h4:cs.length<=4)(hf:FS fs)(h24:fs.length<=24):mF cs fs=some (uf cs fs):=by
 unfold mF;exact a3q cs fs _ hf h24 cs 0 _ 0 hc Og (by omega) (XP h4)
theorem Zi(c0:ah)(fs:aP)(w0:bB)(i1:Nat)(c:aN)(k:bB->Option bB)(hc:c.wt<=1048576)(hf:FS fs):∀(l:bB) (i:Nat) (w:bB),(∀t∈l,TK 1048576 t)->w.length+l.length*(fs.length+1)<1099511627700->fO c0 fs w0 i1 c k l i w=k (w++tU fs l c):=by
 intro l;have h1:=hf.1
 induction l with
 |nil=>intro i w _ _;rw[fO];simp[tU]
 |cons t l ih=>
  intro i w hl hw;rw[aT,yd]at hw;have ht:=hl t (by simp);have e:tU fs (t::l) c=CW c fs t++tU fs l c:=by simp[tU]
  have hn:=MI c fs t;have he:=Le c t fs;rw[fO,TP,a5Y c t.bind fs hc ht.2.2 hf,aA,gF (by omega) (by decide),aH,sO (by omega),aH,e];rw[T0 (mf:=fun f=>kC c.pat f t.bind) (cps:=kG t.facts) (cp:=iq) (c:=c) (t:=t) (L:=js c0 fs i w0 t i1 c _) (k:=_) (fun f h=>a5a c.pat f t.bind (aN.gE hc) h ht.2.2) (Lw t.facts ht.1 (fun f hf=>by have:=aE.fB (ht.2.1 f hf);omega)) (fun f h=>Rs f (by have:=aE.fB h;omega)) ht.1 (fun _ _=>rfl) (fun _ _ _ _=>rfl) fs 0 w hf.2 (by omega)];unfold CW;cases decide (c.kind=1)with
  |true=>simp only[bh,aS,aH];rw[ih _ _ (fun u hu=>hl u (by simp[hu])) (by rw[ar];omega)];simp
  |false=>
   simp only[cy,aH,aS];cases Ba c t.bind fs with
   |true=>simp only[aH];rw[ih _ _ (fun u hu=>hl u (by simp[hu])) (by rw[ar];simp;omega)];simp
   |false=>simp only[aS];rw[ih _ _ (fun u hu=>hl u (by simp[hu])) (by omega)];simp
theorem a32(c0:ah)(fs:aP)(k:bB->Option bB)(hf:FS fs)(h24:fs.length<=24):∀(cs:ah) (i:Nat) (w:bB) (n:Nat),(∀c∈cs,c.wt<=1048576)->(∀t∈w,TK n t)->n+cs.length<=1048576->w.length*25^cs.length<=390625->jr c0 fs k cs i w=k (cs.foldl (tU fs) w):=by
 intro cs
 induction cs with
 |nil=>intro i w n _ _ _ _;rfl
 |cons c cs ih=>
  intro i w n hc hw hn hl;simp only[aT]at hn;rw[aT,vf,Bv (25^cs.length) 25,<-GK]at hl;have hp:1<=25^cs.length:=Nat.one_le_pow _ _ (by decide);have BZ:w.length*25<=390625:=dh (B1 _ hp) hl;have h25:w.length*(fs.length+1)<=w.length*25:=cr _ (by omega);rw[jr,sO (by omega),aH,Zi c0 fs w i c _ (hc c (by simp)) hf w 0 [] (fun t ht=>(hw t ht).le (by omega)) (by simp only[bW];omega),dM];refine ih _ _ (n+1) (fun x hx=>hc x (by simp[hx])) (Oe hw (hc c (by simp)) hf) (by omega) ?_;exact dh (dW _ (dh (MJ fs w c) h25)) hl
theorem a14(cs:ah)(fs:aP)(hc:∀c∈cs,c.wt<=1048576)(h4:cs.length<=4)(hf:FS fs)(h24:fs.length<=24):pO cs fs=some (uf cs fs):=by
 unfold pO;exact a32 cs fs _ hf h24 cs 0 _ 0 hc Og (by omega) (XP h4)
theorem FD{r:aI}(h:eU r=true):r.conds.length<=4:=by
 unfold eU at h;simp only[aR,bA]at h;omega
theorem LX{r:aI}:∀ {l:ah} {i:Nat},rX r l i=true->∀c∈l,nJ c=true
 | [],_,_,c,hc=>by cases hc
 |x::xs,i,h,c,hc=>by
  simp only[rX,aR]at h;rcases bE.1 hc with rfl|hc
  ·exact h.1.1.1
  ·exact LX h.2 c hc
theorem AT{r:aI}(h:eU r=true):∀c∈r.conds,nJ c=true:=by
 unfold eU at h;simp only[aR]at h;exact LX h.2.1
theorem qv{l:aP}(h:mM l=true):l.length<=24:=by
 unfold mM at h;simp only[aR,bA]at h;exact h.2
theorem a63{n:Nat}{a:Int}(h0:0<=a)(h1:a.toNat<=n):yJ n none (some (D.int .i64 a))=some (0,a.toNat):=by
 unfold yJ;simp only[bL (show 0<=a/\a.toNat<=n from⟨h0,h1⟩)]
def tkO(r:aI)(n:Int)(fs:aP):bB:=bif eU r&&(mM fs&&(decide (n>=0)&&decide (n<=(r.conds.length:Int))))then uf (r.conds.take n.toNat) fs else []
theorem a0U{r:aI}(h:r.wt<=1048576)(n:Nat):∀c∈r.conds.take n,c.wt<=1048576:=fun c hc=>aI.pE h (bz hc)
theorem a96(r:aI)(n:Int)(fs:aP)(hr:r.wt<=1048576)(hf:qm aE.wt fs<=1048576):yD r n fs=some (tkO r n fs):=by
 unfold yD tkO;rw[Xt r hr,aA,a1Z fs hf,aA,GW,aA,au];cases h1:eU r with
 |false=>rfl
 |true=>
  cases h2:mM fs with
  |false=>rfl
  |true=>
   cases h3:(decide (n>=0)&&decide (n<=(r.conds.length:Int)))with
   |false=>rfl
   |true=>
    simp only[aR,bA]at h3;simp only[bh,aS,eH,aH];rw[a63 h3.1 (by omega),aA];simp only[zA];have h4:=FD h1;rw[Y4 _ fs (a0U hr _) (by rw[bw];omega) (FS.of hf) (qv h2)];rfl
theorem YG{r:aI}{fs:aP}(h1:eU r=true)(h2:mM fs=true){j:Nat}(hj:j<=r.conds.length):tkO r (j:Int) fs=uf (r.conds.take j) fs:=by
 unfold tkO;rw[h1,h2];have e1:decide ((j:Int)>=0)=true:=by simp
 have e2:decide ((j:Int)<=(r.conds.length:Int))=true:=by simp;omega
 rw[e1,e2];simp
def R3(r:aI)(fs:aP):bV:=(tkO r (r.conds.length:Int) fs).map fun t=>⟨r.name,t.facts,t.bind⟩
theorem JC{cs:ah}{fs:aP}(h4:cs.length<=4)(h24:fs.length<=24):(uf cs fs).length<=390625:=by
 have key:∀(cs:ah) (w:bB),w.length*25^cs.length<=390625->(cs.foldl (tU fs) w).length<=390625:=by
  intro cs
  induction cs with
  |nil=>intro w h;simpa using h
  |cons c cs ih=>
   intro w h;rw[aT,vf,Bv (25^cs.length) 25,<-GK]at h;refine ih _ ?_;have h25:w.length*(fs.length+1)<=w.length*25:=cr _ (by omega);exact dh (dW _ (dh (MJ fs w c) h25)) h
 exact key cs _ (XP h4)
theorem P6(r:aI)(n:Int)(fs:aP):(tkO r n fs).length<=390625:=by
 unfold tkO;cases h1:eU r with
 |false=>simp
 |true=>
  cases h2:mM fs with
  |false=>simp
  |true=>
   have h4:=FD h1;cases(decide (n>=0)&&decide (n<=(r.conds.length:Int)))with
   |false=>simp
   |true=>exact JC (by rw[bw];omega) (qv h2)
theorem a94(r:aI)(fs:aP)(hr:r.wt<=1048576)(hf:qm aE.wt fs<=1048576):wo r fs=some (R3 r fs):=by
 unfold wo R3;have hl:=P6 r (r.conds.length:Int) fs;rw[au,a96 r _ fs hr hf,aA,sO (by omega),aH];refine(It (c:=ax.c) (b:=64) (f:=fun t:aY=>some (⟨r.name,t.facts,t.bind⟩:ax)) (g:=fun t=>⟨r.name,t.facts,t.bind⟩) (L:=uL r _ _) (k:=fun q=>some q) (by decide) (fun _ _=>rfl) (fun _ _ _ _=>rfl) _ 0 [] (fun _ _=>rfl) (by simp;omega)).trans ?_;simp
theorem US(a b:ax):((a.rule==b.rule)&&(decide (a.facts=b.facts)&&decide (a.bind=b.bind)))=decide (a=b):=by
 cases a;cases b;rw[bn];simp
theorem a3l(a b:ax):rJ a b=some (decide (a=b)):=by
 unfold rJ;rw[L9,aA,Xy,aA,<-US];cases a.rule==b.rule<;>cases decide (a.facts=b.facts)<;>rfl
theorem Pb{all:aq}:∀ {l:aq} {i:Nat},Ki all l i=true->∀r∈l,eU r=true
 | [],_,_,r,hr=>by cases hr
 |x::xs,i,h,r,hr=>by
  simp only[Ki,aR]at h;rcases bE.1 hr with rfl|hr
  ·exact h.1.1
  ·exact Pb h.2 r hr
theorem qu{l:aq}(h:rP l=true):∀r∈l,eU r=true:=by
 unfold rP at h;simp only[aR]at h;exact Pb h.1
end Go.Cx
namespace Go.Cx
open Go.RowKit Go.Proofs Tryz
theorem Jz:∀(a b:aG),a.Nodup->(∀x∈a,x∈b)->a.length<=b.length
 | [],b,_,_=>Di _
 |x::xs,b,hn,hs=>by
  rw[dN]at hn;have h1:=Jz xs (b.erase x) hn.2 fun y hy=>(List.mem_erase_of_ne (fun e=>hn.1 (by rw[<-e];exact hy))).2 (hs y (by simp[hy]))
  have h2:=qN (hs x (by simp));have h3:0<b.length:=Bt (hs x (by simp));simp only[aT];omega
theorem Hr{x:Bytes}(h:fL x=true):fK x=false:=by
 cases hv:fK x with
 |false=>rfl
 |true=>rw[oN hv]at h;cases h
theorem K8{r:aI}(h:eU r=true):(eV (yB r.conds)).length<=6:=by
 unfold eU at h;simp only[aR,bA]at h;omega
theorem B7{c:aN}(hc:nJ c=true)(hk:c.kind=1\/c.kind=2):xh c.pat=true/\c.left=[]/\c.right=[]:=by
 unfold nJ at hc;have:(decide (c.kind=1)||decide (c.kind=2))=true:=by simpa using hk
 rw[this,aH]at hc;simp only[aR,cV]at hc;exact⟨hc.1,hc.2.1,hc.2.2⟩
theorem LU{c:aN}(hc:nJ c=true)(h1:c.kind≠1)(h2:c.kind≠2):(decide (c.kind=3)||decide (c.kind=4)||decide (c.kind=5))=true/\Bo c.pat=true/\nr c.left=true/\nr c.right=true:=by
 unfold nJ at hc;rw[bM h1,bM h2,sS,aS]at hc;cases h:(decide (c.kind=3)||decide (c.kind=4)||decide (c.kind=5))with
 |false=>rw[h]at hc;cases hc
 |true=>
  rw[h,aH]at hc;simp only[aR]at hc;exact⟨rfl,hc.1,hc.2.1,hc.2.2⟩
theorem KH{p:Option aQ}{b:aM}(h:nw p b=true):nw none b=true:=by
 cases b with
 |nil=>rfl
 |cons x xs=>
  rw[pY]at h⊢;simp only[aR]at h⊢
  first|exact⟨h.1,h.2.1,rfl,h.2.2.2⟩|exact⟨h.1,h.2.1,h.2.2.2⟩|exact⟨h.1,h.2.1,trivial,h.2.2.2⟩
theorem Hu:∀ {b:aM} {p:aQ},nw (some p) b=true->∀x∈b,Op.bytesLess p.var x.var=true
 |y::ys,p,h,x,hx=>by
  rw[pY]at h;simp only[aR]at h;rcases bE.1 hx with rfl|hx
  ·exact h.2.2.1
  ·exact xM h.2.2.1 (Hu h.2.2.2 x hx)
theorem KI:∀ {b:aM} {p:Option aQ},nw p b=true->(b.map aQ.var).Nodup
 | [],_,_=>by simp
 |x::xs,p,h=>by
  rw[pY]at h;simp only[aR]at h;rw[ay,dN];refine⟨fun hm=>?_,KI h.2.2.2⟩;obtain⟨q,hq,e⟩:=cA.1 hm;have:=Hu h.2.2.2 q hq;rw[e,pG]at this;cases this
theorem tL{b:aM}(h:iH b=true):nw none b=true:=by
 unfold iH at h;rw[aR]at h;exact h.1
theorem B5:∀ {b:aM} {p:Option aQ},nw p b=true->∀x∈b,fK x.var=true/\fL x.value=true
 |y::ys,p,h,x,hx=>by
  rw[pY]at h;simp only[aR]at h;rcases bE.1 hx with rfl|hx
  ·exact⟨h.1,h.2.1⟩
  ·exact B5 h.2.2.2 x hx
theorem NI:∀ {a b:aM},nw none a=true->nw none b=true->(∀v,dB v a=dB v b)->a=b
 | [],[],_,_,_=>rfl
 | [],y::ys,_,_,h=>by have:=h y.var;simp[dB]at this
 |x::xs,[],_,_,h=>by have:=h x.var;simp[dB]at this
 |x::xs,y::ys,ha,hb,h=>by
  have ha0:=ha;have hb0:=hb;rw[pY]at ha hb;simp only[aR]at ha hb;have key:∀ {u v:aQ} {us vs:aM},nw (some u) us=true->nw (some v) vs=true->(∀t,dB t (u::us)=dB t (v::vs))->Op.bytesLess u.var v.var=false:=by
   intro u v us vs hu hv ht;cases hl:Op.bytesLess u.var v.var with
   |false=>rfl
   |true=>
    have h1:=ht u.var;rw[show dB u.var (u::us)=some u.value by simp[dB]]at h1;obtain⟨q,hq,e,_⟩:=wz h1.symm;rcases bE.1 hq with rfl|hq
    ·rw[e,pG]at hl;cases hl
    ·have:=xM hl (Hu hv q hq);rw[e,pG]at this;cases this
  have e1:=key ha.2.2.2 hb.2.2.2 h;have e2:=key hb.2.2.2 ha.2.2.2 (fun t=>(h t).symm);have ev:x.var=y.var:=Dm e1 e2;have e3:x.value=y.value:=by
   have:=h x.var;rw[show dB x.var (x::xs)=some x.value by simp[dB],show dB x.var (y::ys)=some y.value by simp[dB,ev]]at this;exact lq this
  have e4:x=y:=by cases x;cases y;cases ev;cases e3;rfl
  subst e4
  congr 1
  refine NI (KH ha.2.2.2) (KH hb.2.2.2) fun v=>?_
  by_cases hv:x.var=v
  ·have n1:∀ {l:aM},nw (some x) l=true->dB v l=none:=by
    intro l hl;cases hf:dB v l with
    |none=>rfl
    |some o=>
     obtain⟨q,hq,e,_⟩:=wz hf;have:=Hu hl q hq;rw[hv,e,pG]at this;cases this
   rw[n1 ha.2.2.2,n1 hb.2.2.2]
  ·have:=h v;have hne:(x.var==v)=false:=by rw[cu];exact hv
   rw[dB,dB,hne,aS,aS]at this;exact this
structure WB(U:List Bytes)(b:List aQ):Prop where
 ok:iH b=true
 sub:∀p∈b,p.var∈U
theorem WB.nil(U:aG):WB U []:=⟨rfl,fun p h=>by cases h⟩
theorem WB.room{U:aG}(hU:U.length<=6){b:aM}(h:WB U b){x:Bytes}(hx:x∈U)(hf:dB x b=none):b.length≠6:=by
 have h1:(x::b.map aQ.var).length<=U.length:=Jz _ _ (by
  rw[dN];refine⟨fun hm=>?_,KI (tL h.ok)⟩;obtain⟨p,hp,e⟩:=cA.1 hm;exact Li hf p hp e) (fun y hy=>by
  rcases bE.1 hy with rfl|hy
  ·exact hx
  ·obtain⟨p,hp,rfl⟩:=cA.1 hy;exact h.sub p hp)
 simp only[aT,au]at h1;omega
theorem WB.set{U:aG}(hU:U.length<=6){b:aM}(h:WB U b){x y:Bytes}(hx:x∈U)(hv:fK x=true)(ha:fL y=true)(hf:dB x b=none):WB U (vX x y b):=
 ⟨Dk hv ha h.ok hf (h.room hU hx hf),fun p hp=>by
  rcases Qk x y b hp with e|e
  ·rw[e];exact hx
  ·exact h.sub p e⟩
theorem WB.ext{U:aG}{a b:aM}(ha:WB U a)(hb:WB U b)(h:∀v,dB v a=dB v b):a=b:=NI (tL ha.ok) (tL hb.ok) h
theorem ZN{U:aG}(hU:U.length<=6){b:aM}(h:WB U b){x y:Bytes}(hx:x∈U)(hv:fK x=true):wu b x y=if fL y=true then(match dB x b with|some o=>bif o==y then(b,true)else([],false)|none=>(vX x y b,true))else([],false):=by
 unfold wu;rw[h.ok,hv];simp only[eH];cases ha:fL y with
 |false=>rfl
 |true=>
  rw[aH,bL rfl];cases hf:dB x b with
  |some o=>rfl
  |none=>dsimp only;rw[bM (h.room hU hx hf),aS]
def Says(h:Bytes->Bytes)(b:aM):Prop:=∀v o,dB v b=some o->h v=o
theorem tq{x y v:Bytes}{b:aM}(hf:dB x b=none):dB v (vX x y b)=if v=x then some y else dB v b:=by
 by_cases e:v=x
 ·subst e;rw[bL rfl,BW _ hf]
 ·rw[b8 e,tr (fun e2=>e e2.symm)]
theorem XA{U:aG}(hU:U.length<=6):∀(l r:aG) (b:aM),WB U b->(∀x∈l,nr x=true)->(∀x∈l,fK x=true->x∈U)->(∀y∈r,fL y=true)->l.length=r.length->
 ((sP l r b).2=true↔∃h,Says h b/\Fix h/\r=l.map h)/\((sP l r b).2=true->WB U (sP l r b).1/\∀v o,(dB v (sP l r b).1=some o↔dB v b=some o\/(v∈l/\fK v=true/\∀h,Says h b->Fix h->r=l.map h->h v=o))):=by
 intro l
 induction l with
 |nil=>
  intro r b hb _ _ _ hl;have hr:r=[]:=by cases r with|nil=>rfl|cons _ _=>simp at hl
  subst hr;refine⟨⟨fun _=>?_,fun _=>rfl⟩,fun _=>⟨hb,fun v o=>⟨fun h=>.inl h,fun h=>?_⟩⟩⟩
  ·refine⟨fun y=>(dB y b).getD y,fun v o ho=>by simp[ho],fun y hy=>?_,rfl⟩;cases hf:dB y b with
   |none=>simp[hf]
   |some o=>
    obtain⟨p,hp,h1,_⟩:=wz hf;have:=(B5 (tL hb.ok) p hp).1;rw[h1]at this;rw[oN this]at hy;cases hy
  ·rcases h with h|⟨h,_⟩
   ·exact h
   ·cases h
 |cons x xs ih=>
  intro r b hb ht hv L3 hl;cases r with
  |nil=>simp at hl
  |cons y ys=>
   have ht':∀z∈xs,nr z=true:=fun z hz=>ht z (by simp[hz])
   have Yg:∀z∈xs,fK z=true->z∈U:=fun z hz=>hv z (by simp[hz])
   have ha':∀z∈ys,fL z=true:=fun z hz=>L3 z (by simp[hz])
   have hl':xs.length=ys.length:=by simpa using hl
   have hay:=L3 y (by simp);cases hx:fL x with
   |true=>
    have TJ:=Hr hx;cases hxy:x==y with
    |false=>
     have e:sP (x::xs) (y::ys) b=([],false):=by simp only[sP,hx,hxy,aH,aS]
     rw[e];refine⟨⟨fun h=>(by cases h),?_⟩,fun h=>(by cases h)⟩;rintro⟨h,_,h2,h3⟩;rw[ay,h2 x hx]at h3;have:x=y:=(nE h3).1.symm;rw[this]at hxy;simp at hxy
    |true=>
     have exy:x=y:=by simpa using hxy
     have e:sP (x::xs) (y::ys) b=sP xs ys b:=by simp only[sP,hx,hxy,aH]
     rw[e];obtain⟨i1,i2⟩:=ih ys b hb ht' Yg ha' hl';have hh:∀h:Bytes->Bytes,Fix h->(y::ys=(x::xs).map h↔ys=xs.map h):=by
      intro h hf;rw[ay,hf x hx,exy];exact⟨fun q=>(nE q).2,fun q=>by rw[<-q]⟩
     refine⟨⟨fun h=>?_,?_⟩,fun h=>?_⟩
     ·obtain⟨g,g1,g2,g3⟩:=i1.1 h;exact⟨g,g1,g2,(hh g g2).2 g3⟩
     ·rintro⟨g,g1,g2,g3⟩;exact i1.2 ⟨g,g1,g2,(hh g g2).1 g3⟩
     ·obtain⟨k1,k2⟩:=i2 h;refine⟨k1,fun v o=>(k2 v o).trans ⟨?_,?_⟩⟩
      ·rintro(q|⟨q1,q2,q3⟩)
       ·exact .inl q
       ·exact .inr ⟨by simp[q1],q2,fun g g1 g2 g3=>q3 g g1 g2 ((hh g g2).1 g3)⟩
      ·rintro(q|⟨q1,q2,q3⟩)
       ·exact .inl q
       ·rcases bE.1 q1 with rfl|q1
        ·rw[TJ]at q2;cases q2
        ·exact .inr ⟨q1,q2,fun g g1 g2 g3=>q3 g g1 g2 ((hh g g2).2 g3)⟩
   |false=>
    have TJ:fK x=true:=by have:=ht x (by simp);unfold nr at this;rw[hx]at this;simpa using this
    have hxU:=hv x (by simp) TJ;have ee:=ZN hU hb (y:=y) hxU TJ;rw[bL hay]at ee;cases hf:dB x b with
    |some o=>
     rw[hf]at ee;dsimp only at ee;cases ho:o==y with
     |false=>
      rw[ho,aS]at ee;have e:sP (x::xs) (y::ys) b=([],false):=by simp only[sP,hx,aS,ee]
      rw[e];refine⟨⟨fun h=>(by cases h),?_⟩,fun h=>(by cases h)⟩;rintro⟨h,h1,h2,h3⟩;rw[ay,h1 x o hf]at h3;have:o=y:=(nE h3).1.symm;rw[this]at ho;simp at ho
     |true=>
      have eo:o=y:=by simpa using ho
      rw[ho,aH]at ee;have e:sP (x::xs) (y::ys) b=sP xs ys b:=by simp only[sP,hx,aS,ee,aH]
      rw[e];obtain⟨i1,i2⟩:=ih ys b hb ht' Yg ha' hl';have hh:∀h:Bytes->Bytes,Says h b->(y::ys=(x::xs).map h↔ys=xs.map h):=by
       intro h h1;rw[ay,h1 x o hf,eo];exact⟨fun q=>(nE q).2,fun q=>by rw[<-q]⟩
      refine⟨⟨fun h=>?_,?_⟩,fun h=>?_⟩
      ·obtain⟨g,g1,g2,g3⟩:=i1.1 h;exact⟨g,g1,g2,(hh g g1).2 g3⟩
      ·rintro⟨g,g1,g2,g3⟩;exact i1.2 ⟨g,g1,g2,(hh g g1).1 g3⟩
      ·obtain⟨k1,k2⟩:=i2 h;refine⟨k1,fun v q=>(k2 v q).trans ⟨?_,?_⟩⟩
       ·rintro(q1|⟨q1,q2,q3⟩)
        ·exact .inl q1
        ·exact .inr ⟨by simp[q1],q2,fun g g1 g2 g3=>q3 g g1 g2 ((hh g g1).1 g3)⟩
       ·rintro(q1|⟨q1,q2,q3⟩)
        ·exact .inl q1
        ·rcases bE.1 q1 with rfl|q1
         ·obtain⟨g,g1,g2,g3⟩:=i1.1 h;have:=q3 g g1 g2 ((hh g g1).2 g3);rw[g1 v o hf]at this;subst this;exact .inl hf
         ·exact .inr ⟨q1,q2,fun g g1 g2 g3=>q3 g g1 g2 ((hh g g1).2 g3)⟩
    |none=>
     rw[hf]at ee;dsimp only at ee;have e:sP (x::xs) (y::ys) b=sP xs ys (vX x y b):=by simp only[sP,hx,aS,ee,aH]
     rw[e];obtain⟨i1,i2⟩:=ih ys (vX x y b) (hb.set hU hxU TJ hay hf) ht' Yg ha' hl';have hs:∀h:Bytes->Bytes,Says h (vX x y b)↔Says h b/\h x=y:=by
      intro h;constructor
      ·intro q;refine⟨fun v o ho=>q v o ?_,q x y (BW _ hf)⟩;rw[tq hf,b8 (fun e=>by rw[e,hf]at ho;cases ho)];exact ho
      ·rintro⟨q1,q2⟩ v o ho;rw[tq hf]at ho;by_cases e:v=x
       ·rw[bL e]at ho;cases ho;rw[e];exact q2
       ·rw[b8 e]at ho;exact q1 v o ho
     have hh:∀h:Bytes->Bytes,(y::ys=(x::xs).map h↔h x=y/\ys=xs.map h):=by
      intro h;rw[ay];exact⟨fun q=>⟨(nE q).1.symm,(nE q).2⟩,fun q=>by rw[q.1,<-q.2]⟩
     refine⟨⟨fun h=>?_,?_⟩,fun h=>?_⟩
     ·obtain⟨g,g1,g2,g3⟩:=i1.1 h;obtain⟨g1,g4⟩:=(hs g).1 g1;exact⟨g,g1,g2,(hh g).2 ⟨g4,g3⟩⟩
     ·rintro⟨g,g1,g2,g3⟩;obtain⟨g4,g3⟩:=(hh g).1 g3;exact i1.2 ⟨g,(hs g).2 ⟨g1,g4⟩,g2,g3⟩
     ·obtain⟨k1,k2⟩:=i2 h;refine⟨k1,fun v q=>(k2 v q).trans ⟨?_,?_⟩⟩
      ·rintro(q1|⟨q1,q2,q3⟩)
       ·rw[tq hf]at q1;by_cases ev:v=x
        ·rw[bL ev]at q1;cases q1;refine .inr ⟨by simp[ev],by rw[ev];exact TJ,fun g g1 g2 g3=>by rw[ev];exact((hh g).1 g3).1⟩
        ·rw[b8 ev]at q1;exact .inl q1
       ·refine .inr ⟨by simp[q1],q2,fun g g1 g2 g3=>?_⟩;obtain⟨g4,g3⟩:=(hh g).1 g3;exact q3 g ((hs g).2 ⟨g1,g4⟩) g2 g3
      ·rintro(q1|⟨q1,q2,q3⟩)
       ·left
        rw[tq hf,b8 (fun e=>by rw[e,hf]at q1;cases q1)];exact q1
       ·by_cases ev:v=x
        ·left
         obtain⟨g,g1,g2,g3⟩:=i1.1 h;obtain⟨g1,g4⟩:=(hs g).1 g1;have:=q3 g g1 g2 ((hh g).2 ⟨g4,g3⟩);rw[ev,g4]at this;rw[tq hf,bL ev,this]
        ·rcases bE.1 q1 with q1|q1
         ·exact absurd q1 ev
         ·refine .inr ⟨q1,q2,fun g g1 g2 g3=>?_⟩;obtain⟨g1,g4⟩:=(hs g).1 g1;exact q3 g g1 g2 ((hh g).2 ⟨g4,g3⟩)
def Fits(p f:aE)(h:Bytes->Bytes):Prop:=rO f=true/\p.rel=f.rel/\f.args=p.args.map h
theorem XB{U:aG}(hU:U.length<=6){p f:aE}{b:aM}(hb:WB U b)(hp:xh p=true)(hv:∀x∈p.args,fK x=true->x∈U):
 ((p8 p f b).2=true↔∃h,Says h b/\Fix h/\Fits p f h)/\((p8 p f b).2=true->WB U (p8 p f b).1/\∀v o,(dB v (p8 p f b).1=some o↔dB v b=some o\/(v∈p.args/\fK v=true/\∀h,Says h b->Fix h->Fits p f h->h v=o))):=by
 cases hc:xh p&&(rO f&&(iH b&&(p.rel==f.rel&&decide (p.args.length=f.args.length))))with
 |false=>
  have e:p8 p f b=([],false):=by unfold p8;rw[hc];rfl
  rw[e];refine⟨⟨fun h=>(by cases h),?_⟩,fun h=>(by cases h)⟩;rintro⟨h,_,_,h1,h2,h3⟩;rw[hp,h1,hb.ok,h2,oV,bD (by rw[h3];simp)]at hc;cases hc
 |true=>
  have e:p8 p f b=sP p.args f.args b:=by unfold p8;rw[hc];rfl
  simp only[aR,cV,bA]at hc;obtain⟨_,c2,_,c4,c5⟩:=hc;have L3:∀y∈f.args,fL y=true:=by
   unfold rO at c2;rw[aR]at c2;exact ai.1 c2.1
  obtain⟨i1,i2⟩:=XA hU p.args f.args b hb (P4 hp) hv L3 c5;rw[e];have hf:∀h,Fits p f h↔f.args=p.args.map h:=fun h=>⟨fun q=>q.2.2,fun q=>⟨c2,c4,q⟩⟩
  refine⟨⟨fun h=>?_,?_⟩,fun h=>?_⟩
  ·obtain⟨g,g1,g2,g3⟩:=i1.1 h;exact⟨g,g1,g2,(hf g).2 g3⟩
  ·rintro⟨g,g1,g2,g3⟩;exact i1.2 ⟨g,g1,g2,(hf g).1 g3⟩
  ·obtain⟨k1,k2⟩:=i2 h;refine⟨k1,fun v o=>(k2 v o).trans ⟨?_,?_⟩⟩
   ·rintro(q|⟨q1,q2,q3⟩)
    ·exact .inl q
    ·exact .inr ⟨q1,q2,fun g g1 g2 g3=>q3 g g1 g2 ((hf g).1 g3)⟩
   ·rintro(q|⟨q1,q2,q3⟩)
    ·exact .inl q
    ·exact .inr ⟨q1,q2,fun g g1 g2 g3=>q3 g g1 g2 ((hf g).2 g3)⟩
theorem LW{r:aI}:∀ {pre rest:ah} {c:aN} {i:Nat},rX r (pre++c::rest) i=true->nJ c=true/\(i+pre.length=0->c.kind=1)/\∀v∈pZ c,Kp r (i+pre.length) c v=true
 | [],rest,c,i,h=>by
  rw[dM]at h;unfold rX at h;rw[NF]at h;simp only[aR,nu,pT,qp,bA]at h;refine⟨h.1.1.1,fun e=>?_,fun v hv=>ai.1 h.1.2 v hv⟩;rcases h.1.1.2 with q|q
  ·exact absurd (by simpa using e) q
  ·exact q
 |x::pre,rest,c,i,h=>by
  rw[qo]at h;unfold rX at h;rw[aR]at h;have:=LW h.2;rw[aT,show i+(pre.length+1)=i+1+pre.length by omega];exact this
theorem Oq{r:aI}(h:eU r=true):rX r r.conds 0=true:=by
 unfold eU at h;simp only[aR]at h;exact h.2.1
end Go.Cx
namespace Go.Cx
open Go.RowKit Go.Proofs Tryz
def YZ(sh:aE):bX->Nat->Option Nat
 | [],_=>none
 |x::xs,i=>if x.shape=sh then some i else YZ sh xs (i+1)
def YY(al:bX)(sh:aE):bX×Int:=match YZ sh al 0 with
 |some i=>(al,dU i)
 |none=>(al++[⟨sh,[]⟩],dU al.length)
theorem Kg{n:Nat}(h:n<=1099511627776):IntKind.i64.wrap (((n+1:Nat):Int)-1)=dU n:=by
 unfold dU;rw[di (pF.i64.2 (by omega))];omega
theorem a8z(n:aJ)(sh:aE)(k:Option (aJ×Int)):∀(l:bX) (i:Nat),lJ n sh k l i=match YZ sh l i with|some j=>some (n,dU j)|none=>k:=by
 intro l
 induction l with
 |nil=>intro i;rfl
 |cons x l ih=>
  intro i;rw[lJ,SI,aA,ih,YZ];by_cases h:x.shape=sh
  ·rw[bD h,aH,bL h];rfl
  ·rw[bM h,aS,b8 h]
theorem sAl(n:aJ)(sh:aE)(h:n.bG.length<=1048576):rN n sh=some (⟨n.rules,n.ends,(YY n.bG sh).1,n.nodes,n.facts,n.cg⟩,(YY n.bG sh).2):=by
 unfold rN;rw[sO (by omega),aH,a8z,gF (by omega) (by decide),aH];unfold YY;cases YZ sh n.bG 0 with
 |some j=>rfl
 |none=>
  dsimp only;rw[show((n.bG.map af.c)++[[D.str sh.rel,D.sl (sh.args.map tx),D.sl []]]).length=n.bG.length+1 by simp,Kg (by omega)]
theorem a8h(n:aJ)(sh:aE)(k:Option (aJ×Int)):∀(l:bX) (i:Nat),eZ n sh k l i=match YZ sh l i with|some j=>some (n,dU j)|none=>k:=by
 intro l
 induction l with
 |nil=>intro i;rfl
 |cons x l ih=>
  intro i;rw[eZ,Lx,aA,ih,YZ];by_cases h:x.shape=sh
  ·rw[bD h,aH,bL h];rfl
  ·rw[bM h,aS,b8 h]
theorem iAl(n:aJ)(sh:aE)(h:n.bG.length<=1048576):iI n sh=some (⟨n.rules,n.ends,(YY n.bG sh).1,n.nodes,n.facts,n.cg⟩,(YY n.bG sh).2):=by
 unfold iI;rw[sO (by omega),aH,a8h,gF (by omega) (by decide),aH];unfold YY;cases YZ sh n.bG 0 with
 |some j=>rfl
 |none=>
  dsimp only;rw[show((n.bG.map af.c)++[[D.str sh.rel,D.sl (sh.args.map tx),D.sl []]]).length=n.bG.length+1 by simp,Kg (by omega)]
def NG(p:Int)(c:aN):bR->Nat->Option Nat
 | [],_=>none
 |x::xs,i=>if 0<i/\x.parent=p/\x.cond=c then some i else NG p c xs (i+1)
def RD(al:bX)(c:aN):bX×Int:=if c.kind=1\/c.kind=2 then YY al (HW c.pat)else(al, -1)
def Kk(al:bX)(ns:bR)(p:Int)(c:aN):(bX×bR)×Int:=match NG p c ns 0 with
 |some i=>((al,ns),dU i)
 |none=>(((RD al c).1,ns++[⟨p,c,(RD al c).2,[]⟩]),dU ns.length)
theorem Pm(p:Int)(c:aN)(ns:bR):NG p c ns 0=NG p c (ns.drop 1) 1:=by
 cases ns with
 |nil=>rfl
 |cons x ns=>rw[NG,b8 (fun h=>by omega)];rfl
def UZ(n:aJ)(z:(bX×bR)×Int):aJ×Int:=(⟨n.rules,n.ends,z.1.1,z.1.2,n.facts,n.cg⟩,z.2)
theorem a90(n:aJ)(p:Int)(c:aN)(k:Option (aJ×Int))(hn:n.nodes.length<=1048576):∀(d v fu:Nat),v+d=n.nodes.length+1->1<=v->d<fu->gJ n p c k fu (v:Int)=match NG p c (n.nodes.drop v) v with|some j=>some (n,dU j)|none=>k:=by
 intro d
 induction d with
 |zero=>
  intro v fu hv h1 hf;obtain⟨fu,rfl⟩:∃m,fu=m+1:=⟨fu-1,by omega⟩
  rw[gJ,au,bM (by omega),aS,vb (by omega)];rfl
 |succ d ih=>
  intro v fu hv h1 hf;obtain⟨fu,rfl⟩:∃m,fu=m+1:=⟨fu-1,by omega⟩
  by_cases hl:v<n.nodes.length
  ·have hx:n.nodes[v]?=some n.nodes[v]:=aa hl;have e3:iw n.nodes (v:Int)=some n.nodes[v]:=by unfold iw;rw[bD (by omega),aH];exact hx
   rw[uB hl,NG,gJ,au,bD (by omega),aH,e3,aA,Nq (by omega),ih (v+1) fu (by omega) (by omega) (by omega),Xz,aA];generalize n.nodes[v]=x;by_cases hp:x.parent=p
   ·rw[show((x.parent:Int)==p)=true by simp[hp],aH];by_cases hc:x.cond=c
    ·rw[bD hc,aH,bL ⟨by omega,hp,hc⟩];rfl
    ·rw[bM hc,aS,b8 (fun h=>hc h.2.2)]
   ·rw[show((x.parent:Int)==p)=false by simp[hp],aS,b8 (fun h=>hp h.2.1)]
  ·rw[gJ,au,bM (by omega),aS,vb (by omega)];rfl
theorem sCh(n:aJ)(p:Int)(c:aN)(hn:n.nodes.length<=1048576)(ha:n.bG.length<=1048576)(hc:c.wt<=1048576):tR n p c=some (UZ n (Kk n.bG n.nodes p c)):=by
 have hp:=aN.gE hc;have hargs:=aE.fB hp;unfold tR;have e:=a90 n p c;rw[show(1:Int)=((1:Nat):Int)from rfl,e _ hn n.nodes.length 1 fuel (by omega) (bO _) (by unfold fuel;omega),<-Pm,SF c (by omega),aA,a3o c.pat hp,aA,sAl n _ ha,aA];unfold Kk RD UZ;cases NG p c n.nodes 0 with
 |some j=>rfl
 |none=>
  dsimp only;rw[gF (by omega) (by decide),aH];by_cases h1:c.kind=1
  ·rw[show((c.kind:Int)==((1:Nat):Int))=true by simp[h1],aH,bL (.inl h1)];simp[Kg,hn,show n.nodes.length<=1099511627776 by omega]
   first|done| (unfold dU;rw[di (pF.i64.2 (by omega))])
  ·rw[show((c.kind:Int)==((1:Nat):Int))=false by simp[h1],aS];by_cases h2:c.kind=2
   ·rw[show((c.kind:Int)==(2:Int))=true by simp[h2],aH,bL (.inr h2)];simp[Kg,hn,show n.nodes.length<=1099511627776 by omega]
    first|done| (unfold dU;rw[di (pF.i64.2 (by omega))])
   ·rw[show((c.kind:Int)==(2:Int))=false by simp[h2],aS,b8 (by omega)]
    first|rw[gF (by omega) (by decide),aH]|rw[aA,gF (by omega) (by decide),aH]|skip
    simp[Kg,hn,show n.nodes.length<=1099511627776 by omega]
    first|done| (unfold dU;rw[di (pF.i64.2 (by omega))])
theorem a8i(n:aJ)(p:Int)(c:aN)(k:Option (aJ×Int)):∀(l:bR) (i:Nat),dG n p c k l i=match NG p c l i with|some j=>some (n,dU j)|none=>k:=by
 intro l
 induction l with
 |nil=>intro i;rfl
 |cons x l ih=>
  intro i;rw[dG,NG,ih,OR,aA];by_cases hi:0<i
  ·rw[bD (by omega),aH];by_cases hp:x.parent=p
   ·rw[show((x.parent:Int)==p)=true by simp[hp],aH];by_cases hc:x.cond=c
    ·rw[bD hc,aH,bL ⟨hi,hp,hc⟩];rfl
    ·rw[bM hc,aS,b8 (fun h=>hc h.2.2)]
   ·rw[show((x.parent:Int)==p)=false by simp[hp],aS,b8 (fun h=>hp h.2.1)]
  ·rw[bM (by omega),aS,b8 (fun h=>hi h.1)]
theorem iCh(n:aJ)(p:Int)(c:aN)(hn:n.nodes.length<=1048576)(ha:n.bG.length<=1048576)(hc:c.wt<=1048576):k8 n p c=some (UZ n (Kk n.bG n.nodes p c)):=by
 have hp:=aN.gE hc;have hargs:=aE.fB hp;unfold k8;rw[sO (by omega),aH,a8i,Rr c (by omega),a30 c.pat hp,aA,iAl n _ ha,aA,aA];unfold Kk RD UZ;cases NG p c n.nodes 0 with
 |some j=>rfl
 |none=>
  dsimp only;rw[gF (by omega) (by decide),aH];by_cases h1:c.kind=1
  ·rw[show((c.kind:Int)==(1:Int))=true by simp[h1],aH,bL (.inl h1)];simp[Kg,hn,show n.nodes.length<=1099511627776 by omega]
   first|done| (unfold dU;rw[di (pF.i64.2 (by omega))])
  ·rw[show((c.kind:Int)==(1:Int))=false by simp[h1],aS];by_cases h2:c.kind=2
   ·rw[show((c.kind:Int)==(2:Int))=true by simp[h2],aH,bL (.inr h2)];simp[Kg,hn,show n.nodes.length<=1099511627776 by omega]
    first|done| (unfold dU;rw[di (pF.i64.2 (by omega))])
   ·rw[show((c.kind:Int)==(2:Int))=false by simp[h2],aS,b8 (by omega)]
    first|rw[gF (by omega) (by decide),aH]|rw[aA,gF (by omega) (by decide),aH]|skip
    simp[Kg,hn,show n.nodes.length<=1099511627776 by omega]
    first|done| (unfold dU;rw[di (pF.i64.2 (by omega))])
def HX(s:(bX×bR)×Int)(c:aN):(bX×bR)×Int:=Kk s.1.1 s.1.2 s.2 c
def JB(z:(bX×bR)×bK)(r:aI):(bX×bR)×bK:=(((fR r).foldl HX (z.1,0)).1,z.2++[((fR r).foldl HX (z.1,0)).2])
def root(tk:bB):Node:=⟨-1,⟨0,⟨[],[]⟩,[],[]⟩, -1,tk⟩
def eD(tk:bB)(rs:aq):(bX×bR)×bK:=rs.foldl JB (([],[root tk]),[])
theorem Z2(al:bX)(sh:aE):(YY al sh).1.length<=al.length+1:=by
 unfold YY;cases YZ sh al 0<;>simp
theorem ZB(al:bX)(c:aN):(RD al c).1.length<=al.length+1:=by
 unfold RD;by_cases h:c.kind=1\/c.kind=2
 ·rw[bL h];exact Z2 _ _
 ·rw[b8 h];exact Nat.le_succ _
theorem O9(al:bX)(ns:bR)(p:Int)(c:aN):(Kk al ns p c).1.1.length<=al.length+1/\(Kk al ns p c).1.2.length<=ns.length+1:=by
 unfold Kk;cases NG p c ns 0 with
 |some i=>exact⟨Nat.le_succ _,Nat.le_succ _⟩
 |none=>exact⟨ZB _ _,by simp⟩
theorem FF:∀(cs:ah) (s:(bX×bR)×Int),(cs.foldl HX s).1.1.length<=s.1.1.length+cs.length/\(cs.foldl HX s).1.2.length<=s.1.2.length+cs.length
 | [],s=>⟨bO _,bO _⟩
 |c::cs,s=>by
  have h1:=O9 s.1.1 s.1.2 s.2 c;have h2:=FF cs (HX s c);have h3:(HX s c).1.1.length<=s.1.1.length+1/\(HX s c).1.2.length<=s.1.2.length+1:=h1;rw[cT,aT];omega
theorem a6Z(a:aq)(i:Nat)(y:ah)(k:Int->Int->aq->bK->bX->bR->aP->Option (aJ×Bool)):∀(cs:ah) (j:Nat) (v u:Int) (w3:aq) (w4:bK) (al:bX) (ns:bR) (w7:aP),(∀c∈cs,c.wt<=1048576)->al.length+cs.length<=1048576->ns.length+cs.length<=1048576->
 gX a i y k cs j v u w3 w4 al ns w7=k (cs.foldl HX ((al,ns),v)).2 u w3 w4 (cs.foldl HX ((al,ns),v)).1.1 (cs.foldl HX ((al,ns),v)).1.2 w7:=by
 intro cs
 induction cs with
 |nil=>intros;rfl
 |cons c cs ih=>
  intro j v u w3 w4 al ns w7 hc ha hn;simp only[aT]at ha hn;have h1:=O9 al ns v c;rw[gX,sCh _ v c (show ns.length<=1048576 by omega) (show al.length<=1048576 by omega) (hc c (by simp)),aA];unfold UZ;dsimp only;rw[ih _ _ _ _ _ _ _ _ (fun x hx=>hc x (by simp[hx])) (by omega) (by omega)];rfl
theorem a5f(a:aq)(i:Nat)(y:ah)(k:Int->Int->aq->bK->bX->bR->aP->Option aJ):∀(cs:ah) (j:Nat) (v u:Int) (w3:aq) (w4:bK) (al:bX) (ns:bR) (w7:aP),(∀c∈cs,c.wt<=1048576)->al.length+cs.length<=1048576->ns.length+cs.length<=1048576->
 jK a i y k cs j v u w3 w4 al ns w7=k (cs.foldl HX ((al,ns),v)).2 u w3 w4 (cs.foldl HX ((al,ns),v)).1.1 (cs.foldl HX ((al,ns),v)).1.2 w7:=by
 intro cs
 induction cs with
 |nil=>intros;rfl
 |cons c cs ih=>
  intro j v u w3 w4 al ns w7 hc ha hn;simp only[aT]at ha hn;have h1:=O9 al ns v c;rw[jK,iCh _ v c (show ns.length<=1048576 by omega) (show al.length<=1048576 by omega) (hc c (by simp)),aA];unfold UZ;dsimp only;rw[ih _ _ _ _ _ _ _ _ (fun x hx=>hc x (by simp[hx])) (by omega) (by omega)];rfl
theorem Js:∀(ts:aG) (N:aM) {p:aQ},p∈ts.foldl lM N->p∈N\/(p.var∈ts/\fK p.var=true)
 | [],_,_,h=>.inl h
 |t::ts,N,p,h=>by
  rcases Js ts (lM N t) h with h1|h1
  ·unfold lM at h1;cases hv:fK t&& !Ed N t with
   |false=>rw[hv]at h1;exact .inl h1
   |true=>
    rw[hv,aH]at h1;simp only[aR]at hv;rcases aU.1 h1 with h2|h2
    ·exact .inl h2
    ·rw[cI.1 h2];exact .inr ⟨by simp,hv.1⟩
  ·exact .inr ⟨by simp[h1.1],h1.2⟩
theorem zn{l:ah}{v:Bytes}:v∈yB l↔v∈vE l/\fK v=true:=by
 unfold yB vE pZ jE;simp only[bg,gj];constructor
 ·rintro⟨c,hc,hm,hv⟩;exact⟨⟨c,hc,hm⟩,hv⟩
 ·rintro⟨⟨c,hc,hm⟩,hv⟩;exact⟨c,hc,hm,hv⟩
theorem Jy{r:aI}(h:eU r=true):(gD r).length<=6:=by
 have h1:((gD r).map aQ.var).length<=(eV (yB r.conds)).length:=by
  refine Jz _ _ (Be _ Qz.nil) fun x hx=>?_
  obtain⟨p,hp,rfl⟩:=cA.1 hx;rcases Js _ _ hp with h1|h1
  ·cases h1
  ·exact om.2 (zn.2 h1)
 rw[au]at h1;exact dh h1 (K8 h)
theorem Er{r:aI}(h:eU r=true){v:Bytes}(hv:v∈yB r.conds):∃i p,i<6/\(gD r)[i]?=some p/\p.var=v/\Cq (gD r) v=Zz i:=by
 obtain⟨ht,GV⟩:=zn.1 hv;obtain⟨p,hp,he⟩:=Px _ [] ht GV;have hp':p∈gD r:=hp;obtain⟨i,hi,Ls,hval,_⟩:=PC (JE _ VZ.nil) hp';refine⟨i,p,by have:=Jy h;unfold gD at this;omega,Ls,he,?_⟩;rw[<-he];exact(L8 (N:=gD r) (Be (vE r.conds) Qz.nil) hp').trans hval
theorem J5{r:aI}(h:eU r=true){x:Bytes}(hx:x.length<=16)(hV:fK x=true->x∈yB r.conds):(Cq (gD r) x).length<=16:=by
 cases hv:fK x with
 |false=>rw[show Cq (gD r) x=x from QU hv];exact hx
 |true=>
  obtain⟨i,p,hi,_,_,e⟩:=Er h (hV hv);rw[e];exact TT i hi
theorem LF:∀(l:aG),(∀x∈l,x.length<=16)->qm tw l<=17*l.length
 | [],_=>by simp[qm]
 |x::l,h=>by
  have h1:=LF l fun y hy=>h y (by simp[hy])
  have h2:=h x (by simp);rw[nU,aT];unfold tw at*;omega
theorem Mc{t:Bytes}(h:nr t=true):t.length<=16:=by have:=Up h;omega
theorem LV{c:aN}(h:nJ c=true):c.pat.rel.length<=8/\c.pat.args.length<=3/\(∀x∈c.pat.args,x.length<=16)/\c.left.length<=16/\c.right.length<=16:=by
 by_cases hk:c.kind=1\/c.kind=2
 ·obtain⟨hp,hl,hr⟩:=B7 h hk;have ht:=P4 hp;unfold xh at hp;simp only[aR,bA]at hp;have:=NZ hp.2.1;rw[hl,hr];exact⟨by omega,by omega,fun x hx=>Mc (ht x hx),by simp,by simp⟩
 ·obtain⟨_,hz,hl,hr⟩:=LU h (fun e=>hk (.inl e)) (fun e=>hk (.inr e));unfold Bo at hz;simp only[aR,cV,bA]at hz;have h0:c.pat.args=[]:=cO (by omega);rw[hz.1,h0];exact⟨by simp,by simp,fun x hx=>(by cases hx),Mc hl,Mc hr⟩
theorem J3{r:aI}(h:eU r=true):∀c∈fR r,c.wt<=1048576:=by
 intro c' W9;obtain⟨c,hc,rfl⟩:=cA.1 W9;obtain⟨h1,h2,h3,h4,h5⟩:=LV (AT h c hc);have hV:∀x∈c.pat.args++[c.left,c.right],fK x=true->x∈yB r.conds:=fun x hx hv=>zn.2 ⟨bg.2 ⟨c,hc,hx⟩,hv⟩
 have a1:(Cq (gD r) c.left).length<=16:=J5 h h4 (hV _ (by simp));have a2:(Cq (gD r) c.right).length<=16:=J5 h h5 (hV _ (by simp));have a3:=LF (c.pat.args.map (Cq (gD r))) (fun x hx=>by
  obtain⟨y,hy,rfl⟩:=cA.1 hx;exact J5 h (h3 y hy) (hV y (by simp[hy])))
 rw[au]at a3;unfold MS aN.wt;dsimp only;unfold tw at*;omega
theorem x6{r:aI}(h:eU r=true):(fR r).length<=4:=by unfold fR;rw[au];exact FD h
theorem Si{r:aI}{n:Nat}(h:r.wt<=n){a:Action}(ha:a∈r.cM):a.pat.args.length<=n:=by
 have h1:=aI.Hp h;have h2:=qL (w:=Action.wt) ha;have h3:=tE tw a.pat.args;simp only[Action.wt]at h2;omega
theorem a3X(p:aE)(h:p.args.length<=1099511627770):iW p=some p:=by
 unfold iW;rw[Y3 p.args (by omega)];rfl
theorem a2p(p:aE)(h:p.args.length<=1099511627770):gV p=some p:=by
 unfold gV;rw[OT p.args (by omega)];rfl
theorem a3Y(r:aI)(h:r.wt<=1048576):sX r=some r:=by
 have h1:=aI.sA h;have h2:=aI.Hp h;have h3:=tE aN.wt r.conds;have h4:=tE Action.wt r.cM;unfold sX;rw[It (c:=aN.c) (b:=80) (f:=oR) (g:=fun x=>x) (L:=oh r _) (k:=_) (by decide) (fun _ _=>rfl) (fun _ _ _ _=>rfl) _ _ _ (fun c hc=>SF c (by have:=aE.fB (aN.gE (aI.pE h hc));omega)) (by simp;omega)];rw[It (c:=Action.c) (b:=48) (f:=fun a:Action=>(iW a.pat).bind fun y=>some (⟨a.kind,y⟩:Action)) (g:=fun x=>x) (L:=mw r _ _) (k:=_) (by decide) (fun _ _=>rfl) (fun x xs i w=>by rw[mw];cases iW x.pat<;>rfl) _ _ _ (fun a ha=>by rw[a3X a.pat (by have:=Si h ha;omega)];rfl) (by simp;omega)];simp
theorem Xe(l:aq)(h:qm aI.wt l<=1048576):sL l=some l:=by
 have h3:=tE aI.wt l;unfold sL;rw[It (c:=aI.c) (b:=72) (f:=sX) (g:=fun x=>x) (L:=mr l _) (k:=_) (by decide) (fun _ _=>rfl) (fun _ _ _ _=>rfl) _ _ _ (fun r hr=>a3Y r (by have:=qL (w:=aI.wt) hr;omega)) (by simp;omega)];simp
theorem Wk(l:ah)(h:l.length<=1048576)(hw:∀c∈l,c.wt<=1048576):rA l=some l:=by
 unfold rA;rw[It (c:=aN.c) (b:=80) (f:=ij) (g:=fun x=>x) (L:=lW l _) (k:=_) (by decide) (fun _ _=>rfl) (fun _ _ _ _=>rfl) _ _ _ (fun c hc=>Rr c (by have:=aE.fB (aN.gE (hw c hc));omega)) (by simp;omega)];simp
theorem a2q(r:aI)(h:r.wt<=1048576):pM r=some r:=by
 have h1:=aI.sA h;have h2:=aI.Hp h;have h3:=tE aN.wt r.conds;have h4:=tE Action.wt r.cM;unfold pM;rw[Wk r.conds (by omega) (fun c hc=>aI.pE h hc),aA];rw[It (c:=Action.c) (b:=48) (f:=fun a:Action=>(gV a.pat).bind fun y=>some (⟨a.kind,y⟩:Action)) (g:=fun x=>x) (L:=jq r _ _) (k:=_) (by decide) (fun _ _=>rfl) (fun x xs i w=>by rw[jq];cases gV x.pat<;>rfl) _ _ _ (fun a ha=>by rw[a2p a.pat (by have:=Si h ha;omega)];rfl) (by simp;omega)];simp
theorem Wl(l:aq)(h:qm aI.wt l<=1048576):rB l=some l:=by
 have h3:=tE aI.wt l;unfold rB;rw[It (c:=aI.c) (b:=72) (f:=pM) (g:=fun x=>x) (L:=lY l _) (k:=_) (by decide) (fun _ _=>rfl) (fun _ _ _ _=>rfl) _ _ _ (fun r hr=>a2q r (by have:=qL (w:=aI.wt) hr;omega)) (by simp;omega)];simp
theorem a6Y(a:aq)(k:Int->aq->bK->bX->bR->aP->Option (aJ×Bool)):∀(l:aq) (i:Nat) (u:Int) (w2:aq) (es:bK) (al:bX) (ns:bR) (w6:aP),(∀r∈l,r.wt<=1048576/\eU r=true)->es.length+l.length<=1000->al.length+4*l.length<=1000->ns.length+4*l.length<=1000->
 gW a k l i u w2 es al ns w6=k u w2 (l.foldl JB ((al,ns),es)).2 (l.foldl JB ((al,ns),es)).1.1 (l.foldl JB ((al,ns),es)).1.2 w6:=by
 intro l
 induction l with
 |nil=>intros;rfl
 |cons r l ih=>
  intro i u w2 es al ns w6 hr he ha hn;simp only[aT]at he ha hn;obtain⟨hw,hb⟩:=hr r (by simp);have h4:=x6 hb;have hl:=FF (fR r) ((al,ns),0);dsimp only at hl;rw[gW,a3V r hw,aA,sO (by omega),aH,a6Z _ _ _ _ _ _ _ _ _ _ _ _ _ (J3 hb) (by omega) (by omega),gF (by omega) (by decide),aH,ih _ _ _ _ _ _ _ (fun x hx=>hr x (by simp[hx])) (by simp;omega) (by omega) (by omega)];rfl
theorem Xj(rs:aq)(h:qm aI.wt rs<=1048576):jN rs=some (bif rP rs then(⟨rs,(eD [⟨[],[]⟩] rs).2,(eD [⟨[],[]⟩] rs).1.1,(eD [⟨[],[]⟩] rs).1.2,[],0⟩,true)else(⟨[],[],[],[],[],0⟩,false)):=by
 unfold jN;rw[a3S rs h,aA];cases hb:rP rs with
 |false=>rfl
 |true=>
  have h6:rs.length<=6:=by unfold rP at hb;simp only[aR,bA]at hb;omega
  rw[bh,aS,aH,Xe rs h,aA,a6Y _ _ _ _ _ _ _ _ _ _ (fun r hr=>⟨by have:=qL (w:=aI.wt) hr;omega,qu hb r hr⟩) (by simp;omega) (by simp;omega) (by simp;omega)];rfl
theorem a5e(a:aq)(k:Int->aq->bK->bX->bR->aP->Option aJ):∀(l:aq) (i:Nat) (u:Int) (w2:aq) (es:bK) (al:bX) (ns:bR) (w6:aP),(∀r∈l,r.wt<=1048576/\eU r=true)->es.length+l.length<=1000->al.length+4*l.length<=1000->ns.length+4*l.length<=1000->
 jJ a k l i u w2 es al ns w6=k u w2 (l.foldl JB ((al,ns),es)).2 (l.foldl JB ((al,ns),es)).1.1 (l.foldl JB ((al,ns),es)).1.2 w6:=by
 intro l
 induction l with
 |nil=>intros;rfl
 |cons r l ih=>
  intro i u w2 es al ns w6 hr he ha hn;simp only[aT]at he ha hn;obtain⟨hw,hb⟩:=hr r (by simp);have h4:=x6 hb;have hl:=FF (fR r) ((al,ns),0);dsimp only at hl;rw[jJ,a2o r hw,aA,sO (by omega),aH,a5f _ _ _ _ _ _ _ _ _ _ _ _ _ (J3 hb) (by omega) (by omega),gF (by omega) (by decide),aH,ih _ _ _ _ _ _ _ (fun x hx=>hr x (by simp[hx])) (by simp;omega) (by omega) (by omega)];rfl
theorem a8m(rs:aq)(h:qm aI.wt rs<=1048576)(hb:rP rs=true):rF rs=some ⟨rs,(eD [] rs).2,(eD [] rs).1.1,(eD [] rs).1.2,[],0⟩:=by
 unfold rF;have h6:rs.length<=6:=by unfold rP at hb;simp only[aR,bA]at hb;omega
 rw[Wl rs h,aA,a5e _ _ _ _ _ _ _ _ _ _ (fun r hr=>⟨by have:=qL (w:=aI.wt) hr;omega,qu hb r hr⟩) (by simp;omega) (by simp;omega) (by simp;omega)];rfl
def chR(al:bX)(ns:bR)(p:Int)(c:aN):(bX×bR)×Int:=match NG p c ns 1 with
 |some i=>((al,ns),dU i)
 |none=>(((RD al c).1,ns++[⟨p,c,(RD al c).2,[]⟩]),dU (ns.length+1))
theorem Vj(tk:bB)(al:bX)(ns:bR)(p:Int)(c:aN):Kk al (root tk::ns) p c=(((chR al ns p c).1.1,root tk::(chR al ns p c).1.2),(chR al ns p c).2):=by
 unfold Kk chR;rw[Pm,List.drop_succ_cons,zA];cases NG p c ns 1<;>rfl
def rtC(s:(bX×bR)×Int)(c:aN):(bX×bR)×Int:=chR s.1.1 s.1.2 s.2 c
def Yk(z:(bX×bR)×bK)(r:aI):(bX×bR)×bK:=(((fR r).foldl rtC (z.1,0)).1,z.2++[((fR r).foldl rtC (z.1,0)).2])
def rtB(rs:aq):(bX×bR)×bK:=rs.foldl Yk (([],[]),[])
theorem Qn(tk:bB):∀(cs:ah) (al:bX) (ns:bR) (v:Int),cs.foldl HX ((al,root tk::ns),v)=(((cs.foldl rtC ((al,ns),v)).1.1,root tk::(cs.foldl rtC ((al,ns),v)).1.2),(cs.foldl rtC ((al,ns),v)).2)
 | [],_,_,_=>rfl
 |c::cs,al,ns,v=>by
  rw[cT,cT];show cs.foldl HX (Kk al (root tk::ns) v c)=_;rw[Vj,Qn tk cs];rfl
theorem Qp(tk:bB):∀(rs:aq) (al:bX) (ns:bR) (es:bK),rs.foldl JB ((al,root tk::ns),es)=(((rs.foldl Yk ((al,ns),es)).1.1,root tk::(rs.foldl Yk ((al,ns),es)).1.2),(rs.foldl Yk ((al,ns),es)).2)
 | [],_,_,_=>rfl
 |r::rs,al,ns,es=>by
  rw[cT,cT];have e:JB ((al,root tk::ns),es) r=(((Yk ((al,ns),es) r).1.1,root tk::(Yk ((al,ns),es) r).1.2),(Yk ((al,ns),es) r).2):=by
   unfold JB Yk;dsimp only;rw[Qn]
  rw[e,Qp tk rs]
theorem gR(tk:bB)(rs:aq):eD tk rs=(((rtB rs).1.1,root tk::(rtB rs).1.2),(rtB rs).2):=Qp tk rs [] [] []
theorem MZ(tk:bB){rs:aq}(h:∀r∈rs,eU r=true)(h6:rs.length<=6):(eD tk rs).1.2.length<=25:=by
 have main:∀(l:aq) (z:(bX×bR)×bK),(∀r∈l,eU r=true)->(l.foldl JB z).1.2.length<=z.1.2.length+4*l.length:=by
  intro l
  induction l with
  |nil=>intro z _;exact bO _
  |cons r l ih=>
   intro z hl;have h1:=ih (JB z r) (fun x hx=>hl x (by simp[hx]));have h2:=(FF (fR r) (z.1,0)).2;have h3:=x6 (hl r (by simp));have h4:(JB z r).1.2.length=((fR r).foldl HX (z.1,0)).1.2.length:=rfl;rw[cT,aT];dsimp only at h2;omega
 have:=main rs (([],[root tk]),[]) h;unfold eD;simp only[aT,bW]at this;omega
end Go.Cx
namespace Go.Cx
open Go.RowKit Go.Proofs Tryz
def qe(x:Node):Int×aN:=(x.parent,x.cond)
theorem Nn{a b:bR}(h:a.map qe=b.map qe):∀(k v:Nat),NA a k v=NA b k v
 |0,_=>rfl
 |k+1,v=>by
  have e:(a[v]?).map qe=(b[v]?).map qe:=by rw[<-bu,<-bu,h]
  unfold NA;cases ha:a[v]? with
  |none=>
   cases hb:b[v]? with
   |none=>rfl
   |some y=>rw[ha,hb]at e;cases e
  |some x=>
   cases hb:b[v]? with
   |none=>rw[ha,hb]at e;cases e
   |some y=>
    rw[ha,hb]at e;have e1:x.parent=y.parent:=(pW (lq e)).1;dsimp only;rw[e1,Nn h k]
theorem OC{a b:bR}(h:a.map qe=b.map qe):AZ a=AZ b:=by
 funext i
 have e:(a[i]?).map qe=(b[i]?).map qe:=by rw[<-bu,<-bu,h]
 unfold AZ;cases ha:a[i]? with
 |none=>
  cases hb:b[i]? with
  |none=>rfl
  |some y=>rw[ha,hb]at e;cases e
 |some x=>
  cases hb:b[i]? with
  |none=>rw[ha,hb]at e;cases e
  |some y=>
   rw[ha,hb]at e;have e2:x.cond=y.cond:=(pW (lq e)).2;show some x.cond=some y.cond;rw[e2]
theorem xj{a b:bR}(h:a.map qe=b.map qe)(v:Int):gK a v=gK b v:=by
 have hl:a.length=b.length:=by have:=congrArg List.length h;simpa using this
 unfold gK GX;rw[hl,Nn h,OC h]
def p6(al:bX)(fs:aP):bX:=al.map fun a=>⟨a.shape,vU a.shape [] fs⟩
def qI(ns:bR)(fs:aP):bR->Nat->bR
 | [],_=>[]
 |x::xs,i=>⟨x.parent,x.cond,x.eS,uf (gK ns (dU i)) fs⟩::qI ns fs xs (i+1)
def sN(ns:bR)(fs:aP):bR:=qI ns fs ns 0
theorem Lg(ns:bR)(fs:aP):∀(l:bR) (i:Nat),(qI ns fs l i).map qe=l.map qe
 | [],_=>rfl
 |x::l,i=>by rw[qI,ay,Lg ns fs l];rfl
theorem UA(ns:bR)(fs:aP)(l:bR)(i:Nat):(qI ns fs l i).length=l.length:=by
 have:=congrArg List.length (Lg ns fs l i);simpa using this
theorem setAt{α:Type}(pre l:List α)(x y:α):(pre++x::l).set pre.length y=pre++y::l:=by
 rw[mL _ _ (bO _),pV];rfl
structure Bx(ns:List Node):Prop where
 len:ns.length<=1048576
 wt:∀x∈ns,x.cond.wt<=1048576
 path:∀i:Nat,(gK ns (dU i)).length<=4
theorem J2{ns:bR}{v:Int}{c:aN}(h:c∈gK ns v):∃x∈ns,x.cond=c:=by
 unfold gK at h;split at h
 ·unfold GX at h;obtain⟨i,_,hc⟩:=cG.1 h;unfold AZ at hc;cases hx:ns[i]? with
  |none=>rw[hx]at hc;cases hc
  |some x=>rw[hx]at hc;exact⟨x,aD hx,lq hc⟩
 ·cases h
theorem Vt(n:aJ)(fs y:aP)(k:bX->Option (aJ×Unit))(hf:FS fs):∀(l pre:bX),(∀x∈l,x.shape.wt<=1048576)->fD n fs y k l pre.length (pre++l)=k (pre++p6 l fs):=by
 intro l
 induction l with
 |nil=>intro pre _;rfl
 |cons x l ih=>
  intro pre hw;have hx:(pre++x::l)[pre.length]?=some x:=by simp
  have hlt:decide (pre.length<((pre++x::l).map af.c).length)=true:=by simp
  rw[fD,hlt,aH,hx,aA,a5W x.shape [] fs (hw x (by simp)) PB.nil hf,aA,aH,setAt];have:=ih (pre++[⟨x.shape,vU x.shape [] fs⟩]) (fun z hz=>hw z (by simp[hz]));rw[ar,dS,cc]at this;rw[show pre++(⟨x.shape,vU x.shape [] fs⟩:af)::l=pre++([⟨x.shape,vU x.shape [] fs⟩]++l)from rfl,this];simp[p6]
theorem a2H(n:aJ)(fs y:aP)(q:bX)(k:Option (aJ×Unit))(hf:FS fs)(h24:fs.length<=24)(ns:bR)(hp:Bx ns):∀(l pre:bR),(pre++l).map qe=ns.map qe->
 eA n fs y q k l pre.length (pre++l)=some (⟨n.rules,n.ends,q,pre++qI ns fs l pre.length,y,n.cg⟩,()):=by
 intro l
 induction l with
 |nil=>intro pre _;rfl
 |cons x l ih=>
  intro pre he;have hx:(pre++x::l)[pre.length]?=some x:=by simp
  have hlt:decide (pre.length<((pre++x::l).map Node.c).length)=true:=by simp
  have hlen:(pre++x::l).length=ns.length:=by have:=congrArg List.length he;simpa using this
  have hok:NOk ⟨n.rules,n.ends,q,pre++x::l,y,n.cg⟩:=by
   refine⟨by show(pre++x::l).length<=1048576;rw[hlen];exact hp.len,fun z hz=>?_⟩;have hm:qe z∈ns.map qe:=by rw[<-he];exact cA.2 ⟨z,hz,rfl⟩
   obtain⟨w,hw,e⟩:=cA.1 hm;have:w.cond=z.cond:=(pW e).2;rw[<-this];exact hp.wt w hw
  have WU:gK (pre++x::l) ((pre.length:Nat):Int)=gK ns (dU pre.length):=xj he _;have Q5:∀c∈gK ns (dU pre.length),c.wt<=1048576:=by
   intro c hc;obtain⟨z,hz,e⟩:=J2 hc;rw[<-e];exact hp.wt z hz
  rw[eA,a2v _ _ hok,aA,WU,a14 _ fs Q5 (hp.path _) hf h24,aA,hlt,aH,hx,aA,setAt];have:=ih (pre++[⟨x.parent,x.cond,x.eS,uf (gK ns (dU pre.length)) fs⟩]) (by
   rw[<-he];simp[qe])
  rw[ar,dS,cc]at this;rw[show pre++(⟨x.parent,x.cond,x.eS,uf (gK ns (dU pre.length)) fs⟩:Node)::l=pre++([⟨x.parent,x.cond,x.eS,uf (gK ns (dU pre.length)) fs⟩]++l)from rfl,this,qI];simp
theorem a5U(n:aJ)(fs:aP)(hf:FS fs)(h24:fs.length<=24)(ha:n.bG.length<=1048576)(hs:∀x∈n.bG,x.shape.wt<=1048576)(hp:Bx n.nodes):kz n fs=some (⟨n.rules,n.ends,p6 n.bG fs,sN n.nodes fs,fs,n.cg⟩,()):=by
 unfold kz;have h1:=Vt n fs fs;have hl:=hp.len;rw[Lw fs hf.1 (fun f WG=>by have:=aE.fB (hf.2 f WG);omega),aA,sO (by omega),aH];have e1:=Vt n fs fs (fun(ew:bX)=>(bif decide (n.nodes.length<=maxLen)then(eA n fs fs ew none n.nodes 0 n.nodes)else none)) hf n.bG [] hs;refine e1.trans ?_;rw[dM,sO (by omega),aH];exact a2H n fs fs _ none hf h24 n.nodes hp n.nodes [] rfl
end Go.Cx
namespace Go.Cx
open Go.RowKit Go.Proofs Tryz
theorem Qs(ns:bR):∀(k k' v:Nat),1<=v->v<=k->v<=k'->NA ns k v=NA ns k' v
 |0,_,v,h1,h2,_=>by omega
 |k+1,0,v,h1,_,h3=>by omega
 |k+1,k'+1,v,h1,h2,h3=>by
  unfold NA;cases hx:ns[v]? with
  |none=>rfl
  |some x=>
   dsimp only;by_cases hp:1<=x.parent/\x.parent<(v:Int)
   ·rw[bL hp,bL hp,Qs ns k k' x.parent.toNat (by omega) (by omega) (by omega)]
   ·rw[b8 hp,b8 hp]
theorem tV(ns:bR):gK ns (dU 0)=[]:=by unfold gK dU;rw[b8 (by omega)]
theorem zo{ns:bR}{i:Nat}{x:Node}(hx:ns[i]?=some x)(h1:1<=i){p:Nat}(hp:x.parent=dU p)(hpi:p<i):gK ns (dU i)=gK ns (dU p)++[x.cond]:=by
 have hl:=(aF.1 hx).1;unfold dU at hp;have e1:gK ns (dU i)=GX ns i i:=by unfold gK dU;rw[bL (by omega)];rfl
 obtain⟨k,rfl⟩:∃k,i=k+1:=⟨i-1,by omega⟩
 rw[e1,MO hx];by_cases h0:1<=p
 ·rw[bL (by omega)];have e2:gK ns (dU p)=GX ns p p:=by unfold gK dU;rw[bL (by omega)];rfl
  rw[e2,hp,pU];unfold GX;rw[Qs ns k p p h0 (by omega) (bO _)]
 ·rw[b8 (by omega),show p=0 by omega,tV]
def R5(ns:bR):Prop:=∀(i:Nat) x,1<=i->ns[i]?=some x->∃p:Nat,x.parent=dU p/\p<i
theorem K1{ns:bR}(hb:R5 ns)(m:bR):∀(n i:Nat),i<=n->i<ns.length->gK (ns++m) (dU i)=gK ns (dU i):=by
 intro n
 induction n with
 |zero=>
  intro i h1 _;rw[show i=0 by omega,tV,tV]
 |succ n ih=>
  intro i h1 h2;by_cases h0:i=0
  ·rw[h0,tV,tV]
  ·have hx:ns[i]?=some ns[i]:=aa h2;have hx':(ns++m)[i]?=some ns[i]:=by rw[av h2];exact hx
   obtain⟨p,hp,hpi⟩:=hb i _ (by omega) hx;rw[zo hx (by omega) hp hpi,zo hx' (by omega) hp hpi,ih p (by omega) (by omega)]
structure Ch(R:List aN->Prop)(ns:List Node):Prop where
 pos:1<=ns.length
 below:R5 ns
 path:∀i:Nat,1<=i->i<ns.length->R (gK ns (dU i))
theorem Pn{p:Int}{c:aN}:∀ {l:bR} {i j:Nat},NG p c l i=some j->∃x,l[j-i]?=some x/\i<=j/\0<j/\x.parent=p/\x.cond=c
 |x::l,i,j,h=>by
  unfold NG at h;split at h
  ·rename_i hc;cases h;exact⟨x,by simp,bO _,hc.1,hc.2.1,hc.2.2⟩
  ·obtain⟨y,h1,h2,h3,h4,h5⟩:=Pn h;refine⟨y,?_,by omega,h3,h4,h5⟩;rw[show j-i=(j-(i+1))+1 by omega];exact h1
theorem Ch.step{R:ah->Prop}{al:bX}{ns:bR}(h:Ch R ns){a:Nat}(ha:a<ns.length){c:aN}(hR:R (gK ns (dU a)++[c])):
 Ch R (Kk al ns (dU a) c).1.2/\∃b:Nat,(Kk al ns (dU a) c).2=dU b/\b<(Kk al ns (dU a) c).1.2.length/\gK (Kk al ns (dU a) c).1.2 (dU b)=gK ns (dU a)++[c]:=by
 unfold Kk;cases hc:NG (dU a) c ns 0 with
 |some j=>
  obtain⟨x,h1,h2,h3,h4,h5⟩:=Pn hc;rw[vg]at h1;have hj:=(aF.1 h1).1;obtain⟨p,hp,ZS⟩:=h.below j x (by omega) h1;have:p=a:=by rw[hp]at h4;unfold dU at h4;omega
  subst this;exact⟨h,j,rfl,hj,by rw[zo h1 (by omega) hp ZS,h5]⟩
 |none=>
  dsimp only;have hbel:R5 (ns++[⟨dU a,c,(RD al c).2,[]⟩]):=by
   intro i x h1 hx;by_cases hi:i<ns.length
   ·rw[av hi]at hx;exact h.below i x h1 hx
   ·rw[az (by omega)]at hx;have hi2:i=ns.length:=by
     have:=(aF.1 hx).1;simp at this;omega
    rw[hi2,pV]at hx;cases hx;exact⟨a,rfl,by omega⟩
  have hnew:gK (ns++[⟨dU a,c,(RD al c).2,[]⟩]) (dU ns.length)=gK ns (dU a)++[c]:=by
   have hx:(ns++[(⟨dU a,c,(RD al c).2,[]⟩:Node)])[ns.length]?=some ⟨dU a,c,(RD al c).2,[]⟩:=by simp
   have h1:=h.pos;rw[zo hx (by omega) (p:=a) rfl ha,K1 h.below _ a a (bO _) ha]
  refine⟨⟨by simp,hbel,fun i h1 h2=>?_⟩,ns.length,rfl,by simp,hnew⟩;by_cases hi:i<ns.length
  ·rw[K1 h.below _ i i (bO _) hi];exact h.path i h1 hi
  ·have:i=ns.length:=by simp at h2;omega
   rw[this,hnew];exact hR
theorem Ch.rule{R:ah->Prop}:∀(cs:ah) {al:bX} {ns:bR} {a:Nat},Ch R ns->a<ns.length->(∀j:Nat,1<=j->j<=cs.length->R (gK ns (dU a)++cs.take j))->
 Ch R (cs.foldl HX ((al,ns),dU a)).1.2/\∃b:Nat,(cs.foldl HX ((al,ns),dU a)).2=dU b/\b<(cs.foldl HX ((al,ns),dU a)).1.2.length/\gK (cs.foldl HX ((al,ns),dU a)).1.2 (dU b)=gK ns (dU a)++cs
 | [],al,ns,a,h,ha,_=>⟨h,a,rfl,ha,by simp⟩
 |c::cs,al,ns,a,h,ha,hR=>by
  obtain⟨h1,b,h2,h3,h4⟩:=h.step (al:=al) ha (c:=c) (by have:=hR 1 (bO _) (by simp);simpa using this);have e:HX ((al,ns),dU a) c=(((Kk al ns (dU a) c).1.1,(Kk al ns (dU a) c).1.2),dU b):=by
   show Kk al ns (dU a) c=_;rw[<-h2]
  rw[cT,e];obtain⟨k1,d,k2,k3,k4⟩:=Ch.rule cs (al:=(Kk al ns (dU a) c).1.1) h1 h3 (fun j GU hj2=>by
   rw[h4,cc];have:=hR (j+1) (by omega) (by simp;omega);simpa using this)
  exact⟨k1,d,k2,k3,by rw[k4,h4];simp⟩
theorem ZC(al:bX)(ns:bR)(p:Int)(c:aN):∃m,(Kk al ns p c).1.2=ns++m:=by
 unfold Kk;cases NG p c ns 0 with
 |some i=>exact⟨[],by simp⟩
 |none=>exact⟨[⟨p,c,(RD al c).2,[]⟩],rfl⟩
theorem Th:∀(cs:ah) (s:(bX×bR)×Int),∃m,(cs.foldl HX s).1.2=s.1.2++m
 | [],s=>⟨[],by simp⟩
 |c::cs,s=>by
  obtain⟨m,h⟩:=ZC s.1.1 s.1.2 s.2 c;obtain⟨m2,h2⟩:=Th cs (HX s c);refine⟨m++m2,?_⟩;rw[cT,h2];show(Kk s.1.1 s.1.2 s.2 c).1.2++m2=_;rw[h,cc]
def Sg(rs:aq)(p:ah):Prop:=∃r∈rs,∃j:Nat,1<=j/\j<=(fR r).length/\p=(fR r).take j
theorem Qo(all:aq):∀(l:aq) (al:bX) (ns:bR) (es:bK),(∀r∈l,r∈all)->Ch (Sg all) ns->
 Ch (Sg all) (l.foldl JB ((al,ns),es)).1.2/\(∃m,(l.foldl JB ((al,ns),es)).1.2=ns++m)/\∃fs,(l.foldl JB ((al,ns),es)).2=es++fs/\fs.length=l.length/\
  ∀(i:Nat) r,l[i]?=some r->∃b:Nat,fs[i]?=some (dU b)/\b<(l.foldl JB ((al,ns),es)).1.2.length/\gK (l.foldl JB ((al,ns),es)).1.2 (dU b)=fR r
 | [],al,ns,es,_,h=>⟨h,⟨[],by simp⟩,[],by simp,rfl,fun i r hr=>by simp at hr⟩
 |r::l,al,ns,es,hm,h=>by
  obtain⟨h1,b,h2,h3,h4⟩:=Ch.rule (fR r) (al:=al) h (a:=0) (by have:=h.pos;omega) (fun j GU hj2=>by
   rw[tV,dM];exact⟨r,hm r (by simp),j,GU,hj2,rfl⟩)
  obtain⟨m1,hm1⟩:=Th (fR r) ((al,ns),dU 0);obtain⟨k1,⟨m2,hm2⟩,fs,k2,k3,k4⟩:=Qo all l ((fR r).foldl HX ((al,ns),dU 0)).1.1 ((fR r).foldl HX ((al,ns),dU 0)).1.2 (es++[dU b]) (fun x hx=>hm x (by simp[hx])) h1;have e:JB ((al,ns),es) r=((((fR r).foldl HX ((al,ns),dU 0)).1.1,((fR r).foldl HX ((al,ns),dU 0)).1.2),es++[dU b]):=by
   rw[<-h2];rfl
  rw[cT,e];refine⟨k1,⟨m1++m2,by rw[hm2,hm1,cc]⟩,dU b::fs,by rw[k2];simp,by simp[k3],?_⟩;intro i x hx;cases i with
  |zero=>
   have:r=x:=by simpa using hx
   subst this;refine⟨b,rfl,by rw[hm2];simp;omega,?_⟩;rw[hm2,K1 h1.below _ b b (bO _) h3,h4,tV];rfl
  |succ i=>exact k4 i x (by simpa using hx)
theorem Uj(R:ah->Prop)(tk:bB):Ch R [root tk]:=
 ⟨bO _,fun i x h1 hx=>by
  have:=(aF.1 hx).1;simp at this;omega,fun i h1 h2=>by simp at h2;omega⟩
theorem yz(tk:bB)(rs:aq):Ch (Sg rs) (eD tk rs).1.2/\(eD tk rs).2.length=rs.length/\∀(i:Nat) r,rs[i]?=some r->∃b:Nat,(eD tk rs).2[i]?=some (dU b)/\b<(eD tk rs).1.2.length/\gK (eD tk rs).1.2 (dU b)=fR r:=by
 obtain⟨h1,_,fs,h2,h3,h4⟩:=Qo rs rs [] [root tk] [] (fun r hr=>hr) (Uj _ tk);rw[dM]at h2;refine⟨h1,?_,?_⟩
 ·show(rs.foldl JB (([],[root tk]),[])).2.length=_;rw[h2,h3]
 ·intro i r hr;obtain⟨b,k1,k2,k3⟩:=h4 i r hr;refine⟨b,?_,k2,k3⟩;show(rs.foldl JB (([],[root tk]),[])).2[i]?=_;rw[h2];exact k1
theorem Qb{r:aI}(h:eU r=true):∃c cs,fR r=c::cs/\c.kind=1:=by
 have hb:=Oq h;cases hc:r.conds with
 |nil=>
  unfold eU at h;rw[hc]at h;simp at h
 |cons c cs=>
  refine⟨MS (gD r) c,cs.map (MS (gD r)),by unfold fR;rw[hc];rfl,?_⟩;exact(LW (pre:=[]) (i:=0) (c:=c) (rest:=cs) (by rw[dM,<-hc];exact hb)).2.1 rfl
theorem Nd{rs:aq}(h:∀r∈rs,eU r=true){p:ah}(hp:Sg rs p):p.length<=4/\∃c cs,p=c::cs/\c.kind=1:=by
 obtain⟨r,hr,j,h1,h2,rfl⟩:=hp;have:=x6 (h r hr);refine⟨by rw[bw];omega,?_⟩;obtain⟨c,cs,e,hk⟩:=Qb (h r hr);obtain⟨j,rfl⟩:∃k,j=k+1:=⟨j-1,by omega⟩
 exact⟨c,cs.take j,by rw[e];rfl,hk⟩
theorem Ut{c:aN}{cs:ah}(hk:c.kind=1):uf (c::cs) []=[]:=by
 have h0:∀(l:ah),l.foldl (tU []) []=[]:=by
  intro l
  induction l with
  |nil=>rfl
  |cons x l ih=>rw[cT];exact ih
 unfold uf;rw[cT];have:tU [] [⟨[],[]⟩] c=[]:=by
  unfold tU CW;rw[bD hk];rfl
 rw[this,h0]
theorem Qc{r:aI}(h:eU r=true):∀c∈fR r,c.pat.rel.length<=8/\c.pat.args.length<=3/\∀x∈c.pat.args,x.length<=16:=by
 intro c' W9;obtain⟨c,hc,rfl⟩:=cA.1 W9;obtain⟨h1,h2,h3,h4,h5⟩:=LV (AT h c hc);have hV:∀x∈c.pat.args++[c.left,c.right],fK x=true->x∈yB r.conds:=fun x hx hv=>zn.2 ⟨bg.2 ⟨c,hc,hx⟩,hv⟩
 refine⟨h1,by show(c.pat.args.map _).length<=3;rw[au];exact h2,fun x hx=>?_⟩;obtain⟨y,hy,rfl⟩:=cA.1 hx;exact J5 h (h3 y hy) (hV y (by simp[hy]))
theorem Y5{p:aE}(h1:p.rel.length<=8)(h2:p.args.length<=3)(h3:∀x∈p.args,x.length<=16):(HW p).wt<=1048576:=by
 have a3:=LF (p.args.map (Cq (p.args.foldl lM []))) (fun x hx=>by
  obtain⟨y,hy,rfl⟩:=cA.1 hx;exact a3O (by omega) (h3 y hy))
 rw[au]at a3;show aE.wt ⟨p.rel,p.args.map (Cq (p.args.foldl lM []))⟩<=1048576;unfold aE.wt;dsimp only;unfold tw at*;omega
def vi(al:bX):Prop:=∀x∈al,x.shape.wt<=1048576/\x.facts=[]
theorem RE{al:bX}{ns:bR}{p:Int}{c:aN}(h:vi al)(hc:(HW c.pat).wt<=1048576):vi (Kk al ns p c).1.1:=by
 unfold Kk;cases NG p c ns 0 with
 |some i=>exact h
 |none=>
  show vi (RD al c).1;unfold RD;by_cases hk:c.kind=1\/c.kind=2
  ·rw[bL hk];unfold YY;cases YZ (HW c.pat) al 0 with
   |some i=>exact h
   |none=>
    intro x hx;rcases aU.1 hx with hx|hx
    ·exact h x hx
    ·rw[cI.1 hx];exact⟨hc,rfl⟩
  ·rw[b8 hk];exact h
theorem MY:∀(cs:ah) (s:(bX×bR)×Int),vi s.1.1->(∀c∈cs,(HW c.pat).wt<=1048576)->vi (cs.foldl HX s).1.1
 | [],_,h,_=>h
 |c::cs,s,h,hc=>MY cs (HX s c) (RE h (hc c (by simp))) (fun x hx=>hc x (by simp[hx]))
theorem xp(tk:bB){rs:aq}(h:∀r∈rs,eU r=true):vi (eD tk rs).1.1:=by
 have main:∀(l:aq) (z:(bX×bR)×bK),(∀r∈l,eU r=true)->vi z.1.1->vi (l.foldl JB z).1.1:=by
  intro l
  induction l with
  |nil=>intro z _ hz;exact hz
  |cons r l ih=>
   intro z hl hz;refine ih (JB z r) (fun x hx=>hl x (by simp[hx])) ?_;exact MY (fR r) (z.1,0) hz (fun c hc=>by
    obtain⟨p1,p2,p3⟩:=Qc (hl r (by simp)) c hc;exact Y5 p1 p2 p3)
 exact main rs _ h (fun x hx=>by cases hx)
theorem LC(tk:bB){rs:aq}(h:∀r∈rs,eU r=true)(h6:rs.length<=6):Bx (eD tk rs).1.2:=by
 have hp:=(yz tk rs).1;have hl:=MZ tk h h6;refine⟨by omega,?_,?_⟩
 ·intro x hx;obtain⟨i,hi⟩:=eL hx;have Ra:=(aF.1 hi).1;by_cases h0:i=0
  ·subst h0;rw[gR]at hi;cases hi;unfold root aN.wt;simp[qm,tw]
  ·obtain⟨p,hpp,hpi⟩:=hp.below i x (by omega) hi;obtain⟨r,hr,j,j1,j2,e⟩:=hp.path i (by omega) Ra;rw[zo hi (by omega) hpp hpi]at e;have hm:x.cond∈fR r:=bz (by rw[<-e];simp:x.cond∈(fR r).take j);exact J3 (h r hr) _ hm
 ·intro i;by_cases hi:1<=i/\i<(eD tk rs).1.2.length
  ·exact(Nd h (hp.path i hi.1 hi.2)).1
  ·unfold gK dU;rw[b8 (by omega)];simp
theorem a2n(rs:aq)(fs:aP)(t:Int)(hr:qm aI.wt rs<=1048576)(hb:rP rs=true)(hf:FS fs)(h24:fs.length<=24):vq rs fs t=some ⟨rs,(eD [] rs).2,p6 (eD [] rs).1.1 fs,sN (eD [] rs).1.2 fs,fs,t⟩:=by
 have h6:rs.length<=6:=by unfold rP at hb;simp only[aR,bA]at hb;omega
 have hv:=qu hb;have hsh:=xp [] hv;have hal:(eD [] rs).1.1.length<=1048576:=by
  have main:∀(l:aq) (z:(bX×bR)×bK),(∀r∈l,eU r=true)->(l.foldl JB z).1.1.length<=z.1.1.length+4*l.length:=by
   intro l
   induction l with
   |nil=>intro z _;exact bO _
   |cons r l ih=>
    intro z hl;have h1:=ih (JB z r) (fun x hx=>hl x (by simp[hx]));have h2:=(FF (fR r) (z.1,0)).1;have h3:=x6 (hl r (by simp));have h4:(JB z r).1.1.length=((fR r).foldl HX (z.1,0)).1.1.length:=rfl;rw[cT,aT];dsimp only at h2;omega
  have:=main rs (([],[root []]),[]) hv;unfold eD;simp only[bW]at this;omega
 unfold vq;rw[a8m rs hr hb,aA,a5U _ fs hf h24 hal (fun x hx=>(hsh x hx).1) (LC [] hv h6)];rfl
theorem U8{al:bX}(h:vi al):p6 al []=al:=by
 unfold p6;have:∀l:bX,(∀x∈l,x.facts=[])->l.map (fun a=>(⟨a.shape,vU a.shape [] []⟩:af))=l:=by
  intro l
  induction l with
  |nil=>intro _;rfl
  |cons x l ih=>
   intro hl;rw[ay,ih (fun y hy=>hl y (by simp[hy]))];have:=hl x (by simp);cases x;simp only at this;subst this;rfl
 exact this al fun x hx=>(h x hx).2
theorem ZD{al:bX}{ns:bR}{p:Int}{c:aN}(h:∀x∈ns,x.tokens=[]):∀x∈(chR al ns p c).1.2,x.tokens=[]:=by
 unfold chR;cases NG p c ns 1 with
 |some i=>exact h
 |none=>
  intro x hx;rcases aU.1 hx with hx|hx
  ·exact h x hx
  ·rw[cI.1 hx]
theorem Tc:∀(cs:ah) (s:(bX×bR)×Int),(∀x∈s.1.2,x.tokens=[])->∀x∈(cs.foldl rtC s).1.2,x.tokens=[]
 | [],_,h=>h
 |c::cs,s,h=>Tc cs (rtC s c) (ZD h)
theorem a08(rs:aq):∀x∈(rtB rs).1.2,x.tokens=[]:=by
 have main:∀(l:aq) (z:(bX×bR)×bK),(∀x∈z.1.2,x.tokens=[])->∀x∈(l.foldl Yk z).1.2,x.tokens=[]:=by
  intro l
  induction l with
  |nil=>intro z hz;exact hz
  |cons r l ih=>intro z hz;exact ih (Yk z r) (Tc (fR r) (z.1,0) hz)
 exact main rs _ (fun x hx=>by cases hx)
theorem Lh(ns:bR):∀(l:bR) (i:Nat),(∀x∈l,x.tokens=[])->(∀j:Nat,i<=j->j<i+l.length->uf (gK ns (dU j)) []=[])->qI ns [] l i=l
 | [],_,_,_=>rfl
 |x::l,i,ht,hp=>by
  rw[qI,hp i (bO _) (by simp),Lh ns l (i+1) (fun y hy=>ht y (by simp[hy])) (fun j h1 h2=>hp j (by omega) (by simp only[aT];omega))];have:=ht x (by simp);cases x;simp only at this;subst this;rfl
theorem U9{rs:aq}(h:∀r∈rs,eU r=true):sN (eD [] rs).1.2 []=(eD [⟨[],[]⟩] rs).1.2:=by
 have hp:=(yz [] rs).1;have e:(eD [] rs).1.2=root []::(rtB rs).1.2:=by rw[gR]
 have e2:(eD [⟨[],[]⟩] rs).1.2=root [⟨[],[]⟩]::(rtB rs).1.2:=by rw[gR]
 have hlen:(eD [] rs).1.2.length=(rtB rs).1.2.length+1:=by rw[e];rfl
 unfold sN;rw[e2];have h1:=Lh (eD [] rs).1.2 (rtB rs).1.2 1 (a08 rs) (fun j j1 j2=>by
  obtain⟨_,c,cs,ec,hk⟩:=Nd h (hp.path j j1 (by rw[hlen];omega));rw[ec];exact Ut hk)
 have h2:qI (eD [] rs).1.2 [] (eD [] rs).1.2 0=qI (eD [] rs).1.2 [] (root []::(rtB rs).1.2) 0:=by rw[<-e]
 rw[h2,qI,h1,tV];rfl
end Go.Cx
namespace Go.Cx
open Go.RowKit Go.Proofs Tryz
def vA(rs:aq)(fs:aP)(t:Int):aJ:=⟨rs,(eD [] rs).2,p6 (eD [] rs).1.1 fs,sN (eD [] rs).1.2 fs,fs,t⟩
def QD(n:aJ):Bool:=rP n.rules&&(mM n.facts&&(decide (0<=n.cg)&&MC n (vA n.rules n.facts 0)))
theorem FS.ML{fs:aP}(h:qm aE.wt fs<=1048576):FS fs:=⟨by have:=tE aE.wt fs;omega,fun f hf=>by have:=qL (w:=aE.wt) hf;omega⟩
theorem a2t(n:aJ)(hr:qm aI.wt n.rules<=1048576)(hf:qm aE.wt n.facts<=1048576):qy n=some (QD n):=by
 unfold qy QD;rw[a5O _ hr,a0x _ hf,aA,aA];cases h1:rP n.rules with
 |false=>rfl
 |true=>
  cases h2:mM n.facts with
  |false=>rfl
  |true=>
   rw[a2n _ _ _ hr h1 (FS.ML hf) (qv h2),aA,a8k,aA];simp only[aH,eH];by_cases h3:0<=n.cg
   ·rw[bD h3];rfl
   ·rw[bM h3];rfl
def yH(x:Node):Int×Int×aN:=(x.parent,x.eS,x.cond)
theorem XI{a b:bR}(h:a.map yH=b.map yH):a.map qe=b.map qe:=by
 have:=congrArg (List.map fun t:Int×Int×aN=>(t.1,t.2.2)) h;rw[Bu,Bu]at this;exact this
def Uu(ns:bR)(fs:aP):bR->Nat->Bool
 | [],_=>true
 |x::xs,i=>decide (x.tokens=uf (gK ns (dU i)) fs)&&Uu ns fs xs (i+1)
theorem NR(fs:aP):∀(a b:bX),a.map af.shape=b.map af.shape->((a.all fun x=>decide (x.facts=vU x.shape [] fs))=true↔a=p6 b fs)
 | [],[],_=>⟨fun _=>rfl,fun _=>rfl⟩
 | [],_::_,h=>by simp at h
 |_::_,[],h=>by simp at h
 |x::a,y::b,h=>by
  rw[ay,ay]at h;obtain⟨h1,h2⟩:=nE h;have ih:=NR fs a b h2;rw[dD,aR,bA,ih];show _↔x::a=⟨y.shape,vU y.shape [] fs⟩::p6 b fs;constructor
  ·rintro⟨q1,q2⟩;rw[<-h1,<-q1,<-q2]
  ·intro q;obtain⟨q1,q2⟩:=nE q;exact⟨by rw[q1],q2⟩
theorem NS(ns:bR)(fs:aP):∀(a b:bR) (i:Nat),a.map yH=b.map yH->(Uu ns fs a i=true↔a=qI ns fs b i)
 | [],[],_,_=>⟨fun _=>rfl,fun _=>rfl⟩
 | [],_::_,_,h=>by simp at h
 |_::_,[],_,h=>by simp at h
 |x::a,y::b,i,h=>by
  rw[ay,ay]at h;obtain⟨h1,h2⟩:=nE h;have ih:=NS ns fs a b (i+1) h2;have e1:x.parent=y.parent:=(pW h1).1;have e2:x.eS=y.eS:=(pW (pW h1).2).1;have e3:x.cond=y.cond:=(pW (pW h1).2).2;unfold Uu qI;rw[aR,bA,ih];constructor
  ·rintro⟨q1,q2⟩;rw[<-e1,<-e2,<-e3,<-q1,<-q2]
  ·intro q;obtain⟨q1,q2⟩:=nE q;exact⟨by rw[q1],q2⟩
theorem a1i(n:aJ)(k:Option Bool)(hf:FS n.facts):∀(l:bX) (i:Nat),(∀x∈l,x.shape.wt<=1048576)->jP n k l i=bif l.all (fun x=>decide (x.facts=vU x.shape [] n.facts))then k else some false
 | [],_,_=>rfl
 |x::l,i,h=>by
  rw[jP,a3b x.shape [] n.facts (h x (by simp)) PB.nil hf,aA,L9,aA,a1i n k hf l _ (fun y hy=>h y (by simp[hy])),dD];cases decide (x.facts=vU x.shape [] n.facts)<;>rfl
theorem a1j(n:aJ)(k:Option Bool)(hf:FS n.facts)(h24:n.facts.length<=24)(hp:Bx n.nodes):∀(l:bR) (i:Nat),jQ n k l i=bif Uu n.nodes n.facts l i then k else some false
 | [],_=>rfl
 |x::l,i=>by
  have Q5:∀c∈gK n.nodes ((i:Nat):Int),c.wt<=1048576:=by
   intro c hc;obtain⟨z,hz,e⟩:=J2 hc;rw[<-e];exact hp.wt z hz
  rw[jQ,Xs n _ ⟨hp.len,hp.wt⟩,aA,Y4 _ n.facts Q5 (hp.path i) hf h24,aA,a0O,aA,a1j n k hf h24 hp l,Uu];show(bif !decide (x.tokens=uf (gK n.nodes (dU i)) n.facts)then some false else _)=_;cases decide (x.tokens=uf (gK n.nodes (dU i)) n.facts)<;>rfl
theorem Xm(n:aJ)(hr:qm aI.wt n.rules<=1048576)(hf:qm aE.wt n.facts<=1048576):me n=some (QD n):=by
 unfold me QD;rw[Xj _ hr,a1Z _ hf,aA,aA];cases h1:rP n.rules with
 |false=>rfl
 |true=>
  cases h2:mM n.facts with
  |false=>rfl
  |true=>
   have h6:n.rules.length<=6:=by unfold rP at h1;simp only[aR,bA]at h1;omega
   have hv:=qu h1;simp only[aH,bh,aS,eH];rw[a6H,aA];have hroot:(eD [⟨[],[]⟩] n.rules).1.2.map yH=(eD [] n.rules).1.2.map yH:=by rw[gR,gR];rfl
   have hA:(eD [⟨[],[]⟩] n.rules).1.1=(eD [] n.rules).1.1:=by rw[gR,gR]
   have hE:(eD [⟨[],[]⟩] n.rules).2=(eD [] n.rules).2:=by rw[gR,gR]
   have hmem:MC n (vA n.rules n.facts 0)=(decide (n.ends=(eD [] n.rules).2)&&(decide (n.bG=p6 (eD [] n.rules).1.1 n.facts)&&decide (n.nodes=sN (eD [] n.rules).1.2 n.facts))):=by
    unfold MC vA;simp
   by_cases hform:Ll n ⟨n.rules,(eD [⟨[],[]⟩] n.rules).2,(eD [⟨[],[]⟩] n.rules).1.1,(eD [⟨[],[]⟩] n.rules).1.2,[],0⟩=true
   ·rw[hform];unfold Ll at hform;simp only[aR,bA]at hform;obtain⟨f1,f2,f3⟩:=hform;have f2':n.nodes.map yH=(eD [] n.rules).1.2.map yH:=by rw[<-hroot];exact f2
    have f1':n.bG.map af.shape=(eD [] n.rules).1.1.map af.shape:=by rw[<-hA];exact f1
    have f3':n.ends=(eD [] n.rules).2:=by rw[<-hE];exact f3
    have a2a:=LC [] hv h6;have hfn:=XI f2';have hok:Bx n.nodes:=by
     refine⟨by have:=congrArg List.length f2';rw[au,au]at this;rw[this];exact a2a.len,fun x hx=>?_,fun i=>by rw[xj hfn];exact a2a.path i⟩;have hm:qe x∈(eD [] n.rules).1.2.map qe:=by rw[<-hfn];exact cA.2 ⟨x,hx,rfl⟩
     obtain⟨w,hw,e⟩:=cA.1 hm;have:w.cond=x.cond:=(pW e).2;rw[<-this];exact a2a.wt w hw
    have hsh:∀x∈n.bG,x.shape.wt<=1048576:=by
     intro x hx;have hm:x.shape∈(eD [] n.rules).1.1.map af.shape:=by rw[<-f1'];exact cA.2 ⟨x,hx,rfl⟩
     obtain⟨w,hw,e⟩:=cA.1 hm;rw[<-e];exact(xp [] hv w hw).1
    have g1:=NR n.facts n.bG _ f1';have g2:=NS n.nodes n.facts n.nodes _ 0 f2';have g3:qI n.nodes n.facts (eD [] n.rules).1.2 0=sN (eD [] n.rules).1.2 n.facts:=by
     unfold sN;have:∀(l:bR) (i:Nat),qI n.nodes n.facts l i=qI (eD [] n.rules).1.2 n.facts l i:=by
      intro l
      induction l with
      |nil=>intro i;rfl
      |cons x l ih=>intro i;rw[qI,qI,ih,xj hfn]
     exact this _ _
    rw[g3]at g2;rw[hmem,bD f3',eH,a1i n _ (FS.ML hf) _ _ hsh,a1j n _ (FS.ML hf) (qv h2) hok];have k1:(n.bG.all fun x=>decide (x.facts=vU x.shape [] n.facts))=decide (n.bG=p6 (eD [] n.rules).1.1 n.facts):=by rw[bn,g1,bA]
    have k2:Uu n.nodes n.facts n.nodes 0=decide (n.nodes=sN (eD [] n.rules).1.2 n.facts):=by rw[bn,g2,bA]
    rw[k1,k2];by_cases h3:0<=n.cg
    ·rw[bD h3,bM (by omega)];cases decide (n.bG=p6 (eD [] n.rules).1.1 n.facts)<;>cases decide (n.nodes=sN (eD [] n.rules).1.2 n.facts)<;>rfl
    ·rw[bM h3,bD (by omega)];rfl
   ·have hfalse:Ll n ⟨n.rules,(eD [⟨[],[]⟩] n.rules).2,(eD [⟨[],[]⟩] n.rules).1.1,(eD [⟨[],[]⟩] n.rules).1.2,[],0⟩=false:=by
     cases hq:Ll n ⟨n.rules,(eD [⟨[],[]⟩] n.rules).2,(eD [⟨[],[]⟩] n.rules).1.1,(eD [⟨[],[]⟩] n.rules).1.2,[],0⟩with
     |true=>exact absurd hq hform
     |false=>rfl
    rw[hfalse];have hm:MC n (vA n.rules n.facts 0)=false:=by
     cases hq:MC n (vA n.rules n.facts 0)with
     |false=>rfl
     |true=>
      exfalso;rw[hmem]at hq;simp only[aR,bA]at hq;obtain⟨q1,q2,q3⟩:=hq;apply hform;unfold Ll;simp only[aR,bA];have r1:n.bG.map af.shape=(eD [⟨[],[]⟩] n.rules).1.1.map af.shape:=by rw[hA,q2];unfold p6;rw[Bu];rfl
      have r2:n.nodes.map yH=(eD [⟨[],[]⟩] n.rules).1.2.map yH:=by
       rw[hroot,q3];have:∀(ns l:bR) (i:Nat),(qI ns n.facts l i).map yH=l.map yH:=by
        intro ns l
        induction l with
        |nil=>intro i;rfl
        |cons x l ih=>intro i;rw[qI,ay,ih];rfl
       exact this _ _ _
      exact⟨r1,r2,by rw[hE];exact q1⟩
    rw[hm,vZ];rfl
end Go.Cx
namespace Go.Cx
open Go.RowKit Go.Proofs Tryz
theorem P7{fs:aP}(hf:FS fs):∀(cs:ah) (l:bB) (n:Nat),(∀c∈cs,c.wt<=1048576)->(∀t∈l,TK n t)->∀t∈cs.foldl (tU fs) l,TK (n+cs.length) t
 | [],l,n,_,hl=>hl
 |c::cs,l,n,hc,hl=>by
  have:=P7 hf cs (tU fs l c) (n+1) (fun x hx=>hc x (by simp[hx])) (Oe hl (hc c (by simp)) hf);rw[aT,show n+(cs.length+1)=n+1+cs.length from by omega];exact this
def R9(rs:aq)(fs:aP):bV:=bif rP rs then rs.flatMap fun r=>R3 r fs else []
theorem PZ{l:aq}(h:rP l=true):l.length<=6:=by
 unfold rP at h;simp only[aR,bA]at h;omega
theorem a9n(rs:aq)(fs:aP)(hr:qm aI.wt rs<=1048576)(hf:qm aE.wt fs<=1048576):AJ rs fs=some (R9 rs fs):=by
 unfold AJ R9;cases h:rP rs with
 |false=>
  cases rs with
  |nil=>rfl
  |cons r rs=>rw[kH,a3S _ hr,h,aA];rfl
 |true=>
  have h6:=PZ h;have key:∀(l:aq) (i:Nat) (w:bV),(∀r∈l,r.wt<=1048576)->w.length+l.length*390625<=1099511627776->kH rs fs (fun q=>some q) l i w=some (w++l.flatMap fun r=>R3 r fs):=by
   intro l
   induction l with
   |nil=>intro i w _ _;rw[kH];simp
   |cons r l ih=>
    intro i w hl hw;rw[aT,yd]at hw;have h2:(R3 r fs).length<=390625:=by unfold R3;rw[au];exact P6 _ _ _
    rw[kH,a3S _ hr,h,aA,aH,a94 r fs (hl r (by simp)) hf,aA,Qi (by omega) (by decide),aH,ih _ _ (fun x hx=>hl x (by simp[hx])) (by rw[ar];omega)];simp
  rw[key rs 0 [] (fun r hrm=>by have:=qL (w:=aI.wt) hrm;omega) (by simp;omega)];rfl
theorem a5b(r:aI)(fs:aP)(hr:r.wt<=1048576)(hf:qm aE.wt fs<=1048576)(h1:eU r=true)(h2:mM fs=true):rC r fs=some (R3 r fs):=by
 unfold rC R3;have h4:=FD h1;have hl:=JC (cs:=r.conds) h4 (qv h2);rw[a14 r.conds fs (fun c hc=>aI.pE hr hc) h4 (FS.of hf) (qv h2),aA,sO (by omega),aH,YG h1 h2 (bO _),wj];rw[show jH r (uf r.conds fs) (fun q=>some q) (uf r.conds fs) 0 []=_ from It (c:=ax.c) (b:=64) (f:=fun t:aY=>some (⟨r.name,t.facts,t.bind⟩:ax)) (g:=fun t=>⟨r.name,t.facts,t.bind⟩) (L:=jH r _ _) (k:=fun q=>some q) (by decide) (fun _ _=>rfl) (fun _ _ _ _=>rfl) _ 0 [] (fun _ _=>rfl) (by simp;omega)];simp
theorem a5N(rs:aq)(fs:aP)(hr:qm aI.wt rs<=1048576)(hf:qm aE.wt fs<=1048576):pg rs fs=some (R9 rs fs):=by
 unfold pg R9;rw[a5O rs hr,aA,a0x fs hf,aA];cases h:rP rs with
 |false=>rfl
 |true=>
  have h6:=PZ h;cases h2:mM fs with
  |false=>
   have:(rs.flatMap fun r=>R3 r fs)=[]:=by
    rw[List.flatMap_eq_nil_iff];intro r _;unfold R3 tkO;rw[h2];cases eU r<;>rfl
   rw[aH,this];rfl
  |true=>
   simp only[bh,aS,aH];unfold tB;have key:∀(l:aq) (i:Nat) (w:bV),(∀r∈l,r.wt<=1048576/\eU r=true)->w.length+l.length*390625<=1099511627776->gN rs fs (fun q=>some q) l i w=some (w++l.flatMap fun r=>R3 r fs):=by
    intro l
    induction l with
    |nil=>intro i w _ _;rw[gN];simp
    |cons r l ih=>
     intro i w hl hw;rw[aT,yd]at hw;have R1:=hl r (by simp);have h3:(R3 r fs).length<=390625:=by unfold R3;rw[au];exact P6 _ _ _
     rw[gN,a5b r fs R1.1 hf R1.2 h2,aA,Qi (by omega) (by decide),aH,ih _ _ (fun x hx=>hl x (by simp[hx])) (by rw[ar];omega)];simp
   rw[key rs 0 [] (fun r hrm=>⟨by have:=qL (w:=aI.wt) hrm;omega,qu h r hrm⟩) (by simp;omega)];rfl
end Go.Cx
namespace Go.Cx
open Go.RowKit Go.Proofs Tryz
theorem U7{b:aM}{x y:Bytes}(h:(wu b x y).2=true):iH (wu b x y).1=true:=by
 unfold wu at h⊢;cases hc:iH b&&(fK x&&fL y)with
 |false=>rw[hc]at h;cases h
 |true=>
  rw[hc,aH]at h;rw[aH];simp only[aR]at hc;cases hf:dB x b with
  |some o=>
   rw[hf]at h;dsimp only at h⊢;cases ho:o==y with
   |false=>rw[ho]at h;cases h
   |true=>exact hc.1
  |none=>
   rw[hf]at h;dsimp only at h⊢;cases hd:decide (b.length=6)with
   |true=>rw[hd]at h;cases h
   |false=>exact Dk hc.2.1 hc.2.2 hc.1 hf (of_decide_eq_false hd)
theorem Jw:∀(l r:aG) (b:aM),iH b=true->(sP l r b).2=true->iH (sP l r b).1=true
 | [],_,b,hb,_=>hb
 |_::_,[],_,_,h=>by cases h
 |x::xs,y::ys,b,hb,h=>by
  simp only[sP]at h⊢;cases hx:fL x with
  |true=>
   rw[hx,aH]at h;rw[aH];cases hxy:x==y with
   |false=>rw[hxy]at h;cases h
   |true=>rw[hxy,aH]at h;rw[aH];exact Jw xs ys b hb h
  |false=>
   rw[hx,aS]at h;rw[aS];cases he:(wu b x y).2 with
   |false=>rw[he]at h;cases h
   |true=>rw[he,aH]at h;rw[aH];exact Jw xs ys _ (U7 he) h
theorem UR{p f:aE}{b:aM}(hb:iH b=true)(h:(p8 p f b).2=true):iH (p8 p f b).1=true:=by
 unfold p8 at h⊢;cases hc:xh p&&(rO f&&(iH b&&(p.rel==f.rel&&decide (p.args.length=f.args.length))))with
 |false=>rw[hc]at h;cases h
 |true=>rw[hc,aH]at h;rw[aH];exact Jw _ _ _ hb h
theorem Ub{c:aN}{fs:aP}{t u:aY}(hb:iH t.bind=true)(hu:u∈CW c fs t):iH u.bind=true:=by
 unfold CW at hu;cases hk:decide (c.kind=1)with
 |true=>
  rw[hk,aH]at hu;obtain⟨f,hf,hu⟩:=bg.1 hu;unfold ext1 at hu;cases hm:(p8 c.pat f t.bind).2 with
  |false=>rw[hm]at hu;cases hu
  |true=>
   rw[hm,aH]at hu;rw[cI.1 hu];exact UR hb hm
 |false=>
  rw[hk,aS]at hu;cases hh:Ba c t.bind fs with
  |false=>rw[hh]at hu;cases hu
  |true=>rw[hh,aH]at hu;rw[cI.1 hu];exact hb
theorem Qr(fs:aP):∀(cs:ah) (A:bB),(∀t∈A,iH t.bind=true)->∀u∈cs.foldl (tU fs) A,iH u.bind=true
 | [],_,h=>h
 |c::cs,A,h=>Qr fs cs (tU fs A c) (fun u hu=>by
  obtain⟨t,ht,hu⟩:=bg.1 hu;exact Ub (h t ht) hu)
theorem Us{cs:ah}{fs:aP}:∀u∈uf cs fs,iH u.bind=true:=Qr fs cs [⟨[],[]⟩] (fun t ht=>by rw[cI.1 ht];rfl)
def Vg(b:aM)(w:aM)(x:aQ):aM:=bif (oq b x.value).2 then vX x.var (oq b x.value).1 w else w
def bkB(b to:aM):aM:=to.foldl (Vg b) []
theorem Vf{b:aM}(h:iH b=true):PB b:=by
 have h6:=F8 h;refine⟨by omega,fun p hp=>?_⟩;obtain⟨h1,h2⟩:=B5 (tL h) p hp;have:=F1 h1;have:=yu h2;omega
theorem Xb(b to:aM)(k:aM->Option aM):∀(l:aM) (i:Nat) (w:aM),(∀x∈l,x.value.length<=1048576)->w.length+l.length<=1000000->kU b to k l i w=k (l.foldl (Vg b) w)
 | [],_,_,_,_=>rfl
 |x::l,i,w,h,hl=>by
  simp only[aT]at hl;have ih:=Xb b to k l (i+1);rw[kU,a0P b x.value (h x (by simp)),aA,cT,a1n w x.var _ (by omega),aA];unfold Vg;cases(oq b x.value).2 with
  |true=>rw[aH,aH];exact ih _ (fun y hy=>h y (by simp[hy])) (by rw[Bj];omega)
  |false=>rw[aS,aS];exact ih _ (fun y hy=>h y (by simp[hy])) (by omega)
theorem a6B(b to:aM)(h:∀x∈to,x.value.length<=1048576)(hl:to.length<=1000):uZ b to=some (bkB b to):=by
 unfold uZ;rw[Xb b to _ to 0 [] h (by simp;omega)];rfl
theorem Wh(a:aJ)(w2:bV)(i2:Nat)(t:aY)(i1:Nat)(r:aI)(y:aM)(nd:Node)(fs:aP)(k:aM->Option bV)(hb:iH t.bind=true):∀(l:aM) (i:Nat) (w:aM),(∀x∈l,fK x.var=true/\fK x.value=true/\dB x.var w=none)->(l.map aQ.var).Nodup->iH w=true->w.length+l.length<=6->fU a w2 i2 t i1 r y nd fs k l i w=k (l.foldl (Vg t.bind) w)
 | [],_,_,_,_,_,_=>rfl
 |x::l,i,w,h,hn,hw,hl=>by
  simp only[aT]at hl;rw[ay,dN]at hn;obtain⟨h1,h2,h3⟩:=h x (by simp);have ih:=Wh a w2 i2 t i1 r y nd fs k hb l (i+1);have hx:=F1 h1;have hv:=F1 h2;rw[fU,Zj t.bind x.value (by omega),aA,cT];unfold Vg;cases hval:(oq t.bind x.value).2 with
  |false=>rw[aS,aS];exact ih w (fun z hz=>h z (by simp[hz])) hn.2 hw (by omega)
  |true=>
   have L3:fL (oq t.bind x.value).1=true:=by
    unfold oq at hval⊢;rw[oN h2,h2,aS,aH]at hval⊢;cases hf:dB x.value t.bind with
    |none=>rw[hf]at hval;cases hval
    |some o=>
     obtain⟨p,hp,_,e⟩:=wz hf;dsimp only;rw[<-e];exact(B5 (tL hb) p hp).2
   have hal:=yu L3;have hne:w.length≠6:=by omega
   have he:wu w x.var (oq t.bind x.value).1=(vX x.var (oq t.bind x.value).1 w,true):=by
    unfold wu;rw[hw,h1,L3,h3,bM hne];rfl
   rw[aH,aH,a5T w x.var _ (Vf hw) (by omega) (by omega),aA,he];refine ih _ (fun z hz=>?_) hn.2 (Dk h1 L3 hw h3 hne) (by rw[Bj];omega);obtain⟨z1,z2,z3⟩:=h z (by simp[hz]);refine⟨z1,z2,?_⟩;rw[tr (fun e=>hn.1 (by rw[e];exact cA.2 ⟨z,hz,rfl⟩))];exact z3
def cfT(r:aI)(t:aY):ax:=⟨r.name,t.facts,bkB t.bind (gD r)⟩
def TF(t:aY):Prop:=t.facts.length<=1048576/\∀f∈t.facts,f.args.length<=1048576
theorem MG{r:aI}(h:eU r=true):(∀x∈gD r,fK x.var=true/\fK x.value=true)/\((gD r).map aQ.var).Nodup/\(gD r).length<=6:=by
 refine⟨fun x hx=>?_,Be (vE r.conds) Qz.nil,Jy h⟩;obtain⟨i,hi,_,hval,hv⟩:=PC (JE (vE r.conds) VZ.nil) hx;have:=Jy h;unfold gD at this;exact⟨hv,by rw[hval];exact TU i (by omega)⟩
theorem a1b(a:aJ)(i1:Nat)(r:aI)(nd:Node)(k:bV->Option bV)(hr:eU r=true):∀(l:bB) (i:Nat) (w:bV),(∀t∈l,TF t)->w.length+l.length<=1099511627000->fV a i1 r (gD r) nd k l i w=k (w++l.map (cfT r))
 | [],_,_,_,_=>by rw[fV];simp
 |t::l,i,w,h,hl=>by
  simp only[aT]at hl;obtain⟨n1,n2,n3⟩:=MG hr;obtain⟨h1,h2⟩:=h t (by simp);rw[fV,J8 t.facts h1 h2,aA,a6B t.bind (gD r) (fun x hx=>by have:=F1 (n1 x hx).2;omega) (by omega),aA,gF (by omega) (by decide),aH,a1b a i1 r nd k hr l _ _ (fun u hu=>h u (by simp[hu])) (by simp;omega)];simp[cfT]
theorem a0z(a:aJ)(i1:Nat)(r:aI)(nd:Node)(k:bV->Option bV)(hr:eU r=true):∀(l:bB) (i:Nat) (w:bV),(∀t∈l,TF t/\iH t.bind=true)->w.length+l.length<=1099511627000->fT a i1 r (gD r) nd k l i w=k (w++l.map (cfT r))
 | [],_,_,_,_=>by rw[fT];simp
 |t::l,i,w,h,hl=>by
  simp only[aT]at hl;obtain⟨n1,n2,n3⟩:=MG hr;obtain⟨⟨h1,h2⟩,h3⟩:=h t (by simp);rw[fT,Lw t.facts h1 h2,aA,sO (by omega),aH,Wh _ _ _ _ _ _ _ _ _ _ h3 (gD r) 0 [] (fun x hx=>⟨(n1 x hx).1,(n1 x hx).2,rfl⟩) n2 rfl (by simp;omega),gF (by omega) (by decide),aH,a0z a i1 r nd k hr l _ _ (fun u hu=>h u (by simp[hu])) (by simp;omega)];simp[cfT,bkB]
theorem FA(ns:bR)(fs:aP):∀(l:bR) (i j:Nat),(qI ns fs l i)[j]?=(l[j]?).map fun x=>⟨x.parent,x.cond,x.eS,uf (gK ns (dU (i+j))) fs⟩
 | [],_,_=>by simp[qI]
 |x::l,i,0=>by simp[qI]
 |x::l,i,j+1=>by
  rw[qI,ff,ff,FA ns fs l (i+1) j,show i+1+j=i+(j+1)by omega]
def PN(n:aJ)(i:Nat)(r:aI):Prop:=eU r=true/\r.wt<=1048576/\∃(b:Nat) (nd:Node),n.ends[i]?=some (dU b)/\n.nodes[b]?=some nd/\nd.tokens.length<=390625/\∀t∈nd.tokens,TF t/\iH t.bind=true
def Vr(n:aJ)(i:Nat):bB:=match n.ends[i]? with
 |some e=>(match iw n.nodes e with|some nd=>nd.tokens|none=>[])
 |none=>[]
def Sr(n:aJ):aq->Nat->bV
 | [],_=>[]
 |r::rs,i=>(Vr n i).map (cfT r)++Sr n rs (i+1)
theorem PN.get{n:aJ}{i:Nat}{r:aI}(h:PN n i r):∃e nd,iw n.ends (i:Int)=some e/\iw n.nodes e=some nd/\Vr n i=nd.tokens/\nd.tokens.length<=390625/\∀t∈nd.tokens,TF t/\iH t.bind=true:=by
 obtain⟨_,_,b,nd,h1,h2,h3,h4⟩:=h;have e1:iw n.ends (i:Int)=some (dU b):=by unfold iw;rw[bD (by omega),aH];exact h1
 have e2:iw n.nodes (dU b)=some nd:=by unfold iw dU;rw[bD (by omega),aH];exact h2
 exact⟨dU b,nd,e1,e2,by unfold Vr;rw[h1];dsimp only;rw[e2],h3,h4⟩
theorem a1a(n:aJ)(k:bV->Option bV)(hn:me n=some true):∀(l:aq) (i:Nat) (w:bV),(∀(j:Nat) r,l[j]?=some r->PN n (i+j) r)->w.length+390625*l.length<=100000000->eg n k l i w=k (w++Sr n l i)
 | [],_,_,_,_=>by rw[eg];simp[Sr]
 |r::l,i,w,h,hl=>by
  simp only[aT]at hl;have h0:=h 0 r rfl;rw[rV]at h0;obtain⟨e,nd,g1,g2,g3,g4,g5⟩:=h0.get;rw[eg,hn,aA,aH,Xp r h0.2.1,aA,g1,aA,g2,aA,sO (by omega),aH,a1b n i r nd _ h0.1 nd.tokens 0 w (fun t ht=>(g5 t ht).1) (by omega),a1a n k hn l (i+1) _ (fun j x hx=>by rw[show i+1+j=i+(j+1)by omega];exact h (j+1) x (by simpa using hx)) (by simp;omega),Sr,g3,cc]
theorem a0y(n:aJ)(k:bV->Option bV):∀(l:aq) (i:Nat) (w:bV),(∀(j:Nat) r,l[j]?=some r->PN n (i+j) r)->w.length+390625*l.length<=100000000->fS n k l i w=k (w++Sr n l i)
 | [],_,_,_,_=>by rw[fS];simp[Sr]
 |r::l,i,w,h,hl=>by
  simp only[aT]at hl;have h0:=h 0 r rfl;rw[rV]at h0;obtain⟨e,nd,g1,g2,g3,g4,g5⟩:=h0.get;rw[fS,Wo r h0.2.1,aA,g1,aA,g2,aA,sO (by omega),aH,a0z n i r nd _ h0.1 nd.tokens 0 w g5 (by omega),a0y n k l (i+1) _ (fun j x hx=>by rw[show i+1+j=i+(j+1)by omega];exact h (j+1) x (by simpa using hx)) (by simp;omega),Sr,g3,cc]
theorem Pr{n:aJ}(hb:QD n=true)(hr:qm aI.wt n.rules<=1048576)(hf:qm aE.wt n.facts<=1048576):∀(i:Nat) r,n.rules[i]?=some r->PN n i r:=by
 intro i r hri;unfold QD MC vA at hb;simp only[aR,bA]at hb;obtain⟨b1,b2,_,_,b3,_,_,b4⟩:=hb;have hm:=aD hri;have hv:=qu b1 r hm;have hrw:r.wt<=1048576:=by have:=qL (w:=aI.wt) hm;omega
 obtain⟨b,e1,e2,e3⟩:=(yz [] n.rules).2.2 i r hri;have hx:=aa e2;have h4:=x6 hv;have h24:=qv b2;have hFS:=FS.ML hf;refine⟨hv,hrw,b,⟨((eD [] n.rules).1.2[b]).parent,((eD [] n.rules).1.2[b]).cond,((eD [] n.rules).1.2[b]).eS,uf (fR r) n.facts⟩,by rw[b3];exact e1,?_,JC h4 h24,?_⟩
 ·rw[b4];unfold sN;rw[FA,hx,cN,e3];rfl
 ·intro t ht;have ht':t∈(fR r).foldl (tU n.facts) [⟨[],[]⟩]:=ht;have hk:=P7 hFS (fR r) [⟨[],[]⟩] 0 (J3 hv) Og t ht';exact⟨⟨by have:=hk.1;omega,fun f hff=>aE.fB (hk.2.1 f hff)⟩,Us t ht⟩
theorem a6D(n:aJ)(hr:qm aI.wt n.rules<=1048576)(hf:qm aE.wt n.facts<=1048576):oy n=some (bif QD n then Sr n n.rules 0 else []):=by
 unfold oy;have hi:=Xm n hr hf;cases hb:QD n with
 |true=>
  rw[hb]at hi;have h6:n.rules.length<=6:=by
   have L4:=hb;unfold QD rP at L4;simp only[aR,bA]at L4;omega
  rw[a1a n _ hi n.rules 0 [] (fun j r hj=>by rw[cN];exact Pr hb hr hf j r hj) (by simp;omega)];rfl
 |false=>
  rw[hb]at hi;cases qk:n.rules with
  |nil=>rfl
  |cons r rs=>rw[eg,hi];rfl
theorem a5S(n:aJ)(hr:qm aI.wt n.rules<=1048576)(hf:qm aE.wt n.facts<=1048576):ot n=some (bif QD n then Sr n n.rules 0 else []):=by
 unfold ot rY;rw[a2t n hr hf,aA];cases hb:QD n with
 |true=>
  have h6:n.rules.length<=6:=by
   have L4:=hb;unfold QD rP at L4;simp only[aR,bA]at L4;omega
  rw[a0y n _ n.rules 0 [] (fun j r hj=>by rw[cN];exact Pr hb hr hf j r hj) (by simp;omega)];rfl
 |false=>rfl
end Go.Cx
namespace Go.Cx
open Go.RowKit Go.Proofs Tryz
theorem NN{a b:Bytes}(h:vT a b>0):vT b a<0:=by
 unfold vT at h⊢;by_cases h1:Op.bytesLess a b=true
 ·rw[bL h1]at h;omega
 ·rw[b8 h1]at h;by_cases h2:a=b
  ·rw[bL h2]at h;omega
  ·have h3:Op.bytesLess b a=true:=by
    cases hb:Op.bytesLess b a with
    |true=>rfl
    |false=>exact absurd (Dm (by simpa using h1) hb) h2
   rw[bL h3];omega
theorem NP{a b:Bytes}(h:vT a b=0):a=b:=dR fun hne=>OB hne h
theorem LR{a b:Bytes}(h:vT a b<0):vT b a>0:=by
 unfold vT at h⊢;by_cases h1:Op.bytesLess a b=true
 ·have h3:=Hs h1;have h4:¬(Op.bytesLess b a=true):=by rw[h3];simp
  have h5:¬b=a:=fun e=>by subst e;rw[pG]at h1;cases h1
  rw[b8 h4,b8 h5];omega
 ·rw[b8 h1]at h;by_cases h2:a=b
  ·rw[bL h2]at h;omega
  ·rw[b8 h2]at h;omega
theorem NL(a b:Bytes):(A9 a b>0->A9 b a<0)/\(A9 a b=0->a=b)/\(A9 a b<0->A9 b a>0):=by
 have num:∀ {s:Bytes} {n:Nat},wL s=some n->Lib.decDigits n=s:=by
  intro s n h;unfold wL at h;split at h
  ·split at h
   ·split at h
    ·rename_i h2;cases h;exact h2
    ·cases h
   ·cases h
  ·cases h
 unfold A9;cases ha:wL a with
 |none=>
  cases hb:wL b with
  |none=>exact⟨NN,NP,LR⟩
  |some y=>simp
 |some x=>
  cases hb:wL b with
  |none=>simp
  |some y=>
   simp only[FM];refine⟨fun h=>?_,fun h=>?_,fun h=>?_⟩
   ·split at h
    ·omega
    ·split at h
     ·rw[bL (by omega)];omega
     ·omega
   ·split at h
    ·omega
    ·split at h
     ·omega
     ·have:x=y:=by omega
      rw[<-num ha,<-num hb,this]
   ·split at h
    ·rw[b8 (by omega),bL (by omega)];omega
    ·split at h<;>omega
theorem LY{α:Type}{g:α->α->Int}(hg:∀a b,(g a b>0->g b a<0)/\(g a b=0->a=b)/\(g a b<0->g b a>0)):∀(a b:List α),
 (∀z,tS g a b=some z->z≠0/\∃y,tS g b a=some y/\(z>0->y<0)/\(z<0->y>0))/\(tS g a b=none->tS g b a=none/\(a.length=b.length->a=b))
 | [],[]=>⟨fun z h=>(by simp[tS]at h),fun _=>⟨rfl,fun _=>rfl⟩⟩
 | [],y::ys=>⟨fun z h=>(by simp[tS]at h),fun _=>⟨by simp[tS],fun h=>by simp at h⟩⟩
 |x::xs,[]=>⟨fun z h=>(by simp[tS]at h),fun _=>⟨by simp[tS],fun h=>by simp at h⟩⟩
 |x::xs,y::ys=>by
  obtain⟨i1,i2⟩:=LY hg xs ys;obtain⟨g1,g2,g3⟩:=hg x y;by_cases h0:g x y=0
  ·have e:=g2 h0;subst e;simp only[tS,h0,ne_eq,not_true_eq_false,xK];exact⟨i1,fun h=>⟨(i2 h).1,fun hl=>by rw[(i2 h).2 (by simpa using hl)]⟩⟩
  ·have h1:g y x≠0:=by
    intro e;by_cases hp:g x y>0
    ·have:=g1 hp;omega
    ·have:=g3 (by omega);omega
   simp only[tS,ne_eq,h0,h1,not_false_eq_true,p9];refine⟨fun z h=>?_,fun h=>by cases h⟩;cases h;exact⟨h0,_,rfl,g1,g3⟩
theorem U2{α:Type}{g:α->α->Int}(hg:∀a b,(g a b>0->g b a<0)/\(g a b=0->a=b)/\(g a b<0->g b a>0))(a b:List α):(cmpL g a b>0->cmpL g b a<0)/\(cmpL g a b=0->a=b)/\(cmpL g a b<0->cmpL g b a>0):=by
 obtain⟨h1,h2⟩:=LY hg a b;unfold cmpL;cases hd:tS g a b with
 |some z=>
  obtain⟨hz,y,hy,p,q⟩:=h1 z hd;rw[hy];exact⟨p,fun e=>absurd e hz,q⟩
 |none=>
  obtain⟨h3,h4⟩:=h2 hd;rw[h3];simp only[FM];refine⟨fun h=>?_,fun h=>?_,fun h=>?_⟩
  ·split at h
   ·omega
   ·split at h
    ·rw[bL (by omega)];omega
    ·omega
  ·split at h
   ·omega
   ·split at h
    ·omega
    ·exact h4 (by omega)
  ·split at h
   ·rw[b8 (by omega),bL (by omega)];omega
   ·split at h<;>omega
theorem B6(a b:aE):(qf a b>0->qf b a<0)/\(qf a b=0->a=b)/\(qf a b<0->qf b a>0):=by
 obtain⟨h1,h2,h3⟩:=U2 NL a.args b.args;unfold qf;by_cases hr:a.rel=b.rel
 ·rw[b8 (by simpa using hr),b8 (by simpa using hr.symm)];refine⟨h1,fun h=>?_,h3⟩;cases a;cases b;simp only at hr h2 h;rw[hr,h2 h]
 ·have ZT:b.rel≠a.rel:=fun e=>hr e.symm
  rw[bL hr,bL ZT];exact⟨NN,fun h=>absurd (NP h) hr,LR⟩
def Ei(f:aE):aP->aP
 | []=>[f]
 |x::xs=>if qf x f>0 then f::x::xs else x::Ei f xs
theorem QC(f:aE):∀(l:aP) (x:aE),x∈Ei f l↔x=f\/x∈l
 | [],x=>by simp[Ei]
 |y::ys,x=>by
  rw[Ei];split
  ·simp
  ·simp only[bE,QC f ys x];constructor
   ·rintro(h|h|h)<;>simp[h]
   ·rintro(h|h|h)<;>simp[h]
theorem Lz(f:aE):∀(l:aP),(Ei f l).length=l.length+1
 | []=>rfl
 |y::ys=>by rw[Ei];split<;>simp[Lz f ys]
theorem NJ{f:aE}(hf:rO f=true):∀(l:aP) (p:Option aE),chainB p l=true->f∉l->(∀q,p=some q->qf q f<0)->chainB p (Ei f l)=true
 | [],p,_,_,hp=>by
  cases p with
  |none=>simp[Ei,chainB,hf]
  |some q=>simp[Ei,chainB,hf,hp q rfl]
 |x::xs,p,h,hn,hp=>by
  simp only[bE,AX]at hn;have hx:chainB (some x) xs=true/\rO x=true/\(∀q,p=some q->qf q x<0):=by
   cases p with
   |none=>simp[chainB]at h;exact⟨h.2,h.1,by simp⟩
   |some q=>
    simp only[chainB,aR,bA]at h;exact⟨by first|exact h.2.2|exact h.2,by first|exact h.1.1|exact h.1,fun q' e=>by cases e;first|exact h.1.2|exact h.2.1⟩
  rw[Ei];split
  ·rename_i hgt;have h1:=(B6 x f).1 hgt;cases p with
   |none=>simp[chainB,hf,hx.2.1,h1,hx.1]
   |some q=>simp[chainB,hf,hx.2.1,h1,hx.1,hp q rfl]
  ·rename_i hle;have hlt:qf x f<0:=by
    have:qf x f≠0:=fun e=>hn.1 ((B6 x f).2.1 e).symm
    omega
   have ih:=NJ hf xs (some x) hx.1 hn.2 (fun q e=>by cases e;exact hlt);cases p with
   |none=>simp[chainB,hx.2.1,ih]
   |some q=>simp[chainB,hx.2.1,ih,hx.2.2 q rfl]
theorem Z5{f:aE}{l:aP}(hf:rO f=true)(hl:mM l=true)(hn:f∉l)(h24:l.length≠24):mM (Ei f l)=true:=by
 unfold mM at hl⊢;simp only[aR,bA]at hl⊢;exact⟨NJ hf l none hl.1 hn (by simp),by rw[Lz];omega⟩
theorem a6L(a:aP)(f:aE)(K:Bool->aP->Option aP)(hf:f.args.length<=1099511627776):∀(rest:aP) (i:Nat) (v:Bool) (w:aP),(∀x∈rest,x.args.length<=1099511627776)->w.length+2*rest.length<=1048576->f∉rest->
 (v=true->cW a f K rest i v w=K true (w++rest))/\
 (v=false->(cW a f K rest i v w=K true (w++Ei f rest))\/(cW a f K rest i v w=K false (w++rest)/\Ei f rest=rest++[f])):=by
 intro rest
 induction rest with
 |nil=>intro i v w _ _ _;exact⟨fun h=>by subst h;simp[cW],fun h=>by subst h;exact .inr ⟨by simp[cW],rfl⟩⟩
 |cons x xs ih=>
  intro i v w hs hl hn;simp only[aT]at hl;simp only[bE,AX]at hn;have hx:=hs x (by simp);have hs':∀y∈xs,y.args.length<=1099511627776:=fun y hy=>hs y (by simp[hy])
  have cx:=zx x hx;have cf:=zx f hf;have nx:=fun w':aP=>fun h:w'.length<1099511627776=>gF (w:=w') (c:=aE.c) (y:=[D.str x.rel,D.sl (x.args.map tx)]) (b:=40) h (by decide)
  have nf:=fun w':aP=>fun h:w'.length<1099511627776=>gF (w:=w') (c:=aE.c) (y:=[D.str f.rel,D.sl (f.args.map tx)]) (b:=40) h (by decide)
  constructor
  ·intro h;subst h;rw[cW,bh,aS,cx,aA,nx w (by omega),aH,(ih (i+1) true (w++[x]) hs' (by simp;omega) hn.2).1 rfl];simp
  ·intro h;subst h;rw[cW,cy,aH,Te,aA];by_cases hgt:qf x f>0
   ·left
    have e2:room (((w.map aE.c)++[[D.str f.rel,D.sl (f.args.map tx)]]).length+[[D.str x.rel,D.sl (x.args.map tx)]].length) 40=true:=by
     have:=nx (w++[f]) (by simp;omega);rw[bI]at this;exact this
    rw[bD (by omega:qf x f>=0),aH,aA,bD hgt,aH,cf,aA,nf w (by omega),aH,cx,aA,e2,aH];rw[(ih (i+1) true (w++[f]++[x]) hs' (by simp;omega) hn.2).1 rfl,Ei,bL hgt];simp
   ·have hlt:¬qf x f>=0:=by
     have:qf x f≠0:=fun e=>hn.1 ((B6 x f).2.1 e).symm
     omega
    rw[bM hlt,aS,cx,aA,nx w (by omega),aH];rw[Ei,b8 hgt];rcases(ih (i+1) false (w++[x]) hs' (by simp;omega) hn.2).2 rfl with q|⟨q1,q2⟩
    ·left;rw[q];simp
    ·right;rw[q1,q2];simp
theorem a6K(l:aP)(f:aE)(hf:f.args.length<=1099511627776)(hl:∀x∈l,x.args.length<=1099511627776)(hn:l.length<=1000)(hm:f∉l):lI l f=some (Ei f l):=by
 unfold lI;rcases(a6L l f _ hf l 0 false [] hl (by simp;omega) hm).2 rfl with q|⟨q1,q2⟩
 ·rw[q];rfl
 ·rw[q1,q2];show(bif !false then _ else _)=_;rw[cy,aH,zx f hf,aA,dM,gF (w:=l) (c:=aE.c) (y:=[D.str f.rel,D.sl (f.args.map tx)]) (by omega) (by decide),aH]
theorem LS{a b c:Bytes}(h1:vT a b<0)(h2:vT b c<0):vT a c<0:=by
 have lt:∀ {x y:Bytes},vT x y<0->Op.bytesLess x y=true:=by
  intro x y h;unfold vT at h;split at h
  ·assumption
  ·split at h<;>omega
 have:=xM (lt h1) (lt h2);unfold vT;rw[bL this];omega
theorem ZH{x y:Int}:FM x y<0↔x<y:=by
 unfold FM;split
 ·omega
 ·split<;>omega
theorem RF{a b c:Bytes}(h1:A9 a b<0)(h2:A9 b c<0):A9 a c<0:=by
 unfold A9 at*;cases ha:wL a<;>cases hb:wL b<;>cases hc:wL c<;>simp only[ha,hb,hc]at h1 h2⊢ <;>first|omega|exact LS h1 h2| (rw[ZH]at*;omega)
theorem ZG{α:Type}(g:α->α->Int):cmpL g [] []=0:=rfl
theorem ZF{α:Type}(g:α->α->Int)(y:α)(ys:List α):cmpL g [] (y::ys)= -1:=by
 unfold cmpL tS FM;simp<;>omega
theorem Sv{α:Type}(g:α->α->Int)(x:α)(xs:List α):cmpL g (x::xs) []=1:=by
 unfold cmpL tS FM;simp<;>omega
theorem ZE{α:Type}(g:α->α->Int)(x y:α)(xs ys:List α):cmpL g (x::xs) (y::ys)=if g x y≠0 then g x y else cmpL g xs ys:=by
 unfold cmpL;rw[tS];by_cases h:g x y≠0
 ·rw[bL h,bL h]
 ·rw[b8 h,b8 h,aT,aT];cases tS g xs ys with
  |some z=>rfl
  |none=>
   show FM _ _=FM _ _;unfold FM
   congr 1
   ·rw[wk];omega
   ·congr 1
    rw[wk];omega
theorem LQ{α:Type}{g:α->α->Int}(h0:∀a b,g a b=0->a=b)(ht:∀a b c,g a b<0->g b c<0->g a c<0):∀(a b c:List α),cmpL g a b<0->cmpL g b c<0->cmpL g a c<0
 | [],[],c,h1,_=>by rw[ZG]at h1;omega
 |_::_,[],c,h1,_=>by rw[Sv]at h1;omega
 |_,y::ys,[],_,h2=>by rw[Sv]at h2;omega
 | [],y::ys,z::zs,_,_=>by rw[ZF];omega
 |x::xs,y::ys,z::zs,h1,h2=>by
  rw[ZE]at*;by_cases e1:g x y=0
  ·have:=h0 _ _ e1;subst this;rw[b8 (by omega)]at h1;by_cases e2:g x z=0
   ·rw[b8 (by omega)]at h2⊢;exact LQ h0 ht xs ys zs h1 h2
   ·rw[bL e2]at h2⊢;exact h2
  ·rw[bL e1]at h1;by_cases e2:g y z=0
   ·have:=h0 _ _ e2;subst this;rw[bL e1];exact h1
   ·rw[bL e2]at h2;have:=ht x y z h1 h2;rw[bL (by omega)];exact this
theorem RG{a b c:aE}(h1:qf a b<0)(h2:qf b c<0):qf a c<0:=by
 unfold qf at*;by_cases e1:a.rel=b.rel
 ·by_cases e2:b.rel=c.rel
  ·rw[b8 (by simpa using e1)]at h1;rw[b8 (by simpa using e2)]at h2;rw[b8 (by simpa using e1.trans e2)];exact LQ (fun a b=>(NL a b).2.1) (fun _ _ _=>RF) _ _ _ h1 h2
  ·rw[bL e2]at h2;rw[e1,bL e2];exact h2
 ·rw[bL e1]at h1;by_cases e2:b.rel=c.rel
  ·rw[<-e2,bL e1];exact h1
  ·rw[bL e2]at h2;have:=LS h1 h2;have hne:a.rel≠c.rel:=fun e=>by rw[e,NO]at this;omega
   rw[bL hne];exact this
theorem NM(a:aE):¬qf a a<0:=by
 intro h;have:=(B6 a a).2.2 h;omega
theorem U1(a:aE):qf a a=0:=by
 have h1:=NM a;have h2:=(B6 a a).1;omega
theorem AI{p:Option aE}{x:aE}{xs:aP}(h:chainB p (x::xs)=true):rO x=true/\(∀q,p=some q->qf q x<0)/\chainB (some x) xs=true:=by
 cases p with
 |none=>simp[chainB]at h;exact⟨h.1,by simp,h.2⟩
 |some q=>
  simp only[chainB,aR,bA]at h;exact⟨h.1.1,fun q' e=>by cases e;exact h.1.2,h.2⟩
theorem JS:∀ {l:aP} {p:aE},chainB (some p) l=true->∀x∈l,qf p x<0
 | [],_,_,_,h=>by cases h
 |y::ys,p,h,x,hx=>by
  obtain⟨_,h2,h3⟩:=AI h;have hp:=h2 p rfl;rcases bE.1 hx with rfl|hx
  ·exact hp
  ·exact RG hp (JS h3 x hx)
theorem Ht:∀ {l:aP} {p:Option aE},chainB p l=true->l.Nodup
 | [],_,_=>List.nodup_nil
 |x::xs,p,h=>by
  obtain⟨_,_,h3⟩:=AI h;rw[dN];exact⟨fun hx=>NM x (JS h3 x hx),Ht h3⟩
theorem Pa{l:aP}(h:mM l=true):l.Nodup:=by
 unfold mM at h;simp only[aR]at h;exact Ht h.1
theorem KG:∀ {l:aP} {p:Option aE},chainB p l=true->∀x∈l,rO x=true
 | [],_,_,_,h=>by cases h
 |y::ys,p,h,x,hx=>by
  obtain⟨h1,_,h3⟩:=AI h;rcases bE.1 hx with rfl|hx
  ·exact h1
  ·exact KG h3 x hx
end Go.Cx
namespace Go.Cx
open Go.RowKit Go.Proofs Tryz
def KD(A:bB):Prop:=A.Pairwise fun t u=>t.facts≠u.facts
theorem HN{c:aN}{t u:aY}{f:aE}(h:u∈ext1 c t f):u.facts=t.facts++[f]:=by
 unfold ext1 at h;cases hm:(p8 c.pat f t.bind).2 with
 |false=>rw[hm]at h;cases h
 |true=>rw[hm,aH]at h;rw[cI.1 h]
theorem MH{c:aN}{fs:aP}{t u:aY}(h:u∈CW c fs t):(c.kind=1/\∃f∈fs,u.facts=t.facts++[f])\/(c.kind≠1/\u=t):=by
 unfold CW at h;by_cases hk:c.kind=1
 ·rw[bD hk,aH]at h;obtain⟨f,hf,hu⟩:=bg.1 h;exact .inl ⟨hk,f,hf,HN hu⟩
 ·rw[bM hk,aS]at h;cases hh:Ba c t.bind fs with
  |false=>rw[hh]at h;cases h
  |true=>rw[hh,aH]at h;exact .inr ⟨hk,cI.1 h⟩
theorem a03{c:aN}{fs:aP}{A:bB}(hf:fs.Nodup)(hA:KD A):KD (tU fs A c):=by
 unfold KD tU;rw[Cw];refine⟨fun t _=>?_,?_⟩
 ·unfold CW;cases decide (c.kind=1)with
  |true=>
   rw[aH,Cw];refine⟨fun f _=>?_,?_⟩
   ·unfold ext1;cases(p8 c.pat f t.bind).2<;>simp
   ·exact List.Pairwise.imp (fun {f g} hne x hx y hy e=>by
     rw[HN hx,HN hy]at e;exact hne (by simpa using e)) hf
  |false=>cases Ba c t.bind fs<;>simp
 ·exact List.Pairwise.imp (fun {t u} hne x hx y hy e=>by
   rcases MH hx with⟨k,f,_,e1⟩|⟨k,e1⟩<;>rcases MH hy with⟨k',g,_,e2⟩|⟨k',e2⟩
   ·rw[e1,e2]at e;exact hne (List.append_inj' e rfl).1
   ·exact k' k
   ·exact k k'
   ·rw[e1,e2]at e;exact hne e) hA
theorem KD.one(t:aY):KD [t]:=List.pairwise_singleton _ _
theorem T6{fs:aP}(hf:fs.Nodup):∀(cs:ah) {A:bB},KD A->KD (cs.foldl (tU fs) A)
 | [],_,h=>h
 |c::cs,_,h=>T6 hf cs (a03 hf h)
theorem a0W{cs:ah}{fs:aP}(hf:fs.Nodup):KD (uf cs fs):=T6 hf cs (KD.one _)
end Go.Cx
namespace Go.Cx
open Go.RowKit Go.Proofs Tryz
end Go.Cx
namespace Go.Cx
open Go.RowKit Go.Proofs Tryz
structure Se(n:aJ):Prop where
 rules:qm aI.wt n.rules<=1048576
 facts:qm aE.wt n.facts<=1048576
 ends:n.ends.length<=1048576
 bG:n.bG.length<=1048576
 eS:∀a∈n.bG,a.shape.wt<=1048576/\FS a.facts
 nodes:n.nodes.length<=1048576
 node:∀x∈n.nodes,x.cond.wt<=1048576/\x.tokens.length<=1048576/\∀t∈x.tokens,TK 1048576 t
theorem a36{n:aJ}(h:QD n=true):rP n.rules=true/\mM n.facts=true/\0<=n.cg/\n=vA n.rules n.facts n.cg:=by
 unfold QD MC vA at h;simp only[aR,bA]at h;obtain⟨b1,b2,b0,_,b3,_,b5,b4⟩:=h;refine⟨b1,b2,b0,?_⟩;unfold vA;cases n;simp only at b3 b4 b5⊢;rw[<-b3,<-b4,<-b5]
theorem Ig{f:aE}(h:rO f=true):f.wt<=100:=by
 unfold rO at h;simp only[aR,bA,ai]at h;obtain⟨h1,h2,h3⟩:=h;have a1:=NZ h2;have a2:=LF f.args (fun x hx=>by have:=yu (h1 x hx);omega);unfold aE.wt tw;unfold tw at a2;omega
theorem Ge{fs:aP}(h:mM fs=true):∀f∈fs,rO f=true:=by
 unfold mM at h;simp only[aR]at h;exact KG h.1
theorem Nr{α:Type}{w:α->Nat}{B:Nat}:∀(l:List α),(∀x∈l,w x<=B)->qm w l<=(B+1)*l.length
 | [],_=>by simp[qm]
 |x::l,h=>by
  have h1:=Nr l fun y hy=>h y (by simp[hy])
  have h2:=h x (by simp);rw[nU,aT,Nat.mul_add];omega
theorem LO{fs:aP}(h:mM fs=true):qm aE.wt fs<=2424:=by
 have h1:=Nr (w:=aE.wt) (B:=100) fs fun f hf=>Ig (Ge h f hf)
 have h2:=qv h;have:(100+1)*fs.length<=(100+1)*24:=cr _ h2;omega
theorem Jq(ns:bR)(fs:aP)(i:Nat):(sN ns fs)[i]?=(ns[i]?).map fun x=>⟨x.parent,x.cond,x.eS,uf (gK ns (dU i)) fs⟩:=by
 unfold sN;rw[FA,cN]
theorem Jr(ns:bR)(fs:aP):(sN ns fs).length=ns.length:=UA ns fs ns 0
theorem B2{rs:aq}(h:rP rs=true):rs.length<=6:=by unfold rP at h;simp only[aR,bA]at h;omega
theorem Ma{rs:aq}(tk:bB)(h:rP rs=true):(eD tk rs).1.1.length<=24:=by
 have h6:=B2 h;have main:∀(l:aq) (z:(bX×bR)×bK),(∀r∈l,eU r=true)->(l.foldl JB z).1.1.length<=z.1.1.length+4*l.length:=by
  intro l
  induction l with
  |nil=>intro z _;exact bO _
  |cons r l ih=>
   intro z hl;have h1:=ih (JB z r) (fun x hx=>hl x (by simp[hx]));have h2:=(FF (fR r) (z.1,0)).1;have h3:=x6 (hl r (by simp));have h4:(JB z r).1.1.length=((fR r).foldl HX (z.1,0)).1.1.length:=rfl;rw[cT,aT];dsimp only at h2;omega
 have:=main rs (([],[root tk]),[]) (qu h);unfold eD;simp only[bW]at this;omega
theorem QO{rs:aq}{fs:aP}(h1:rP rs=true)(h2:mM fs=true){i:Nat}{x:Node}(hx:(sN (eD [] rs).1.2 fs)[i]?=some x):x.cond.wt<=1048576/\x.tokens.length<=390625/\(∀t∈x.tokens,TK 4 t)/\KD x.tokens:=by
 have hv:=qu h1;have hok:=LC [] hv (B2 h1);rw[Jq]at hx;obtain⟨y,hy,rfl⟩:=Option.map_eq_some_iff.1 hx;have hFS:=FS.ML (by have:=LO h2;omega:qm aE.wt fs<=1048576);have Q5:∀c∈gK (eD [] rs).1.2 (dU i),c.wt<=1048576:=by
  intro c hc;obtain⟨z,hz,e⟩:=J2 hc;rw[<-e];exact hok.wt z hz
 refine⟨hok.wt y (aD hy),JC (hok.path i) (qv h2),fun t ht=>?_,a0W (Pa h2)⟩;exact(P7 hFS _ [⟨[],[]⟩] 0 Q5 Og t ht).le (by have:=hok.path i;omega)
theorem a3F{rs:aq}{fs:aP}(t:Int)(h1:rP rs=true)(h2:mM fs=true)(hr:qm aI.wt rs<=1048576):Se (vA rs fs t):=by
 have hv:=qu h1;have h6:=B2 h1;have hw:=LO h2;have hl:=MZ [] hv h6;refine⟨hr,by show qm aE.wt fs<=1048576;omega,?_,?_,?_,?_,?_⟩
 ·show(eD [] rs).2.length<=1048576;rw[(yz [] rs).2.1];omega
 ·show(p6 (eD [] rs).1.1 fs).length<=1048576;unfold p6;rw[au];have:=Ma [] h1;omega
 ·intro a ha;obtain⟨y,hy,rfl⟩:=cA.1 (show a∈(eD [] rs).1.1.map _ from ha);refine⟨(xp [] hv y hy).1,?_,fun f hf=>?_⟩
  ·have:=Cu (fun f=>(p8 y.shape f []).2) fs;have:=qv h2;show(vU y.shape [] fs).length<=1048576;unfold vU;omega
  ·have:=Ig (Ge h2 f (gj.1 hf).1);omega
 ·show(sN (eD [] rs).1.2 fs).length<=1048576;rw[Jr];omega
 ·intro x hx;obtain⟨i,hi⟩:=eL (show x∈sN (eD [] rs).1.2 fs from hx);obtain⟨g1,g2,g3,_⟩:=QO h1 h2 hi;exact⟨g1,by omega,fun t ht=>(g3 t ht).le (by omega)⟩
end Go.Cx
namespace Go.Cx
open Go.RowKit Go.Proofs Tryz
structure Ren(h:Bytes->Bytes)(V:Bytes->Prop):Prop where
 var:∀v,V v->fK v=true
 QV:∀t,fK t=false->h t=t
 SR:∀v,V v->fK (h v)=true
 inj:∀u v,V u->V v->h u=h v->u=v
structure RB(h:Bytes->Bytes)(V:Bytes->Prop)(b b':List aQ):Prop where
 len:b'.length=b.length
 get:∀v,V v->dB (h v) b'=dB v b
 ok:iH b=true
 ok':iH b'=true
def K7(h:Bytes->Bytes)(c:aN):aN:=⟨c.kind,⟨c.pat.rel,c.pat.args.map h⟩,h c.left,h c.right⟩
theorem RB.ext{h:Bytes->Bytes}{V:Bytes->Prop}(hr:Ren h V){b b':aM}(H:RB h V b b'){x y:Bytes}(hx:V x):(wu b' (h x) y).2=(wu b x y).2/\((wu b x y).2=true->RB h V (wu b x y).1 (wu b' (h x) y).1):=by
 unfold wu;rw[H.ok,H.ok',hr.var x hx,hr.SR x hx,H.get x hx,H.len];simp only[eH];cases ha:fL y with
 |false=>exact⟨rfl,fun h=>by cases h⟩
 |true=>
  rw[aH,aH];cases hf:dB x b with
  |some o=>
   dsimp only;cases o==y with
   |true=>exact⟨rfl,fun _=>H⟩
   |false=>exact⟨rfl,fun h=>by cases h⟩
  |none=>
   dsimp only;cases hl:decide (b.length=6)with
   |true=>exact⟨rfl,fun h=>by cases h⟩
   |false=>
    have hl':b.length≠6:=of_decide_eq_false hl;refine⟨rfl,fun _=>⟨?_,?_,?_,?_⟩⟩
    ·rw[aS,aS,Bj,Bj,H.len]
    ·intro v hv;rw[aS,aS];by_cases e:v=x
     ·subst e;rw[BW _ hf,BW _ (by rw[H.get v hx,hf])]
     ·rw[tr (fun e2=>e e2.symm),tr (fun e2=>e (hr.inj _ _ hx hv e2).symm),H.get v hv]
    ·exact Dk (hr.var x hx) ha H.ok hf hl'
    ·exact Dk (hr.SR x hx) ha H.ok' (by rw[H.get x hx,hf]) (by rw[H.len];exact hl')
theorem RB.sP{h:Bytes->Bytes}{V:Bytes->Prop}(hr:Ren h V):∀(l r:aG) (b b':aM),(∀x∈l,nr x=true)->(∀x∈l,fK x=true->V x)->RB h V b b'->(sP (l.map h) r b').2=(sP l r b).2/\((sP l r b).2=true->RB h V (sP l r b).1 (sP (l.map h) r b').1)
 | [],r,b,b',_,_,H=>⟨rfl,fun _=>H⟩
 |x::xs,[],b,b',_,_,H=>⟨rfl,fun h=>by cases h⟩
 |x::xs,y::ys,b,b',ht,hV,H=>by
  have ih:=fun c c'=>RB.sP hr xs ys c c' (fun z hz=>ht z (by simp[hz])) (fun z hz=>hV z (by simp[hz]))
  rw[ay];simp only[Cx.sP];cases hx:fL x with
  |true=>
   have hxx:h x=x:=hr.QV x (Hr hx);rw[hxx,hx];simp only[aH];cases x==y with
   |true=>exact ih b b' H
   |false=>exact⟨rfl,fun h=>by cases h⟩
  |false=>
   have hv:fK x=true:=by have:=ht x (by simp);unfold nr at this;rw[hx]at this;simpa using this
   have ha':fL (h x)=false:=oN (hr.SR x (hV x (by simp) hv));rw[ha'];simp only[aS];obtain⟨e1,e2⟩:=H.ext hr (y:=y) (hV x (by simp) hv);rw[e1];cases he:(wu b x y).2 with
   |false=>exact⟨rfl,fun h=>by cases h⟩
   |true=>simp only[aH];exact ih _ _ (e2 he)
theorem MT{h:Bytes->Bytes}{V:Bytes->Prop}(hr:Ren h V){t:Bytes}(hV:fK t=true->V t):nr (h t)=nr t:=by
 cases hv:fK t with
 |false=>rw[hr.QV t hv]
 |true=>unfold nr;rw[hr.SR t (hV hv),hv];simp
theorem TZ{h:Bytes->Bytes}{V:Bytes->Prop}(hr:Ren h V){p:aE}(hV:∀x∈p.args,fK x=true->V x)(hp:xh p=true):xh ⟨p.rel,p.args.map h⟩=true:=by
 unfold xh at hp⊢;simp only[aR,ai]at hp⊢;refine⟨?_,hp.2.1,by rw[au];exact hp.2.2⟩;intro x hx;obtain⟨y,hy,rfl⟩:=cA.1 hx;rw[MT hr (hV y hy)];exact hp.1 y hy
def CV(V:Bytes->Prop)(c:aN):Prop:=∀x∈c.pat.args++[c.left,c.right],fK x=true->V x
theorem CV.args{V:Bytes->Prop}{c:aN}(h:CV V c):∀x∈c.pat.args,fK x=true->V x:=fun x hx=>h x (by simp[hx])
theorem CV.left{V:Bytes->Prop}{c:aN}(h:CV V c):fK c.left=true->V c.left:=h _ (by simp)
theorem CV.right{V:Bytes->Prop}{c:aN}(h:CV V c):fK c.right=true->V c.right:=h _ (by simp)
theorem Qe{h:Bytes->Bytes}{V:Bytes->Prop}(hr:Ren h V){c:aN}(hV:CV V c)(hc:nJ c=true):nJ (K7 h c)=true:=by
 by_cases hk:c.kind=1\/c.kind=2
 ·obtain⟨hp,hl,hrr⟩:=B7 hc hk;have e:h []=[]:=hr.QV [] rfl;unfold nJ;have h0:(decide ((K7 h c).kind=1)||decide ((K7 h c).kind=2))=true:=by show(decide (c.kind=1)||decide (c.kind=2))=true;simpa using hk
  rw[h0,aH];show(xh ⟨c.pat.rel,c.pat.args.map h⟩&&(h c.left==[]&&h c.right==[]))=true;rw[hl,hrr,e,TZ hr hV.args hp];rfl
 ·have h1:c.kind≠1:=fun e=>hk (.inl e)
  have h2:c.kind≠2:=fun e=>hk (.inr e)
  obtain⟨h3,hz,hl,hrr⟩:=LU hc h1 h2;unfold nJ;have h0:(decide ((K7 h c).kind=1)||decide ((K7 h c).kind=2))=false:=by simp[K7,h1,h2]
  rw[h0,aS];show(bif (decide (c.kind=3)||decide (c.kind=4)||decide (c.kind=5))then(Bo ⟨c.pat.rel,c.pat.args.map h⟩&&(nr (h c.left)&&nr (h c.right)))else false)=true;rw[h3,aH,MT hr hV.left,MT hr hV.right,hl,hrr];unfold Bo at hz⊢;rw[au];simpa using hz
theorem RB.p8{h:Bytes->Bytes}{V:Bytes->Prop}(hr:Ren h V){p f:aE}{b b':aM}(hV:∀x∈p.args,fK x=true->V x)(hp:xh p=true)(H:RB h V b b'):(p8 ⟨p.rel,p.args.map h⟩ f b').2=(p8 p f b).2/\((p8 p f b).2=true->RB h V (p8 p f b).1 (p8 ⟨p.rel,p.args.map h⟩ f b').1):=by
 unfold Cx.p8;rw[hp,TZ hr hV hp,H.ok,H.ok',au];dsimp only;cases(true&&(rO f&&(true&&(p.rel==f.rel&&decide (p.args.length=f.args.length)))))with
 |false=>exact⟨rfl,fun h=>by cases h⟩
 |true=>exact RB.sP hr _ _ _ _ (P4 hp) hV H
theorem RB.oq{h:Bytes->Bytes}{V:Bytes->Prop}(hr:Ren h V){b b':aM}(H:RB h V b b'){t:Bytes}(hV:fK t=true->V t):oq b' (h t)=oq b t:=by
 unfold Cx.oq;cases hv:fK t with
 |false=>rw[hr.QV t hv,hv];rfl
 |true=>rw[oN hv,hr.SR t (hV hv),oN (hr.SR t (hV hv)),H.get t (hV hv)];rfl
theorem RB.Ba{h:Bytes->Bytes}{V:Bytes->Prop}(hr:Ren h V){c:aN}{b b':aM}{fs:aP}(hV:CV V c)(hc:nJ c=true)(H:RB h V b b'):Ba (K7 h c) b' fs=Ba c b fs:=by
 unfold Cx.Ba;rw[hc,Qe hr hV hc,H.ok,H.ok'];show(true&&(true&&(bif decide (c.kind=1)then decide (0<(vU ⟨c.pat.rel,c.pat.args.map h⟩ b' fs).length)else bif decide (c.kind=2)then decide ((vU ⟨c.pat.rel,c.pat.args.map h⟩ b' fs).length=0)else Rb (K7 h c) b')))=_;by_cases hk:c.kind=1\/c.kind=2
 ·have hp:=(B7 hc hk).1;have e:vU ⟨c.pat.rel,c.pat.args.map h⟩ b' fs=vU c.pat b fs:=by
   unfold vU
   congr 1;funext f
   exact(RB.p8 hr hV.args hp H).1
  rw[e];rcases hk with hk|hk
  ·rw[bD hk];rfl
  ·rw[bD hk];cases decide (c.kind=1)<;>rfl
 ·have h1:c.kind≠1:=fun e=>hk (.inl e)
  have h2:c.kind≠2:=fun e=>hk (.inr e)
  rw[bM h1,bM h2];simp only[aS];unfold Rb Gc;rw[hc,Qe hr hV hc,H.ok,H.ok'];show(true&&(true&&(true&&decide (c.kind>=3)&&(true&&((Cx.oq b' (h c.left)).2&&((Cx.oq b' (h c.right)).2&&(bif decide (c.kind=3)then(Cx.oq b' (h c.left)).1==(Cx.oq b' (h c.right)).1 else bif decide (c.kind=4)then !((Cx.oq b' (h c.left)).1==(Cx.oq b' (h c.right)).1)else ltB (Cx.oq b' (h c.left)).1 (Cx.oq b' (h c.right)).1)))))))=_;rw[RB.oq hr H hV.left,RB.oq hr H hV.right]
structure RT(h:Bytes->Bytes)(V:Bytes->Prop)(t t':aY):Prop where
 facts:t'.facts=t.facts
 bind:RB h V t.bind t'.bind
inductive RL(R:aY->aY->Prop):List aY->List aY->Prop
 |nil:RL R [] []
 |cons {a b:aY} {l m:bB}:R a b->RL R l m->RL R (a::l) (b::m)
theorem RL.app{R:aY->aY->Prop}{a b c d:bB}(h:RL R a b)(k:RL R c d):RL R (a++c) (b++d):=by
 induction h with
 |nil=>exact k
 |cons x _ ih=>exact .cons x ih
theorem RL.one{R:aY->aY->Prop}{a b:aY}(h:R a b):RL R [a] [b]:=.cons h .nil
theorem RL.flat{α:Type}{R:aY->aY->Prop}(f g:α->bB):∀(l:List α),(∀x∈l,RL R (f x) (g x))->RL R (l.flatMap f) (l.flatMap g)
 | [],_=>.nil
 |x::xs,h=>by rw[cm,cm];exact(h x (by simp)).app (RL.flat f g xs fun y hy=>h y (by simp[hy]))
theorem a01{h:Bytes->Bytes}{V:Bytes->Prop}(hr:Ren h V){c:aN}{fs:aP}{t t':aY}(hV:CV V c)(hc:nJ c=true)(H:RT h V t t'):RL (RT h V) (CW c fs t) (CW (K7 h c) fs t'):=by
 unfold CW;rw[RB.Ba hr hV hc H.bind];show RL _ _ (bif decide (c.kind=1)then fs.flatMap (ext1 (K7 h c) t')else bif Cx.Ba c t.bind fs then [t']else []);by_cases h1:c.kind=1
 ·rw[bD h1,aH,aH];refine RL.flat _ _ fs fun f _=>?_
  unfold ext1;have hp:=(B7 hc (.inl h1)).1;obtain⟨e1,e2⟩:=RB.p8 hr (f:=f) hV.args hp H.bind;show RL _ _ (bif (Cx.p8 ⟨c.pat.rel,c.pat.args.map h⟩ f t'.bind).2 then [⟨t'.facts++[f],(Cx.p8 ⟨c.pat.rel,c.pat.args.map h⟩ f t'.bind).1⟩]else []);rw[e1];cases hm:(Cx.p8 c.pat f t.bind).2 with
  |false=>exact .nil
  |true=>exact .one ⟨by rw[H.facts],e2 hm⟩
 ·rw[bM h1,aS,aS];cases Cx.Ba c t.bind fs with
  |false=>exact .nil
  |true=>exact .one H
theorem TV{h:Bytes->Bytes}{V:Bytes->Prop}(hr:Ren h V){c:aN}{fs:aP}(hV:CV V c)(hc:nJ c=true):∀ {l m:bB},RL (RT h V) l m->RL (RT h V) (tU fs l c) (tU fs m (K7 h c))
 |_,_,.nil=>.nil
 |_,_,.cons hx hl=>by unfold tU;rw[cm,cm];exact(a01 hr hV hc hx).app (TV hr hV hc hl)
theorem YH{h:Bytes->Bytes}{V:Bytes->Prop}(hr:Ren h V){fs:aP}:∀(cs:ah) {l m:bB},(∀c∈cs,CV V c/\nJ c=true)->RL (RT h V) l m->RL (RT h V) (cs.foldl (tU fs) l) ((cs.map (K7 h)).foldl (tU fs) m)
 | [],_,_,_,H=>H
 |c::cs,_,_,hc,H=>by
  rw[ay,cT,cT];exact YH hr cs (fun x hx=>hc x (by simp[hx])) (TV hr (hc c (by simp)).1 (hc c (by simp)).2 H)
theorem RB.nil(h:Bytes->Bytes)(V:Bytes->Prop):RB h V [] []:=⟨rfl,fun _ _=>rfl,rfl,rfl⟩
theorem UX{r:aI}(h:eU r=true):Ren (Cq (gD r)) (fun v=>v∈yB r.conds) where
 var:=fun v hv=>(zn.1 hv).2
 QV:=fun t ht=>QU ht
 SR:=fun v hv=>by
  obtain⟨i,p,hi,_,_,e⟩:=Er h hv;rw[e];exact TU i hi
 inj:=fun u v hu hv e=>by
  obtain⟨i,p,hi,g1,e1,e2⟩:=Er h hu;obtain⟨j,q,hj,g2,e3,e4⟩:=Er h hv;rw[e2,e4]at e;have:=a00 i hi j hj e;subst this;rw[g1]at g2;cases g2;rw[<-e1,<-e3]
theorem a0k{r:aI}{c:aN}(hc:c∈r.conds):CV (fun v=>v∈yB r.conds) c:=fun x hx hv=>zn.2 ⟨bg.2 ⟨c,hc,hx⟩,hv⟩
theorem wbU{r:aI}(h:eU r=true){fs:aP}:∀(cs:ah) (A:bB),(∀c∈cs,c∈r.conds)->(∀t∈A,WB (eV (yB r.conds)) t.bind)->∀u∈cs.foldl (tU fs) A,WB (eV (yB r.conds)) u.bind
 | [],_,_,hA=>hA
 |c::cs,A,hc,hA=>by
  rw[cT];refine wbU h cs _ (fun x hx=>hc x (by simp[hx])) (fun u hu=>?_);obtain⟨t,ht,hu⟩:=bg.1 hu;have hcm:=hc c (by simp);have hcb:=AT h c hcm;unfold CW at hu;by_cases hk:c.kind=1
  ·rw[bD hk,aH]at hu;obtain⟨f,_,hu⟩:=bg.1 hu;unfold ext1 at hu;cases hm:(p8 c.pat f t.bind).2 with
   |false=>rw[hm]at hu;cases hu
   |true=>
    rw[hm,aH]at hu;rw[cI.1 hu];exact((XB (K8 h) (hA t ht) (B7 hcb (.inl hk)).1 (fun x hx hv=>om.2 ((a0k hcm).args x hx hv))).2 hm).1
  ·rw[bM hk,aS]at hu;cases hh:Ba c t.bind fs with
   |false=>rw[hh]at hu;cases hu
   |true=>rw[hh,aH]at hu;rw[cI.1 hu];exact hA t ht
theorem O6{U:aG}(hU:U.length<=6){b b':aM}(hb:WB U b)(hb':iH b'=true){h:Bytes->Bytes}(hg:∀v∈U,dB (h v) b'=dB v b):∀(N:aM) (w:aM),(N.map aQ.var).Nodup->(∀p∈N,p.var∈U/\p.value=h p.var/\fK p.var=true/\fK p.value=true)->WB U w->(∀p∈N,dB p.var w=none)->
 WB U (N.foldl (Vg b') w)/\∀v,dB v (N.foldl (Vg b') w)=if v∈N.map aQ.var then dB v b else dB v w
 | [],w,_,_,hw,_=>⟨hw,fun v=>by simp⟩
 |p::N,w,hn,hp,hw,hf=>by
  rw[ay,dN]at hn;obtain⟨p1,p2,p3,p4⟩:=hp p (by simp);have hpw:=hf p (by simp);have hval:oq b' p.value=match dB p.var b with|some v=>(v,true)|none=>([],false):=by
   unfold oq;rw[oN p4,p4,aS,aH,p2,hg _ p1]
   all_goals(cases dB p.var b<;>rfl)
  have hnot:∀q∈N,q.var≠p.var:=fun q hq e=>hn.1 (by rw[<-e];exact cA.2 ⟨q,hq,rfl⟩)
  rw[cT];cases hfb:dB p.var b with
  |none=>
   rw[hfb]at hval;have e:Vg b' w p=w:=by unfold Vg;rw[hval];rfl
   rw[e];obtain⟨g1,g2⟩:=O6 hU hb hb' hg N w hn.2 (fun q hq=>hp q (by simp[hq])) hw (fun q hq=>hf q (by simp[hq]));refine⟨g1,fun v=>?_⟩;rw[g2 v,ay];by_cases hv:v=p.var
   ·subst hv;rw[b8 hn.1,bL (by simp),hfb,hpw]
   ·by_cases GV:v∈N.map aQ.var
    ·rw[bL GV,bL (by simp[GV])]
    ·rw[b8 GV,b8 (by simp only[bE,AX];exact⟨hv,GV⟩)]
  |some o=>
   rw[hfb]at hval;have e:Vg b' w p=vX p.var o w:=by unfold Vg;rw[hval];rfl
   rw[e];have ho:fL o=true:=by
    obtain⟨q,hq,_,e2⟩:=wz hfb;rw[<-e2];exact(B5 (tL hb.ok) q hq).2
   obtain⟨g1,g2⟩:=O6 hU hb hb' hg N (vX p.var o w) hn.2 (fun q hq=>hp q (by simp[hq])) (hw.set hU p1 p3 ho hpw) (fun q hq=>by
    rw[tr (fun e=>hnot q hq e.symm)];exact hf q (by simp[hq]))
   refine⟨g1,fun v=>?_⟩;rw[g2 v,ay,tq hpw];by_cases hv:v=p.var
   ·subst hv;rw[b8 hn.1,bL rfl,bL (by simp),hfb]
   ·rw[b8 hv];by_cases GV:v∈N.map aQ.var
    ·rw[bL GV,bL (by simp[GV])]
    ·rw[b8 GV,b8 (by simp only[bE,AX];exact⟨hv,GV⟩)]
theorem Z6{r:aI}(h:eU r=true){t t':aY}(ht:WB (eV (yB r.conds)) t.bind)(H:RT (Cq (gD r)) (fun v=>v∈yB r.conds) t t'):cfT r t'=⟨r.name,t.facts,t.bind⟩:=by
 have hN:=Be (vE r.conds) Qz.nil;have hmem:∀p∈gD r,p.var∈eV (yB r.conds)/\p.value=Cq (gD r) p.var/\fK p.var=true/\fK p.value=true:=fun p hp=>by
  obtain⟨n1,n2⟩:=(MG h).1 p hp;refine⟨?_,(L8 (N:=gD r) hN hp).symm,n1,n2⟩;rcases Js _ _ hp with h1|h1
  ·cases h1
  ·exact om.2 (zn.2 h1)
 obtain⟨g1,g2⟩:=O6 (K8 h) ht H.bind.ok' (h:=Cq (gD r)) (fun v hv=>H.bind.get v (om.1 hv)) (gD r) [] hN hmem (WB.nil _) (fun p _=>rfl);have e:bkB t'.bind (gD r)=t.bind:=by
  refine g1.ext ht fun v=>?_
  unfold bkB at*;rw[g2 v];by_cases hv:v∈(gD r).map aQ.var
  ·rw[bL hv]
  ·rw[b8 hv];cases hf:dB v t.bind with
   |none=>rfl
   |some o=>
    exfalso;obtain⟨q,hq,e1,_⟩:=wz hf;have hU:=om.1 (ht.sub q hq);rw[e1]at hU;obtain⟨i,p,_,Ls,he,_⟩:=Er h hU;exact hv (cA.2 ⟨p,aD Ls,he⟩)
 unfold cfT;rw[e,H.facts]
theorem RL.map_eq{α:Type}{R:aY->aY->Prop}{f g:aY->α}:∀ {l m:bB},RL R l m->(∀a∈l,∀b,R a b->g b=f a)->m.map g=l.map f
 |_,_,.nil,_=>rfl
 |_,_,.cons hx hl,h=>by
  rw[ay,ay,h _ (by simp) _ hx,RL.map_eq hl (fun a ha b hb=>h a (by simp[ha]) b hb)]
theorem ZA{r:aI}(h:eU r=true)(fs:aP):(uf (fR r) fs).map (cfT r)=(uf r.conds fs).map fun t=>(⟨r.name,t.facts,t.bind⟩:ax):=by
 have H:=YH (UX h) (fs:=fs) r.conds (fun c hc=>⟨a0k hc,AT h c hc⟩) (RL.one (a:=⟨[],[]⟩) (b:=⟨[],[]⟩) ⟨rfl,RB.nil _ _⟩);refine RL.map_eq H fun t ht t' hR=>?_
 exact Z6 h (wbU h r.conds [⟨[],[]⟩] (fun _ hc=>hc) (fun t ht=>by rw[cI.1 ht];exact WB.nil _) t ht) hR
theorem Zy{rs:aq}(fs:aP)(t:Int){i:Nat}{r:aI}(hr:rs[i]?=some r):Vr (vA rs fs t) i=uf (fR r) fs:=by
 obtain⟨b,e1,e2,e3⟩:=(yz [] rs).2.2 i r hr;have hx:=aa e2;have e4:iw (sN (eD [] rs).1.2 fs) (dU b)=some ⟨((eD [] rs).1.2[b]).parent,((eD [] rs).1.2[b]).cond,((eD [] rs).1.2[b]).eS,uf (fR r) fs⟩:=by
  unfold iw dU sN;rw[bD (by omega),aH];show(qI _ fs _ 0)[b]?=_;rw[FA,hx,cN,e3];rfl
 unfold Vr vA;dsimp only;rw[e1];dsimp only;rw[e4]
theorem XD{rs:aq}(hv:∀r∈rs,eU r=true)(fs:aP)(t:Int):∀(l:aq) (i:Nat),(∀(j:Nat) r,l[j]?=some r->rs[i+j]?=some r)->Sr (vA rs fs t) l i=l.flatMap fun r=>(uf r.conds fs).map fun u=>(⟨r.name,u.facts,u.bind⟩:ax)
 | [],_,_=>rfl
 |r::l,i,h=>by
  have h0:=h 0 r rfl;rw[rV]at h0;rw[Sr,Zy fs t h0,ZA (hv r (aD h0)),cm,XD hv fs t l (i+1) (fun j x hx=>by
   rw[show i+1+j=i+(j+1)by omega];exact h (j+1) x (by simpa using hx))]
theorem a3E{r:aI}{fs:aP}(h1:eU r=true)(h2:mM fs=true):R3 r fs=(uf r.conds fs).map fun t=>⟨r.name,t.facts,t.bind⟩:=by
 unfold R3;rw[YG h1 h2 (bO _),wj]
theorem a2D{rs:aq}{fs:aP}(t:Int)(h1:rP rs=true)(h2:mM fs=true):Sr (vA rs fs t) rs 0=R9 rs fs:=by
 have hv:=qu h1;rw[XD hv fs t rs 0 (fun j r hj=>by rw[cN];exact hj)];unfold R9;rw[h1,aH];have:∀l:aq,(∀r∈l,eU r=true)->(l.flatMap fun r=>(uf r.conds fs).map fun u=>(⟨r.name,u.facts,u.bind⟩:ax))=l.flatMap fun r=>R3 r fs:=by
  intro l
  induction l with
  |nil=>intro _;rfl
  |cons r l ih=>intro hl;rw[cm,cm,ih (fun x hx=>hl x (by simp[hx])),a3E (hl r (by simp)) h2]
 exact this rs hv
theorem a2C{n:aJ}(h:QD n=true):Sr n n.rules 0=R9 n.rules n.facts:=by
 obtain⟨h1,h2,_,e⟩:=a36 h;have:=a2D n.cg h1 h2;rw[<-e]at this;exact this
end Go.Cx
namespace Go.Cx
open Go.RowKit Go.Proofs Tryz
theorem F9(A:bX)(fs:aP):(p6 A fs).length=A.length:=by unfold p6;rw[au]
theorem RQ(A:bX)(x:af)(fs:aP):p6 (A++[x]) fs=p6 A fs++[⟨x.shape,vU x.shape [] fs⟩]:=by unfold p6;rw[bI];rfl
theorem NQ{rs:aq}(h:rP rs=true):(⟨rs,(eD [⟨[],[]⟩] rs).2,(eD [⟨[],[]⟩] rs).1.1,(eD [⟨[],[]⟩] rs).1.2,[],0⟩:aJ)=vA rs [] 0:=by
 have hv:=qu h;unfold vA;rw[U8 (xp [] hv),U9 hv];have e1:(eD [⟨[],[]⟩] rs).2=(eD [] rs).2:=by rw[gR,gR]
 have e2:(eD [⟨[],[]⟩] rs).1.1=(eD [] rs).1.1:=by rw[gR,gR]
 rw[e1,e2]
def a74:aJ:=⟨[],[],[],[],[],0⟩
theorem a0D(rs:aq)(h:qm aI.wt rs<=1048576):jN rs=some (bif rP rs then(vA rs [] 0,true)else(a74,false)):=by
 rw[Xj rs h];cases hb:rP rs with
 |false=>rfl
 |true=>rw[aH,aH,NQ hb]
end Go.Cx
namespace Go.Cx
open Go.RowKit Go.Proofs Tryz
end Go.Cx
namespace Go.Cx
open Go.RowKit Go.Proofs Tryz
end Go.Cx
namespace Go.Cx
open Go.RowKit Go.Proofs Tryz
structure Frg(rs:List aI)(f:aE):Prop where
 ne:f.rel≠[]
 cond:∀r∈rs,∀c∈r.conds,c.pat.rel≠f.rel
end Go.Cx
namespace Go.Cx
open Go.RowKit Go.Proofs Tryz
def cv(c:cK):Prop:=0<=c.i/\c.b.length<=4096
theorem Sl(x:Int):0<=GO .i64 x 255/\GO .i64 x 255<=255:=by
 unfold GO;have h:(BitVec.ofInt IntKind.i64.bits x&&& BitVec.ofInt IntKind.i64.bits 255).toNat<=255:=by
  rw[BitVec.toNat_and];exact dh Nat.and_le_right (by decide)
 rw[di (pF.i64.2 (by omega))];omega
theorem a6C(c:cK)(h:cv c):∃c' x,oP c=some (c',x)/\cv c'/\0<=x/\x<=255:=by
 obtain⟨h1,h2⟩:=h;unfold oP;rw[au];by_cases hi:c.i<(c.b.length:Int)
 ·have hlt:c.i.toNat<c.b.length:=by omega
  have e:iw c.b c.i=some c.b[c.i.toNat]:=by unfold iw;rw[bD h1,aH];exact aa hlt
  rw[bD hi,aH,e,aA];refine⟨_,_,rfl,⟨?_,h2⟩,Sl _⟩;show 0<=IntKind.i64.wrap (c.i+1);rw[di (pF.i64.2 (by omega))];omega
 ·rw[bM hi,aS];exact⟨_,_,rfl,⟨h1,h2⟩,Sl _⟩
theorem oM(c:cK)(n:Int)(h:cv c)(h0:0<n)(h1:n<=256):∃c' r,cP c n=some (c',r)/\cv c'/\0<=r/\r<n:=by
 obtain⟨c',x,e,hc,hx,hx2⟩:=a6C c h;unfold cP;have e1:decide (n<=0)=false:=by simp;omega
 have e2:decide (n<=256)=true:=by simp;omega
 have e3:(decide (0<=x)&&decide (0<n))=true:=by simp;omega
 rw[e1,aS,e2,aH,e,aA,e3,aH];exact⟨_,_,rfl,hc,Int.emod_nonneg _ (by omega),Int.emod_lt_of_pos _ h0⟩
theorem Xr(c:cK)(n:Int)(h:cv c)(h0:0<n)(h1:n<=256):∃c' b,qX c n=some (c',b)/\cv c':=by
 obtain⟨c',x,e,hc,_⟩:=oM c n h h0 h1;unfold qX;rw[e,aA];exact⟨_,_,rfl,hc⟩
theorem Um(c:cK)(l:aG)(h:cv c)(h0:0<l.length)(h1:l.length<=256):∃c' s,oI c l=some (c',s)/\cv c'/\s∈l:=by
 obtain⟨c',x,e,hc,hx,hx2⟩:=oM c (l.length:Int) h (by omega) (by omega);unfold oI;rw[au,e,aA];have hlt:x.toNat<l.length:=by omega
 have e2:iw l x=some l[x.toNat]:=by unfold iw;rw[bD hx,aH];exact aa hlt
 rw[e2,aA];exact⟨_,_,rfl,hc,iy hlt⟩
theorem SC(c:cK)(h:cv c):∃c' s,gr c=some (c',s)/\cv c'/\s.length<=16:=by
 unfold gr;obtain⟨c',s,e,hc,hs⟩:=Um c ([[97],[98],[99],[49],[50]]:aG) h (by decide) (by decide);rw[e,aA];have:∀s∈([[97],[98],[99],[49],[50]]:aG),s.length<=16:=by decide
 exact⟨_,_,rfl,hc,this s hs⟩
theorem KA(c:cK)(h:cv c):∃c' s,ko c=some (c',s)/\cv c'/\s.length<=16:=by
 unfold ko;generalize hl:([[97],[98],[111,110],[55],[49,48],[57,57,57,57],[49,48,48,48,48],[48,48,55],[48],[],[65],[63,120],[63,63],[63],[97,98,99,100,101,102,103,104],[97,98,99,100,101,102,103,104,105],[63,97,98,99,100,101,102,103,104],[97,45,98],[120,49],[49,120],[45,51]]:aG)=l;have h0:0<l.length/\l.length<=256/\∀s∈l,s.length<=16:=by subst hl;decide
 obtain⟨c',s,e,hc,hs⟩:=Um c l h h0.1 h0.2.1;rw[e,aA];exact⟨_,_,rfl,hc,h0.2.2 s hs⟩
theorem SJ(c:cK)(h:cv c):∃c' s,oQ c=some (c',s)/\cv c'/\s.length<=16:=by
 unfold oQ;obtain⟨c1,b,e,hc⟩:=Xr c 4 h (by decide) (by decide);rw[e,aA];cases b with
 |true=>
  obtain⟨c2,s,e2,zi,hs⟩:=SC c1 hc;rw[aH,e2,aA];exact⟨_,_,rfl,zi,hs⟩
 |false=>
  obtain⟨c2,s,e2,zi,hs⟩:=Um c1 ([[63,120],[63,121],[63,122]]:aG) hc (by decide) (by decide);rw[aS,e2,aA];have:∀s∈([[63,120],[63,121],[63,122]]:aG),s.length<=16:=by decide
  exact⟨_,_,rfl,zi,this s hs⟩
theorem a6S(c:cK)(h:cv c):∃c' r n,nG c=some (c',(r,n))/\cv c'/\r.length<=16/\0<=n/\n<=2:=by
 unfold nG;obtain⟨c1,x,e,hc,hx,hx2⟩:=oM c 6 h (by decide) (by decide);rw[e,aA];have key:x=0\/x=1\/x=2\/x=3\/x=4\/x=5:=by omega
 rcases key with rfl|rfl|rfl|rfl|rfl|rfl<;>exact⟨c1,_,_,rfl,hc,by decide,by decide,by decide⟩
def nv(k:Nat)(p:aE):Prop:=p.rel.length<=16/\p.args.length<=k/\∀x∈p.args,x.length<=16
theorem Ns:∀(l:aG),(∀x∈l,x.length<=16)->qm tw l<=17*l.length
 | [],_=>by simp[qm]
 |x::l,h=>by
  have h1:=Ns l fun y hy=>h y (by simp[hy])
  have h2:=h x (by simp);rw[nU,aT];unfold tw at*;omega
theorem a0C(y:cK×(Bytes×Int))(k:bK->Int->Int->aG->Option (cK×aE)):∀(m:Nat) (fu:Nat) (v:Int) (c:cK) (w:aG),y.2.2-v=(m:Int)->m<fu->0<=v->y.2.2<=100->w.length+m<=1000->cv c->(∀x∈w,x.length<=16)->
 ∃c' w',kR y k fu v c.b c.i c.h w=k c'.b c'.i c'.h w'/\cv c'/\w'.length<=w.length+m/\∀x∈w',x.length<=16:=by
 intro m
 induction m with
 |zero=>
  intro fu v c w hv hf h0 hy hw hc hx;cases fu with
  |zero=>omega
  |succ fu=>
   have e:decide (v<y.2.2)=false:=by simp;omega
   rw[kR,e,aS];exact⟨c,w,rfl,hc,by omega,hx⟩
 |succ m ih=>
  intro fu v c w hv hf h0 hy hw hc hx;cases fu with
  |zero=>omega
  |succ fu=>
   have e:decide (v<y.2.2)=true:=by simp;omega
   obtain⟨c1,s,e2,hc1,hs⟩:=SJ c hc;have RN:oQ (⟨c.b,c.i,c.h⟩:cK)=some (c1,s):=e2;have e3:IntKind.i64.wrap (v+1)=v+1:=di (pF.i64.2 (by omega));rw[kR,e,aH,RN,aA,gF (by omega) (by decide),aH,e3];obtain⟨c',w',q1,q2,q3,q4⟩:=ih fu (v+1) c1 (w++[s]) (by omega) (by omega) (by omega) hy (by simp;omega) hc1 (fun x Rn=>by
    rcases aU.1 Rn with h|h
    ·exact hx x h
    ·simp at h;subst h;exact hs)
   exact⟨c',w',q1,q2,by simp at q3;omega,q4⟩
theorem Ou(c:cK)(h:cv c):∃c' p,iv c=some (c',p)/\cv c'/\nv 2 p:=by
 unfold iv;obtain⟨c1,r,n,e,hc,hr,hn,hn2⟩:=a6S c h;rw[e,aA];obtain⟨c',w',q1,q2,q3,q4⟩:=a0C (c1,(r,n)) (fun a b d q=>some ((⟨a,b,d⟩:cK),(⟨r,q⟩:aE))) n.toNat fuel 0 c1 [] (by simp;omega) (by unfold fuel;omega) (by omega) (by simp;omega) (by simp;omega) hc (by simp);exact⟨_,_,q1,q2,hr,by show w'.length<=2;simp at q3;omega,q4⟩
theorem a1Y(c:cK)(h:cv c):∃c' p,th c=some (c',p)/\cv c'/\nv 4 p:=by
 unfold th;obtain⟨c1,p,e,hc,hp1,hp2,hp3⟩:=Ou c h;obtain⟨c2,x,e2,zi,hx,hx2⟩:=oM c1 10 hc (by decide) (by decide);rw[e,aA,e2,aA];cases(x==(0:Int))with
 |true=>
  obtain⟨c3,s,e3,Ee,hs⟩:=KA c2 zi;rw[aH,e3,aA];exact⟨_,_,rfl,Ee,hs,by show p.args.length<=4;omega,hp3⟩
 |false=>
  rw[aS];cases(x==(1:Int))with
  |true=>
   obtain⟨c3,s,e3,Ee,hs⟩:=KA c2 zi;rw[aH,e3,aA,gF (w:=p.args) (by omega) (by decide),aH];refine⟨_,_,rfl,Ee,hp1,by simp;omega,fun y hy=>?_⟩;rcases aU.1 hy with h|h
   ·exact hp3 y h
   ·simp at h;subst h;exact hs
  |false=>
   rw[aS];cases(x==(2:Int))with
   |true=>
    obtain⟨c3,z,e3,Ee,hz,Ro⟩:=oM c2 5 zi (by decide) (by decide);have e4:(decide (0<=z)&&decide (z.toNat<=(([[63,120],[63,120],[63,121],[63,120]]:aG).map tx).length))=true:=by simp;omega
    rw[aH,e3,aA,e4,aH];refine⟨_,_,rfl,Ee,hp1,by simp[bw];omega,fun y hy=>?_⟩;have:∀s∈([[63,120],[63,120],[63,121],[63,120]]:aG),s.length<=16:=by decide
    exact this y (bz hy)
   |false=>exact⟨_,_,rfl,zi,hp1,by show p.args.length<=4;omega,hp3⟩
theorem a6N(code:bK)(h:code.length<=4096):∃c,vz code=some c/\cv c:=by
 unfold vz;have key:∀(k:Int->Option cK) (r:bK) (i:Nat) (v:Int),∃z,o5 code k r i v=k z:=by
  intro k r
  induction r with
  |nil=>intro i v;exact⟨v,rfl⟩
  |cons x r ih=>
   intro i v;rw[o5];cases decide ((i:Int)<4000)with
   |true=>exact ih _ _
   |false=>exact⟨v,rfl⟩
 obtain⟨z,e⟩:=key (fun z=>some (⟨code,0,z⟩:cK)) code 0 (IntKind.i64.wrap (851207+(IntKind.i64.wrap (3*((code.map yx).length:Int)))));rw[sO (by omega),aH,e];exact⟨_,rfl,by show(0:Int)<=0;omega,h⟩
end Go.Cx
namespace Go.Cx
open Go.RowKit Go.Proofs Tryz
theorem Ke(c:cK)(l:bK)(h:cv c)(h0:0<l.length)(h1:l.length<=256):∃c' s,gb c l=some (c',s)/\cv c'/\s∈l:=by
 obtain⟨c',x,e,hc,hx,hx2⟩:=oM c (l.length:Int) h (by omega) (by omega);unfold gb;rw[au,e,aA];have hlt:x.toNat<l.length:=by omega
 have e2:iw l x=some l[x.toNat]:=by unfold iw;rw[bD hx,aH];exact aa hlt
 rw[e2,aA];exact⟨_,_,rfl,hc,iy hlt⟩
theorem a0A(y:cK×(Bytes×Int))(k:bK->Int->Int->aG->Option (cK×aE)):∀(m:Nat) (fu:Nat) (v:Int) (c:cK) (w:aG),y.2.2-v=(m:Int)->m<fu->0<=v->y.2.2<=100->w.length+m<=1000->cv c->(∀x∈w,x.length<=16)->
 ∃c' w',gA y k fu v c.b c.i c.h w=k c'.b c'.i c'.h w'/\cv c'/\w'.length<=w.length+m/\∀x∈w',x.length<=16:=by
 intro m
 induction m with
 |zero=>
  intro fu v c w hv hf h0 hy hw hc hx;cases fu with
  |zero=>omega
  |succ fu=>
   have e:decide (v<y.2.2)=false:=by simp;omega
   rw[gA,e,aS];exact⟨c,w,rfl,hc,by omega,hx⟩
 |succ m ih=>
  intro fu v c w hv hf h0 hy hw hc hx;cases fu with
  |zero=>omega
  |succ fu=>
   have e:decide (v<y.2.2)=true:=by simp;omega
   obtain⟨c1,s,e2,hc1,hs⟩:=SC c hc;have RN:gr (⟨c.b,c.i,c.h⟩:cK)=some (c1,s):=e2;have e3:IntKind.i64.wrap (v+1)=v+1:=di (pF.i64.2 (by omega));rw[gA,e,aH,RN,aA,gF (by omega) (by decide),aH,e3];obtain⟨c',w',q1,q2,q3,q4⟩:=ih fu (v+1) c1 (w++[s]) (by omega) (by omega) (by omega) hy (by simp;omega) hc1 (fun x Rn=>by
    rcases aU.1 Rn with h|h
    ·exact hx x h
    ·simp at h;subst h;exact hs)
   exact⟨c',w',q1,q2,by simp at q3;omega,q4⟩
theorem a6T(c:cK)(h:cv c):∃c' r n,nG c=some (c',(r,n))/\cv c'/\r.length<=16/\0<=n/\n<=2/\r≠[110]:=by
 unfold nG;obtain⟨c1,x,e,hc,hx,hx2⟩:=oM c 6 h (by decide) (by decide);rw[e,aA];have key:x=0\/x=1\/x=2\/x=3\/x=4\/x=5:=by omega
 rcases key with rfl|rfl|rfl|rfl|rfl|rfl<;>exact⟨c1,_,_,rfl,hc,by decide,by decide,by decide,by decide⟩
theorem Xh(c:cK)(h:cv c):∃c' p,kp c=some (c',p)/\cv c'/\nv 2 p/\p.rel≠[110]:=by
 unfold kp;obtain⟨c1,r,n,e,hc,hr,hn,hn2,hrn⟩:=a6T c h;rw[e,aA];obtain⟨c',w',q1,q2,q3,q4⟩:=a0A (c1,(r,n)) (fun a b d q=>some ((⟨a,b,d⟩:cK),(⟨r,q⟩:aE))) n.toNat fuel 0 c1 [] (by simp;omega) (by unfold fuel;omega) (by omega) (by simp;omega) (by simp;omega) hc (by simp);exact⟨_,_,q1,q2,⟨hr,by show w'.length<=2;simp at q3;omega,q4⟩,hrn⟩
theorem a6A(c:cK)(h:cv c):∃c' p,w5 c=some (c',p)/\cv c'/\nv 4 p:=by
 unfold w5;obtain⟨c1,p,e,hc,⟨hp1,hp2,hp3⟩,_⟩:=Xh c h;obtain⟨c2,x,e2,zi,hx,hx2⟩:=oM c1 10 hc (by decide) (by decide);rw[e,aA,e2,aA];cases(x==(0:Int))with
 |true=>
  obtain⟨c3,s,e3,Ee,hs⟩:=KA c2 zi;rw[aH,e3,aA];exact⟨_,_,rfl,Ee,hs,by show p.args.length<=4;omega,hp3⟩
 |false=>
  rw[aS];cases(x==(1:Int))with
  |true=>
   obtain⟨c3,s,e3,Ee,hs⟩:=KA c2 zi;rw[aH,e3,aA,gF (w:=p.args) (by omega) (by decide),aH];refine⟨_,_,rfl,Ee,hp1,by simp;omega,fun y hy=>?_⟩;rcases aU.1 hy with h|h
   ·exact hp3 y h
   ·simp at h;subst h;exact hs
  |false=>
   rw[aS];cases(x==(2:Int))with
   |true=>
    obtain⟨c3,z,e3,Ee,hz,Ro⟩:=oM c2 5 zi (by decide) (by decide);have e4:(decide (0<=z)&&decide (z.toNat<=(([[97],[98],[99],[97]]:aG).map tx).length))=true:=by simp;omega
    rw[aH,e3,aA,e4,aH];refine⟨_,_,rfl,Ee,hp1,by simp[bw];omega,fun y hy=>?_⟩;have:∀s∈([[97],[98],[99],[97]]:aG),s.length<=16:=by decide
    exact this y (bz hy)
   |false=>exact⟨_,_,rfl,zi,hp1,by show p.args.length<=4;omega,hp3⟩
def AY(n:Nat)(l:aP):Prop:=l.length<=n/\∀f∈l,nv 4 f
theorem nv.le{k m:Nat}{p:aE}(h:nv k p)(hm:k<=m):nv m p:=⟨h.1,by have:=h.2.1;omega,h.2.2⟩
theorem nv.copy{k:Nat}{p:aE}(h:nv k p)(hk:k<=1000):p.args.length<=1099511627776:=by have:=h.2.1;omega
theorem a3h(a:aP)(f:aE)(K:Bool->aP->Option aP)(hf:nv 4 f):∀(rest:aP) (i:Nat) (v:Bool) (w:aP),(∀x∈rest,nv 4 x)->w.length+2*rest.length<=1000->
 ∃v' w',cW a f K rest i v w=K v' w'/\(∀x∈w',x∈w\/x∈rest\/x=f)/\w.length+rest.length<=w'.length/\
  (bif v then v'=true/\w'.length=w.length+rest.length else bif v' then w'.length<=w.length+rest.length+1/\((∀x∈rest,qf x f≠0)->w'.length=w.length+rest.length+1)else w'.length=w.length+rest.length):=by
 intro rest
 induction rest with
 |nil=>
  intro i v w _ _;refine⟨v,w,rfl,fun x hx=>.inl hx,by simp,?_⟩;cases v<;>simp
 |cons x xs ih=>
  intro i v w hs hl;simp only[aT]at hl;have hx:=hs x (by simp);have hs':∀y∈xs,nv 4 y:=fun y hy=>hs y (by simp[hy])
  have cx:=zx x (hx.copy (by decide));have cf:=zx f (hf.copy (by decide));have nx:=fun w':aP=>fun h:w'.length<1099511627776=>gF (w:=w') (c:=aE.c) (y:=[D.str x.rel,D.sl (x.args.map tx)]) (b:=40) h (by decide)
  have nf:=fun w':aP=>fun h:w'.length<1099511627776=>gF (w:=w') (c:=aE.c) (y:=[D.str f.rel,D.sl (f.args.map tx)]) (b:=40) h (by decide)
  cases v with
  |true=>
   obtain⟨v',w',q1,q2,q3,q4⟩:=ih (i+1) true (w++[x]) hs' (by simp;omega);simp only[ar,aT,bW,aH]at q3 q4;refine⟨v',w',?_,fun z hz=>?_,by simp only[aT];omega,?_⟩
   ·rw[cW,bh,aS,cx,aA,nx w (by omega),aH];exact q1
   ·rcases q2 z hz with h|h|h
    ·rcases aU.1 h with h|h
     ·exact .inl h
     ·simp at h;subst h;exact .inr (.inl (by simp))
    ·exact .inr (.inl (by simp[h]))
    ·exact .inr (.inr h)
   ·simp only[aH,aT];exact⟨q4.1,by omega⟩
  |false=>
   rw[cW,cy,aH,Te,aA];by_cases hge:qf x f>=0
   ·rw[bD hge,aH,aA];by_cases hgt:qf x f>0
    ·obtain⟨v',w',q1,q2,q3,q4⟩:=ih (i+1) true (w++[f]++[x]) hs' (by simp;omega);simp only[ar,aT,bW,aH]at q3 q4;have e2:room (((w.map aE.c)++[[D.str f.rel,D.sl (f.args.map tx)]]).length+[[D.str x.rel,D.sl (x.args.map tx)]].length) 40=true:=by
      have:=nx (w++[f]) (by simp;omega);rw[bI]at this;exact this
     refine⟨v',w',?_,fun z hz=>?_,by simp only[aT];omega,?_⟩
     ·rw[bD hgt,aH,cf,aA,nf w (by omega),aH,cx,aA,e2,aH];exact q1
     ·rcases q2 z hz with h|h|h
      ·rcases aU.1 h with h|h
       ·rcases aU.1 h with h|h
        ·exact .inl h
        ·simp at h;exact .inr (.inr h)
       ·simp at h;subst h;exact .inr (.inl (by simp))
      ·exact .inr (.inl (by simp[h]))
      ·exact .inr (.inr h)
     ·rw[q4.1];simp only[aS,aH,aT];exact⟨by omega,fun _=>by omega⟩
    ·have hz:qf x f=0:=by omega
     obtain⟨v',w',q1,q2,q3,q4⟩:=ih (i+1) true (w++[x]) hs' (by simp;omega);simp only[ar,aT,bW,aH]at q3 q4;refine⟨v',w',?_,fun z hz=>?_,by simp only[aT];omega,?_⟩
     ·rw[bM hgt,aS,cx,aA,nx w (by omega),aH];exact q1
     ·rcases q2 z hz with h|h|h
      ·rcases aU.1 h with h|h
       ·exact .inl h
       ·simp at h;subst h;exact .inr (.inl (by simp))
      ·exact .inr (.inl (by simp[h]))
      ·exact .inr (.inr h)
     ·rw[q4.1];simp only[aS,aH,aT];exact⟨by omega,fun h=>absurd hz (h x (by simp))⟩
   ·obtain⟨v',w',q1,q2,q3,q4⟩:=ih (i+1) false (w++[x]) hs' (by simp;omega);simp only[ar,aT,bW,aS]at q3 q4;refine⟨v',w',?_,fun z hz=>?_,by simp only[aT];omega,?_⟩
    ·rw[bM hge,aS,cx,aA,nx w (by omega),aH];exact q1
    ·rcases q2 z hz with h|h|h
     ·rcases aU.1 h with h|h
      ·exact .inl h
      ·simp at h;subst h;exact .inr (.inl (by simp))
     ·exact .inr (.inl (by simp[h]))
     ·exact .inr (.inr h)
    ·cases v' with
     |true=>
      simp only[aH,aS,aT]at q4⊢;exact⟨by omega,fun h=>by have:=q4.2 (fun y hy=>h y (by simp[hy]));omega⟩
     |false=>simp only[aS,aT]at q4⊢;omega
theorem a1k(l:aP)(f:aE){n:Nat}(hl:AY n l)(hn:n<=100)(hf:nv 4 f):∃l',lI l f=some l'/\AY (n+1) l'/\(∀x∈l',x∈l\/x=f)/\((∀x∈l,qf x f≠0)->l'.length=l.length+1):=by
 unfold lI;obtain⟨v',w',q1,q2,q3,q4⟩:=a3h l f (fun(Ce:Bool) (lN:aP)=>(bif !(Ce)then((eO f).bind fun NB=>(bif room ((lN.map aE.c).length+([[D.str NB.rel,D.sl (NB.args.map tx)]]).length) 40 then(some (lN++([NB])))else none))else(some lN))) hf l 0 false [] hl.2 (by have:=hl.1;simp;omega);have hln:=hl.1;simp only[bW,cN,aS]at q3 q4;have q2':∀x∈w',x∈l\/x=f:=fun x hx=>by
  rcases q2 x hx with h|h|h
  ·cases h
  ·exact .inl h
  ·exact .inr h
 have sm:∀x∈w',nv 4 x:=fun x hx=>by
  rcases q2' x hx with h|h
  ·exact hl.2 x h
  ·rw[h];exact hf
 cases v' with
 |true=>
  simp only[aH]at q4;exact⟨w',q1,⟨by omega,sm⟩,q2',q4.2⟩
 |false=>
  simp only[aS]at q4;refine⟨w'++[f],?_,⟨by simp;omega,fun x hx=>?_⟩,fun x hx=>?_,fun _=>by simp;omega⟩
  ·rw[q1];show(bif !false then _ else _)=_;rw[cy,aH,zx f (hf.copy (by decide)),aA,gF (w:=w') (c:=aE.c) (y:=[D.str f.rel,D.sl (f.args.map tx)]) (by omega) (by decide),aH]
  ·rcases aU.1 hx with h|h
   ·exact sm x h
   ·simp at h;subst h;exact hf
  ·rcases aU.1 hx with h|h
   ·exact q2' x h
   ·simp at h;exact .inr h
theorem a6W(k:bK->Int->Int->aP->Option (cK×aP)):∀(m:Nat) (fu:Nat) (v:Int) (c:cK) (w:aP) (n:Nat),v=(m:Int)->m<fu->m<=50->n+m<=60->cv c->AY n w->(∀x∈w,x.rel≠[110])->
 ∃c' w',gl k fu v c.b c.i c.h w=k c'.b c'.i c'.h w'/\cv c'/\AY (n+m) w'/\∀x∈w',x.rel≠[110]:=by
 intro m
 induction m with
 |zero=>
  intro fu v c w n hv hf hm hn hc hw hr;cases fu with
  |zero=>omega
  |succ fu=>
   have e:decide (v>0)=false:=by simp;omega
   rw[gl,e,aS];exact⟨c,w,rfl,hc,hw,hr⟩
 |succ m ih=>
  intro fu v c w n hv hf hm hn hc hw hr;cases fu with
  |zero=>omega
  |succ fu=>
   have e:decide (v>0)=true:=by simp;omega
   obtain⟨c1,f,e2,hc1,hf1,WG⟩:=Xh c hc;have RN:kp (⟨c.b,c.i,c.h⟩:cK)=some (c1,f):=e2;obtain⟨w1,e4,hw1,hm1,_⟩:=a1k w f hw (by omega) (hf1.le (by decide));have e3:IntKind.i64.wrap (v-1)=v-1:=di (pF.i64.2 (by omega));rw[gl,e,aH,RN,aA,e4,aA,e3];obtain⟨c',w',q1,q2,q3,q4⟩:=ih fu (v-1) c1 w1 (n+1) (by omega) (by omega) (by omega) (by omega) hc1 hw1 (fun x hx=>by
    rcases hm1 x hx with h|h
    ·exact hr x h
    ·rw[h];exact WG)
   exact⟨c',w',q1,q2,⟨by have:=q3.1;omega,q3.2⟩,q4⟩
theorem a1m(c:cK)(n:Int)(h:cv c)(h0:0<=n)(hn:n<=40):∃c' l,oJ c n=some (c',l)/\cv c'/\AY 40 l/\∀x∈l,x.rel≠[110]:=by
 unfold oJ;have e3:IntKind.i64.wrap (n+1)=n+1:=di (pF.i64.2 (by omega));obtain⟨c1,x,e,hc,hx,hx2⟩:=oM c (n+1) h (by omega) (by omega);rw[e3,e,aA];obtain⟨c',w',q1,q2,q3,q4⟩:=a6W (fun a b d q=>some ((⟨a,b,d⟩:cK),q)) x.toNat fuel x c1 [] 0 (by omega) (by unfold fuel;omega) (by omega) (by omega) hc ⟨by simp,by simp⟩ (by simp);exact⟨_,_,q1,q2,⟨by have:=q3.1;omega,q3.2⟩,q4⟩
def U5(j:Nat):Bytes:=if j<10 then [UInt8.ofNat (48+j)]else [UInt8.ofNat (48+j/10),UInt8.ofNat (48+j%10)]
theorem Kx{j:Nat}(h:j<100):Lib.decDigits j=U5 j:=by
 unfold U5;by_cases h1:j<10
 ·rw[bL h1,Lib.decDigits,dif_pos h1]
 ·rw[b8 h1,Lib.decDigits,dif_neg h1,Lib.decDigits,dif_pos (by omega)];rfl
theorem Po:∀j,j<25->Lib.decFrom 0 (U5 j)=some j/\1<=(U5 j).length/\(U5 j).length<=4:=by decide
theorem QW{j:Nat}(h:j<25):wL (Lib.decDigits j)=some j:=by
 rw[Kx (by omega)];obtain⟨h1,h2,h3⟩:=Po j h;unfold wL;rw[bL ⟨h2,h3⟩,h1];simp only;rw[bL (Kx (by omega))]
def Iv(j:Nat):aE:=⟨[110],[Lib.decDigits j]⟩
theorem XH{i j:Nat}(hi:i<25)(hj:j<25)(h:i≠j):qf (Iv i) (Iv j)≠0:=by
 have:A9 (Lib.decDigits i) (Lib.decDigits j)≠0:=by
  unfold A9;rw[QW hi,QW hj];unfold FM;simp only;split
  ·omega
  ·split<;>omega
 unfold qf Iv cmpL tS;simp only[ne_eq,not_true_eq_false,xK,this,not_false_eq_true,p9]
theorem QS{j:Nat}(h:j<25):nv 4 (Iv j):=by
 refine⟨by simp[Iv],by simp[Iv],fun x hx=>?_⟩;simp only[Iv,cI]at hx;subst hx;rw[Kx (by omega)];have:=(Po j h).2.2;omega
theorem a3d(y:cK×Int)(k:aP->Option (cK×aP))(n0:Nat):∀(m:Nat) (fu:Nat) (j:Nat) (w:aP),j+m=25->m<fu->n0<=40->AY (n0+j) w->j<=w.length->(∀x∈w,x.rel≠[110]\/∃i,i<j/\x=Iv i)->
 ∃w',kQ y k fu (j:Int) w=k w'/\AY (n0+25) w'/\25<=w'.length:=by
 intro m
 induction m with
 |zero=>
  intro fu j w hj hf hn hw hl hx;cases fu with
  |zero=>omega
  |succ fu=>
   have e:decide ((j:Int)<25)=false:=by simp;omega
   rw[kQ,e,aS];exact⟨w,rfl,by rw[show n0+25=n0+j from by omega];exact hw,by omega⟩
 |succ m ih=>
  intro fu j w hj hf hn hw hl hx;cases fu with
  |zero=>omega
  |succ fu=>
   have e:decide ((j:Int)<25)=true:=by simp;omega
   have e1:j8 (j:Int)=some (Lib.decDigits j):=by
    rw[a0E _ (pF.i64.2 (by omega))];unfold Lib.itoa;rw[b8 (by omega)];rfl
   obtain⟨w1,e4,hw1,hm1,hlen⟩:=a1k w (Iv j) hw (by omega) (QS (by omega));have e4':lI w (⟨[110],[Lib.decDigits j]⟩:aE)=some w1:=e4;have e3:IntKind.i64.wrap ((j:Int)+1)=((j+1:Nat):Int):=by rw[di (pF.i64.2 (by omega))];rfl
   have hlen:=hlen (fun x Rn=>by
    rcases hx x Rn with h|⟨i,hi,rfl⟩
    ·unfold qf;rw[bL (by exact h)];exact OB h
    ·exact XH (by omega) (by omega) (by omega))
   rw[kQ,e,aH,e1,aA,e4',aA,e3];exact ih fu (j+1) w1 (by omega) (by omega) hn hw1 (by omega) (fun x Rn=>by
    rcases hm1 x Rn with h|h
    ·rcases hx x h with h|⟨i,hi,rfl⟩
     ·exact .inl h
     ·exact .inr ⟨i,by omega,rfl⟩
    ·exact .inr ⟨j,by omega,h⟩)
theorem a3c(c:cK)(h:cv c):∃c' l,uV c=some (c',l)/\cv c'/\AY 65 l:=by
 unfold uV;obtain⟨c1,l,e,hc,hl,hr⟩:=a1m c 6 h (by decide) (by decide);obtain⟨c2,x,e2,zi,hx,hx2⟩:=oM c1 8 hc (by decide) (by decide);rw[e,aA,e2,aA];have hl1:=hl.1;cases(x==(0:Int))with
 |true=>
  obtain⟨c3,f,e3,Ee,hf⟩:=a6A c2 zi;rw[aH,e3,aA,gF (w:=l) (c:=aE.c) (y:=[D.str f.rel,D.sl (f.args.map tx)]) (by omega) (by decide),aH];refine⟨_,_,rfl,Ee,by simp;omega,fun y hy=>?_⟩;rcases aU.1 hy with h|h
  ·exact hl.2 y h
  ·simp at h;subst h;exact hf
 |false=>
  rw[aS];cases(x==(1:Int))with
  |true=>
   rw[aH];obtain⟨w',q1,q2,q3⟩:=a3d (c2,x) (fun(lN:aP)=>((gb c2 ([23,24,25]:bK)).bind fun GI=>(bif decide (0<=(GI.2:Int))&&decide (GI.2.toNat<=(lN.map aE.c).length)then(some (GI.1,lN.take GI.2.toNat))else none))) 40 25 fuel 0 l (by omega) (by unfold fuel;omega) (by omega) hl (by omega) (fun y hy=>.inl (hr y hy));obtain⟨c3,z,e3,Ee,hz⟩:=Ke c2 [23,24,25] zi (by decide) (by decide);have Ro:0<=z/\z<=25:=by
    have:∀s∈([23,24,25]:bK),0<=s/\s<=25:=by decide
    exact this z hz
   have e4:(decide (0<=z)&&decide (z.toNat<=(w'.map aE.c).length))=true:=by simp;omega
   refine⟨c3,w'.take z.toNat,?_,Ee,by have:=q2.1;simp;omega,fun y hy=>q2.2 y (bz hy)⟩;refine Eq.trans q1 ?_;show((gb c2 [23,24,25]).bind _)=_;rw[e3,aA,e4,aH]
  |false=>exact⟨_,_,rfl,zi,by show l.length<=65;omega,hl.2⟩
end Go.Cx
namespace Go.Cx
open Go.RowKit Go.Proofs Tryz
def Bz(c:aN):Prop:=nv 4 c.pat/\c.left.length<=16/\c.right.length<=16
def O4(a:Action):Prop:=nv 4 a.pat
def si(n:Nat)(r:aI):Prop:=r.name.length<=16/\(r.conds.length<=n/\∀c∈r.conds,Bz c)/\(r.cM.length<=n/\∀a∈r.cM,O4 a)
theorem yt{α:Type}{w:α->Nat}{B:Nat}:∀(l:List α),(∀x∈l,w x<=B)->qm w l<=(B+1)*l.length
 | [],_=>by simp[qm]
 |x::l,h=>by
  have h1:=yt l fun y hy=>h y (by simp[hy])
  have h2:=h x (by simp);rw[nU,aT,Nat.mul_add];omega
theorem nv.wt4{p:aE}(h:nv 4 p):tw p.rel+qm tw p.args<=100:=by
 have:=Ns p.args h.2.2;have h1:=h.1;have h2:=h.2.1;unfold tw at*;omega
theorem Bz.wt{c:aN}(h:Bz c):c.wt<=200:=by
 have h1:=h.1.wt4;have h2:=h.2.1;have h3:=h.2.2;unfold aN.wt;unfold tw at*;omega
theorem O4.wt{a:Action}(h:O4 a):a.wt<=200:=by
 have h1:=nv.wt4 h;unfold Action.wt;unfold tw at*;omega
theorem si.wt{n:Nat}{r:aI}(h:si n r)(hn:n<=1000):r.wt<=1048576:=by
 obtain⟨h1,⟨h2,h3⟩,h4,h5⟩:=h;have c1:=yt (w:=aN.wt) (B:=200) r.conds (fun x hx=>(h3 x hx).wt);have c2:=yt (w:=Action.wt) (B:=200) r.cM (fun x hx=>(h5 x hx).wt);have d1:(200+1)*r.conds.length<=201*1000:=cr _ (by omega);have d2:(200+1)*r.cM.length<=201*1000:=cr _ (by omega);unfold aI.wt;unfold tw at*;omega
def LB(p:aE):Bool:=decide (p.rel.length<=16)&&(decide (p.args.length<=4)&&p.args.all fun x=>decide (x.length<=16))
theorem Nf{p:aE}(h:LB p=true):nv 4 p:=by
 unfold LB at h;simp only[aR,bA,ai]at h;exact h
def P0(r:aI):Bool:=(decide (r.name.length<=16)&&((decide (r.conds.length<=4)&&r.conds.all fun c=>LB c.pat&&(decide (c.left.length<=16)&&decide (c.right.length<=16)))&&(decide (r.cM.length<=4)&&r.cM.all fun a=>LB a.pat)))&&(decide (1<=r.conds.length)&&decide (1<=r.cM.length))
theorem Un{r:aI}(h:P0 r=true):si 4 r/\1<=r.conds.length/\1<=r.cM.length:=by
 unfold P0 at h;simp only[aR,bA,ai]at h;obtain⟨⟨h1,⟨h2,h3⟩,h4,h5⟩,h6,h7⟩:=h;exact⟨⟨h1,⟨h2,fun c hc=>⟨Nf (h3 c hc).1,(h3 c hc).2⟩⟩,h4,fun a ha=>Nf (h5 a ha)⟩,h6,h7⟩
theorem a3p(c:cK)(l r:Bytes)(h:cv c)(hl:l.length<=16)(hr:r.length<=16):∃c' x,uW c l r=some (c',x)/\cv c'/\Bz x:=by
 unfold uW;obtain⟨c1,k,e,hc,_⟩:=Ke c [3,4,4,5] h (by decide) (by decide);rw[e,aA];exact⟨_,_,rfl,hc,⟨by simp,by simp,by simp⟩,hl,hr⟩
theorem Xf(c:cK)(h:cv c):∃c' x,qZ c=some (c',x)/\cv c'/\Bz x:=by
 unfold qZ;obtain⟨c1,k,e,hc,_,_⟩:=oM c 5 h (by decide) (by decide);rw[e,aA];have one:∀k:Int,∃c' x,((iv c1).bind fun y4=>(some (y4.1,(⟨k,y4.2,[],[]⟩:aN))))=some (c',x)/\cv c'/\Bz x:=fun k=>by
  obtain⟨c2,p,e2,zi,hp⟩:=Ou c1 hc;rw[e2,aA];exact⟨_,_,rfl,zi,⟨hp.1,by have:=hp.2.1;show p.args.length<=4;omega,hp.2.2⟩,by simp,by simp⟩
 cases(k==(0:Int))with
 |true=>rw[aH];exact one 1
 |false=>
  rw[aS];cases(k==(1:Int))with
  |true=>rw[aH];exact one 1
  |false=>
   rw[aS];cases(k==(2:Int))with
   |true=>rw[aH];exact one 2
   |false=>
    obtain⟨c2,l,e2,zi,hl⟩:=SJ c1 hc;obtain⟨c3,r,e3,Ee,hr⟩:=SJ c2 zi;obtain⟨c4,x,e4,hc4,hx⟩:=a3p c3 l r Ee hl hr;rw[aS,e2,aA,e3,aA,e4,aA];exact⟨_,_,rfl,hc4,hx⟩
theorem a67(c:cK)(h:cv c):∃c' x,w9 c=some (c',x)/\cv c'/\Bz x:=by
 unfold w9;obtain⟨c1,x,e,hc,hx⟩:=Xf c h;obtain⟨c2,k,e2,zi,_,_⟩:=oM c1 12 hc (by decide) (by decide);rw[e,aA,e2,aA];cases(k==(0:Int))with
 |true=>
  obtain⟨c3,n,e3,Ee,_⟩:=Ke c2 [0,1,3,5,6, -1] zi (by decide) (by decide);rw[aH,e3,aA];exact⟨_,_,rfl,Ee,hx⟩
 |false=>
  rw[aS];cases(k==(1:Int))with
  |true=>
   obtain⟨c3,s,e3,Ee,hs⟩:=KA c2 zi;rw[aH,e3,aA];exact⟨_,_,rfl,Ee,hx.1,hs,hx.2.2⟩
  |false=>
   rw[aS];cases(k==(2:Int))with
   |true=>
    obtain⟨c3,p,e3,Ee,hp⟩:=a1Y c2 zi;rw[aH,e3,aA];exact⟨_,_,rfl,Ee,hp,hx.2⟩
   |false=>exact⟨_,_,rfl,zi,hx⟩
def TQ(s:Bytes):Bool:=match og s with
 |some (r,_)=>P0 r&&eU r
 |none=>false
def PR(r:aI):Prop:=si 4 r/\eU r=true/\1<=r.conds.length/\1<=r.cM.length
theorem a0F(K:aG)(c:cK)(m:Int)(h:cv c)(hm:0<m)(h0:0<K.length)(h1:K.length<=256)(hK:K.all TQ=true):
 ∃c' r,((cP c (OP m ((K.map tx).length:Int))).bind fun y1=>((iw K y1.2).bind fun x3=>((og x3).bind fun y5=>(some (y1.1,y5.1)))))=some (c',r)/\cv c'/\PR r:=by
 have hlen:((K.map tx).length:Int)=(K.length:Int):=by simp
 have hmin:0<OP m ((K.map tx).length:Int)/\OP m ((K.map tx).length:Int)<=(K.length:Int):=by
  unfold OP;rw[hlen];split<;>omega
 obtain⟨c1,x,e,hc,hx,hx2⟩:=oM c _ h hmin.1 (by omega);have hlt:x.toNat<K.length:=by omega
 have e2:iw K x=some K[x.toNat]:=by unfold iw;rw[bD hx,aH];exact aa hlt
 have hk:=ai.1 hK _ (iy hlt);unfold TQ at hk;rw[e,aA,e2,aA];cases hp:og K[x.toNat]with
 |none=>rw[hp]at hk;cases hk
 |some p=>
  rw[hp]at hk;simp only[aR]at hk;obtain⟨q1,q2,q3⟩:=Un hk.1;exact⟨_,_,rfl,hc,q1,hk.2,q2,q3⟩
theorem Xn(c:cK)(m:Int)(h:cv c)(hm:0<m):∃c' r,nO c m=some (c',r)/\cv c'/\PR r:=by
 unfold nO;refine a0F _ c m h hm ?_ ?_ ?_
 ·decide
 ·decide
 ·kernel_rfl
theorem a0H(y1:cK×Int):∀(m:Nat) (fu:Nat) (v:Int) (c:cK) (w:ah),v=(m:Int)->m<fu->m<=50->w.length+m<=100->cv c->(∀x∈w,Bz x)->
 ∃c' w',(∀k,iX y1 k fu v c.b c.i c.h w=k c'.b c'.i c'.h w')/\cv c'/\w'.length=w.length+m/\∀x∈w',Bz x:=by
 intro m
 induction m with
 |zero=>
  intro fu v c w hv hf hm hn hc hw;cases fu with
  |zero=>omega
  |succ fu=>
   have e:decide (v>0)=false:=by simp;omega
   exact⟨c,w,fun k=>by rw[iX,e,aS],hc,rfl,hw⟩
 |succ m ih=>
  intro fu v c w hv hf hm hn hc hw;cases fu with
  |zero=>omega
  |succ fu=>
   have e:decide (v>0)=true:=by simp;omega
   obtain⟨c1,x,e2,hc1,hx⟩:=Xf c hc;have RN:qZ (⟨c.b,c.i,c.h⟩:cK)=some (c1,x):=e2;have e3:IntKind.i64.wrap (v-1)=v-1:=di (pF.i64.2 (by omega));obtain⟨c',w',q1,q2,q3,q4⟩:=ih fu (v-1) c1 (w++[x]) (by omega) (by omega) (by omega) (by simp;omega) hc1 (fun y hy=>by
    rcases aU.1 hy with h|h
    ·exact hw y h
    ·simp at h;subst h;exact hx)
   exact⟨c',w',fun k=>by rw[iX,e,aH,RN,aA,gF (by omega) (by decide),aH,e3];exact q1 k,q2,by simp at q3;omega,q4⟩
theorem a0I(y1:cK×Int)(q:ah)(y:aG)(um:cK×aE):∀(m:Nat) (fu:Nat) (v:Nat) (c:cK) (w:aG),w.length=v+m->m<fu->w.length<=100->cv c->(∀x∈w,x.length<=16)->
 ∃c' w',(∀k,dH y1 q y um k fu (v:Int) c.b c.i c.h w=k c'.b c'.i c'.h w')/\cv c'/\w'.length=w.length/\∀x∈w',x.length<=16:=by
 intro m
 induction m with
 |zero=>
  intro fu v c w hv hf hm hc hw;cases fu with
  |zero=>omega
  |succ fu=>
   have e:decide ((v:Int)<((w.map tx).length:Int))=false:=by simp;omega
   exact⟨c,w,fun k=>by rw[dH,e,aS],hc,rfl,hw⟩
 |succ m ih=>
  intro fu v c w hv hf hm hc hw;cases fu with
  |zero=>omega
  |succ fu=>
   have e:decide ((v:Int)<((w.map tx).length:Int))=true:=by simp;omega
   have hlt:v<w.length:=by omega
   have e1:iw w (v:Int)=some w[v]:=by unfold iw;rw[bD (by omega),aH];exact aa hlt
   have hx:=hw w[v] (iy hlt);have e4:IntKind.i64.wrap ((v:Int)+1)=((v+1:Nat):Int):=by rw[di (pF.i64.2 (by omega))];rfl
   have st:∀k,dH y1 q y um k (fu+1) (v:Int) c.b c.i c.h w=(bif fK w[v]then(bif !(y.contains w[v])then((gr (⟨c.b,c.i,c.h⟩:cK)).bind fun y83=>dH y1 q y um k fu ((v+1:Nat):Int) y83.1.b y83.1.i y83.1.h (w.set (v:Int).toNat y83.2))else dH y1 q y um k fu ((v+1:Nat):Int) c.b c.i c.h w)else dH y1 q y um k fu ((v+1:Nat):Int) c.b c.i c.h w):=by
    intro k;rw[dH,e,aH,e1,aA,Ox w[v] (by omega),aA,e4,Ul,aA]
   obtain⟨c0,w0,p1,p2,p3,p4⟩:=ih fu (v+1) c w (by omega) (by omega) hm hc hw;cases hv1:fK w[v]with
   |false=>exact⟨c0,w0,fun k=>by rw[st k,hv1,aS];exact p1 k,p2,p3,p4⟩
   |true=>
    cases GV:y.contains w[v]with
    |true=>exact⟨c0,w0,fun k=>by rw[st k,hv1,GV,aH,bh,aS];exact p1 k,p2,p3,p4⟩
    |false=>
     obtain⟨c1,s,e2,hc1,hs⟩:=SC c hc;have RN:gr (⟨c.b,c.i,c.h⟩:cK)=some (c1,s):=e2;obtain⟨c',w',q1,q2,q3,q4⟩:=ih fu (v+1) c1 (w.set (v:Int).toNat s) (by simp;omega) (by omega) (by simpa using hm) hc1 (fun x Rn=>by
      rcases mI Rn with h|h
      ·exact hw x h
      ·subst h;exact hs)
     exact⟨c',w',fun k=>by rw[st k,hv1,GV,aH,cy,aH,RN,aA];exact q1 k,q2,by simpa using q3,q4⟩
theorem a6R(c:cK)(h:cv c):∃c' r,sM c=some (c',r)/\cv c'/\PR r:=by
 unfold sM;obtain⟨c1,n,e1,hc1,_,_⟩:=oM c 4 h (by decide) (by decide);obtain⟨c2,p,e2,zi,hp⟩:=Ou c1 hc1;obtain⟨c3,m,e3,Ee,hm,hm2⟩:=oM c2 3 zi (by decide) (by decide);rw[e1,aA,e2,aA,e3,aA];have hp4:nv 4 p:=⟨hp.1,by have:=hp.2.1;omega,hp.2.2⟩
 obtain⟨c4,cs,q1,hc4,RW,hsm⟩:=a0H (c1,n) m.toNat fuel m c3 [(⟨1,p,[],[]⟩:aN)] (by omega) (by unfold fuel;omega) (by omega) (by simp;omega) Ee (fun x hx=>by
  simp at hx;subst hx;exact⟨hp4,by simp,by simp⟩)
 have hcs:1<=cs.length/\cs.length<=3:=by simp at RW;omega
 rw[q1];dsimp only;have hw0:(⟨[114],n,cs,[]⟩:aI).wt<=1048576:=si.wt (n:=4) ⟨by simp,⟨by show cs.length<=4;omega,hsm⟩,by simp,by simp⟩ (by decide);obtain⟨c5,q,e5,hc5,hq⟩:=Ou c4 hc4;have e5':iv (⟨c4.b,c4.i,c4.h⟩:cK)=some (c5,q):=e5;rw[SD (⟨[114],n,cs,[]⟩:aI) _ hw0,aA,e5',aA];dsimp only;obtain⟨c6,qa,r1,hc6,r3,r4⟩:=a0I (c1,n) cs (eV (zG (⟨[114],n,cs,[]⟩:aI) ((cs.map aN.c).length:Int))) (c5,q) q.args.length fuel 0 c5 q.args (by simp) (by have:=hq.2.1;unfold fuel;omega) (by have:=hq.2.1;omega) hc5 hq.2.2;have r1':=r1;rw[show((0:Nat):Int)=0 from rfl]at r1';rw[r1'];obtain⟨c7,k,e7,hc7,_⟩:=Ke c6 [1,1,2] hc6 (by decide) (by decide);have e7':gb (⟨c6.b,c6.i,c6.h⟩:cK) [1,1,2]=some (c7,k):=e7;obtain⟨c8,b,e8,hc8⟩:=Xr c7 6 hc7 (by decide) (by decide);have XZ:∀n,n<=4->room n 48=true:=fun n hn=>Ka (by omega) (by decide)
 rw[e7',aA];dsimp only;rw[XZ _ (by simp),aH,e8,aA];have hq4:nv 4 (⟨q.rel,qa⟩:aE):=⟨hq.1,by show qa.length<=4;have:=hq.2.1;omega,r4⟩
 have fin:∀(al:dw),1<=al.length->al.length<=2->(∀a∈al,O4 a)->∃c' r,((kn (⟨[114],n,cs,al⟩:aI)).bind fun y92=>(bif !(y92)then((nO c8 99).bind fun y95=>(some (y95.1,y95.2)))else(some (c8,(⟨[114],n,cs,al⟩:aI)))))=some (c',r)/\cv c'/\PR r:=by
  intro al ha1 ha2 ha;have hsr:si 4 (⟨[114],n,cs,al⟩:aI):=⟨by simp,⟨by show cs.length<=4;omega,hsm⟩,by show al.length<=4;omega,ha⟩
  rw[Xt _ (hsr.wt (by decide)),aA];cases hr:eU (⟨[114],n,cs,al⟩:aI)with
  |true=>exact⟨_,_,rfl,hc8,hsr,hr,hcs.1,ha1⟩
  |false=>
   obtain⟨c9,r,e9,hc9,hr9⟩:=Xn c8 99 hc8 (by decide);rw[cy,aH,e9,aA];exact⟨_,_,rfl,hc9,hr9⟩
 cases b with
 |true=>
  dsimp only;rw[aH,XZ _ (by simp),aH];exact fin _ (by simp) (by simp) (fun a ha=>by
   simp at ha;rcases ha with rfl|rfl
   ·exact hq4
   ·exact⟨by simp,by simp,by simp⟩)
 |false=>
  dsimp only;rw[aS];exact fin _ (by simp) (by simp) (fun a ha=>by
   simp at ha;subst ha;exact hq4)
theorem Xg(c:cK)(h:cv c):∃c' r,kq c=some (c',r)/\cv c'/\PR r:=by
 unfold kq;obtain⟨c1,b,e,hc⟩:=Xr c 3 h (by decide) (by decide);rw[e,aA];cases b with
 |true=>
  obtain⟨c2,r,e2,zi,hr⟩:=a6R c1 hc;rw[aH,e2,aA];exact⟨_,_,rfl,zi,hr⟩
 |false=>
  obtain⟨c2,r,e2,zi,hr⟩:=Xn c1 99 hc (by decide);rw[aS,e2,aA];exact⟨_,_,rfl,zi,hr⟩
theorem si.le{n m:Nat}{r:aI}(h:si n r)(hm:n<=m):si m r:=⟨h.1,⟨by have:=h.2.1.1;omega,h.2.1.2⟩,by have:=h.2.2.1;omega,h.2.2.2⟩
theorem a68(c:cK)(h:cv c):∃c' r,wA c=some (c',r)/\cv c'/\si 5 r:=by
 unfold wA;obtain⟨c1,r,e,hc,hg,_,g1,g2⟩:=Xg c h;obtain⟨c2,x,e2,zi,_,_⟩:=oM c1 14 hc (by decide) (by decide);have hr:=hg.le (m:=5) (by decide);have hl1:=hg.2.1.1;have BZ:=hg.2.2.1;rw[e,aA,e2,aA];cases(x==(0:Int))with
 |true=>
  obtain⟨c3,s,e3,Ee,hs⟩:=KA c2 zi;rw[aH,e3,aA];exact⟨_,_,rfl,Ee,hs,hr.2⟩
 |false=>
  rw[aS];cases(x==(1:Int))with
  |true=>
   obtain⟨c3,s,e3,Ee,_⟩:=Ke c2 [-1,0,9,10] zi (by decide) (by decide);rw[aH,e3,aA];exact⟨_,_,rfl,Ee,hr⟩
  |false=>
   rw[aS];cases(x==(2:Int))with
   |true=>
    obtain⟨c3,k,e3,Ee,hk⟩:=a67 c2 zi;rw[aH,e3,aA,gF (by show r.conds.length<_;omega) (by decide),aH];refine⟨_,_,rfl,Ee,hr.1,⟨by simp;omega,fun y hy=>?_⟩,hr.2.2⟩;rcases aU.1 hy with h|h
    ·exact hr.2.1.2 y h
    ·simp at h;subst h;exact hk
   |false=>
    rw[aS];cases(x==(3:Int))with
    |true=>
     obtain⟨c3,k,e3,Ee,_⟩:=Ke c2 [0,1,2,3,4] zi (by decide) (by decide);obtain⟨c4,p,e4,hc4,hp⟩:=a1Y c3 Ee;rw[aH,e3,aA,e4,aA,gF (by show r.cM.length<_;omega) (by decide),aH];refine⟨_,_,rfl,hc4,hr.1,hr.2.1,by simp;omega,fun y hy=>?_⟩;rcases aU.1 hy with h|h
     ·exact hr.2.2.2 y h
     ·simp at h;subst h;exact hp
    |false=>
     rw[aS];cases(x==(4:Int))with
     |true=>
      rw[aH,TX (by simpa using g1),aA];exact⟨_,_,rfl,zi,hr.1,⟨by rw[oT,bw];show min _ r.conds.length-1<=5;omega,fun y hy=>hr.2.1.2 y (bz (gL hy))⟩,hr.2.2⟩
     |false=>
      rw[aS];cases(x==(5:Int))with
      |true=>
       rw[aH,TX (by simpa using g2),aA];exact⟨_,_,rfl,zi,hr.1,hr.2.1,by rw[oT,bw];show min _ r.cM.length-1<=5;omega,fun y hy=>hr.2.2.2 y (bz (gL hy))⟩
      |false=>
       rw[aS];cases(x==(6:Int))with
       |true=>
        obtain⟨c3,s,e3,Ee,hs⟩:=Um c2 [[63,102],[63,97],[63,103]] zi (by decide) (by decide);obtain⟨c4,k,e4,hc4,_⟩:=Ke c3 [1,2] Ee (by decide) (by decide);obtain⟨c5,t,e5,hc5,ht⟩:=Um c4 [[63,102],[63,120]] hc4 (by decide) (by decide);have hs2:s.length<=16:=by
         have:∀s∈([[63,102],[63,97],[63,103]]:aG),s.length<=16:=by decide
         exact this s hs
        have ht2:t.length<=16:=by
         have:∀s∈([[63,102],[63,120]]:aG),s.length<=16:=by decide
         exact this t ht
        rw[aH,e3,aA,e4,aA,e5,aA];refine⟨_,_,rfl,hc5,hr.1,⟨by simp,fun y hy=>?_⟩,by simp,fun y hy=>?_⟩
        ·simp at hy;rcases hy with rfl|rfl|rfl
         ·exact⟨⟨by simp,by simp,by simp⟩,by simp,by simp⟩
         ·exact⟨⟨by simp,by simp,by simpa using hs2⟩,by simp,by simp⟩
         ·exact⟨⟨by simp,by simp,by simpa using ht2⟩,by simp,by simp⟩
        ·simp at hy;subst hy;exact⟨by simp,by simp,by simp⟩
       |false=>exact⟨_,_,rfl,zi,hr⟩
end Go.Cx
namespace Go.Cx
open Go.RowKit Go.Proofs Tryz
theorem AY.wt{n:Nat}{l:aP}(h:AY n l)(hn:n<=1000):qm aE.wt l<=1048576:=by
 have c1:=yt (w:=aE.wt) (B:=200) l (fun x hx=>by
  have:=nv.wt4 (h.2 x hx);unfold aE.wt;unfold tw at*;omega)
 have d1:(200+1)*l.length<=201*1000:=cr _ (by have:=h.1;omega);omega
end Go.Cx
namespace Go.Cx
open Go.RowKit Go.Proofs Tryz
theorem a3U(c:cK)(h:cv c):∃c' s,gr c=some (c',s)/\cv c'/\fL s=true:=by
 unfold gr;obtain⟨c',s,e,hc,hs⟩:=Um c ([[97],[98],[99],[49],[50]]:aG) h (by decide) (by decide);rw[e,aA];have:∀s∈([[97],[98],[99],[49],[50]]:aG),fL s=true:=by decide
 exact⟨_,_,rfl,hc,this s hs⟩
theorem a6U(c:cK)(h:cv c):∃c' r n,nG c=some (c',(r,n))/\cv c'/\wE r=true/\r.length<=2/\0<=n/\n<=2:=by
 unfold nG;obtain⟨c1,x,e,hc,hx,hx2⟩:=oM c 6 h (by decide) (by decide);rw[e,aA];have key:x=0\/x=1\/x=2\/x=3\/x=4\/x=5:=by omega
 rcases key with rfl|rfl|rfl|rfl|rfl|rfl<;>exact⟨c1,_,_,rfl,hc,by decide,by decide,by decide,by decide⟩
theorem Xi(y:cK×(Bytes×Int))(k:bK->Int->Int->aG->Option (cK×aE)):∀(m:Nat) (fu:Nat) (v:Int) (c:cK) (w:aG),y.2.2-v=(m:Int)->m<fu->0<=v->y.2.2<=100->w.length+m<=1000->cv c->(∀x∈w,fL x=true)->
 ∃c' w',gA y k fu v c.b c.i c.h w=k c'.b c'.i c'.h w'/\cv c'/\w'.length<=w.length+m/\∀x∈w',fL x=true:=by
 intro m
 induction m with
 |zero=>
  intro fu v c w hv hf h0 hy hw hc hx;cases fu with
  |zero=>omega
  |succ fu=>
   have e:decide (v<y.2.2)=false:=by simp;omega
   rw[gA,e,aS];exact⟨c,w,rfl,hc,by omega,hx⟩
 |succ m ih=>
  intro fu v c w hv hf h0 hy hw hc hx;cases fu with
  |zero=>omega
  |succ fu=>
   have e:decide (v<y.2.2)=true:=by simp;omega
   obtain⟨c1,s,e2,hc1,hs⟩:=a3U c hc;have RN:gr (⟨c.b,c.i,c.h⟩:cK)=some (c1,s):=e2;have e3:IntKind.i64.wrap (v+1)=v+1:=di (pF.i64.2 (by omega));rw[gA,e,aH,RN,aA,gF (by omega) (by decide),aH,e3];obtain⟨c',w',q1,q2,q3,q4⟩:=ih fu (v+1) c1 (w++[s]) (by omega) (by omega) (by omega) hy (by simp;omega) hc1 (fun x Rn=>by
    rcases aU.1 Rn with h|h
    ·exact hx x h
    ·simp at h;subst h;exact hs)
   exact⟨c',w',q1,q2,by simp at q3;omega,q4⟩
theorem a0B(c:cK)(h:cv c):∃c' p,kp c=some (c',p)/\cv c'/\rO p=true/\p.rel.length<=2:=by
 unfold kp;obtain⟨c1,r,n,e,hc,hr,ZT,hn,hn2⟩:=a6U c h;rw[e,aA];obtain⟨c',w',q1,q2,q3,q4⟩:=Xi (c1,(r,n)) (fun a b d q=>some ((⟨a,b,d⟩:cK),(⟨r,q⟩:aE))) n.toNat fuel 0 c1 [] (by simp;omega) (by unfold fuel;omega) (by omega) (by simp;omega) (by simp;omega) hc (by simp);refine⟨_,_,q1,q2,?_,ZT⟩;unfold rO;simp only[aR,bA,ai];exact⟨q4,hr,by simp at q3;omega⟩
theorem a1h(a:aP)(f:aE)(K:Bool->aP->Option aP):∀(rest:aP) (i:Nat) (w:aP),(∀x∈rest,x.args.length<=1048576)->w.length+rest.length<=1048576->cW a f K rest i true w=K true (w++rest)
 | [],i,w,_,_=>by simp[cW]
 |x::xs,i,w,hs,hl=>by
  simp only[aT]at hl;rw[cW,bh,aS,zx x (by have:=hs x (by simp);omega),aA,gF (w:=w) (c:=aE.c) (y:=[D.str x.rel,D.sl (x.args.map tx)]) (b:=40) (by omega) (by decide),aH,a1h a f K xs (i+1) (w++[x]) (fun y hy=>hs y (by simp[hy])) (by simp;omega)];simp
theorem a1g(a:aP)(f:aE)(K:Bool->aP->Option aP):∀(rest:aP) (p:Option aE) (i:Nat) (w:aP),(∀x∈rest,x.args.length<=1048576)->w.length+rest.length<=1048576->chainB p rest=true->f∈rest->cW a f K rest i false w=K true (w++rest)
 | [],_,_,_,_,_,_,h=>by cases h
 |x::xs,p,i,w,hs,hl,hc,hm=>by
  simp only[aT]at hl;obtain⟨_,_,h3⟩:=AI hc;have cx:=zx x (by have:=hs x (by simp);omega);have rx:=gF (w:=w) (c:=aE.c) (y:=[D.str x.rel,D.sl (x.args.map tx)]) (b:=40) (by omega) (by decide);rw[cW,cy,aH,Te,aA];by_cases e:x=f
  ·rw[e,U1,<-e];rw[bD (by omega:(0:Int)>=0),aH,aA,bM (by omega:¬(0:Int)>0),aS,cx,aA,rx,aH,a1h a x K xs (i+1) (w++[x]) (fun y hy=>hs y (by simp[hy])) (by simp;omega)];simp
  ·have hxs:f∈xs:=by
    rcases bE.1 hm with q|q
    ·exact absurd q.symm e
    ·exact q
   have hlt:=JS h3 f hxs;rw[bM (by omega),aS,cx,aA,rx,aH,a1g a f K xs (some x) (i+1) (w++[x]) (fun y hy=>hs y (by simp[hy])) (by simp;omega) h3 hxs];simp
theorem a6Q{l:aP}{f:aE}(hl:mM l=true)(hf:rO f=true)(hn:l.length<24):∃l',lI l f=some l'/\mM l'=true/\l'.length<=l.length+1/\∀x∈l',x∈l\/x=f:=by
 have hargs:∀x∈l,x.args.length<=1048576:=fun x hx=>aE.fB (by have:=Ig (Ge hl x hx);omega)
 by_cases hm:f∈l
 ·refine⟨l,?_,hl,by omega,fun x hx=>.inl hx⟩;have hc:chainB none l=true:=by
   unfold mM at hl;rw[aR]at hl;exact hl.1
  unfold lI;rw[a1g l f _ l none 0 [] hargs (by simp;omega) hc hm];rfl
 ·refine⟨Ei f l,a6K l f (by have:=aE.fB (n:=1048576) (by have:=Ig hf;omega:f.wt<=1048576);omega) (fun x hx=>by have:=hargs x hx;omega) (by omega) hm,Z5 hf hl hm (by omega),by rw[Lz];omega,fun x hx=>?_⟩;rcases(QC f l x).1 hx with h|h
  ·exact .inr h
  ·exact .inl h
theorem a3n(k:bK->Int->Int->aP->Option (cK×aP)):∀(m:Nat) (fu:Nat) (v:Int) (c:cK) (w:aP),v=(m:Int)->m<fu->w.length+m<=20->cv c->mM w=true->(∀x∈w,x.rel.length<=2)->
 ∃c' w',gl k fu v c.b c.i c.h w=k c'.b c'.i c'.h w'/\cv c'/\mM w'=true/\w'.length<=w.length+m/\∀x∈w',x.rel.length<=2:=by
 intro m
 induction m with
 |zero=>
  intro fu v c w hv hf hm hc hw hr;cases fu with
  |zero=>omega
  |succ fu=>
   have e:decide (v>0)=false:=by simp;omega
   rw[gl,e,aS];exact⟨c,w,rfl,hc,hw,by omega,hr⟩
 |succ m ih=>
  intro fu v c w hv hf hm hc hw hr;cases fu with
  |zero=>omega
  |succ fu=>
   have e:decide (v>0)=true:=by simp;omega
   obtain⟨c1,f,e2,hc1,hf1,WG⟩:=a0B c hc;have RN:kp (⟨c.b,c.i,c.h⟩:cK)=some (c1,f):=e2;obtain⟨w1,e4,hw1,hl1,hm1⟩:=a6Q hw hf1 (by omega);have e3:IntKind.i64.wrap (v-1)=v-1:=di (pF.i64.2 (by omega));rw[gl,e,aH,RN,aA,e4,aA,e3];obtain⟨c',w',q1,q2,q3,q4,q5⟩:=ih fu (v-1) c1 w1 (by omega) (by omega) (by omega) hc1 hw1 (fun x hx=>by
    rcases hm1 x hx with h|h
    ·exact hr x h
    ·rw[h];exact WG)
   exact⟨c',w',q1,q2,q3,by omega,q5⟩
theorem a6X(c:cK)(n:Int)(h:cv c)(h0:0<=n)(hn:n<=19):∃c' l,oJ c n=some (c',l)/\cv c'/\mM l=true/\(l.length:Int)<=n/\∀x∈l,x.rel.length<=2:=by
 unfold oJ;have e3:IntKind.i64.wrap (n+1)=n+1:=di (pF.i64.2 (by omega));obtain⟨c1,x,e,hc,hx,hx2⟩:=oM c (n+1) h (by omega) (by omega);rw[e3,e,aA];obtain⟨c',w',q1,q2,q3,q4,q5⟩:=a3n (fun a b d q=>some ((⟨a,b,d⟩:cK),q)) x.toNat fuel x c1 [] (by omega) (by unfold fuel;omega) (by simp;omega) hc rfl (by simp);exact⟨_,_,q1,q2,q3,by simp at q4;omega,q5⟩
theorem KJ(r:aI)(n:Bytes):∀(cs:ah) (i:Nat),rX ⟨n,r.prio,r.conds,r.cM⟩ cs i=rX r cs i
 | [],_=>rfl
 |c::cs,i=>by
  rw[rX,rX,KJ r n cs (i+1)];rfl
theorem SB{r:aI}{n:Bytes}(h:eU r=true)(hn:wE n=true):eU ⟨n,r.prio,r.conds,r.cM⟩=true:=by
 unfold eU at h⊢;dsimp only;rw[KJ];simp only[aR]at h⊢;exact⟨⟨⟨⟨hn,h.1.1.1.2⟩,h.1.1.2⟩,h.1.2⟩,h.2.1,h.2.2.1,h.2.2.2⟩
theorem Pu:∀ {l:aq} {k i:Nat} {r:aI},(l.map aI.name).Nodup->l[i]?=some r->BX r.name l k=((k+i:Nat):Int)
 | [],_,_,_,_,h=>by simp at h
 |x::xs,k,i,r,hn,h=>by
  rw[ay,dN]at hn;cases i with
  |zero=>
   simp at h;subst h;rw[BX];simp
  |succ i=>
   have hx:xs[i]?=some r:=by simpa using h
   have hne:¬x.name=r.name:=fun e=>hn.1 (by rw[e];exact cA.2 ⟨r,aD hx,rfl⟩)
   rw[BX,show(x.name==r.name)=false from cu.2 hne,aS,Pu hn.2 hx]
   congr 1;omega
theorem Sj{all:aq}(hn:(all.map aI.name).Nodup):∀(l:aq) (i:Nat),(∀r∈l,eU r=true)->(∀(j:Nat) r,l[j]?=some r->all[i+j]?=some r)->Ki all l i=true
 | [],_,_,_=>rfl
 |r::l,i,hv,ha=>by
  have h0:=Pu (k:=0) hn (ha 0 r rfl);rw[Ki,hv r (by simp),bD (by rw[h0];congr 1;omega),Sj hn l (i+1) (fun x hx=>hv x (by simp[hx])) (fun j x hx=>by rw[show i+1+j=i+(j+1)by omega];exact ha (j+1) x (by simpa using hx))];rfl
theorem Z4{l:aq}(hn:(l.map aI.name).Nodup)(hv:∀r∈l,eU r=true)(h6:l.length<=6):rP l=true:=by
 unfold rP;rw[Sj hn l 0 hv (fun j r hj=>by rw[cN];exact hj)];simp;omega
def Yj(m:Nat):Bytes:=[114,UInt8.ofNat (48+m)]
theorem a3P:∀m,m<=7->wE (Yj m)=true/\∀j,j<=7->Yj m=Yj j->m=j:=by decide
theorem XY{m:Nat}(h:m<=7):([114]:Bytes)++Lib.itoa (m:Int)=Yj m:=by
 have:Lib.itoa (m:Int)=Lib.decDigits m:=by unfold Lib.itoa;rw[b8 (by omega)];rfl
 rw[this,Kx (by omega)];unfold U5 Yj;rw[bL (by omega)];rfl
theorem a3m(k:bK->Int->Int->aq->Option (cK×aq))(P:aI->Prop)(hP:∀c c' r,cv c->kq c=some (c',r)->P r):∀(m:Nat) (fu:Nat) (v:Int) (c:cK) (w:aq),v=(m:Int)->m<fu->w.length+m<=6->cv c->(∀r∈w,eU r=true/\si 4 r/\∃r0,P r0/\r.conds=r0.conds)->(w.map aI.name).Nodup->(∀r∈w,∃j,m<j/\j<=7/\r.name=Yj j)->
 ∃c' w',mE k fu v c.b c.i c.h w=k c'.b c'.i c'.h w'/\cv c'/\w'.length<=w.length+m/\(∀r∈w',eU r=true/\si 4 r/\∃r0,P r0/\r.conds=r0.conds)/\(w'.map aI.name).Nodup:=by
 intro m
 induction m with
 |zero=>
  intro fu v c w hv hf hm hc hw hn hj;cases fu with
  |zero=>omega
  |succ fu=>
   have e:decide (v>0)=false:=by simp;omega
   rw[mE,e,aS];exact⟨c,w,rfl,hc,by omega,hw,hn⟩
 |succ m ih=>
  intro fu v c w hv hf hm hc hw hn hj;cases fu with
  |zero=>omega
  |succ fu=>
   have e:decide (v>0)=true:=by simp;omega
   obtain⟨c1,r,e2,hc1,hr⟩:=Xg c hc;have RN:kq (⟨c.b,c.i,c.h⟩:cK)=some (c1,r):=e2;have e3:IntKind.i64.wrap (v-1)=v-1:=di (pF.i64.2 (by omega));have e5:=a0E v (pF.i64.2 (by omega));have e6:([114]:Bytes)++Lib.itoa v=Yj (m+1):=by rw[hv];exact XY (by omega)
   have e7:decide (([114]:Bytes).length+(Lib.itoa v).length<=maxLen)=true:=by
    have:=congrArg List.length e6;rw[ar]at this;rw[this];rfl
   have hnm:=a3P (m+1) (by omega);rw[mE,e,aH,RN,aA,e5,aA,e7,aH,gF (by omega) (by decide),aH,e3,e6];have a5D:=SB hr.2.1 hnm.1;obtain⟨c',w',q1,q2,q3,q4,q5⟩:=ih fu (v-1) c1 (w++[⟨Yj (m+1),r.prio,r.conds,r.cM⟩]) (by omega) (by omega) (by simp;omega) hc1 (fun x hx=>by
    rcases aU.1 hx with h|h
    ·exact hw x h
    ·rw[cI.1 h];exact⟨a5D,⟨by show(Yj (m+1)).length<=16;unfold Yj;simp,hr.1.2⟩,r,hP c c1 r hc e2,rfl⟩) (by
    rw[bI,bH];refine⟨hn,by simp,fun a ha b hb e=>?_⟩;simp at hb;obtain⟨x,hx,rfl⟩:=cA.1 ha;obtain⟨j,j1,j2,j3⟩:=hj x hx;have:=hnm.2 j j2 (by rw[<-j3,e,hb]);omega) (fun x hx=>by
    rcases aU.1 hx with h|h
    ·obtain⟨j,j1,j2,j3⟩:=hj x h;exact⟨j,by omega,j2,j3⟩
    ·rw[cI.1 h];exact⟨m+1,by omega,by omega,rfl⟩)
   exact⟨c',w',q1,q2,by simp at q3;omega,q4,q5⟩
theorem si.wt4{r:aI}(h:si 4 r):r.wt<=10000:=by
 obtain⟨h1,⟨h2,h3⟩,h4,h5⟩:=h;have c1:=yt (w:=aN.wt) (B:=200) r.conds (fun x hx=>(h3 x hx).wt);have c2:=yt (w:=Action.wt) (B:=200) r.cM (fun x hx=>(h5 x hx).wt);have d1:(200+1)*r.conds.length<=201*4:=cr _ (by omega);have d2:(200+1)*r.cM.length<=201*4:=cr _ (by omega);unfold aI.wt;unfold tw at*;omega
theorem a6V(P:aI->Prop)(hP:∀c c' r,cv c->kq c=some (c',r)->P r)(c:cK)(n:Int)(h:cv c)(h0:0<=n)(hn:n<=6):∃c' l,wB c n=some (c',l)/\cv c'/\rP l=true/\qm aI.wt l<=100000/\∀r∈l,∃r0,P r0/\r.conds=r0.conds:=by
 unfold wB;have e3:IntKind.i64.wrap (n+1)=n+1:=di (pF.i64.2 (by omega));obtain⟨c1,x,e,hc,hx,hx2⟩:=oM c (n+1) h (by omega) (by omega);rw[e3,e,aA];obtain⟨c',w',q1,q2,q3,q4,q5⟩:=a3m (fun a b d q=>some ((⟨a,b,d⟩:cK),q)) P hP x.toNat fuel x c1 [] (by omega) (by unfold fuel;omega) (by simp;omega) hc (by simp) (by simp) (by simp);have h6:w'.length<=6:=by simp at q3;omega
 refine⟨_,_,q1,q2,Z4 q5 (fun r hr=>(q4 r hr).1) h6,?_,fun r hr=>(q4 r hr).2.2⟩;have h1:=yt (w:=aI.wt) (B:=10000) w' (fun r hr=>si.wt4 (q4 r hr).2.1);have:(10000+1)*w'.length<=(10000+1)*6:=cr _ h6;omega
end Go.Cx
namespace Go.Cx
open Go.RowKit Go.Proofs Tryz
theorem Xk(n:aJ)(fs y:aP)(K:bX->Option aJ)(hFS:FS fs)(A:bX)(hA:∀a∈A,a.shape.wt<=1048576)(hl:A.length<=1048576):∀(rest pre:bX) (fu:Nat),A=pre++rest->rest.length<fu->
 kV n fs y K fu (pre.length:Int) (p6 pre fs++rest)=K (p6 A fs)
 | [],pre,fu,e,hu=>by
  obtain⟨fu,rfl⟩:∃m,fu=m+1:=⟨fu-1,by simp at hu;omega⟩
  rw[dA]at e;rw[kV,dA,au,F9,bM (by omega),aS,e]
 |x::rest,pre,fu,e,hu=>by
  obtain⟨fu,rfl⟩:∃m,fu=m+1:=⟨fu-1,by simp at hu;omega⟩
  simp only[aT]at hu;have hlen:A.length=pre.length+(rest.length+1):=by rw[e];simp
  have hx:=hA x (by rw[e];simp);have ih:=Xk n fs y K hFS A hA hl rest (pre++[x]) fu (by rw[e];simp) (by omega);have L3:iw (p6 pre fs++x::rest) (pre.length:Int)=some x:=by
   have:=vm (a:=p6 pre fs++x::rest) (pre:=p6 pre fs) (xs:=rest) (x:=x) rfl;rw[F9]at this;exact this
  have qg:(p6 pre fs++x::rest).set (pre.length:Int).toNat ⟨x.shape,vU x.shape [] fs⟩=p6 (pre++[x]) fs++rest:=by
   have:=setAt (p6 pre fs) rest x ⟨x.shape,vU x.shape [] fs⟩;rw[F9]at this;rw[pU,this,RQ,cc];rfl
  rw[kV,au,ar,F9,aT,bD (by omega),aH,L3,aA,a3b x.shape [] fs hx PB.nil hFS,aA,Nq (by omega),qg];rw[ar,dS]at ih;exact ih
theorem Xl(n:aJ)(fs y:aP)(q:bX)(K:bR->Option aJ)(hf:FS fs)(h24:fs.length<=24)(ns:bR)(hp:Bx ns):∀(rest pre:bR) (fu:Nat),(pre++rest).map qe=ns.map qe->rest.length<fu->
 jC n fs y q K fu (pre.length:Int) (pre++rest)=K (pre++qI ns fs rest pre.length)
 | [],pre,fu,he,hu=>by
  obtain⟨fu,rfl⟩:∃m,fu=m+1:=⟨fu-1,by simp at hu;omega⟩
  rw[jC,dA,au,bM (by omega),aS,qI,dA]
 |x::rest,pre,fu,he,hu=>by
  obtain⟨fu,rfl⟩:∃m,fu=m+1:=⟨fu-1,by simp at hu;omega⟩
  simp only[aT]at hu;have hlen:(pre++x::rest).length=ns.length:=by have:=congrArg List.length he;simpa using this
  have hlt:=hp.len;have hok:NOk ⟨n.rules,n.ends,q,pre++x::rest,y,n.cg⟩:=by
   refine⟨by show(pre++x::rest).length<=1048576;rw[hlen];exact hp.len,fun z hz=>?_⟩;have hm:qe z∈ns.map qe:=by rw[<-he];exact cA.2 ⟨z,hz,rfl⟩
   obtain⟨w,hw,e⟩:=cA.1 hm;have:w.cond=z.cond:=(pW e).2;rw[<-this];exact hp.wt w hw
  have WU:gK (pre++x::rest) ((pre.length:Nat):Int)=gK ns (dU pre.length):=xj he _;have Q5:∀c∈gK ns (dU pre.length),c.wt<=1048576:=by
   intro c hc;obtain⟨z,hz,e⟩:=J2 hc;rw[<-e];exact hp.wt z hz
  have L3:iw (pre++x::rest) (pre.length:Int)=some x:=vm rfl;have ih:=Xl n fs y q K hf h24 ns hp rest (pre++[⟨x.parent,x.cond,x.eS,uf (gK ns (dU pre.length)) fs⟩]) fu (by rw[<-he];simp[qe]) (by omega);rw[ar,aT]at hlen;rw[jC,au,ar,aT,bD (by omega),aH,Xs _ _ hok,aA];show((mF (gK (pre++x::rest) (pre.length:Int)) fs).bind _)=_;rw[WU,Y4 _ fs Q5 (hp.path _) hf h24,aA,L3,aA,Nq (by omega),pU,setAt];rw[ar,dS,cc]at ih;rw[show pre++(⟨x.parent,x.cond,x.eS,uf (gK ns (dU pre.length)) fs⟩:Node)::rest=pre++([⟨x.parent,x.cond,x.eS,uf (gK ns (dU pre.length)) fs⟩]++rest)from rfl,ih,qI];simp
theorem a3a(n:aJ)(fs:aP)(hf:FS fs)(h24:fs.length<=24)(ha:n.bG.length<=1048576)(hs:∀x∈n.bG,x.shape.wt<=1048576)(hp:Bx n.nodes):sY n fs=some ⟨n.rules,n.ends,p6 n.bG fs,sN n.nodes fs,fs,n.cg⟩:=by
 have hl:=hp.len;unfold sY;rw[J8 fs hf.1 (fun f WG=>by have:=aE.fB (hf.2 f WG);omega),aA];have e1:=Xk n fs fs (fun(uc:bX)=>(jC n fs fs uc (fun(rQ:bR)=>(some (⟨n.rules,n.ends,uc,rQ,fs,n.cg⟩:aJ))) fuel 0 n.nodes)) hf n.bG hs ha n.bG [] fuel rfl (by unfold fuel;omega);refine e1.trans ?_;have e2:=Xl n fs fs (p6 n.bG fs) (fun(rQ:bR)=>(some (⟨n.rules,n.ends,p6 n.bG fs,rQ,fs,n.cg⟩:aJ))) hf h24 n.nodes hp n.nodes [] fuel rfl (by unfold fuel;omega);exact e2
theorem Vu{rs:aq}{fs:aP}(h1:rP rs=true)(h2:mM fs=true)(hr:qm aI.wt rs<=1048576):sY (vA rs [] 0) fs=some (vA rs fs 0):=by
 have hv:=qu h1;have h6:=B2 h1;have hFS:=FS.ML (fs:=fs) (by have:=LO h2;omega);have e:vA rs [] 0=⟨rs,(eD [] rs).2,(eD [] rs).1.1,(eD [⟨[],[]⟩] rs).1.2,[],0⟩:=by
  rw[<-NQ h1]
  congr 1
  ·rw[gR,gR]
  ·rw[gR,gR]
 have hf:(eD [⟨[],[]⟩] rs).1.2.map qe=(eD [] rs).1.2.map qe:=by rw[gR,gR];rfl
 rw[e,a3a _ fs hFS (qv h2) (by show(eD [] rs).1.1.length<=1048576;have:=Ma [] h1;omega) (fun x hx=>(xp [] hv x hx).1) (LC [⟨[],[]⟩] hv h6)];unfold vA;dsimp only;have:sN (eD [⟨[],[]⟩] rs).1.2 fs=sN (eD [] rs).1.2 fs:=by
  refine nX fun i=>?_
  rw[Jq,Jq,xj hf (dU i)];rw[gR,gR];cases i with
  |zero=>rfl
  |succ i=>rfl
 rw[this]
theorem a3Z(P:aI->Prop)(hP:∀c c' r,cv c->kq c=some (c',r)->P r)(c:cK)(h:cv c):∃c' rs fs t,ua c=some (c',vA rs fs t)/\cv c'/\rP rs=true/\qm aI.wt rs<=100000/\mM fs=true/\fs.length<=8/\(∀x∈fs,x.rel.length<=2)/\0<=t/\t<50/\∀r∈rs,∃r0,P r0/\r.conds=r0.conds:=by
 unfold ua;obtain⟨c1,rs,e1,h1,r1,r2,r3⟩:=a6V P hP c 4 h (by decide) (by decide);obtain⟨c2,fs,e2,h2,f1,f2,f3⟩:=a6X c1 8 h1 (by decide) (by decide);obtain⟨c3,t,e3,h3,t0,t1⟩:=oM c2 50 h2 (by decide) (by decide);rw[e1,aA,a0D rs (by omega),r1,aH,aA];dsimp only;rw[e2,aA];dsimp only;rw[Vu r1 f1 (by omega),aA,e3,aA];exact⟨_,rs,fs,t,rfl,h3,r1,r2,f1,by omega,f3,t0,t1,r3⟩
end Go.Cx
namespace Go.Cx
open Go.RowKit Go.Proofs Tryz
theorem si.wt5{r:aI}(h:si 5 r):r.wt<=10000:=by
 obtain⟨h1,⟨h2,h3⟩,h4,h5⟩:=h;have c1:=yt (w:=aN.wt) (B:=200) r.conds (fun x hx=>(h3 x hx).wt);have c2:=yt (w:=Action.wt) (B:=200) r.cM (fun x hx=>(h5 x hx).wt);have d1:(200+1)*r.conds.length<=201*5:=cr _ (by omega);have d2:(200+1)*r.cM.length<=201*5:=cr _ (by omega);unfold aI.wt;unfold tw at*;omega
theorem Ua{rs:aq}{fs:aP}(t:Int)(h1:rP rs=true)(h2:mM fs=true):0<(vA rs fs t).nodes.length/\(vA rs fs t).nodes.length<=25/\(vA rs fs t).ends.length<=6/\∀x∈(vA rs fs t).nodes,x.tokens.length<=390625:=by
 have hv:=qu h1;have h6:=B2 h1;have hl:=MZ [] hv h6;refine⟨?_,?_,?_,fun x hx=>?_⟩
 ·show 0<(sN (eD [] rs).1.2 fs).length;rw[Jr,gR];simp
 ·show(sN (eD [] rs).1.2 fs).length<=25;rw[Jr];omega
 ·show(eD [] rs).2.length<=6;rw[(yz [] rs).2.1];omega
 ·obtain⟨i,hi⟩:=eL (show x∈sN (eD [] rs).1.2 fs from hx);exact(QO h1 h2 hi).2.1
theorem ME{α:Type}{l:List α}{i:Nat}{y x:α}(h:x∈l.set i y):x∈l\/x=y:=mI h
theorem a69(c:cK)(h:cv c):∃c' n,wC c=some (c',n)/\cv c'/\Se n/\n.cg<=50/\n.facts.length<=256:=by
 obtain⟨c1,rs,fs,t,e1,h1,r1,r2,f1,f2,_,t0,t1,_⟩:=a3Z (fun _=>True) (fun _ _ _ _ _=>trivial) c h;obtain⟨c2,x,e2,h2,x0,x1⟩:=oM c1 12 h1 (by decide) (by decide);have hn:=a3F t r1 f1 (by omega);obtain⟨n1,n2,n3,n4⟩:=Ua t r1 f1;have hw:qm aI.wt (vA rs fs t).rules<=100000:=r2;have ht:(vA rs fs t).cg<=50:=by show t<=50;omega
 have hfl:(vA rs fs t).facts.length<=256:=by show fs.length<=256;omega
 have hr6:(vA rs fs t).rules.length<=6:=B2 r1;unfold wC;rw[e1,aA];generalize vA rs fs t=n at hn n1 n2 n3 n4 hw hr6 ht hfl;dsimp only;rw[e2,aA];dsimp only;have bq:∀k:Int,x≠k->((x:Int)==k)=false:=fun k h=>cu.2 h
 by_cases q0:x=0
 ·subst q0;exact⟨_,_,rfl,h2,⟨hn.rules,hn.facts,hn.ends,hn.bG,hn.eS,hn.nodes,hn.node⟩,by show(-1:Int)<=50;decide,hfl⟩
 rw[bq 0 q0,aS];by_cases q1:x=1
 ·subst q1;obtain⟨c3,l,e3,h3,l1⟩:=a3c c2 h2;rw[show(((1:Int):Int)==1)=true from rfl,aH,e3,aA];exact⟨_,_,rfl,h3,⟨hn.rules,l1.wt (by decide),hn.ends,hn.bG,hn.eS,hn.nodes,hn.node⟩,ht,by have:=l1.1;show l.length<=256;omega⟩
 rw[bq 1 q1,aS];by_cases q2:x=2
 ·subst q2;obtain⟨c3,k,e3,h3,k0,k1⟩:=oM c2 (((n.nodes.map Node.c).length:Nat):Int) h2 (by rw[au];omega) (by rw[au];omega);obtain⟨c4,v,e4,h4,_⟩:=Ke c3 ([-1,0,1,2,99]:bK) h3 (by decide) (by decide);rw[au]at k1;have hlt:k.toNat<n.nodes.length:=by omega
  have e5:iw n.nodes k=some n.nodes[k.toNat]:=by unfold iw;rw[bD k0,aH];exact aa hlt
  rw[show(((2:Int):Int)==2)=true from rfl,aH,e3,aA];dsimp only;rw[e4,aA];dsimp only;rw[e5,aA];have hx:=hn.node _ (iy hlt);refine⟨_,_,rfl,h4,⟨hn.rules,hn.facts,hn.ends,hn.bG,hn.eS,?_,fun z hz=>?_⟩,ht,hfl⟩
  ·have:=hn.nodes;rw[eR];exact this
  ·rcases ME hz with hz|rfl
   ·exact hn.node z hz
   ·exact hx
 rw[bq 2 q2,aS];by_cases q3:x=3
 ·subst q3;obtain⟨c3,k,e3,h3,k0,k1⟩:=oM c2 (((n.nodes.map Node.c).length:Nat):Int) h2 (by rw[au];omega) (by rw[au];omega);obtain⟨c4,l,e4,h4,l1,_⟩:=a1m c3 1 h3 (by decide) (by decide);rw[au]at k1;have hlt:k.toNat<n.nodes.length:=by omega
  have e5:iw n.nodes k=some n.nodes[k.toNat]:=by unfold iw;rw[bD k0,aH];exact aa hlt
  have hx:=hn.node _ (iy hlt);have h4t:=n4 _ (iy hlt);rw[show(((3:Int):Int)==3)=true from rfl,aH,e3,aA];dsimp only;rw[e5,aA,e4,aA];dsimp only;rw[gF (by omega) (by decide),aH];have hl:=l1.wt (by decide);refine⟨_,_,rfl,h4,⟨hn.rules,hn.facts,hn.ends,hn.bG,hn.eS,?_,fun z hz=>?_⟩,ht,hfl⟩
  ·have:=hn.nodes;rw[eR];exact this
  ·rcases ME hz with hz|rfl
   ·exact hn.node z hz
   ·refine⟨hx.1,?_,fun t ht=>?_⟩
    ·show(_++[_]).length<=1048576;rw[ar,dS];omega
    ·rcases aU.1 ht with ht|ht
     ·exact hx.2.2 t ht
     ·rw[cI.1 ht];have q:=FS.ML hl;exact⟨q.1,q.2,PB.nil⟩
 rw[bq 3 q3,aS];by_cases q4:x=4
 ·subst q4;obtain⟨c3,r,e3,h3,l1⟩:=a68 c2 h2;rw[show(((4:Int):Int)==4)=true from rfl,aH,e3,aA];dsimp only;rw[gF (by omega) (by decide),aH];refine⟨_,_,rfl,h3,⟨?_,hn.facts,hn.ends,hn.bG,hn.eS,hn.nodes,hn.node⟩,ht,hfl⟩;have:=si.wt5 l1;show qm aI.wt (n.rules++[r])<=1048576;rw[Mh,nU,a0Z];omega
 rw[bq 4 q4,aS];by_cases q5:x=5
 ·subst q5;rw[show(((5:Int):Int)==5)=true from rfl,aH,gF (by omega) (by decide),aH];refine⟨_,_,rfl,h2,⟨hn.rules,hn.facts,?_,hn.bG,hn.eS,hn.nodes,hn.node⟩,ht,hfl⟩;show(n.ends++[0]).length<=1048576;rw[ar,dS];omega
 rw[bq 5 q5,aS];exact⟨_,_,rfl,h2,hn,ht,hfl⟩
theorem Uk(code:bK)(h:code.length<=4096):∃n,j7 code=some n/\Se n:=by
 unfold j7;obtain⟨c0,e0,h0⟩:=a6N code h;obtain⟨c1,n,e1,_,q,_⟩:=a69 c0 h0;rw[e0,aA,e1,aA];exact⟨n,rfl,q⟩
end Go.Cx
namespace Go.Cx
open Go.RowKit Go.Proofs Tryz
set_option maxRecDepth 100000
variable{Γ:tZ}{N:Nat->St->Prop}
def CE(aC:bK):Option Bool:=(some (decide ((((aC.map yx).length:Int):Int)>4096)))
theorem Cj{aC:bK}{r:Bool}(h:CE aC=some r):Good prog 7 [D.sl (aC.map yx)] (D.bool r):=by
 refine gd func7 [[none]] 6 fun hr Γ hΓ=>?_
 rw[CE]at h;cases h;exact aX.ret hΓ
def lD(aC:bV)(aZ:bV)(k1:Option Bool):bV->Nat->Option Bool
 | [],i1=>(k1)
 |bS::cZ,i1=>((iw aZ (i1:Int)).bind fun x30=>((rJ bS x30).bind fun F4=>(bif !(F4)then(some false)else(lD aC aZ k1 cZ (i1+1)))))
def tQ(aC:bV)(aZ:bV):Option Bool:=(bif (((aC.map ax.c).length:Int):Int) != ((aZ.map ax.c).length:Int)then(some false)else(lD aC aZ (some true) aC 0))
def I6(aC:bV)(aZ:bV)(dP:Int):St:=⟨[(0,D.sl (aC.map ax.c)),(1,D.sl (aZ.map ax.c)),(5,D.int .i64 dP)],[]⟩
theorem Gr(hΓ:Γ.nt=27){aC:bV}{aZ:bV}{r:Bool}{k1:Option Bool}(dY:k1=some r->Ax Γ N f12 (.q [[none]] (D.bool r)) [1,1,1] ⟨[],[]⟩)(hm1:aC.length<=maxLen):∀(rest:bV) (i1:Nat),aC.drop i1=rest->lD aC aZ k1 rest i1=some r->Ar Γ N f12 (.q [[none]] (D.bool r)) [1,1,0,1,0] (rest.length+1) (I6 aC aZ (i1:Int)):=by
 intro rest
 induction rest with
 |nil=>
  intro i1 b9 h;rw[lD]at h;refine aV fun N1 cj cL=>?_
  exact((aX.ge ax.c b9).a [.hl 0 [] []]).ex hΓ cj (dY h)
 |cons bS cZ ih1=>
  intro i1 b9 h;rw[lD]at h;refine aV fun N1 cj cL=>?_
  obtain⟨x30,h31,h⟩:=aB h;obtain⟨F4,h33,h⟩:=aB h;have gG:=(((((aX.lt ax.c b9).a [.n 8]).l (bJ ax.c 3 (dc b9) rfl)).l (er ax.c 3 h31 rfl)).g (DR h33))
  obtain⟨h34,h⟩|⟨h34,h⟩:=aO h
  ·have h:=aK h;subst h;exact(gG.b h34).ret hΓ
  ·exact((gG.b h34).a [.cn [0,1,5] []]).ct hΓ cL (iS b9 hm1) (ih1 (i1+1) (dn b9) h)
theorem Fi{aC:bV}{aZ:bV}{r:Bool}(h:tQ aC aZ=some r):Good prog 12 [D.sl (aC.map ax.c),D.sl (aZ.map ax.c)] (D.bool r):=by
 refine gd func12 [[none]] 27 fun hr Γ hΓ=>?_
 rw[tQ]at h;obtain⟨h1,h⟩|⟨h1,h⟩:=aO h
 ·have h:=aK h;subst h;exact(aX.b h1).ret hΓ
 ·refine((aX.b h1).a [.cn [0,1,5] []]).lp hΓ (Gr hΓ (fun h=>?_) (by have:=(iE.sl (hr _ (aD (i:=0) rfl))).1;simpa using this) aC 0 rfl h);have h:=aK h;subst h;exact aX.ret hΓ
end Go.Cx
namespace Go.Cx
open Go.RowKit Go.Proofs Tryz
set_option maxRecDepth 100000
variable{Γ:tZ}{N:Nat->St->Prop}
def rZ(aC:bK):Option Bool:=((CE aC).bind fun y1=>(bif y1 then(some true)else((j7 aC).bind fun y4=>((ot y4).bind fun y6=>((oy y4).bind fun y8=>(bif (((y6.map ax.c).length:Int):Int) != ((y8.map ax.c).length:Int)then(some false)else((me y4).bind fun Cc=>(bif !(Cc)then(some ((((y6.map ax.c).length:Int):Int)==0))else((pg y4.rules y4.facts).bind fun Au=>((tQ y6 Au).bind fun Mj=>(some Mj)))))))))))
theorem BF{aC:bK}{r:Bool}(h:rZ aC=some r):Good prog 3 [D.sl (aC.map yx)] (D.bool r):=by
 refine gd func3 [[none]] 30 fun hr Γ hΓ=>?_
 rw[rZ]at h;obtain⟨y1,h2,h⟩:=aB h;obtain⟨h3,h⟩|⟨h3,h⟩:=aO h
 ·have h:=aK h;subst h;exact((aX.g (Cj h2)).b h3).ret hΓ
 ·obtain⟨y4,h5,h⟩:=aB h;obtain⟨y6,h7,h⟩:=aB h;obtain⟨y8,h9,h⟩:=aB h;have nB:=(((((aX.g (Cj h2)).b h3).g (yj h5)).g (B9 h7)).g (BH h9))
  obtain⟨h10,h⟩|⟨h10,h⟩:=aO h
  ·have h:=aK h;subst h;exact(nB.b h10).ret hΓ
  ·obtain⟨Cc,h12,h⟩:=aB h;have gG:=((nB.b h10).g (we h12))
   obtain⟨h13,h⟩|⟨h13,h⟩:=aO h
   ·cases h;exact(gG.b h13).ret hΓ
   ·obtain⟨Au,h15,h⟩:=aB h;obtain⟨Mj,h17,h⟩:=aB h;have h:=aK h;subst h;exact(((gG.b h13).g (C1 h15)).g (Fi h17)).ret hΓ
end Go.Cx
namespace Go.Cx
open Go.RowKit Go.Proofs Tryz
namespace LawFnConflicts
theorem OZ(l:bV):tQ l l=some true:=by
 unfold tQ;rw[show((((l.map ax.c).length:Int):Int) != ((l.map ax.c).length:Int))=false by simp,aS];have main:∀(r:bV) (i:Nat),l.drop i=r->lD l l (some true) r i=some true:=by
  intro r
  induction r with
  |nil=>intro i _;rfl
  |cons x r ih=>
   intro i h;have hx:l[i]?=some x:=(drop_cons h).1;have L3:iw l (i:Int)=some x:=by unfold iw;rw[bD (by omega),aH];exact hx
   rw[lD,L3,aA,a3l,aA,bD rfl,bh,aS];exact ih (i+1) (drop_cons h).2.2
 exact main l 0 rfl
theorem Zo(code:bK)(hd:code.length<=4096->∃n,j7 code=some n/\Se n):rZ code=some true:=by
 unfold rZ CE;rw[aA,au];by_cases hc:code.length<=4096
 ·rw[bM (by omega),aS];obtain⟨n,e1,hn⟩:=hd hc;rw[e1,aA,a5S n hn.rules hn.facts,aA,a6D n hn.rules hn.facts,aA];generalize hX:(bif QD n then Sr n n.rules 0 else [])=X;rw[show((((X.map ax.c).length:Int):Int) != ((X.map ax.c).length:Int))=false by simp,aS,Xm n hn.rules hn.facts,aA];cases hb:QD n with
  |false=>
   rw[hb,aS]at hX;subst hX;rfl
  |true=>
   rw[hb,aH,a2C hb]at hX;subst hX;rw[bh,aS,a5N _ _ hn.rules hn.facts,aA,OZ,aA]
 ·rw[bD (by omega),aH]
theorem X0(code:bK):Good prog 3 [D.sl (code.map yx)] (.bool true):=BF (Zo code (Uk code))
end LawFnConflicts
end Go.Cx
namespace Go.Cx
open Go.RowKit
inductive Sh where
 |int (k:IntKind)
 |str
 |bool
 |sl (row:List Sh)
mutual
inductive Mr:Sh->D->Prop
 |int (k:IntKind) (n:Int):Mr (.int k) (.int k n)
 |str (s:Bytes):Mr .str (.str s)
 |bool (b:Bool):Mr .bool (.bool b)
 |sl (row:List Sh) (rows:List aL):(∀r∈rows,uD row r)->Mr (.sl row) (.sl rows)
inductive uD:List Sh->List D->Prop
 |nil:uD [] []
 |cons (s:Sh) (ss:List Sh) (d:D) (ds:aL):Mr s d->uD ss ds->uD (s::ss) (d::ds)
end
theorem uD.app{s1 s2:List Sh}{d1 d2:aL}(h1:uD s1 d1)(h2:uD s2 d2):uD (s1++s2) (d1++d2):=by
 induction s1 generalizing d1 with
 |nil=>cases h1;exact h2
 |cons s s1 ih=>cases h1 with|cons _ _ d ds h h'=>exact .cons _ _ _ _ h (ih h')
theorem uD.length{s:List Sh}{d:aL}(h:uD s d):d.length=s.length:=by
 induction s generalizing d with
 |nil=>cases h;rfl
 |cons s ss ih=>cases h with|cons _ _ d ds h h'=>simp[ih h']
def Of(P:Program):Nat->List Field->List (List Sh)->Bool
 |_,[],[]=>true
 |off,f::fs,r::rs=>(f.offset==off)&&(r.length==P.cellsOf f.type)&&Of P (off+r.length) fs rs
 |_,_,_=>false
def AQ(P:Program):Nat->TypeId->Option (List Sh)
 |0,_=>none
 |n+1,t=>match P.underlying t with
  |some .bool=>some [.bool]
  |some (.int k)=>some [.int k]
  |some .string=>some [.str]
  |some (.slice e)=>(AQ P n e).bind fun r=>if r.length=P.cellsOf e/\0<r.length then some [.sl r]else none
  |some (.struct fs)=>(fs.toList.mapM fun f=>AQ P n f.type).bind fun rs=>if Of P 0 fs.toList rs=true/\rs.flatten.length=P.cellsOf t then some rs.flatten else none
  |_=>none
theorem QL{α β:Type}{f:α->Option β}:∀ {l:List α} {ys:List β},l.mapM f=some ys->ys.length=l.length/\∀(i:Nat) x,l[i]?=some x->∃y,ys[i]?=some y/\f x=some y:=by
 intro l
 induction l with
 |nil=>intro ys h;simp at h;subst h;simp
 |cons a l ih=>
  intro ys h;simp only[Dh,Option.bind_eq_bind,Option.pure_def]at h;cases ha:f a with
  |none=>simp[ha]at h
  |some b=>
   cases hl:l.mapM f with
   |none=>simp[ha,hl]at h
   |some bs=>
    simp[ha,hl]at h;subst h;obtain⟨h1,h2⟩:=ih hl;refine⟨by simp[h1],fun i x hx=>?_⟩;cases i with
    |zero=>simp at hx;subst hx;exact⟨b,by simp,ha⟩
    |succ i=>simp at hx;obtain⟨y,k1,k2⟩:=h2 i x hx;exact⟨y,by simpa using k1,k2⟩
section
variable{P:Program}{w:World}{H:Type}{enc:TypeId×Value->H}{base:Nat}{sp:Nat->Bool}{held:Bool}
theorem LP{a:Addr}{n:Nat}{cs:bZ}(h:w.cells? base a n=some cs):cs.length=n/\∀(j:Nat) c,cs[j]?=some c->w.cell? (a.add j)=some c:=by
 unfold World.cells? at h;split at h
 ·obtain⟨h1,h2⟩:=QL h;refine⟨by simpa using h1,fun j c hj=>?_⟩;have hlt:j<n:=by have:=(aF.1 hj).1;rw[h1]at this;simpa using this
  obtain⟨y,k1,k2⟩:=h2 j j (by simp[hlt]);rw[hj]at k1;cases k1;exact k2
 ·cases h
theorem a3B{k:IntKind}{n:Int}(h:(Lit.int k n).wf=true):pF k n:=by
 simpa[Lit.wf,pF]using h
theorem Tk:∀(fuel:Nat) {t:TypeId} {cs:bZ} {d:DataW H} {ps:List MemPlace} {n:Nat} {shs:List Sh},
 DataW.trod enc P w base sp held fuel t cs=some (d,ps)->AQ P n t=some shs->∃ds bs,mR w cs ds bs/\uD shs ds:=by
 intro fuel
 induction fuel with
 |zero=>intro t cs d ps n shs h;simp[DataW.trod]at h
 |succ fuel ih=>
  intro t cs d ps n shs h hf;cases n with
  |zero=>simp[AQ]at hf
  |succ n=>
   simp only[AQ]at hf;simp only[DataW.trod]at h;split at hf
   ·rename_i hu;cases hf;simp only[hu]at h;split at h<;>rename_i h1<;>try(simp at h1;done)
    all_goals try(cases h;done)
    all_goals simp at h1
    exact⟨[.bool _],[],.cons _ _ _ _ [] [] rfl (.bool _) .nil,.cons _ _ _ _ (.bool _) .nil⟩
   ·rename_i k hu;cases hf;simp only[hu]at h;split at h<;>rename_i h1<;>try(simp at h1;done)
    all_goals try(cases h;done)
    all_goals simp at h1
    rename_i k1 k2 m _;subst h1;split at h
    ·rename_i hc;obtain⟨rfl,hwf⟩:=hc;exact⟨[.int _ _],[],.cons _ _ _ _ [] [] rfl (.int _ _ (a3B hwf)) .nil,.cons _ _ _ _ (.int _ _) .nil⟩
    ·cases h
   ·rename_i hu;cases hf;simp only[hu]at h;split at h<;>rename_i h1<;>try(simp at h1;done)
    all_goals try(cases h;done)
    all_goals simp at h1
    split at h
    ·rename_i hc;exact⟨[.str _],[],.cons _ _ _ _ [] [] rfl (.str _ hc) .nil,.cons _ _ _ _ (.str _) .nil⟩
    ·cases h
   ·rename_i e hu;cases hr:AQ P n e with
    |none=>simp[hr]at hf
    |some r=>
     simp only[hr,aA]at hf;split at hf
     ·rename_i hsz;cases hf;simp only[hu]at h;split at h<;>rename_i h1<;>try(simp at h1;done)
      all_goals try(cases h;done)
      all_goals simp at h1
      ·exact⟨[.sl []],[],.cons _ _ _ _ [] [] rfl .wI .nil,.cons _ _ _ _ (.sl _ _ (by simp)) .nil⟩
      ·rename_i a len cap
       try subst h1
       split at h
       ·rename_i hc;cases hm:(List.range len).mapM (fun i=>(w.cells? base (a.add (i*P.cellsOf e)) (P.cellsOf e)).bind (DataW.trod enc P w base sp held fuel e))with
        |none=>simp[hm]at h
        |some elems=>
         obtain⟨_,hall⟩:=QL hm;have hel:∀i,i<len->∃cs ds bs,w.cells? base (a.add (i*P.cellsOf e)) (P.cellsOf e)=some cs/\mR w cs ds bs/\uD r ds:=by
          intro i hi;obtain⟨y,_,hy⟩:=hall i i (by simp[hi]);obtain⟨cs,hcs,hy⟩:=nY.1 hy;obtain⟨ds,bs,k1,k2⟩:=ih (d:=y.1) (ps:=y.2) hy hr;exact⟨cs,ds,bs,hcs,k1,k2⟩
         by_cases hl0:len=0
         ·subst hl0;exact⟨[.sl []],[],.cons _ _ _ _ [] [] rfl (.lP a cap hc.2.2) .nil,.cons _ _ _ _ (.sl _ _ (by simp)) .nil⟩
         ·
          obtain⟨cs0,ZM,V4,RW,hr0,aAg⟩:=hel 0 (by omega);obtain⟨hl1,L3⟩:=LP RW;have hpos:0<cs0.length:=by rw[hl1];omega
          have hc0:=L3 0 cs0[0] (aa hpos);have ha0:(a.add (0*P.cellsOf e)).add 0=a:=by simp[Addr.add]
          rw[ha0]at hc0;obtain⟨b,off,spot⟩:=a;have a5G:spot=none:=by
           cases spot with
           |none=>rfl
           |some x=>
            unfold World.cell? at hc0;split at hc0
            ·simp at hc0
            ·cases hc0
          subst a5G;have hb:b<w.heap.size:=World.block_lt_of_cell? w _ hc0;have build:∀m,m<=len->∃(rows:List aL) (cs:bZ) (bs:aW),rows.length=m/\cs.length=m*P.cellsOf e/\(∀(j:Nat) c,cs[j]?=some c->w.cell? ⟨b,off+j,none⟩=some c)/\
           mR w cs rows.flatten bs/\∀x∈rows,uD r x:=by
           intro m
           induction m with
           |zero=>intro _;exact⟨[],[],[],rfl,by simp,by simp,.nil,by simp⟩
           |succ m ihm=>
            intro hm1;obtain⟨rows,cs,bs,q1,q2,q3,q4,q5⟩:=ihm (by omega);obtain⟨cs',ds',bs',g1,g2,g3⟩:=hel m (by omega);obtain⟨g4,g5⟩:=LP g1;refine⟨rows++[ds'],cs++cs',bs++bs',by simp[q1],by simp[q2,g4,k7],?_,?_,?_⟩
            ·intro j c hj;by_cases hlt:j<cs.length
             ·rw[av hlt]at hj;exact q3 j c hj
             ·rw[az (by omega)]at hj;have:=g5 _ c hj;rw[Addr.add_lit,Addr.add_lit,q2]at this;have e1:off+m*P.cellsOf e+(j-m*P.cellsOf e)=off+j:=by omega
              rw[e1]at this;exact this
            ·rw[jF];have:=q4.app g2;simpa using this
            ·intro x hx;rcases aU.1 hx with hx|hx
             ·exact q5 x hx
             ·simp at hx;subst hx;exact g3
          obtain⟨rows,cs,bs,q1,q2,q3,q4,q5⟩:=build len (bO _);subst q1;refine⟨[.sl rows],b::bs,?_,.cons _ _ _ _ (.sl _ _ q5) .nil⟩;have:=mR.cons (w:=w) _ [] _ [] _ [] rfl (Rd.sl b off cap r.length rows cs bs hb hc.2.1 hc.2.2 (fun x hx=>(q5 x hx).length) q3 q4) .nil;simpa using this
       ·cases h
     ·cases hf
   ·rename_i fs hu;cases hr:fs.toList.mapM (fun f=>AQ P n f.type)with
    |none=>simp[hr]at hf
    |some rs=>
     simp only[hr,aA]at hf;split at hf
     ·rename_i hok;cases hf;simp only[hu]at h;split at h
      ·rename_i hlen;cases hm:fs.toList.mapM (fun f=>DataW.trod enc P w base sp held fuel f.type ((cs.drop f.offset).take (P.cellsOf f.type)))with
       |none=>simp[hm]at h
       |some xs=>
        have go:∀(fl:List Field) (rl:List (List Sh)) (xl:List (DataW H×List MemPlace)) (off:Nat),fl.mapM (fun f=>AQ P n f.type)=some rl->
         fl.mapM (fun f=>DataW.trod enc P w base sp held fuel f.type ((cs.drop f.offset).take (P.cellsOf f.type)))=some xl->Of P off fl rl=true->
         ∃ds bs,mR w ((cs.drop off).take rl.flatten.length) ds bs/\uD rl.flatten ds:=by
         intro fl
         induction fl with
         |nil=>
          intro rl xl off h1 _ _;simp at h1;subst h1;exact⟨[],[],by simpa using mR.nil,.nil⟩
         |cons f fl ihf=>
          intro rl xl off h1 h2 h3;simp only[Dh,Option.bind_eq_bind,Option.pure_def]at h1 h2;cases a1:AQ P n f.type with
          |none=>simp[a1]at h1
          |some r1=>
           cases a2:fl.mapM (fun f=>AQ P n f.type)with
           |none=>simp[a1,a2]at h1
           |some rl'=>
            simp[a1,a2]at h1;subst h1;cases b1:DataW.trod enc P w base sp held fuel f.type ((cs.drop f.offset).take (P.cellsOf f.type))with
            |none=>simp[b1]at h2
            |some x1=>
             cases b2:fl.mapM (fun f=>DataW.trod enc P w base sp held fuel f.type ((cs.drop f.offset).take (P.cellsOf f.type)))with
             |none=>simp[b1,b2]at h2
             |some xl'=>
              simp only[Of,aR,cV]at h3;obtain⟨⟨o1,o2⟩,o3⟩:=h3;obtain⟨KK,V5,k1,k2⟩:=ih (d:=x1.1) (ps:=x1.2) b1 a1;obtain⟨ds2,Ya,k3,k4⟩:=ihf rl' xl' (off+r1.length) a2 b2 o3;refine⟨KK++ds2,V5++Ya,?_,by simpa using k2.app k4⟩;have e1:(cs.drop off).take (r1::rl').flatten.length=(cs.drop f.offset).take (P.cellsOf f.type)++(cs.drop (off+r1.length)).take rl'.flatten.length:=by
               rw[o1,<-o2,eP,ar,<-fe,List.take_add]
              rw[e1];exact k1.app k3
        obtain⟨ds,bs,k1,k2⟩:=go fs.toList rs xs 0 hr hm hok.1;rw[zA,hok.2,<-hlen,wj]at k1;exact⟨ds,bs,k1,k2⟩
      ·cases h
     ·cases hf
   ·cases hf
def VU(P:Program)(n:Nat)(t:TypeId)(d:D):Prop:=
 (zz P t=some true/\∃shs cells,AQ P n t=some shs/\d=.agg cells/\uD shs cells)\/(zz P t=some false/\∃sh,AQ P n t=some [sh]/\Mr sh d)
inductive NE(P:Program)(n:Nat):List TypeId->List D->Prop
 |nil:NE P n [] []
 |cons (t:TypeId) (ts:List TypeId) (d:D) (ds:aL):VU P n t d->NE P n ts ds->NE P n (t::ts) (d::ds)
def Pc(P:Program)(n:Nat)(t:TypeId):Bool:=
 match zz P t,AQ P n t with
 |some true,some _=>(match P.underlying t with|some (.struct _)=>true|_=>false)
 |some false,some [_]=>true
 |_,_=>false
theorem XN{n:Nat}{t:TypeId}{v:Value}{d:DataW H}{ps:List MemPlace}(hok:Pc P n t=true)(hval:Value.okWide P w .any base t v)(h:DataW.Trod enc P w 0 sp held t v d ps):
 ∃x bs,Rd w v x bs/\VU P n t x:=by
 obtain⟨fuel,h⟩:=h;unfold Pc at hok;split at hok
 ·rename_i shs ht hf;split at hok
  ·rename_i fs hu;unfold Value.okWide at hval;simp only[hu]at hval;obtain⟨cs,rfl,_⟩:=hval;obtain⟨ds,bs,k1,k2⟩:=Tk fuel h hf;refine⟨.agg ds,bs,?_,.inl ⟨ht,shs,ds,hf,rfl,k2⟩⟩;have:=Rd.agg (w:=w) cs.toList ds bs k1;simpa using this
  ·cases hok
 ·rename_i sh ht hf;have hone:v.oneCell'=true:=by
   unfold zz at ht;split at ht<;>first
    | (cases ht;done)
    |skip
   rename_i dsc h1 h2 hu;unfold Value.okWide at hval;rw[hu]at hval;cases v with
   |agg cs=>
    cases dsc<;>first
     | (exfalso;exact h1 _ rfl)
     | (exfalso;exact h2 _ _ rfl)
     | (simp[Cell.okWide,Cell.ok,hu]at hval)
   |tuple vs=>
    cases dsc<;>first
     | (exfalso;exact h1 _ rfl)
     | (exfalso;exact h2 _ _ rfl)
     | (simp[Cell.okWide,Cell.ok,hu]at hval)
   |_=>rfl
  rw[Nb hone]at h;obtain⟨ds,bs,k1,k2⟩:=Tk fuel h hf;cases k2 with
  |cons _ _ x ds' hx hn=>
   cases hn;cases k1 with
   |cons _ _ _ _ b1 b2 _ hrd hn=>exact⟨x,b1,hrd,.inr ⟨ht,sh,hf,hx⟩⟩
 ·cases hok
theorem Uc{n:Nat}:∀ {ts:List TypeId} {vs:bZ} {ds:List (DataW H)} {ps:List MemPlace},(∀t∈ts,Pc P n t=true)->
 (∀(j:Nat) t v,ts[j]?=some t->vs[j]?=some v->Value.okWide P w .any base t v)->DataW.TrodAll enc P w 0 sp held ts vs ds ps->
 ∃xs bs,Sf w vs xs bs/\NE P n ts xs/\ds.length=ts.length:=by
 intro ts
 induction ts with
 |nil=>
  intro vs ds ps _ _ h;cases vs with
  |nil=>cases ds with
   |nil=>exact⟨[],[],.nil,.nil,rfl⟩
   |cons=>cases h
  |cons=>cases ds<;>cases h
 |cons t ts ih=>
  intro vs ds ps hok hval h;cases vs with
  |nil=>cases h
  |cons v vs=>
   cases ds with
   |nil=>cases h
   |cons d ds=>
    obtain⟨p,q,h1,h2,rfl⟩:=h;obtain⟨x,b1,k1,k2⟩:=XN (hok t (by simp)) (hval 0 t v rfl rfl) h1;obtain⟨xs,b2,k3,k4,k5⟩:=ih (fun u hu=>hok u (by simp[hu])) (fun j u y hj hv=>hval (j+1) u y (by simpa using hj) (by simpa using hv)) h2;exact⟨x::xs,b1++b2,.cons _ _ _ _ _ _ k1 k3,.cons _ _ _ _ k2 k4,by simp[k5]⟩
theorem N9{W W':World}(hl:laidOutB P=true)(hb:Below W.heap.size W W')(Ym:Nat->Bool):∀ {ts:List TypeId} {vs:bZ} {ds:List (DataW H)} {ps:List MemPlace},
 (∀t∈ts,P.readableRec t=true/\t<P.types.size)->DataW.TrodAll enc P W 0 (fun _=>true) true ts vs ds ps->(∀x∈ps,x.block<W.heap.size)->(∀x∈ps,Ym x.block=true)->
 DataW.TrodAll enc P W' 0 Ym true ts vs ds ps:=by
 intro ts
 induction ts with
 |nil=>intro vs ds ps _ h _ _;cases vs<;>cases ds<;>first|exact h|cases h
 |cons t ts ih=>
  intro vs ds ps ht h hlt hsp;cases vs with
  |nil=>cases h
  |cons v vs=>
   cases ds with
   |nil=>cases h
   |cons d ds=>
    obtain⟨p,q,h1,h2,rfl⟩:=h;refine⟨p,q,?_,ih (fun u hu=>ht u (by simp[hu])) h2 (fun x hx=>hlt x (by simp[hx])) (fun x hx=>hsp x (by simp[hx])),rfl⟩;exact WideElems.Trod_stays hl (ht t (by simp)).1 (ht t (by simp)).2 h1 (fun x hx=>hb.same (hlt x (by simp[hx]))) (fun x hx=>hsp x (by simp[hx]))
theorem zE.vo{w:World}{v:Value}{b:Bool}{bs ts us:aW}(h:zE w v (.bool b) bs ts us):v=.bool b:=by
 cases h with|v h=>cases h with|cell h=>cases h with|pure h=>cases h;rfl
theorem OV{f:FuncId}{fn:Func}{s:ChangeSpec}{n rt:Nat}{W:World}{args:Array Value}{ds gs:List (DataW H)}{before:List MemPlace}
 (hl:laidOutB P=true) (TD:∀t∈fn.params.toList,Pc P n t=true/\P.readableRec t=true/\t<P.types.size) (hres:fn.resultTypes= #[rt]) (hrt:P.underlying rt=some .bool)
 (hv:s.vars=[]) (hfn:∀ds:List (DataW H),ds.length=fn.params.toList.length->s.fn H ds= {results:=[.lit (.bool true)],args:=ds})
 (hvs:Ms W fun _=>False) (nQ:∀xs,NE P n fn.params.toList xs->Good P f xs (.bool true))
 (hval:∀(j:Nat) t v,fn.params[j]?=some t->args[j]?=some v->Value.okWide P W .any base t v)
 (hW:DataW.Whole enc P fn.params.toList s.vars false W args.toList ds gs before):
 Calls P f args W fun e W'=>∃v,e=.returned v/\s.post enc P fn false true false false W args v W':=by
 have hW':=hW;obtain⟨p,q,hA,hV,hpq,hz,_⟩:=hW;have hgs:gs=[]/\q=[]:=by
  rw[hv]at hV;cases gs with
  |nil=>exact⟨rfl,hV⟩
  |cons=>cases hV
 obtain⟨rfl,rfl⟩:=hgs;rw[dA]at hpq;subst hpq;obtain⟨xs,bs,k1,k2,k3⟩:=Uc (fun t ht=>(TD t ht).1) (fun j t v hj hv=>hval j t v (by simpa using hj) (by simpa using hv)) hA;have hc:=(nQ xs k2).2 W (fun _=>0) args.toList bs hvs k1 (fun _ _=>rfl) (fun b hb=>absurd rfl hb) (fun _=>Di _);rw[k6]at hc;refine hc.mono ?_;rintro e W' ⟨v,bs',ts,us,rfl,hb,hr,_⟩;refine⟨v,rfl,?_⟩;obtain rfl:=hr.vo;have hlt:=hW'.lt;have hfd:=hfn ds k3;have WV:∀(b:Nat) (sp:Nat->Bool) (hd:Bool),DataW.TrodAll enc P W' b sp hd fn.resultTypes.toList ((Value.bool true).resultList fn.resultTypes.size) [.lit (.bool true)] []:=by
  intro b sp hd;rw[hres];exact⟨[],[],⟨1,by simp[DataW.trod,hrt,Value.cells]⟩,rfl,rfl⟩
 have hargs:∀Ym:Nat->Bool,(∀x∈before,Ym x.block=true)->DataW.TrodAll enc P W' 0 Ym true fn.params.toList args.toList ds before:=
  fun Ym hsp=>N9 hl hb Ym (fun t ht=>(TD t ht).2) hA hlt hsp
 have hvars:∀Ym:Nat->Bool,DataW.TrodVars enc P W' Ym s.vars [] []:=fun Ym=>by rw[hv];rfl
 unfold ChangeSpec.post;refine⟨ds,[],before,[],before,[],hW',?_,?_,?_,hb.frame _,fun h=>by cases h⟩
 ·rw[dA,hfd];exact WV _ _ _
 ·rw[dA,hfd];exact hargs _ (fun x hx=>by simpa using hlt x hx)
 ·rw[dA,hfd];exact hvars _
end
end Go.Cx
namespace Go.Cx
open Go.RowKit
abbrev yN:=List Sh
theorem U3{α:Type}{c:α->aL}{row:yN}(hc:∀r,uD row r->∃x,r=c x):∀ {rows:List aL},(∀r∈rows,uD row r)->∃l:List α,rows=l.map c:=by
 intro rows
 induction rows with
 |nil=>intro _;exact⟨[],rfl⟩
 |cons r rows ih=>
  intro h;obtain⟨x,rfl⟩:=hc r (h r (by simp));obtain⟨l,rfl⟩:=ih (fun s hs=>h s (by simp[hs]));exact⟨x::l,rfl⟩
theorem ZI{α:Type}{c:α->aL}{row:yN}(hc:∀r,uD row r->∃x,r=c x){d:D}(h:Mr (.sl row) d):∃l:List α,d=.sl (l.map c):=by
 cases h with
 |sl _ rows hr=>
  obtain⟨l,rfl⟩:=U3 hc hr;exact⟨l,rfl⟩
theorem Vm{k:IntKind}{d:D}(h:Mr (.int k) d):∃n,d=.int k n:=by cases h;exact⟨_,rfl⟩
theorem RH{s:Sh}{ss:yN}{ds:aL}(h:uD (s::ss) ds):∃d r,ds=d::r/\Mr s d/\uD ss r:=by
 cases h with|cons _ _ d r h1 h2=>exact⟨d,r,rfl,h1,h2⟩
theorem U4{ds:aL}(h:uD [] ds):ds=[]:=by cases h;rfl
theorem ZJ(r:aL)(h:uD [.int .u8] r):∃s,r=yx s:=by
 obtain⟨_,_,rfl,h1,h⟩:=RH h;cases U4 h;obtain⟨s,rfl⟩:=Vm h1;exact⟨s,rfl⟩
section
variable{P:Program}{n:Nat}{t:TypeId}{d:D}
theorem VU.cell{sh:Sh}(ha:zz P t=some false)(hf:AQ P n t=some [sh])(h:VU P n t d):Mr sh d:=by
 rcases h with⟨h1,_⟩|⟨_,sh',h1,h2⟩
 ·rw[ha]at h1;cases h1
 ·rw[hf]at h1;cases h1;exact h2
end
end Go.Cx
namespace Go.Cx
open Go.ChangeShapes Go.WideShapes Go.ChangeAt Go.RowKit
def jp0(P:Program)(f:FuncId)(fn:Func)(s:ChangeSpec)(c:OpenClaim):Bool:=(c.wf (OpenSpec.ofChange s)&&laidOutB P&&mapsRowed P)
def jp1(P:Program)(f:FuncId)(fn:Func)(s:ChangeSpec)(c:OpenClaim):Bool:=(fn.params.all (P.readableRec ·)&&namedTie P c.named s.vars)&&((c.stops==[])&&(P.stops==[])&&(c.knobs==[])&&(P.stopKnobs==[]))&&((c.maps==(fn.params.toList++s.plain.varTypes P).any (P.mapsRec ·))&&(c.ifaces==(fn.params.toList++s.plain.varTypes P).any (P.ifacesRec ·))&&(c.mapsOut==P.mapsAmong fn.resultTypes.toList))&&((c.loops==(fn.params.toList++s.plain.varTypes P).any (P.loopsFrom ·))&&(c.wideKeys==(fn.params.toList++s.plain.varTypes P++fn.resultTypes.toList).any (P.wideKeysFrom ·)))&&(s.vars.all (P.varReadable ·)&&fn.resultTypes.all (fun t=>P.readableRec t&&decide (t<P.types.size))&&(c.ifacesOut==fn.resultTypes.toList.any (P.ifacesRec ·))&&(c.loopsOut==fn.resultTypes.toList.any (P.loopsFrom ·)))&&((c.kinds==(if c.domain.isEmpty then []else fn.params.toList.map fun t=>match P.underlying t with|some (.int k)=>some k|_=>none))&&(c.pinned==c.pinnedBy))&&((c.veiled==(fn.params.toList++s.plain.varTypes P++fn.resultTypes.toList).any (P.veiledRec ·))&&c.veiledFits P fn.params.toList (fn.params.toList++s.plain.varTypes P++fn.resultTypes.toList))
def jp2(P:Program)(f:FuncId)(fn:Func)(s:ChangeSpec)(c:OpenClaim):Bool:=(c.inPlace==P.inPlace f)&&(c.unfollowed==P.unfollowed f)&&(c.recurses==P.recurses f)&&(c.named==P.varsNamed f)
def jp3(P:Program)(f:FuncId)(fn:Func)(s:ChangeSpec)(c:OpenClaim):Bool:=(c.plainKeys==P.plainKeys)&&(c.shortTexts.isNone&&P.stopsHeard)&&P.mayEnter&&(c.lifted==P.liftsFinal)&&(P.make==some c.make)
theorem UM{P:Program}{f:FuncId}{fn:Func}{s:ChangeSpec}{c:OpenClaim}(h0:jp0 P f fn s c=true)(h1:jp1 P f fn s c=true)(h2:jp2 P f fn s c=true)(h3:jp3 P f fn s c=true):joinedFacts P f fn s c=true:=by
 unfold jp0 at h0;unfold jp1 at h1;unfold jp2 at h2;unfold jp3 at h3;unfold joinedFacts;simp only[aR]at h0 h1 h2 h3⊢;obtain⟨⟨aBX,aBY⟩,aBZ⟩:=h0;obtain⟨⟨⟨⟨⟨⟨⟨aBa,aBb⟩,⟨⟨⟨aBc,aBd⟩,aBe⟩,aBf⟩⟩,⟨⟨aBk,aBl⟩,aBm⟩⟩,⟨aBn,aBo⟩⟩,⟨⟨⟨aBp,aBq⟩,aBr⟩,aBs⟩⟩,⟨a9w,a9x⟩⟩,⟨a9y,a9z⟩⟩:=h1;obtain⟨⟨⟨aBg,aBh⟩,aBi⟩,aBj⟩:=h2;obtain⟨⟨⟨⟨a9q,⟨a9r,a9s⟩⟩,a9t⟩,a9u⟩,a9v⟩:=h3
 and_intros<;>assumption
end Go.Cx

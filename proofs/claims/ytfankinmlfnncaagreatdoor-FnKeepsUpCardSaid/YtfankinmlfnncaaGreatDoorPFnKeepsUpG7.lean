/- Numbers as texts, and plain names of variables, in plain words: of the program and of the reference. No condition but bounds on sizes. -/
import Derived.Test.YtfankinmlfnncaaGreatDoorPFnKeepsUpG6
import Derived.Lib.ItoaNum
import Derived.Lib.ItoaLen
import Derived.Lib.Atoi
set_option linter.unusedVariables false
set_option linter.unusedSimpArgs false
namespace Go.Cx
open Go.RowKit Go.Proofs Tryz
theorem a33:∀(k v:Nat),v<10^k->1<=k->Lib.nDigits v<=k:=by
 intro k
 induction k with
 |zero=>intro v _ h;omega
 |succ k ih=>
  intro v hv _;by_cases h10:v<10
  ·rw[Lib.nDigits_small h10];omega
  ·rw[Lib.nDigits_big h10];have h3:v/10<10^k:=by rw[xp]at hv;omega
   have hk1:1<=k:=by
    cases k with
    |zero=>simp at hv;omega
    |succ k=>omega
   have:=ih (v/10) h3 hk1;omega
theorem Ua{u:Nat}(h:u<=9223372036854775808):Lib.nDigits u<=19:=a33 19 u (by omega) (by omega)
theorem aAd(u:Nat):UInt8.ofNat (IntKind.u8.wrap (IntKind.i64.wrap (48+((u:Int)%10)))).toNat=UInt8.ofNat (48+u%10):=by
 rw[dY (k:=.i64) (qQ.i64.2 (by omega)),dY (qQ.u8.2 (by omega))]
 congr 1
theorem a4r(k:Option Bytes):∀(n u:Nat) (acc:Bytes),Lib.nDigits u<=n->acc.length+Lib.nDigits u<=1000->ia k n (u:Int) acc=some (Lib.decDigits u++acc):=by
 intro n
 induction n with
 |zero=>intro u acc h _;have:=Lib.nDigits_pos u;omega
 |succ n ih=>
  intro u acc hn hl;have hp:=Lib.nDigits_pos u;have e0:(decide (0<=(u:Int))&&decide (0<(10:Int)))=true:=by simp
  have e1:decide (([UInt8.ofNat (48+u%10)]:Bytes).length+(acc:Bytes).length<=maxLen)=true:=by unfold maxLen;simp;omega
  rw[ia];simp only[aAd,e0,e1,aF];by_cases h10:u<10
  ·have e2:(((u:Int)/10:Int)==0)=true:=by rw[cZ];omega
   rw[e2,aF,Lib.decDigits,dif_pos h10,Nat.mod_eq_of_lt h10]
  ·have e2:(((u:Int)/10:Int)==0)=false:=by rw[cw];omega
   have e3:((u:Int)/10)=((u/10:Nat):Int):=by omega
   have hd:=Lib.nDigits_big h10;rw[e2,aM,e3,ih (u/10) _ (by omega) (by simp;omega)]
   conv=>rhs;rw[Lib.decDigits,dif_neg h10]
   simp
theorem a9F(m u:Nat)(h:u<=9223372036854775807):iE (m+1) (u:Int)=some (Lib.decDigits u):=by
 rw[iE];have e1:((u:Int)==(-9223372036854775808))=false:=by rw[cw];omega
 have e2:decide ((u:Int)<0)=false:=by simp
 have:=Ua (u:=u) (by omega);rw[e1,aM,e2,aM,a4r _ _ _ _ (by unfold fuel;omega) (by simp;omega)];simp
theorem Zf:Lib.itoa (-9223372036854775808)=[45,57,50,50,51,51,55,50,48,51,54,56,53,52,55,55,53,56,48,56]:=by
 unfold Lib.itoa;simp[Lib.decDigits]
theorem a3N(n:Int)(h:qQ .i64 n):jf n=some (Lib.itoa n):=by
 have h:=qQ.i64.1 h;unfold jf;rw[show fuel=4194303+1 from rfl,iE];by_cases hm:n= -9223372036854775808
 ·subst hm;rw[Zf];rfl
 have e1:((n:Int)==(-9223372036854775808))=false:=by rw[cw];exact hm
 rw[e1,aM];by_cases hn:n<0
 ·have e2:decide (n<0)=true:=by simpa using hn
  have e3:IntKind.i64.wrap (0-n)=((n.natAbs:Nat):Int):=by rw[dY (qQ.i64.2 (by omega))];omega
  have hd:=Ua (u:=n.natAbs) (by omega);rw[e2,aF,e3,show(4194303:Nat)=4194302+1 from rfl,a9F _ _ (by omega),aA];have e4:decide (([45]:Bytes).length+(Lib.decDigits n.natAbs:Bytes).length<=maxLen)=true:=by unfold maxLen;rw[Lib.decDigits_length];simp;omega
  rw[e4,aF];unfold Lib.itoa;rw[bL hn];rfl
 ·have e2:decide (n<0)=false:=by simpa using hn
  have e3:n=((n.toNat:Nat):Int):=by omega
  have:=Ua (u:=n.toNat) (by omega);rw[e2,aM]
  conv=>lhs;rw[e3]
  rw[a4r _ _ _ _ (by unfold fuel;omega) (by simp;omega)];unfold Lib.itoa;rw[b9 hn];simp
theorem a5z(n:Int):lT n=some (Lib.itoa n):=by
 unfold lT Bh;rfl
theorem Oa(n:Int)(h:qQ .i64 n):(Lib.itoa n).length<=21:=by
 have:=qQ.i64.1 h;exact Lib.itoa_length_le n this.1 this.2
def Co(to:aT)(s:Bytes):Bytes:=match to with
 | []=>s
 |p::r=>bif p.var==s then p.value else Co r s
def P3(to:aT)(x:aP):aP:=⟨x.kind,⟨x.pat.rel,x.pat.args.map (Co to)⟩,Co to x.left,Co to x.right⟩
theorem sRn(to:aT)(s:Bytes):mF s to=some (Co to s):=by
 unfold mF;have:∀(r:aT) (i:Nat),kE s to (some s) r i=some (Co r s):=by
  intro r
  induction r with
  |nil=>intro i;rfl
  |cons x r ih=>
   intro i;rw[kE,ih,Co];cases x.var==s<;>rfl
 exact this to 0
theorem iRn(to:aT)(s:Bytes):jA s to=some (Co to s):=by
 unfold jA;have:∀(r:aT) (i:Nat),iZ s to (some s) r i=some (Co r s):=by
  intro r
  induction r with
  |nil=>intro i;rfl
  |cons x r ih=>
   intro i;rw[iZ,ih,Co];cases x.var==s<;>rfl
 exact this to 0
theorem a6l(x:aP)(to:aT)(h:x.pat.args.length<=1099511627770):kK x to=some (P3 to x):=by
 unfold kK;rw[sRn,aA,sRn,aA];rw[ES (c:=tx) (b:=16) (f:=fun a=>mF a to) (g:=Co to) (L:=lz x to (Co to x.left) (Co to x.right) _) (k:=_) (by decide) (fun _ _=>rfl) (fun _ _ _ _=>rfl) _ _ _ (fun a _=>sRn to a) (by simp;omega)];rfl
theorem a8X(x:aP)(to:aT)(h:x.pat.args.length<=1099511627770):mc x to=some (P3 to x):=by
 unfold mc;rw[iRn,aA,iRn,aA];rw[ES (c:=tx) (b:=16) (f:=fun a=>jA a to) (g:=Co to) (L:=lX x to (Co to x.left) (Co to x.right) _) (k:=_) (by decide) (fun _ _=>rfl) (fun _ _ _ _=>rfl) _ _ _ (fun a _=>iRn to a) (by simp;omega)];rfl
def Gl(l:aT)(t:Bytes):Bool:=l.any fun p=>p.var==t
def jm(l:aT)(t:Bytes):aT:=bif fQ t&& !Gl l t then l++[⟨t,[63]++Lib.itoa ((l.length:Int)+1)⟩]else l
theorem DW(l:aT)(t:Bytes):(jm l t).length<=l.length+1:=by
 unfold jm;cases fQ t&& !Gl l t<;>simp
theorem AE:∀(ts:aH) (l:aT),(ts.foldl jm l).length<=l.length+ts.length
 | [],l=>by simp
 |t::ts,l=>by
  have h1:=AE ts (jm l t);have h2:=DW l t;rw[cu,aS];omega
theorem Rh(l:aT)(t:Bytes)(hl:l.length<=1099511627770)(ht:t.length<=1048576):qN l t=some (jm l t):=by
 unfold qN;rw[Rj t ht,aA,jm];cases hv:fQ t with
 |false=>rfl
 |true=>
  rw[bN,aM,eM];have key:∀(k:Option aT) (r:aT) (i:Nat),oR l t k r i=bif Gl r t then some l else k:=by
   intro k r
   induction r with
   |nil=>intro i;rfl
   |cons x r ih=>
    intro i;rw[oR,ih];simp only[Gl,ud];cases x.var==t<;>simp
  rw[key];cases Gl l t with
  |true=>rfl
  |false=>
   have e1:IntKind.i64.wrap (((l.map aV.c).length:Int)+1)=(l.length:Int)+1:=by rw[dY (qQ.i64.2 (by simp;omega))];simp
   have hr:qQ .i64 ((l.length:Int)+1):=qQ.i64.2 (by omega);have hi:=Oa _ hr;have e2:decide (([63]:Bytes).length+(Lib.itoa ((l.length:Int)+1):Bytes).length<=maxLen)=true:=by unfold maxLen;simp;omega
   simp only[aM,bz,aF];rw[e1,a3N _ hr,aA,e2,aF,gB (by omega) (by decide)];rfl
theorem T3(x y:Bytes):∀(m:List (Bytes×Bool)),LA false y (Oi x true m)=(y==x||LA false y m)
 | []=>by simp only[Oi,LA];cases y==x<;>rfl
 |p::m=>by
  simp only[Oi];cases h:x==p.1 with
  |true=>
   have h':x=p.1:=by simpa using h
   subst h';simp only[aF,LA];cases y==p.1<;>simp
  |false=>
   simp only[aM,LA,T3 x y m];cases hy:y==p.1 with
   |true=>
    have h1:y=p.1:=by simpa using hy
    have h2:(y==x)=false:=by
     rw[cw]at h⊢;intro e;exact h (e.symm.trans h1)
    simp[h2]
   |false=>simp
theorem X0(l:aT)(x y v:Bytes):Gl (l++[⟨x,v⟩]) y=(y==x||Gl l y):=by
 have:(x==y)=(y==x):=by rw[bw,cZ,cZ];exact eq_comm
 simp only[Gl,List.any_append,ud,Jv,uc,this];cases y==x<;>simp
theorem Vr(ts:aH)(hl:ts.length<=1099511627700)(h:∀x∈ts,x.length<=1048576):pM ts=some (ts.foldl jm []):=by
 unfold pM;have key:∀(r:aH) (i:Nat) (w:aT) (m:List (Bytes×Bool)),(∀x∈r,x.length<=1048576)->w.length+r.length<=1099511627700->(∀y,LA false y m=Gl w y)->
  fo ts (fun q=>some q) r i w m=some (r.foldl jm w):=by
  intro r
  induction r with
  |nil=>intro i w m _ _ _;rfl
  |cons x r ih=>
   intro i w m hx hw hm;simp only[aS]at hw;have hr:qQ .i64 ((w.length:Int)+1):=qQ.i64.2 (by omega);have hi:=Oa _ hr;have e1:IntKind.i64.wrap (((w.map aV.c).length:Int)+1)=(w.length:Int)+1:=by rw[dY (qQ.i64.2 (by simp;omega))];simp
   have e2:decide (([63]:Bytes).length+(Lib.itoa ((w.length:Int)+1):Bytes).length<=maxLen)=true:=by unfold maxLen;simp;omega
   rw[fo,X7 x (hx x (by simp)),aA,cu,jm,hm x];cases hv:fQ x with
   |false=>simp only[aM,Bool.false_and];exact ih _ _ _ (fun y hy=>hx y (by simp[hy])) (by omega) hm
   |true=>
    cases hh:Gl w x with
    |true=>simp only[aF,bN,aM,eM];exact ih _ _ _ (fun y hy=>hx y (by simp[hy])) (by omega) hm
    |false=>
     simp only[aF,bz,eM];rw[e1,a5z,aA,e2,aF,gB (by omega) (by decide),aF];exact ih _ _ _ (fun y hy=>hx y (by simp[hy])) (by simp;omega) (fun y=>by rw[T3,X0,hm])
 exact key ts 0 [] [] h (by simpa using hl) (fun y=>rfl)
def vE(p:aC):aC:=(P3 (p.args.foldl jm []) ⟨0,p,[],[]⟩).pat
theorem a6q(p:aC)(h:p.wt<=1048576):tO p=some (vE p):=by
 have hl:=aC.dM h;unfold tO;have key:∀(k:aT->Option aC) (r:aH) (i:Nat) (w:aT),(∀x∈r,x.length<=1048576)->w.length+r.length<=1099511627700->mr p k r i w=k (r.foldl jm w):=by
  intro k r
  induction r with
  |nil=>intro i w _ _;rfl
  |cons x r ih=>
   intro i w hx hw;simp only[aS]at hw;have:=DW w x;rw[mr,Rh w x (by omega) (hx x (by simp)),aA,ih _ _ (fun y hy=>hx y (by simp[hy])) (by omega)];rfl
 rw[key _ _ _ _ (fun x hx=>aC.uw h hx) (by simp;omega),a6l _ _ (by simp;omega)];rfl
theorem a67(p:aC)(h:p.wt<=1048576):sw p=some (vE p):=by
 have hl:=aC.dM h;unfold sw;rw[Vr _ (by omega) (fun x hx=>aC.uw h hx),aA,a8X _ _ (by simp;omega)];rfl
def xR(l:ar):aH:=l.flatMap fun c=>c.pat.args++[c.left,c.right]
theorem Ux(l:ar):(xR l).length<=3*qw aP.wt l:=by
 unfold xR
 induction l with
 |nil=>simp
 |cons x l ih=>
  rw[ck,ax,oz];have:=aC.dM (aP.gG (c:=x) (bU _));simp only[ax,aS,bf];omega
def iJ(r:aK):aT:=(xR r.conds).foldl jm []
def fW(r:aK):ar:=r.conds.map (P3 (iJ r))
theorem a0b(a:aK)(i:Nat)(c:aP)(k:aT->Option aT):∀(r:aH) (j:Nat) (w:aT),(∀x∈r,x.length<=1048576)->w.length+r.length<=1099511627700->jG a i c k r j w=k (r.foldl jm w):=by
 intro r
 induction r with
 |nil=>intro i w _ _;rfl
 |cons x r ih=>
  intro i w hx hw;simp only[aS]at hw;have:=DW w x;rw[jG,Rh w x (by omega) (hx x (by simp)),aA,ih _ _ (fun y hy=>hx y (by simp[hy])) (by omega)];rfl
theorem a6g(r:aK)(h:r.wt<=1048576):rW r=some (iJ r):=by
 unfold rW;have key:∀(l:ar) (i:Nat) (w:aT),(∀c∈l,c.wt<=1048576)->w.length+3*qw aP.wt l<=1099511627700->jF r (fun q=>some q) l i w=some ((xR l).foldl jm w):=by
  intro l
  induction l with
  |nil=>intro i w _ _;rfl
  |cons c l ih=>
   intro i w hc hw;rw[oz]at hw;have Sg:=hc c (by simp);have ha:=aC.dM (aP.gG (c:=c) (bU _));have h1:=AE c.pat.args w;have h2:=DW (c.pat.args.foldl jm w) c.left;have h3:=DW (jm (c.pat.args.foldl jm w) c.left) c.right;rw[jF,tY (by omega),aF,a0b _ _ _ _ _ _ _ (fun x hx=>aC.uw (aP.gG Sg) hx) (by omega),Rh _ _ (by omega) (aP.CL Sg),aA,Rh _ _ (by omega) (aP.zn Sg),aA,
    ih _ _ (fun y hy=>hc y (by simp[hy])) (by omega)]
   simp[xR]
 have:=aK.uH h;exact key r.conds 0 [] (fun c hc=>aK.rN h hc) (by simp;omega)
theorem ZW(r:aK)(h:r.wt<=1048576):pJ r=some (iJ r):=by
 unfold pJ;have hw:=aK.uH h;have key:∀(k:aH->Option aT) (l:ar) (i:Nat) (w:aH),(∀c∈l,c.wt<=1048576)->w.length+3*qw aP.wt l<=1099511627700->gr r k l i w=k (w++xR l):=by
  intro k l
  induction l with
  |nil=>intro i w _ _;simp[gr,xR]
  |cons c l ih=>
   intro i w hc hw;rw[oz]at hw;have Sg:=hc c (by simp);have ha:=aC.dM (aP.gG (c:=c) (bU _));rw[gr,Zb c Sg,aA,WG (by simp;omega) (by decide),aF,ih _ _ (fun y hy=>hc y (by simp[hy])) (by simp;omega)];simp[xR]
 have hl:=Ux r.conds;rw[key _ _ _ _ (fun c hc=>aK.rN h hc) (by simp;omega),dZ,Vr _ (by omega) ?_]
 ·rfl
 ·intro x hx;unfold xR at hx;obtain⟨c,hc,hx⟩:=cA.1 hx;have Sg:=aK.rN h hc;rcases aZ.1 hx with hx|hx
  ·exact aC.uw (aP.gG Sg) hx
  ·simp only[bJ,List.not_mem_nil,or_false]at hx;rcases hx with rfl|rfl
   ·exact aP.CL Sg
   ·exact aP.zn Sg
theorem a6Y(r:aK)(h:r.wt<=1048576):rV r=some (fW r):=by
 unfold rV;have hw:=aK.uH h;have hl:=qo aP.wt r.conds;rw[a6g r h,aA];rw[ES (c:=aP.c) (b:=80) (f:=fun a=>kK a (iJ r)) (g:=P3 (iJ r)) (L:=lu r (iJ r) _) (k:=_) (by decide) (fun _ _=>rfl) (fun _ _ _ _=>rfl) _ _ _ (fun c hc=>a6l c _ (by have:=aC.dM (aP.gG (aK.rN h hc));omega)) (by simp;omega)];simp[fW]
theorem a5w(r:aK)(h:r.wt<=1048576):rQ r=some (fW r):=by
 unfold rQ;have hw:=aK.uH h;have hl:=qo aP.wt r.conds;rw[ZW r h,aA];rw[ES (c:=aP.c) (b:=80) (f:=fun a=>mc a (iJ r)) (g:=P3 (iJ r)) (L:=lW r (iJ r) _) (k:=_) (by decide) (fun _ _=>rfl) (fun _ _ _ _=>rfl) _ _ _ (fun c hc=>a8X c _ (by have:=aC.dM (aP.gG (aK.rN h hc));omega)) (by simp;omega)];simp[fW]
def NOk(n:aG):Prop:=n.nodes.length<=1048576/\∀x∈n.nodes,x.cond.wt<=1048576
theorem a3D(s:Bytes):Co [] s=s:=rfl
theorem a0C(x:aP):P3 [] x=x:=by
 have:x.pat.args.map (Co [])=x.pat.args:=by
  rw[show(Co [])=id from funext a3D];simp
 unfold P3;rw[this];rfl
def dB(i:Nat):Int:=(i:Int)
def Ph(ns:bI):Nat->Nat->aa
 |0,_=>[]
 |k+1,v=>v::(match ns[v]? with
  |some x=>if 1<=x.parent/\x.parent<(v:Int)then Ph ns k x.parent.toNat else []
  |none=>[])
def CS(ns:bI)(i:Nat):Option aP:=(ns[i]?).map Node.cond
def Io(ns:bI)(k v:Nat):ar:=(Ph ns k v).reverse.filterMap (CS ns)
def eF(ns:bI)(v:Int):ar:=if 1<=v/\v<(ns.length:Int)then Io ns v.toNat v.toNat else []
theorem Th{ns:bI}{k v:Nat}{x:Node}(hx:ns[v]?=some x):Ph ns (k+1) v=v::(if 1<=x.parent/\x.parent<(v:Int)then Ph ns k x.parent.toNat else []):=by simp only[Ph,hx]
theorem a1A(ns:bI):∀(k v:Nat),v<ns.length->∀i∈Ph ns k v,i<ns.length
 |0,v,_,i,hi=>by cases hi
 |k+1,v,hv,i,hi=>by
  rw[Ph]at hi;rcases bJ.1 hi with rfl|hi
  ·exact hv
  ·split at hi
   ·split at hi
    ·rename_i x hx hp;exact a1A ns k _ (by omega) i hi
    ·cases hi
   ·cases hi
theorem WW(ns:bI):∀(k v:Nat),(Ph ns k v).length<=k
 |0,v=>by simp[Ph]
 |k+1,v=>by
  rw[Ph,aS];split
  ·split
   ·have:=WW ns k (by assumption:Node).parent.toNat;omega
   ·simp
  ·simp
theorem Oy{ns:bI}{k v:Nat}{x:Node}(hx:ns[v]?=some x):Io ns (k+1) v=(if 1<=x.parent/\x.parent<(v:Int)then Io ns k x.parent.toNat else [])++[x.cond]:=by
 have hc:CS ns v=some x.cond:=by unfold CS;rw[hx];rfl
 unfold Io;rw[Th hx];by_cases hp:1<=x.parent/\x.parent<(v:Int)
 ·rw[bL hp,bL hp];simp[hc]
 ·rw[b9 hp,b9 hp];simp[hc]
theorem Re(x:aP)(h:x.pat.args.length<=1099511627770):kW x=some x:=by
 unfold kW;rw[a6l x [] h,aA,a0C]
theorem RC(x:aP)(h:x.pat.args.length<=1099511627770):fc x=some x:=by
 unfold fc eS;rw[RI x.pat.args (by omega)];rfl
theorem a6j(n:aG)(h:NOk n)(K:ar->Option ar):∀(k v fu:Nat) (w:ar),v<=k->1<=v->v<n.nodes.length->k<fu->w.length+k<=4194304->ji n K fu (v:Int) w=K (Io n.nodes k v++w):=by
 have hl:=h.1;intro k
 induction k with
 |zero=>intro v fu w h1 h2;omega
 |succ k ih=>
  intro v fu w h1 h2 h3 h4 h5;obtain⟨fu,rfl⟩:∃m,fu=m+1:=⟨fu-1,by omega⟩
  have hx:n.nodes[v]?=some n.nodes[v]:=af h3;have hw:=h.2 _ (iO h3);generalize hxe:n.nodes[v]=x at*;have e1:IntKind.i64.wrap (((n.nodes.map Node.c).length:Int)-1)=(n.nodes.length:Int)-1:=by rw[ah];exact dY (qQ.i64.2 (by omega))
  have e2:(decide ((v:Int)>=1)&&decide ((v:Int)<=(n.nodes.length:Int)-1))=true:=by simp;omega
  have e3:fy n.nodes (v:Int)=some x:=by unfold fy;rw[av (by omega),aF];exact hx
  have e4:=Re x.cond (by have:=aC.dM (aP.gG hw);omega);rw[ji,e1,Il,aA,e2,aF,e3,aA,e4,aA,Ek (by simp;omega) (by decide),aF,Oy hx];by_cases h6:x.parent>=(v:Int)
  ·rw[av h6,aF,b9 (by omega)];rfl
  ·rw[bB h6,aM];by_cases h7:1<=x.parent
   ·rw[bL ⟨h7,by omega⟩];obtain⟨m,hm⟩:=pE (by omega:0<=x.parent);rw[hm];rw[ih m fu ([x.cond]++w) (by omega) (by omega) (by omega) (by omega) (by simp;omega)];simp
   ·rw[b9 (by omega)];obtain⟨fu,rfl⟩:∃m,fu=m+1:=⟨fu-1,by omega⟩
    have e5:(decide (x.parent>=1)&&decide (x.parent<=(n.nodes.length:Int)-1))=false:=by
     rw[bB (by omega)];rfl
    rw[ji,e1,Il,aA,e5,aM];rfl
theorem a0d(n:aG)(v:Int)(h:NOk n):ug n v=some (eF n.nodes v):=by
 have hl:=h.1;unfold ug eF;by_cases hv:1<=v/\v<(n.nodes.length:Int)
 ·rw[bL hv];obtain⟨m,rfl⟩:=pE (by omega:0<=v);rw[a6j n h _ m m fuel [] (bU _) (by omega) (by omega) (by unfold fuel;omega) (by simp;omega)];simp
 ·rw[b9 hv];have e1:IntKind.i64.wrap (((n.nodes.map Node.c).length:Int)-1)=(n.nodes.length:Int)-1:=by rw[ah];exact dY (qQ.i64.2 (by omega))
  have e2:(decide (v>=1)&&decide (v<=(n.nodes.length:Int)-1))=false:=by
   by_cases h1:1<=v
   ·have h2:¬v<=(n.nodes.length:Int)-1:=by omega
    rw[bB h2,sZ]
   ·rw[bB h1];rfl
  rw[show fuel=4194303+1 from rfl,ji,e1,Il,aA,e2,aM]
theorem a2e(n:aG)(h:NOk n)(K:bH->Option ar):∀(k v fu:Nat) (w:bH),v<=k->1<=v->v<n.nodes.length->k<fu->w.length+k<=4194304->o8 n K fu (v:Int) w=K (w++(Ph n.nodes k v).map dB):=by
 have hl:=h.1;intro k
 induction k with
 |zero=>intro v fu w h1 h2;omega
 |succ k ih=>
  intro v fu w h1 h2 h3 h4 h5;obtain⟨fu,rfl⟩:∃m,fu=m+1:=⟨fu-1,by omega⟩
  have hx:n.nodes[v]?=some n.nodes[v]:=af h3;generalize hxe:n.nodes[v]=x at*;have e3:fy n.nodes (v:Int)=some x:=by unfold fy;rw[av (by omega),aF];exact hx
  rw[o8,gB (by omega) (by decide),aF,e3,aA,Th hx];by_cases h7:x.parent<1
  ·rw[av h7,aF,b9 (by omega)];rfl
  ·rw[bB h7,aM];by_cases h6:x.parent>=(v:Int)
   ·rw[av h6,aF,b9 (by omega)];rfl
   ·rw[bB h6,aM,bL ⟨by omega,by omega⟩];obtain⟨m,hm⟩:=pE (by omega:0<=x.parent);rw[hm,ih m fu (w++[(v:Int)]) (by omega) (by omega) (by omega) (by omega) (by simp;omega)];simp[dB]
theorem a2f(n:aG)(h:NOk n)(us:aa)(w5:∀i∈us,i<n.nodes.length)(hul:us.length<=1048576)(K:ar->Option ar):∀(j fu:Nat) (w:ar),j<=us.length->j<fu->w.length+j<=4194304->lV n (us.map dB) K fu ((j:Int)-1) w=K (w++((us.take j).reverse.filterMap (CS n.nodes))):=by
 intro j
 induction j with
 |zero=>
  intro fu w _ hf _;obtain⟨fu,rfl⟩:∃m,fu=m+1:=⟨fu-1,by omega⟩
  rw[lV,bB (by omega),aM];simp
 |succ j ih=>
  intro fu w hj hf hw;obtain⟨fu,rfl⟩:∃m,fu=m+1:=⟨fu-1,by omega⟩
  have hlt:j<us.length:=by omega
  have h3:=w5 us[j] (iO hlt);have hx:n.nodes[us[j]]?=some n.nodes[us[j]]:=af h3;have hww:=h.2 _ (iO h3);generalize hxe:n.nodes[us[j]]=x at*;have e0:((j+1:Nat):Int)-1=(j:Int):=by omega
  have e1:fy (us.map dB) (j:Int)=some ((us[j]:Nat):Int):=by
   unfold fy;rw[av (by omega),aF];show(us.map dB)[(j:Int).toNat]?=_;rw[kH,cF,af hlt];rfl
  have e3:fy n.nodes ((us[j]:Nat):Int)=some x:=by unfold fy;rw[av (by omega),aF];exact hx
  have e4:=RC x.cond (by have:=aC.dM (aP.gG hww);omega);have e5:IntKind.i64.wrap ((j:Int)-1)=(j:Int)-1:=dY (qQ.i64.2 (by omega));rw[e0,lV,av (by omega),aF,e1,aA,e3,aA,e4,aA,gB (by omega) (by decide),aF,e5,ih fu _ (by omega) (by omega) (by simp;omega)];have hc:CS n.nodes us[j]=some x.cond:=by unfold CS;rw[hx];rfl
  have ht:us.take (j+1)=us.take j++[us[j]]:=by rw[List.take_add_one,af hlt];rfl
  rw[ht,List.reverse_append,List.filterMap_append];simp[hc]
theorem a63(n:aG)(v:Int)(h:NOk n):wh n v=some (eF n.nodes v):=by
 have hl:=h.1;unfold wh eF;rw[ah];by_cases h1:v<1
 ·rw[av h1,aF,b9 (by omega)]
 ·rw[bB h1,aM];by_cases h2:v>=(n.nodes.length:Int)
  ·rw[av h2,aF,b9 (by omega)]
  ·rw[bB h2,aM,bL ⟨by omega,by omega⟩];obtain⟨m,rfl⟩:=pE (by omega:0<=v);rw[a2e n h _ m m fuel [] (bU _) (by omega) (by omega) (by unfold fuel;omega) (by simp;omega)];have hul:=WW n.nodes m m;have e5:IntKind.i64.wrap ((((([]:bH)++(Ph n.nodes m m).map dB).map gm).length:Int)-1)=(((Ph n.nodes m m).length:Nat):Int)-1:=by
    rw[dZ,ah,ah];exact dY (qQ.i64.2 (by omega))
   rw[e5,dZ,a2f n h (Ph n.nodes m m) (a1A n.nodes m m (by omega)) (by omega) _ (Ph n.nodes m m).length fuel [] (bU _) (by unfold fuel;omega) (by simp;omega),yq];rfl
def nmB(k:Nat):Bytes:=[63]++Lib.itoa ((k:Int)+1)
theorem decDigits_one{u:Nat}(h:u<10):Lib.decDigits u=[UInt8.ofNat (48+u)]:=by
 rw[Lib.decDigits,dif_pos h]
theorem Np:∀i,i<6->nmB i=[63,UInt8.ofNat (49+i)]
 |0,_|1,_|2,_|3,_|4,_|5,_=>by
  unfold nmB Lib.itoa;rw[b9 (by decide),decDigits_one (by decide)];decide
 |n+6,h=>by omega
theorem Vz:∀i,i<6->∀j,j<6->nmB i=nmB j->i=j:=by
 intro i hi j hj e;rw[Np i hi,Np j hj]at e
 revert i j
 decide
theorem LH:∀i,i<6->fQ (nmB i)=true:=by
 intro i hi;rw[Np i hi]
 revert i
 decide
def Tr(N:aT):Prop:=∀(i:Nat) p,N[i]?=some p->p.value=nmB i/\fQ p.var=true
theorem Sf(N:aT)(t:Bytes):Gl N t=true↔∃p∈N,p.var=t:=by simp[Gl]
theorem XK(N:aT)(t:Bytes){p:aV}(h:p∈N):p∈jm N t:=by
 unfold jm;cases fQ t&& !Gl N t<;>simp[h]
theorem Sc:∀(ts:aH) (N:aT) {p:aV},p∈N->p∈ts.foldl jm N
 | [],_,_,h=>h
 |t::ts,N,p,h=>Sc ts (jm N t) (XK N t h)
theorem a1G{N:aT}(h:Tr N)(t:Bytes):Tr (jm N t):=by
 unfold jm;cases hv:fQ t&& !Gl N t with
 |false=>exact h
 |true=>
  simp only[aR]at hv;intro i p hp;rw[aF]at hp;rcases fN i N.length with hlt|hge
  ·rw[bA hlt]at hp;exact h i p hp
  ·rw[bE hge]at hp;cases hi:i-N.length with
   |zero=>
    rw[hi]at hp;simp at hp;subst hp;have:i=N.length:=by omega
    subst this;exact⟨rfl,hv.1⟩
   |succ m=>rw[hi]at hp;simp at hp
theorem CP:∀(ts:aH) {N:aT},Tr N->Tr (ts.foldl jm N)
 | [],_,h=>h
 |t::ts,_,h=>CP ts (a1G h t)
def Rx(N:aT):Prop:=(N.map aV.var).Nodup
theorem XM{N:aT}(h:Rx N)(t:Bytes):Rx (jm N t):=by
 unfold jm;cases hv:fQ t&& !Gl N t with
 |false=>exact h
 |true=>
  simp only[aR,p9]at hv;rw[aF];unfold Rx;rw[bD,bW];refine⟨h,by simp,?_⟩;intro a ha b hb e;simp at hb;subst hb;subst e;obtain⟨p,hp,he⟩:=bt.1 ha;have:=(Sf N a).2 ⟨p,hp,he⟩;rw[hv.2]at this;cases this
theorem zl:∀(ts:aH) {N:aT},Rx N->Rx (ts.foldl jm N)
 | [],_,h=>h
 |t::ts,_,h=>zl ts (XM h t)
theorem Kz:∀(ts:aH) (N:aT) {t:Bytes},t∈ts->fQ t=true->∃p∈ts.foldl jm N,p.var=t
 |x::ts,N,t,h,hv=>by
  rcases bJ.1 h with rfl|h
  ·have:∃p∈jm N t,p.var=t:=by
    unfold jm;cases hh:Gl N t with
    |true=>rw[hv];exact(Sf N t).1 hh
    |false=>rw[hv];exact⟨⟨t,[63]++Lib.itoa ((N.length:Int)+1)⟩,by simp,rfl⟩
   obtain⟨p,hp,he⟩:=this;exact⟨p,Sc ts _ hp,he⟩
  ·exact Kz ts _ h hv
theorem HN:∀ {N:aT} {p:aV},Rx N->p∈N->Co N p.var=p.value
 |q::N,p,hn,hp=>by
  unfold Rx at hn;rw[au,fZ]at hn;rcases bJ.1 hp with rfl|hp
  ·simp[Co]
  ·have hne:(q.var==p.var)=false:=by
    rw[cw];intro e;exact hn.1 (by rw[e];exact bt.2 ⟨p,hp,rfl⟩)
   rw[Co,hne,aM];exact HN (show Rx N from hn.2) hp
theorem MY:∀ {N:aT} {t:Bytes},(∀p∈N,p.var≠t)->Co N t=t
 | [],t,_=>rfl
 |q::N,t,h=>by
  have hne:(q.var==t)=false:=by rw[cw];exact h q (by simp)
  rw[Co,hne,aM];exact MY fun p hp=>h p (by simp[hp])
theorem Tr.nil:Tr []:=fun i p h=>by simp at h
theorem Rx.nil:Rx []:=by simp[Rx]
theorem CJ(ts:aH):(ts.foldl jm []).length<=ts.length:=by simpa using AE ts []
theorem Jp{N:aT}(h:Tr N){p:aV}(hp:p∈N):∃i,i<N.length/\N[i]?=some p/\p.value=nmB i/\fQ p.var=true:=by
 obtain⟨i,hi⟩:=iz hp;exact⟨i,(aJ.1 hi).1,hi,h i p hi⟩
theorem LI{ts:aH}{t:Bytes}(ht:fQ t=false):Co (ts.foldl jm []) t=t:=
 MY fun p hp e=>by
  obtain⟨i,_,_,_,hv⟩:=Jp (CP ts Tr.nil) hp;rw[e,ht]at hv;cases hv
theorem Jn(p:aC):(vE p).args=p.args.map (Co (p.args.foldl jm [])):=rfl
theorem W7:∀i,i<6->(nmB i).length<=16:=by
 intro i hi;rw[Np i hi];simp
theorem a6R{ts:aH}(hl:ts.length<=5){t:Bytes}(ht:t.length<=16):(Co (ts.foldl jm []) t).length<=16:=by
 by_cases h:∃p∈ts.foldl jm [],p.var=t
 ·obtain⟨p,hp,he⟩:=h;rw[<-he,HN (zl ts Rx.nil) hp];obtain⟨i,hi,_,hpv,_⟩:=Jp (CP ts Tr.nil) hp;have:=CJ ts;rw[hpv];exact W7 i (by omega)
 ·rw[MY (fun p hp e=>h ⟨p,hp,e⟩)];exact ht
def unB(N:aT)(x:Bytes):Bytes:=match N with
 | []=>x
 |p::r=>bif p.value==x then p.var else unB r x
theorem WV:∀ {N:aT} {p:aV},(N.map aV.value).Nodup->p∈N->unB N p.value=p.var
 |q::N,p,hn,hp=>by
  rw[au,fZ]at hn;rcases bJ.1 hp with rfl|hp
  ·simp[unB]
  ·have hne:(q.value==p.value)=false:=by
    rw[cw];intro e;exact hn.1 (by rw[e];exact bt.2 ⟨p,hp,rfl⟩)
   rw[unB,hne,aM];exact WV hn.2 hp
theorem Mf:∀ {N:aT} {t:Bytes},(∀p∈N,p.value≠t)->unB N t=t
 | [],t,_=>rfl
 |q::N,t,h=>by
  have hne:(q.value==t)=false:=by rw[cw];exact h q (by simp)
  rw[unB,hne,aM];exact Mf fun p hp=>h p (by simp[hp])
theorem V3{N:aT}(h:Tr N)(hl:N.length<=5):(N.map aV.value).Nodup:=by
 unfold List.Nodup;rw[List.pairwise_iff_getElem];intro i j hi0 hj hij e;rw[ah]at hj;rw[List.getElem_map,List.getElem_map]at e;have h1:=(h i _ (af (by omega))).1;have h2:=(h j _ (af hj)).1;rw[h1,h2]at e;have:=Vz i (by omega) j (by omega) e;omega
theorem a9h{ts:aH}(hl:ts.length<=5){t:Bytes}(ht:t∈ts)(hT:mK t=true):unB (ts.foldl jm []) (Co (ts.foldl jm []) t)=t:=by
 have hw:=CP ts Tr.nil;have hlen:=CJ ts;cases hv:fQ t with
 |true=>
  obtain⟨p,hp,he⟩:=Kz ts [] ht hv;rw[<-he,HN (zl ts Rx.nil) hp,WV (V3 hw (by omega)) hp]
 |false=>
  rw[LI hv];refine Mf fun p hp e=>?_
  obtain⟨i,hi,_,hpv,_⟩:=Jp hw hp;have:=LH i (by omega);rw[<-hpv,e,hv]at this;cases this
theorem Xd{p:aC}(h:vM p=true)(hl:p.args.length<=5):vM (vE p)=true:=by
 unfold vM at h⊢;rw[aR]at h⊢;refine⟨?_,?_⟩
 ·rw[Jn,Dm,aj];intro t ht;have hT:=aj.1 h.1 t ht;show mK (Co _ t)=true;cases hv:fQ t with
  |false=>rw[LI hv];exact hT
  |true=>
   obtain⟨q,hq,he⟩:=Kz p.args [] ht hv;obtain⟨i,hi,_,hpv,_⟩:=Jp (CP p.args Tr.nil) hq;have:=CJ p.args;rw[<-he,HN (zl p.args Rx.nil) hq,hpv];unfold mK;rw[LH i (by omega)];simp
 ·have:=h.2;rw[aR]at this⊢;refine⟨this.1,?_⟩;rw[Jn,ah];exact this.2
def NL(c:aP):aH:=bif decide (c.kind=1)then jq c.pat.args else []
theorem YV{c:aP}:(NL c).length<=c.wt:=by
 unfold NL;have h2:=xf c.pat.args;have h3:=aC.dM (aP.gG (bU c.wt));cases decide (c.kind=1)<;>simp;omega
def BG(r:aK)(n:Int):aH:=(r.conds.take n.toNat).flatMap NL
theorem QO{α:Type}(x:α)(xs:List α)(n:Int)(i:Nat):(x::xs).take (n-(i:Int)).toNat=if(i:Int)<n then x::xs.take (n-((i+1:Nat):Int)).toNat else []:=by
 by_cases h:(i:Int)<n
 ·rw[bL h];obtain⟨m,hm⟩:∃m,(n-(i:Int)).toNat=m+1:=⟨(n-(i:Int)).toNat -1,by omega⟩
  have:(n-((i+1:Nat):Int)).toNat=m:=by omega
  rw[hm,this];rfl
 ·rw[b9 h,show(n-(i:Int)).toNat=0 from by omega];rfl
theorem Gh{α β:Type}{f:α->List β}{w:α->Nat}(l:List α)(h:∀x∈l,(f x).length<=w x+2):(l.flatMap f).length<=3*qw w l:=by
 induction l with
 |nil=>simp[qw]
 |cons x l ih=>
  rw[ck,ax,oz];have h1:=h x (by simp);have h2:=ih (fun y hy=>h y (by simp[hy]));omega
theorem YW{r:aK}{n:Nat}(h:r.wt<=n)(m:Int):(BG r m).length<=3*n:=by
 unfold BG;have h1:=Gh (w:=aP.wt) (f:=NL) (r.conds.take m.toNat) (fun c _=>by have:= @YV c;omega);have h2:qw aP.wt (r.conds.take m.toNat)<=qw aP.wt r.conds:=by
  conv=>rhs;rw[<-cO m.toNat r.conds]
  rw[PK];omega
 have h3:=aK.uH h;omega
theorem a0L(a:aK)(n:Int)(i:Nat)(y:aH)(k:aH->Option aH):∀(l:aH) (j:Nat) (w:aH),w.length+l.length<=1099511627770->jz a n i y k l j w=k (l.foldl AJ w):=by
 intro l
 induction l with
 |nil=>intro j w _;rfl
 |cons x l ih=>
  intro j w hw;simp only[aS]at hw;have:=Bm w x;rw[jz,Ur w x (by omega),aA,ih _ _ (by omega)];rfl
theorem a3G(a:aK)(n:Int)(k:aH->Option aH):∀(l:ar) (i:Nat) (acc:aH),(∀c∈l,c.wt<=1048576)->acc.length+qw aP.wt l<=2097152->
 gP a n k l i (fD acc)=k (fD (acc++(l.take (n-(i:Int)).toNat).flatMap NL)):=by
 intro l
 induction l with
 |nil=>intro i acc _ _;simp[gP]
 |cons c l ih=>
  intro i acc hc hb;rw[oz]at hb;have Vo:=hc c (by simp);have hv:=xf c.pat.args;have ha:=aC.dM (aP.gG (bU c.wt));have hu:=rG (jq c.pat.args);have hu2:=rG acc;rw[gP,QO];by_cases hi:(i:Int)<n
  ·have e1:decide (((i:Int):Int)<n)=true:=by simp[hi]
   rw[e1,aF,bL hi];by_cases hk:c.kind=1
   ·have e2:((c.kind:Int)==1)=true:=by simp[hk]
    rw[e2,aF,LV _ (aP.gG Vo),aA,tY (by omega),aF,a0L _ _ _ _ _ _ _ _ (by omega),HB,ih _ _ (fun x hx=>hc x (by simp[hx])) (by simp;omega)];simp[NL,hk]
   ·have e2:((c.kind:Int)==1)=false:=by simp[hk]
    rw[e2,aM,ih _ _ (fun x hx=>hc x (by simp[hx])) (by omega)];simp[NL,hk]
  ·have e1:decide (((i:Int):Int)<n)=false:=by simp[hi]
   rw[e1,aM,b9 hi];simp
theorem Um(r:aK)(n:Int)(h:r.wt<=1048576):lf r n=some (fD (BG r n)):=by
 unfold lf;have:=a3G r n (fun q=>some q) r.conds 0 [] (fun c hc=>aK.rN h hc) (by have:=aK.uH h;simp;omega);rw[show fD []=[]from rfl]at this;rw[this];simp[BG]
theorem a2b(a:aK)(n:Int)(k:aH->Option aH):∀(l:ar) (i:Nat) (w:aH),(∀c∈l,c.wt<=1048576)->w.length+qw aP.wt l<=2097152->
 fR a n k l i w=k (w++(l.take (n-(i:Int)).toNat).flatMap NL):=by
 intro l
 induction l with
 |nil=>intro i w _ _;simp[fR]
 |cons c l ih=>
  intro i w hc hb;rw[oz]at hb;have Vo:=hc c (by simp);have hv:=xf c.pat.args;have ha:=aC.dM (aP.gG (bU c.wt));rw[fR,QO];by_cases hi:(i:Int)<n
  ·have e1:decide (((i:Int):Int)<n)=true:=by simp[hi]
   rw[e1,aF,bL hi];by_cases hk:c.kind=1
   ·have e2:((c.kind:Int)==1)=true:=by simp[hk]
    rw[e2,aF,Zc _ (by omega) (fun x hx=>aC.uw (aP.gG Vo) hx),aA,WG (by omega) (by decide),aF,ih _ _ (fun x hx=>hc x (by simp[hx])) (by simp;omega)];simp[NL,hk]
   ·have e2:((c.kind:Int)==1)=false:=by simp[hk]
    rw[e2,aM,ih _ _ (fun x hx=>hc x (by simp[hx])) (by omega)];simp[NL,hk]
  ·have e1:decide (((i:Int):Int)<n)=false:=by simp[hi]
   rw[e1,aM,b9 hi,ih _ _ (fun x hx=>hc x (by simp[hx])) (by omega),show(n-((i+1:Nat):Int)).toNat=0 from by omega];simp
theorem ZL(r:aK)(n:Int)(h:r.wt<=1048576):qR r n=some (fD (BG r n)):=by
 unfold qR;have hl:=YW h n;rw[a2b r n _ r.conds 0 [] (fun c hc=>aK.rN h hc) (by have:=aK.uH h;simp;omega)];have e:([]:aH)++(r.conds.take (n-((0:Nat):Int)).toNat).flatMap NL=BG r n:=by simp[BG]
 rw[e,RH _ (by omega)];rfl
def A8(l:ar):aH:=l.flatMap rM
def a1t(l:eW):aH:=l.flatMap fun a=>jq a.pat.args
def a6U(r:aK):aH:=A8 r.conds++a1t r.cY
theorem Ya(l:ar):(A8 l).length<=3*qw aP.wt l:=Gh l (fun c _=>yu (bU _))
theorem a0g(a:aK)(i:Nat)(y:aH)(k:aH->Option aH):∀(l:aH) (j:Nat) (w:aH),w.length+l.length<=1099511627770->lJ a i y k l j w=k (l.foldl AJ w):=by
 intro l
 induction l with
 |nil=>intro j w _;rfl
 |cons x l ih=>
  intro j w hw;simp only[aS]at hw;have:=Bm w x;rw[lJ,Ur w x (by omega),aA,ih _ _ (by omega)];rfl
theorem a0i(a:aK)(i:Nat)(y:aH)(k:aH->Option aH):∀(l:aH) (j:Nat) (w:aH),w.length+l.length<=1099511627770->lK a i y k l j w=k (l.foldl AJ w):=by
 intro l
 induction l with
 |nil=>intro j w _;rfl
 |cons x l ih=>
  intro j w hw;simp only[aS]at hw;have:=Bm w x;rw[lK,Ur w x (by omega),aA,ih _ _ (by omega)];rfl
theorem a0f(a:aK)(k:aH->Option aH):∀(l:ar) (i:Nat) (acc:aH),(∀c∈l,c.wt<=1048576)->acc.length+3*qw aP.wt l<=16777216->
 jH a k l i (fD acc)=k (fD (acc++A8 l)):=by
 intro l
 induction l with
 |nil=>intro i acc _ _;simp[jH,A8]
 |cons c l ih=>
  intro i acc hc hb;rw[oz]at hb;have Vo:=hc c (by simp);have h1:=yu (bU c.wt);have hu:=rG (rM c);have hu2:=rG acc;rw[jH,Un c Vo,aA,tY (by omega),aF,a0g _ _ _ _ _ _ _ (by omega),HB,ih _ _ (fun x hx=>hc x (by simp[hx])) (by simp;omega)];simp[A8]
theorem a0h(a:aK)(k:aH->Option aH):∀(l:eW) (i:Nat) (acc:aH),(∀c∈l,c.wt<=1048576)->acc.length+3*qw Action.wt l<=16777216->
 iG a k l i (fD acc)=k (fD (acc++a1t l)):=by
 intro l
 induction l with
 |nil=>intro i acc _ _;simp[iG,a1t]
 |cons c l ih=>
  intro i acc hc hb;rw[oz]at hb;have Vo:=hc c (by simp);have h1:=xf c.pat.args;have h2:=aC.dM (Action.gG (bU c.wt));have hu:=rG (jq c.pat.args);have hu2:=rG acc;rw[iG,LV _ (Action.gG Vo),aA,tY (by omega),aF,a0i _ _ _ _ _ _ _ (by omega),HB,ih _ _ (fun x hx=>hc x (by simp[hx])) (by simp;omega)];simp[a1t]
theorem a6m(r:aK)(h:r.wt<=1048576):uT r=some (fD (a6U r)):=by
 unfold uT;have h3:=aK.uH h;have h4:=aK.K1 h;have hl:=Ya r.conds;have:=a0f r (fun q=>iG r (fun q=>some q) r.cY 0 q) r.conds 0 [] (fun c hc=>aK.rN h hc) (by simp;omega);rw[show fD []=[]from rfl]at this;rw[this];simp only[dZ];rw[a0h r _ r.cY 0 _ (fun c hc=>aK.Qo h hc) (by omega)];rfl
theorem a8K(l:ar)(hc:∀c∈l,c.wt<=1048576)(hb:qw aP.wt l<=1048576):rS l=some (l.flatMap fun c=>fD (rM c)):=by
 unfold rS;have:∀(r:ar) (i:Nat) (w:aH),(∀c∈r,c.wt<=1048576)->w.length+3*qw aP.wt r<=16777216->gu l (fun q=>some q) r i w=some (w++r.flatMap fun c=>fD (rM c)):=by
  intro r
  induction r with
  |nil=>intro i w _ _;simp[gu]
  |cons c r ih=>
   intro i w hc hb;rw[oz]at hb;have h1:=yu (bU c.wt);have hu:=rG (rM c);rw[gu,UT c (hc c (by simp)),aA,WG (by omega) (by decide),aF,ih _ _ (fun x hx=>hc x (by simp[hx])) (by simp;omega)];simp
 exact this l 0 [] hc (by simp;omega)
theorem YZ(l:ar):(l.flatMap fun c=>fD (rM c)).length<=3*qw aP.wt l:=Gh l (fun c _=>by
 have h1:=yu (bU c.wt);have hu:=rG (rM c);omega)
theorem aAb(l:ar)(b:aH):fD ((l.flatMap fun c=>fD (rM c))++b)=fD (A8 l++b):=HA (fun x=>by simp[A8,qZ])
def Wq(v:Bytes)(k:Int):ar->Nat->Bool
 | [],_=>false
 |c::cs,i=>(decide (((i:Nat):Int)≠k)&&(rM c).contains v)||Wq v k cs (i+1)
def SX(r:aK)(k:Int)(v:Bytes):Bool:=Wq v k r.conds 0||r.cY.any fun a=>(jq a.pat.args).contains v
theorem PV{l:aH}{v:Bytes}(h:fQ v=true):l.contains v=(jq l).contains v:=by
 rw[bw];simp[jq,h]
theorem a9D(r:aK)(k:Int)(v:Bytes)(h:r.wt<=1048576):oN r k v=some (SX r k v):=by
 unfold oN SX;have k2:∀(l:eW) (i:Nat),(∀c∈l,c.wt<=1048576)->ic r v (some false) l i=some (l.any fun a=>(jq a.pat.args).contains v):=by
  intro l
  induction l with
  |nil=>intro i _;rfl
  |cons a l ih=>
   intro i hc;rw[ic,LV _ (Action.gG (hc a (by simp))),aA,Xa,aA,ol,ih _ (fun x hx=>hc x (by simp[hx])),ud];cases(jq a.pat.args).contains v<;>rfl
 have k1:∀(l:ar) (i:Nat),(∀c∈l,c.wt<=1048576)->gM r k v (some (r.cY.any fun a=>(jq a.pat.args).contains v)) l i=some (Wq v k l i||r.cY.any fun a=>(jq a.pat.args).contains v):=by
  intro l
  induction l with
  |nil=>intro i _;rfl
  |cons c l ih=>
   intro i hc;rw[gM,Un _ (hc c (by simp)),aA,Xa,aA,ol,ih _ (fun x hx=>hc x (by simp[hx]))];simp only[Wq,bne,ke];by_cases hi:((i:Nat):Int)=k
   ·simp[hi]
   ·cases(rM c).contains v<;>simp[hi]
 rw[k2 _ _ (fun c hc=>aK.Qo h hc),k1 _ _ (fun c hc=>aK.rN h hc)]
theorem aBw(r:aK)(k:Int)(v:Bytes)(hv:fQ v=true)(h:r.wt<=1048576):mm r k v=some (SX r k v):=by
 unfold mm SX;have k2:∀(l:eW) (i:Nat),fV r v (some false) l i=some (l.any fun a=>(jq a.pat.args).contains v):=by
  intro l
  induction l with
  |nil=>intro i;rfl
  |cons a l ih=>
   intro i;rw[fV,a2d,aA,PV hv,ih,ud];cases(jq a.pat.args).contains v<;>rfl
 have k1:∀(l:ar) (i:Nat),(∀c∈l,c.wt<=1048576)->eY r k v (some (r.cY.any fun a=>(jq a.pat.args).contains v)) l i=some (Wq v k l i||r.cY.any fun a=>(jq a.pat.args).contains v):=by
  intro l
  induction l with
  |nil=>intro i _;rfl
  |cons c l ih=>
   intro i hc;rw[eY,UT _ (hc c (by simp)),aA,a2d,aA,ol,ih _ (fun x hx=>hc x (by simp[hx]))];simp only[Wq,bne,ke];by_cases hi:((i:Nat):Int)=k
   ·simp[hi]
   ·cases(rM c).contains v<;>simp[hi]
 rw[k2,k1 _ _ (fun c hc=>aK.rN h hc)]
def NQ(r:aK)(i:Nat)(c:aP)(v:Bytes):Bool:=decide (c.kind=1)||(BG r i).contains v||(decide (c.kind=2)&& !SX r i v)
def th(r:aK):ar->Nat->Bool
 | [],_=>true
 |c::cs,i=>(oh c&&(!decide (i=0)||decide (c.kind=1))&&(fD (rM c)).all (NQ r i c))&&th r cs (i+1)
def O0(r:aK):Bool:=r.cY.all fun a=>Nz a&&(jq a.pat.args).all fun v=>(BG r r.conds.length).contains v
def fX(r:aK):Bool:=yP r.name&&(decide (0<=r.prio)&&decide (r.prio<=9))&&(decide (1<=(r.conds.length:Int))&&decide ((r.conds.length:Int)<=4))&&(decide (1<=(r.cY.length:Int))&&decide ((r.cY.length:Int)<=2))&&
 (th r r.conds 0&&(O0 r&&decide (((fD (A8 r.conds)).length:Int)<=6)))
theorem Pr(l:aH)(p:Bytes->Bool):(fD l).all p=l.all p:=by
 rw[bw];simp[aj,qZ]
theorem a25(r:aK)(n:Int){v:Bytes}(h:v∈BG r n):v∈A8 r.conds:=by
 unfold BG at h;obtain⟨c,hc,hv⟩:=cA.1 h;refine cA.2 ⟨c,bn hc,?_⟩;unfold NL at hv;cases hk:decide (c.kind=1)with
 |false=>rw[hk]at hv;cases hv
 |true=>
  rw[hk]at hv;simp only[aF]at hv;unfold rM;rw[QV];exact aZ.2 (.inl hv)
theorem Tt{r:aK}(h:O0 r=true):fD (a6U r)=fD (A8 r.conds):=by
 refine HA (fun x=>?_);unfold a6U;simp only[aZ];constructor
 ·rintro(hx|hx)
  ·exact hx
  ·obtain⟨a,ha,hv⟩:=cA.1 hx;unfold O0 at h;have:=aj.1 h a ha;simp only[aR,aj]at this;have:=this.2 x hv;exact a25 r _ (by simpa using this)
 ·exact .inl
theorem a3T(r:aK)(y:aH)(i:Nat)(c:aP)(l:aH)(k:Option Bool)(hc:c.wt<=1048576)(hr:r.wt<=1048576)(hcb:oh c=true):∀(rest:aH) (j:Nat),gV r y i c (fD (BG r i)) l k rest j=bif rest.all (NQ r i c)then k else some false:=by
 have hk:=Iy hcb;intro rest
 induction rest with
 |nil=>intro j;rfl
 |cons v rest ih=>
  intro j;rw[gV,Xa,aA,ol,a0n c hc,aA,a9D r _ v hr,aA,ih,dP];unfold Iu NQ;rw[hcb];by_cases h1:c.kind=1
  ·simp[h1]
  by_cases h2:c.kind=2
  ·cases(BG r i).contains v<;>cases SX r i v<;>simp[h2]
  have h3:c.kind>=3:=by omega
  cases(BG r i).contains v<;>simp[h1,h2,h3]
theorem a3U(r:aK)(y:aH)(i:Nat)(c:aP)(l:aH)(k:Option Bool)(hc:c.wt<=1048576)(hr:r.wt<=1048576)(hcb:oh c=true):∀(rest:aH) (j:Nat),gW r y i c (fD (BG r i)) l k rest j=bif rest.all (NQ r i c)then k else some false:=by
 have hk:=Iy hcb;intro rest
 induction rest with
 |nil=>intro j;rfl
 |cons v rest ih=>
  intro j;rw[gW,Xa,aA,ol,a0n c hc,aA,a9D r _ v hr,aA,ih,dP];unfold Iu NQ;rw[hcb];by_cases h1:c.kind=1
  ·simp[h1]
  by_cases h2:c.kind=2
  ·cases(BG r i).contains v<;>cases SX r i v<;>simp[h2]
  have h3:c.kind>=3:=by omega
  cases(BG r i).contains v<;>simp[h1,h2,h3]
theorem a3S(r:aK)(y:aH)(k:Option Bool)(hr:r.wt<=1048576):∀(rest:ar) (i:Nat),(∀c∈rest,c.wt<=1048576)->lq r y k rest i=bif th r rest i then k else some false:=by
 intro rest
 induction rest with
 |nil=>intro i _;rfl
 |cons c rest ih=>
  intro i h;have hc:=h c (by simp);have hl:=yu hc;have hu:=rG (rM c);rw[lq,a0M c hc,aA,th];cases hcb:oh c with
  |false=>rfl
  |true=>
   rw[Um r _ hr,Un c hc,ih _ (fun x hx=>h x (by simp[hx]))];simp only[aA,tY (show(fD (rM c)).length<=1099511627776 by omega),aF];rw[a3T r y i c _ _ hc hr hcb,a3U r y i c _ _ hc hr hcb];simp only[bne,ke];have e0:decide (((i:Int):Int)=0)=decide (i=0):=by rw[bw];simp
   rw[e0];cases decide (i=0)<;>cases decide (c.kind=1)<;>cases(fD (rM c)).all (NQ r i c)<;>simp
theorem a3W(r:aK)(y:aH)(i:Nat)(l:aH)(k:Option Bool):∀(rest:aH) (j:Nat),oF r y i l k rest j=bif rest.all (fun v=>y.contains v)then k else some false:=
 fun rest j=>Wl (f:=fun v=>gY y v) (L:=oF r y i l k) (fun _=>rfl) (fun _ _ _=>rfl) rest j (fun v _=>Xa y v)
theorem a3V(r:aK)(b:aH)(k:Option Bool):∀(rest:eW) (i:Nat),(∀a∈rest,a.wt<=1048576)->oD r (fD b) k rest i=bif rest.all (fun a=>Nz a&&(jq a.pat.args).all fun v=>b.contains v)then k else some false:=by
 intro rest
 induction rest with
 |nil=>intro i _;rfl
 |cons a rest ih=>
  intro i h;have ha:=h a (by simp);have h1:=xf a.pat.args;have h2:=aC.dM (Action.gG ha);have hu:=rG (jq a.pat.args);rw[oD,aCB a ha,aA,LV _ (Action.gG ha),aA,tY (by omega),ih _ (fun x hx=>h x (by simp[hx])),a3W,dP,Pr];have e:((jq a.pat.args).all fun v=>(fD b).contains v)=(jq a.pat.args).all fun v=>b.contains v:=by
   congr 1;funext v;exact ol b v
  rw[e];cases Nz a<;>cases(jq a.pat.args).all (fun v=>b.contains v)<;>simp
theorem a0e(r:aK)(h:r.wt<=1048576):mS r=some (fX r):=by
 unfold mS;simp only[a0a _ (aK.Vy h),aA,Il,ah];rw[Um r _ h];simp only[aA];rw[a3S r _ _ h _ _ (fun c hc=>aK.rN h hc),a3V r _ _ _ _ (fun a ha=>aK.Qo h ha),a6m r h];simp only[aA,ah];have hab:(r.cY.all fun a=>Nz a&&(jq a.pat.args).all fun v=>(BG r r.conds.length).contains v)=O0 r:=rfl;rw[hab];unfold fX;have g1:decide (r.prio>=0)=decide (0<=r.prio):=rfl;have g2:decide ((r.conds.length:Int)>=1)=decide (1<=(r.conds.length:Int)):=rfl;have g3:decide ((r.cY.length:Int)>=1)=decide (1<=(r.cY.length:Int)):=rfl;rw[g1,g2,g3];cases ha:O0 r with
 |false=>cases yP r.name<;>cases(decide (0<=r.prio)&&decide (r.prio<=9))<;>cases(decide (1<=(r.conds.length:Int))&&decide ((r.conds.length:Int)<=4))<;>cases(decide (1<=(r.cY.length:Int))&&decide ((r.cY.length:Int)<=2))<;>cases th r r.conds 0<;>rfl
 |true=>
  rw[Tt ha];cases yP r.name<;>cases(decide (0<=r.prio)&&decide (r.prio<=9))<;>cases(decide (1<=(r.conds.length:Int))&&decide ((r.conds.length:Int)<=4))<;>cases(decide (1<=(r.cY.length:Int))&&decide ((r.cY.length:Int)<=2))<;>cases th r r.conds 0<;>simp
theorem a5y(r:aK)(i:Nat)(c:aP)(l:aH)(k:Option Bool)(hr:r.wt<=1048576)(hcb:oh c=true):∀(rest:aH) (j:Nat),(∀v∈rest,fQ v=true)->iA r (i:Int) c (fD (BG r i)) l k rest j=bif rest.all (NQ r i c)then k else some false:=by
 have hk:=Iy hcb;intro rest
 induction rest with
 |nil=>intro j _;rfl
 |cons v rest ih=>
  intro j hv;rw[iA,a2d,aA,ol,aBw r _ v (hv v (by simp)) hr,aA,ih _ (fun x hx=>hv x (by simp[hx])),dP];unfold NQ;simp only[bne,ke];by_cases h1:c.kind=1
  ·simp[h1]
  by_cases h2:c.kind=2
  ·cases(BG r i).contains v<;>cases SX r i v<;>simp[h2]
  cases(BG r i).contains v<;>simp[h1,h2]
theorem a8P(r:aK)(i:Nat)(c:aP)(hr:r.wt<=1048576)(hi:r.conds[i]?=some c)(hcb:oh c=true):rA r (i:Int)=some ((fD (rM c)).all (NQ r i c)):=by
 unfold rA;have hc:=aK.rN hr (aE hi);have hl:=yu hc;have hu:=rG (rM c);have e:fy r.conds (i:Int)=some c:=by unfold fy;simp[hi]
 rw[e,aA,ZL r _ hr,aA,UT c hc,aA,tY (by omega),aF,a5y r i c _ _ hr hcb _ _ (fun v hv=>by
  rw[qZ]at hv;unfold rM jq at hv;exact(fY.1 hv).2)]
 cases(fD (rM c)).all (NQ r i c)<;>rfl
theorem a2g(r:aK)(k:Option Bool)(hr:r.wt<=1048576):∀(rest pre:ar),r.conds=pre++rest->ja r k rest pre.length=bif th r rest pre.length then k else some false:=by
 intro rest
 induction rest with
 |nil=>intro pre _;rfl
 |cons c rest ih=>
  intro pre h;have hm:c∈r.conds:=by rw[h];simp
  have hc:=aK.rN hr hm;have hi:r.conds[pre.length]?=some c:=by rw[h];simp
  have t:=ih (pre++[c]) (by rw[h];simp);simp only[ax,aS,bf]at t;rw[ja,ZQ c hc,aA,th];cases hcb:oh c with
  |false=>rfl
  |true=>
   rw[a8P r _ c hr hi hcb,aA,t];simp only[bne,ke];have e0:decide ((((pre.length:Nat):Int):Int)=0)=decide (pre.length=0):=by rw[bw];simp
   rw[e0];cases decide (pre.length=0)<;>cases decide (c.kind=1)<;>cases(fD (rM c)).all (NQ r pre.length c)<;>simp
theorem a2i(r:aK)(y:aH)(i:Nat)(l:aH)(k:Option Bool):∀(rest:aH) (j:Nat),o7 r y i l k rest j=bif rest.all (fun v=>y.contains v)then k else some false:=
 fun rest j=>Wl (f:=fun v=>mi y v) (L:=o7 r y i l k) (fun _=>rfl) (fun _ _ _=>rfl) rest j (fun v _=>a2d y v)
theorem a2h(r:aK)(b:aH)(k:Option Bool):∀(rest:eW) (i:Nat),(∀a∈rest,a.wt<=1048576)->o6 r (fD b) k rest i=bif rest.all (fun a=>Nz a&&(jq a.pat.args).all fun v=>b.contains v)then k else some false:=by
 intro rest
 induction rest with
 |nil=>intro i _;rfl
 |cons a rest ih=>
  intro i h;have ha:=h a (by simp);have h1:=xf a.pat.args;have h2:=aC.dM (Action.gG ha);rw[o6,aBs a ha,aA,Zc _ (by omega) (fun x hx=>aC.uw (Action.gG ha) hx),aA,tY (by omega),ih _ (fun x hx=>h x (by simp[hx])),a2i,dP];have e:((jq a.pat.args).all fun v=>(fD b).contains v)=(jq a.pat.args).all fun v=>b.contains v:=by
   congr 1;funext v;exact ol b v
  rw[e];cases Nz a<;>cases(jq a.pat.args).all (fun v=>b.contains v)<;>simp
theorem a8Y(r:aK)(h:r.wt<=1048576):we r=some (fX r):=by
 unfold we;have hcu:=YZ r.conds;have hcl:=aK.uH h;rw[show ja r _ r.conds 0=_ from a2g r _ h r.conds [] rfl,ZL r _ h,aA,a2h r _ _ _ _ (fun a ha=>aK.Qo h ha),a8K _ (fun c hc=>aK.rN h hc) hcl,aA,RH _ (by omega),ZV _ (aK.Vy h)];have e:=aAb r.conds [];simp only[dD]at e;rw[e];simp only[aA,ah,bf];have hab:(r.cY.all fun a=>Nz a&&(jq a.pat.args).all fun v=>(BG r r.conds.length).contains v)=O0 r:=rfl;rw[hab];unfold fX;have g1:decide (0<=r.prio)= !decide (r.prio<0):=by rw[bw];simp
 have g2:decide (r.prio<=9)= !decide (r.prio>9):=by rw[bw];simp
 have g3:decide (1<=(r.conds.length:Int))= !decide ((r.conds.length:Int)<1):=by rw[bw];simp
 have g4:decide ((r.conds.length:Int)<=4)= !decide ((r.conds.length:Int)>4):=by rw[bw];simp
 have g5:decide (1<=(r.cY.length:Int))= !decide ((r.cY.length:Int)<1):=by rw[bw];simp
 have g6:decide ((r.cY.length:Int)<=2)= !decide ((r.cY.length:Int)>2):=by rw[bw];simp
 rw[g1,g2,g3,g4,g5,g6];cases yP r.name
 ·rfl
 cases decide (r.prio<0)
 case true=>rfl
 cases decide (r.prio>9)
 case true=>rfl
 cases decide ((r.conds.length:Int)<1)
 case true=>rfl
 cases decide ((r.conds.length:Int)>4)
 case true=>rfl
 cases decide ((r.cY.length:Int)<1)
 case true=>rfl
 cases decide ((r.cY.length:Int)>2)
 case true=>rfl
 cases th r r.conds 0
 ·rfl
 cases O0 r
 ·rfl
 simp
def DR(name:Bytes):aq->Nat->Int
 | [],_=> -1
 |r::rs,i=>bif r.name==name then(i:Int)else DR name rs (i+1)
def NK(all:aq):aq->Nat->Bool
 | [],_=>true
 |r::rs,i=>(fX r&&decide (DR r.name all 0=(i:Int)))&&NK all rs (i+1)
def rK(l:aq):Bool:=NK l l 0&&decide ((l.length:Int)<=6)
theorem a9E(l:aq)(n:Bytes):uQ l n=some (DR n l 0):=by
 unfold uQ;have:∀(r:aq) (i:Nat),lH l n (some (-1)) r i=some (DR n r i):=by
  intro r
  induction r with
  |nil=>intro i;rfl
  |cons x r ih=>intro i;rw[lH,ih,DR];cases x.name==n<;>rfl
 exact this l 0
theorem a8N(l:aq)(n:Bytes):uK l n=some (DR n l 0):=by
 unfold uK;have:∀(r:aq) (i:Nat),kz l n (some (-1)) r i=some (DR n r i):=by
  intro r
  induction r with
  |nil=>intro i;rfl
  |cons x r ih=>intro i;rw[kz,ih,DR];cases x.name==n<;>rfl
 exact this l 0
theorem a6V(l:aq)(h:qw aK.wt l<=1048576):rC l=some (rK l):=by
 unfold rC;have:∀(r:aq) (i:Nat) (k:Option Bool),(∀x∈r,x.wt<=1048576)->lF l k r i=bif NK l r i then k else some false:=by
  intro r
  induction r with
  |nil=>intro i k _;rfl
  |cons x r ih=>
   intro i k hx;rw[lF,a0e x (hx x (by simp)),aA,a9E,aA,ih _ _ (fun y hy=>hx y (by simp[hy])),NK];simp only[bne,ke];cases fX x<;>cases decide (DR x.name l 0=(i:Int))<;>simp
 rw[this _ _ _ (fun x hx=>by have:=oZ (w:=aK.wt) hx;omega),ah,rK];cases NK l l 0<;>rfl
theorem aBu(l:aq)(h:qw aK.wt l<=1048576):uJ l=some (rK l):=by
 unfold uJ;have:∀(r:aq) (i:Nat) (k:Option Bool),(∀x∈r,x.wt<=1048576)->kw l k r i=bif NK l r i then k else some false:=by
  intro r
  induction r with
  |nil=>intro i k _;rfl
  |cons x r ih=>
   intro i k hx;rw[kw,a8Y x (hx x (by simp)),aA,a8N,aA,ih _ _ (fun y hy=>hx y (by simp[hy])),NK];simp only[bne,ke];cases fX x<;>cases decide (DR x.name l 0=(i:Int))<;>simp
 rw[this _ _ _ (fun x hx=>by have:=oZ (w:=aK.wt) hx;omega),ah,rK];have g:decide ((l.length:Int)<=6)= !decide ((l.length:Int)>6):=by rw[bw];simp
 rw[g];cases NK l l 0<;>cases decide ((l.length:Int)>6)<;>rfl
theorem Ox{α β:Type}[DecidableEq β]{f:α->α->Option Bool}{g:α->β}{a b:List α}{k:Option Bool}{L:List α->Nat->Option Bool}(hl:a.length=b.length)(vz:∀i,L [] i=k)
 (vc:∀x xs i,L (x::xs) i=(fy b (i:Int)).bind fun y=>(f x y).bind fun r=>bif !r then some false else L xs (i+1)) (hf:∀x y,f x y=some (decide (g x=g y))):
 L a 0=bif decide (a.map g=b.map g)then k else some false:=by
 have key:∀(ra rb pa pb:List α),a=pa++ra->b=pb++rb->pa.length=pb.length->L ra pa.length=bif decide (ra.map g=rb.map g)then k else some false:=by
  intro ra
  induction ra with
  |nil=>
   intro rb pa pb h1 h2 h3;rw[vz];have:rb=[]:=by
    have:=congrArg List.length h1;have:=congrArg List.length h2;simp at*;apply cc;omega
   subst this;simp
  |cons x xs ih=>
   intro rb pa pb h1 h2 h3;cases rb with
   |nil=>
    exfalso;have:=congrArg List.length h1;have:=congrArg List.length h2;simp at*;omega
   |cons y ys=>
    have e1:fy b (pa.length:Int)=some y:=by rw[h3];exact x7 h2
    rw[vc,e1,aA,hf,aA];have:=ih ys (pa++[x]) (pb++[y]) (by rw[h1];simp) (by rw[h2];simp) (by simp[h3]);simp only[ax,aS,bf]at this;rw[this];by_cases hxy:g x=g y
    ·simp[hxy]
    ·simp[hxy]
 exact key a b [] [] rfl rfl rfl
theorem Ol{α β:Type}{g:α->β}{a b:List α}(h:a.length≠b.length):a.map g≠b.map g:=fun e=>h (by have:=congrArg List.length e;simpa using this)
theorem HL{α:Type}{c:α->aQ}(a b:List α):((((a.map c).length:Int):Int) != ((b.map c).length:Int))= !decide (a.length=b.length):=by
 rw[bw];simp;omega
theorem map_id'{α:Type}(l:List α):l.map (fun x=>x)=l:=by simp
theorem a66(a b:aK):r9 a b=some (decide (a=b)):=by
 have k2:∀(k:Option Bool),a.cY.length=b.cY.length->j7 a b k a.cY 0=bif decide (a.cY=b.cY)then k else some false:=fun k hl=>by
  have:=Ox (g:=fun x:Action=>x) (f:=fun x y:Action=>bif x.kind != y.kind then some false else gD x.pat y.pat) (k:=k) (L:=j7 a b k) hl (fun _=>rfl) (fun x xs i=>by
   rw[j7];congr 1;funext y;cases(x.kind != y.kind)<;>rfl) (fun x y=>by
   obtain⟨x0,x1⟩:=x;obtain⟨y0,y1⟩:=y;simp only[OY,bne,ke];by_cases h0:x0=y0<;>by_cases h1:x1=y1<;>simp[h0,h1])
  rw[map_id',map_id']at this;exact this
 have k1:∀(k:Option Bool),a.conds.length=b.conds.length->l7 a b k a.conds 0=bif decide (a.conds=b.conds)then k else some false:=fun k hl=>by
  have:=Ox (g:=fun x:aP=>x) (f:=kf) (k:=k) (L:=l7 a b k) hl (fun _=>rfl) (fun _ _ _=>rfl) RG;rw[map_id',map_id']at this;exact this
 unfold r9;rw[HL,HL];obtain⟨a0,a1,a2,a3⟩:=a;obtain⟨b0,b1,b2,b3⟩:=b;simp only at k1 k2⊢;simp only[bne,ke,Bool.not_not];by_cases h0:a0=b0;rotate_left
 ·simp[h0]
 by_cases h1:a1=b1;rotate_left
 ·simp[h1]
 by_cases h2:a2.length=b2.length;rotate_left
 ·have:a2≠b2:=fun e=>h2 (by rw[e])
  simp[h2,this]
 by_cases h3:a3.length=b3.length;rotate_left
 ·have:a3≠b3:=fun e=>h3 (by rw[e])
  simp[h3,this]
 rw[k1 _ h2,k2 _ h3];by_cases h4:a2=b2<;>by_cases h5:a3=b3<;>simp[h0,h1,h2,h3,h4,h5]
theorem a2j(a b:aq):tE a b=some (decide (a=b)):=by
 unfold tE;exact eqL (c:=aK.c) (f:=r9) (fun k=>nM a b k) (fun _ _=>rfl) (fun _ _ _ _=>rfl) a66
theorem TI(x y:aV):((x.var:Bytes)==y.var&&(x.value:Bytes)==y.value)=decide (x=y):=by
 obtain⟨x0,x1⟩:=x;obtain⟨y0,y1⟩:=y;simp only[ke];by_cases h0:x0=y0<;>by_cases h1:x1=y1<;>simp[h0,h1]
theorem a0j(a b:aT):jK a b=some (decide (a=b)):=by
 unfold jK;exact eqL (c:=aV.c) (f:=fun x y=>some (decide (x=y))) (fun k=>ga a b k) (fun _ _=>rfl) (fun k x xs i=>by rw[ga];congr 1;funext y;rw[TI];rfl) (fun _ _=>rfl)
theorem a64(a b:aT):qU a b=some (decide (a=b)):=by
 unfold qU;exact eqL (c:=aV.c) (f:=fun x y=>some (decide (x=y))) (fun k=>jw a b k) (fun _ _=>rfl) (fun k x xs i=>by rw[jw];congr 1;funext y;rw[TI];rfl) (fun _ _=>rfl)
theorem a3X(a b:ai):py a b=some (decide (a=b)):=by
 unfold py;exact eqL (c:=aO.c) (f:=fun x y=>(mB x.facts y.facts).bind fun r=>bif !r then some false else jK x.bind y.bind) (fun k=>iI a b k) (fun _ _=>rfl) (fun k x xs i=>by
  rw[iI];congr 1;funext y;rw[Nq,aA,aA];cases decide (x.facts=y.facts)<;>rfl) (fun x y=>by
  obtain⟨x0,x1⟩:=x;obtain⟨y0,y1⟩:=y;simp only[Nq,a0j,aA];by_cases h0:x0=y0<;>by_cases h1:x1=y1<;>simp[h0,h1])
theorem a2k(a b:ai):pN a b=some (decide (a=b)):=by
 unfold pN;exact eqL (c:=aO.c) (f:=fun x y=>(jc x.facts y.facts).bind fun r=>bif !r then some false else qU x.bind y.bind) (fun k=>jB a b k) (fun _ _=>rfl) (fun k x xs i=>by
  rw[jB];congr 1;funext y;rw[Nl,aA,aA];cases decide (x.facts=y.facts)<;>rfl) (fun x y=>by
  obtain⟨x0,x1⟩:=x;obtain⟨y0,y1⟩:=y;simp only[Nl,a64,aA];by_cases h0:x0=y0<;>by_cases h1:x1=y1<;>simp[h0,h1])
def OM(a b:aG):Bool:=decide (a.az.map aX.shape=b.az.map aX.shape)&&(decide (a.nodes.map (fun x=>(x.parent,x.cM,x.cond))=b.nodes.map (fun x=>(x.parent,x.cM,x.cond)))&&decide (a.ends=b.ends))
def FW(a b:aG):Bool:=decide (a.rules=b.rules)&&(decide (a.ends=b.ends)&&(decide (a.facts=b.facts)&&(decide (a.az=b.az)&&decide (a.nodes=b.nodes))))
theorem a9G(a b:aG):ru a b=some (OM a b):=by
 unfold ru OM;rw[HL,HL,HL];by_cases h1:a.az.length=b.az.length;rotate_left
 ·simp[h1,Ol h1]
 by_cases h2:a.nodes.length=b.nodes.length;rotate_left
 ·simp[h2,Ol h2]
 by_cases h3:a.ends.length=b.ends.length;rotate_left
 ·have:a.ends≠b.ends:=fun e=>h3 (by rw[e])
  simp[h3,this]
 have k1:=fun k=>Ox (g:=aX.shape) (f:=fun x y:aX=>jI x.shape y.shape) (k:=k) (L:=mH a b k) h1 (fun _=>rfl) (fun _ _ _=>rfl) (fun x y=>Ut _ _)
 have k2:=fun k=>Ox (g:=fun x:Node=>(x.parent,x.cM,x.cond)) (f:=fun x y:Node=>bif x.parent != y.parent then some false else bif x.cM != y.cM then some false else pW x.cond y.cond) (k:=k) (L:=jL a b k) h2 (fun _=>rfl) (fun x xs i=>by
  rw[jL];congr 1;funext y;cases(x.parent != y.parent)<;>cases(x.cM != y.cM)<;>rfl) (fun x y=>by
  simp only[a0k,bne,ke];by_cases q0:x.parent=y.parent<;>by_cases q1:x.cM=y.cM<;>by_cases q2:x.cond=y.cond<;>simp[q0,q1,q2])
 have k3:=fun k=>Ox (g:=fun x:Int=>x) (f:=fun x y:Int=>some (decide (x=y))) (k:=k) (L:=jM a b k) h3 (fun _=>rfl) (fun x xs i=>by
  rw[jM];congr 1) (fun x y=>rfl)
 rw[k1,k2,k3,map_id',map_id'];simp only[h1,h2,h3,Fh,bN,aM];cases decide (a.az.map aX.shape=b.az.map aX.shape)<;>cases decide (a.nodes.map (fun x=>(x.parent,x.cM,x.cond))=b.nodes.map (fun x=>(x.parent,x.cM,x.cond)))<;>cases decide (a.ends=b.ends)<;>rfl
theorem a61(a b:aG):iW a b=some (FW a b):=by
 unfold iW;simp only[a2j,a65,Nl,aA,HL];by_cases h1:a.az.length=b.az.length;rotate_left
 ·have:a.az≠b.az:=fun e=>h1 (by rw[e])
  simp only[h1,FW,this,decide_false,bz,aF,Bool.false_and];cases decide (a.rules=b.rules)<;>cases decide (a.ends=b.ends)<;>cases decide (a.facts=b.facts)<;>rfl
 by_cases h2:a.nodes.length=b.nodes.length;rotate_left
 ·have:a.nodes≠b.nodes:=fun e=>h2 (by rw[e])
  simp only[h1,h2,FW,this,Fh,decide_false,bz,bN,aF,aM,sZ];cases decide (a.rules=b.rules)<;>cases decide (a.ends=b.ends)<;>cases decide (a.facts=b.facts)<;>rfl
 have k1:=fun k=>Ox (g:=fun x:aX=>x) (f:=fun x y:aX=>(gD x.shape y.shape).bind fun r=>bif !r then some false else jc x.facts y.facts) (k:=k) (L:=gz a b k) h1 (fun _=>rfl) (fun x xs i=>by
  rw[gz];congr 1;funext y;rw[OY,aA,aA];cases decide (x.shape=y.shape)<;>rfl) (fun x y=>by
  obtain⟨x0,x1⟩:=x;obtain⟨y0,y1⟩:=y;simp only[OY,Nl,aA];by_cases q0:x0=y0<;>by_cases q1:x1=y1<;>simp[q0,q1])
 have k2:=fun k=>Ox (g:=fun x:Node=>x) (f:=fun x y:Node=>bif x.parent != y.parent then some false else bif x.cM != y.cM then some false else(kf x.cond y.cond).bind fun r=>bif !r then some false else pN x.tokens y.tokens) (k:=k) (L:=hG a b k) h2 (fun _=>rfl) (fun x xs i=>by
  rw[hG];congr 1;funext y;rw[RG,aA,aA];cases(x.parent != y.parent)<;>cases(x.cM != y.cM)<;>cases decide (x.cond=y.cond)<;>rfl) (fun x y=>by
  obtain⟨x0,x1,x2,x3⟩:=x;obtain⟨y0,y1,y2,y3⟩:=y;simp only[RG,a2k,aA,bne,ke];by_cases q0:x0=y0<;>by_cases q1:x1=y1<;>by_cases q2:x2=y2<;>by_cases q3:x3=y3<;>simp[q0,q1,q2,q3])
 rw[k1,k2,map_id',map_id',map_id',map_id',FW];simp only[h1,h2,Fh,bN,aM];cases decide (a.rules=b.rules)<;>cases decide (a.ends=b.ends)<;>cases decide (a.facts=b.facts)<;>cases decide (a.az=b.az)<;>cases decide (a.nodes=b.nodes)<;>rfl
def yU(s:Bytes):Option Nat:=if 1<=s.length/\s.length<=4 then(match Lib.decFrom 0 s with|some n=>if Lib.decDigits n=s then some n else none|none=>none)else none
def pI(s:Bytes):Int×Bool:=match yU s with|some n=>((n:Int),true)|none=>(0,false)
theorem Yc:∀(u:Nat),∀b∈Lib.decDigits u,48<=b.toNat/\b.toNat<=57:=by
 intro u
 induction u using Nat.strongRecOn with
 |_ u ih=>
  have hb:∀v:Nat,v<10->48<=(UInt8.ofNat (48+v)).toNat/\(UInt8.ofNat (48+v)).toNat<=57:=by
   intro v hv;have:(UInt8.ofNat (48+v)).toNat=48+v:=by simp;omega
   omega
  intro b hm;rw[Lib.decDigits]at hm;split at hm
  ·rename_i h10;simp only[cG]at hm;subst hm;exact hb u h10
  ·rename_i h10;rcases aZ.1 hm with hm|hm
   ·exact ih (u/10) (by omega) b hm
   ·simp only[cG]at hm;subst hm;exact hb (u%10) (by omega)
theorem a3P(a:Bytes)(k:Int->Option (Int×Bool))(ha:a.length<=4):∀(rest pre:Bytes) (acc:Nat),a=pre++rest->acc<10^pre.length->∀n,rest.length<n->
 jE a k n (acc:Int) (pre.length:Int)=(match Lib.decFrom acc rest with|some m=>k (m:Int)|none=>some (0,false)):=by
 intro rest
 induction rest with
 |nil=>
  intro pre acc h _ n hn;obtain⟨m,rfl⟩:∃m,n=m+1:=⟨n-1,by simp at hn;omega⟩
  have e1:decide ((pre.length:Int)<(a.length:Int))=false:=by simp[h]
  rw[jE,e1];rfl
 |cons x xs ih=>
  intro pre acc h hacc n hn;obtain⟨m,rfl⟩:∃m,n=m+1:=⟨n-1,by simp at hn;omega⟩
  have hl:a.length=pre.length+(xs.length+1):=by rw[h];simp
  have e1:decide ((pre.length:Int)<(a.length:Int))=true:=by rw[hl];simp;omega
  have e4:IntKind.i64.wrap ((pre.length:Int)+1)=((pre++[x]).length:Int):=by rw[En (by omega)];simp
  have h10:acc<10000:=eC hacc (vP (by omega) (show pre.length<=4 by omega));have hx:=x.toNat_lt;rw[jE,e1,aF,x7 h,aA,e4];by_cases c1:(x.toNat:Int)<48
  ·have:Lib.digitVal x=none:=by unfold Lib.digitVal;rw[b9 (by omega)]
   simp only[Lib.decFrom,this];rw[av c1,aF]
  ·by_cases c2:(x.toNat:Int)>57
   ·have:Lib.digitVal x=none:=by unfold Lib.digitVal;rw[b9 (by omega)]
    simp only[Lib.decFrom,this];rw[bB c1,aM,av c2,aF]
   ·have hd:Lib.digitVal x=some (x.toNat-48):=by unfold Lib.digitVal;rw[bL (by omega)]
    have e5:IntKind.i64.wrap ((IntKind.i64.wrap (10*(acc:Int)))+(IntKind.i64.wrap (IntKind.u8.wrap ((x.toNat:Int)-48))))=((acc*10+(x.toNat-48):Nat):Int):=by
     rw[dY (k:=.u8) (qQ.u8.2 (by omega)),dY (n:=(10:Int)*(acc:Int)) (qQ.i64.2 (by omega)),dY (n:=(x.toNat:Int)-48) (qQ.i64.2 (by omega)),dY (qQ.i64.2 (by omega))];omega
    simp only[Lib.decFrom,hd];rw[bB c1,aM,bB c2,aM,e5];refine ih (pre++[x]) _ (by simp[h]) ?_ m (by simp at hn;omega);rw[ax,dO,xp];omega
theorem Ri(s:Bytes):nW s=some (pI s):=by
 unfold nW;rw[Il,aA];by_cases hl:1<=s.length/\s.length<=4
 ·have e1:(decide ((s.length:Int)>=1)&&decide ((s.length:Int)<=4))=true:=by simp;omega
  have t:=a3P s (fun z=>((jf z).bind fun Cq=>(bif !((Cq:Bytes)==s)then(some (0,false))else(some (z,true))))) hl.2 s [] 0 rfl (by simp) fuel (by unfold fuel;omega);rw[e1,bN,aM];refine t.trans ?_;unfold pI yU;rw[bL hl];cases hd:Lib.decFrom 0 s with
  |none=>rfl
  |some m=>
   have hm:=Lib.decFrom_lt s 0 m hd;have h10:m<10000:=by
    have:=vP (n:=10) (by omega) hl.2;omega
   simp only;rw[a3N _ (qQ.i64.2 (by omega)),aA];have e2:Lib.itoa (m:Int)=Lib.decDigits m:=by unfold Lib.itoa;rw[b9 (by omega)];simp
   rw[e2];by_cases he:Lib.decDigits m=s
   ·rw[bL he,he];simp
   ·rw[b9 he];have:(Lib.decDigits m==s)=false:=by simpa using he
    rw[this];rfl
 ·have e1:(decide ((s.length:Int)>=1)&&decide ((s.length:Int)<=4))=false:=by
   rw[Eo,pG,pG];omega
  rw[e1];unfold pI yU;rw[b9 hl];rfl
theorem RF(s:Bytes):nT s=some (pI s):=by
 unfold nT pI yU;by_cases hl:1<=s.length/\s.length<=4
 ·have e1:decide ((s.length:Int)<1)=false:=by simp;omega
  have e2:decide ((s.length:Int)>4)=false:=by simp;omega
  rw[bL hl,e1,aM,e2,aM];unfold Bg RJ;rw[bL (by omega)];cases s with
  |nil=>simp at hl
  |cons b t=>
   have fin:∀(m:Nat),Lib.decFrom 0 (b::t)=some m->(bif decide ((m:Int)<0)then some ((0:Int),false)else bif decide ((m:Int)>9999)then some (0,false)else(lT (m:Int)).bind fun y8=>bif !((y8:Bytes)==(b::t))then some (0,false)else some ((m:Int),true))=
    some (match(if Lib.decDigits m=b::t then some m else none)with|some n=>((n:Int),true)|none=>(0,false)):=by
    intro m hd;have hm:=Lib.decFrom_lt (b::t) 0 m hd;have h10:m<10000:=by
     have:=vP (n:=10) (by omega) hl.2;omega
    have e3:decide ((m:Int)<0)=false:=by simp
    have e4:decide ((m:Int)>9999)=false:=by simp;omega
    have e5:Lib.itoa (m:Int)=Lib.decDigits m:=by unfold Lib.itoa;rw[b9 (by omega)];simp
    rw[e3,aM,e4,aM,a5z,aA,e5];by_cases he:Lib.decDigits m=b::t
    ·rw[bL he,he];simp
    ·rw[b9 he];have:(Lib.decDigits m==(b::t))=false:=by simpa using he
     rw[this];rfl
   have sign:∀(n:Int),b.toNat<48->(bif decide (n<0)then some ((0:Int),false)else bif decide (n>9999)then some (0,false)else(lT n).bind fun y8=>bif !((y8:Bytes)==(b::t))then some (0,false)else some (n,true))=some (0,false):=by
    intro n hb;by_cases hn:n<0
    ·rw[av hn];rfl
    rw[bB hn,aM,a5z,aA];cases decide (n>9999)with
    |true=>rfl
    |false=>
     have e5:Lib.itoa n=Lib.decDigits n.toNat:=by unfold Lib.itoa;rw[b9 hn]
     have:(Lib.itoa n==(b::t))=false:=by
      rw[e5,cw];intro h;have:=Yc n.toNat b (by rw[h];simp);omega
     rw[this];rfl
   simp only[Lib.atoi];by_cases hb:b=45
   ·subst hb;have hd:Lib.decFrom 0 ((45:UInt8)::t)=none:=by simp[Lib.decFrom,Lib.digitVal]
    rw[bL (by decide),hd];cases Lib.decNat t with
    |none=>rfl
    |some m=>exact sign _ (by decide)
   ·rw[b9 (by simpa using hb)];by_cases Qz:b=43
    ·subst Qz;have hd:Lib.decFrom 0 ((43:UInt8)::t)=none:=by simp[Lib.decFrom,Lib.digitVal]
     rw[bL (by decide),hd];cases Lib.decNat t with
     |none=>rfl
     |some m=>exact sign (m:Int) (by decide)
    ·rw[b9 (by simpa using Qz)];have hdn:Lib.decNat (b::t)=Lib.decFrom 0 (b::t):=by simp[Lib.decNat]
     rw[hdn];cases hd:Lib.decFrom 0 (b::t)with
     |none=>rfl
     |some m=>exact fin m hd
 ·rw[b9 hl];by_cases h1:(s.length:Int)<1
  ·rw[av h1];rfl
  ·have h2:(s.length:Int)>4:=by omega
   rw[bB h1,aM,av h2];rfl
def xg(a b:Bytes):Int:=if Op.bytesLess a b=true then-1 else if a=b then 0 else 1
def HV(x y:Int):Int:=if x<y then-1 else if x>y then 1 else 0
def C1(a b:Bytes):Int:=match yU a,yU b with
 |some x,some y=>HV x y
 |some _,none=> -1
 |none,some _=>1
 |none,none=>xg a b
def uZ{α:Type}(g:α->α->Int):List α->List α->Option Int
 |x::xs,y::ys=>if g x y≠0 then some (g x y)else uZ g xs ys
 |_,_=>none
def cmpL{α:Type}(g:α->α->Int)(a b:List α):Int:=match uZ g a b with|some z=>z|none=>HV a.length b.length
def nc(a b:aC):Int:=if a.rel≠b.rel then xg a.rel b.rel else cmpL C1 a.args b.args
theorem Qt{a b:Bytes}(h:a≠b):xg a b≠0:=by
 unfold xg;split
 ·omega
 ·first|omega| (rw[b9 h];omega)
theorem Q3(a:Bytes):xg a a=0:=by
 unfold xg;rw[qy];simp
theorem VR:∀(a b:Bytes),Lib.compareBytes a b=xg a b
 | [],[]=>by simp[Lib.compareBytes,xg,Op.bytesLess]
 | [],_::_=>by simp[Lib.compareBytes,xg,Op.bytesLess]
 |_::_,[]=>by simp[Lib.compareBytes,xg,Op.bytesLess]
 |a::xs,b::ys=>by
  have ih:=VR xs ys;simp only[Lib.compareBytes,xg,Op.bytesLess];by_cases h1:a<b
  ·simp[h1]
  ·by_cases h2:b<a
   ·have hne:a≠b:=fun e=>by subst e;exact h1 h2
    simp[h1,h2,hne]
   ·have e:a=b:=by
     rw[Et]at h1 h2;exact UInt8.toNat_inj.1 (by omega)
    subst e;rw[b9 h1,b9 h1,ih];simp[xg,h1]
theorem Nf{α:Type}{f:α->α->Option Int}{g:α->α->Int}{c:α->aQ}{L:List α->Nat->Option Int}{k:Option Int}{b:List α}(vz:∀i,L [] i=k)
 (vc:∀x xs i,L (x::xs) i=bif decide (((i:Int):Int)<((b.map c).length:Int))then((fy b (i:Int)).bind fun y=>((f x y).bind fun z=>(bif (z:Int) != 0 then(some z)else(L xs (i+1)))))else k):
 ∀(l pre rest:List α),b=pre++rest->(∀x∈l,∀y∈rest,f x y=some (g x y))->L l pre.length=(match uZ g l rest with|some z=>some z|none=>k):=by
 intro l
 induction l with
 |nil=>intro pre rest h _;rw[vz];cases rest<;>rfl
 |cons x xs ih=>
  intro pre rest h hf;rw[vc];cases rest with
  |nil=>
   have e1:decide ((pre.length:Int)<((b.map c).length:Int))=false:=by simp[h]
   rw[e1];rfl
  |cons y ys=>
   have e1:decide ((pre.length:Int)<((b.map c).length:Int))=true:=by simp[h];omega
   rw[e1,aF,x7 h,aA,hf x (by simp) y (by simp),aA];simp only[uZ];have t:=ih (pre++[y]) ys (by simp[h]) (fun x' hx y' hy=>hf x' (by simp[hx]) y' (by simp[hy]));rw[ax,dO]at t;by_cases hz:g x y=0
   ·have e2:(g x y != 0)=false:=by simp[hz]
    rw[e2,aM,t,b9 (by simp[hz])]
   ·have e2:(g x y != 0)=true:=by simp[hz]
    rw[e2,aF,bL hz]
theorem Ng(x y:Int):(bif decide (x<y)then some (-1:Int)else bif decide (x>y)then some 1 else some 0)=some (HV x y):=by
 unfold HV;by_cases h1:x<y
 ·simp[h1]
 ·by_cases h2:x>y
  ·simp[h1,h2]
  ·simp[h1,h2]
theorem a4p(a b:Bytes):u9 a b=some (xg a b):=by
 unfold u9 xg;cases h:Op.bytesLess a b with
 |true=>rfl
 |false=>
  by_cases e:a=b
  ·simp[e]
  ·have e':(a==b)=false:=by simpa using e
   simp[e,e']
theorem a4o(a b:Bytes):k6 a b=some (C1 a b):=by
 unfold k6 C1;rw[Ri,Ri,aA,aA,a4p];unfold pI;cases yU a with
 |none=>cases yU b<;>rfl
 |some x=>
  cases yU b with
  |none=>rfl
  |some y=>
   simp only[aF,bN,aM];exact Ng _ _
theorem ZP(x y:Int):j8 x y=some (HV x y):=by
 unfold j8;exact Ng x y
theorem a4B(a b:Bytes):rz a b=some (xg a b):=by
 unfold rz;show some (Lib.compareBytes a b)=_;rw[VR]
theorem a8I(a b:Bytes):nG a b=some (C1 a b):=by
 unfold nG C1;rw[RF,RF,aA,aA,a4B];unfold pI;cases yU a with
 |none=>cases yU b<;>rfl
 |some x=>
  cases yU b with
  |none=>rfl
  |some y=>
   simp only[aF,ZP,aA]
theorem TS(a b:aC):fS a b=some (nc a b):=by
 unfold fS nc;by_cases h:a.rel=b.rel
 ·have e:(a.rel==b.rel)=true:=by simpa using h
  rw[e,bN,aM,b9 (by simpa using h)];have t:=fun k=>Nf (f:=k6) (g:=C1) (c:=tx) (L:=je a b k) (b:=b.args) (k:=k) (fun _=>rfl) (fun _ _ _=>rfl) a.args [] b.args rfl (fun x _ y _=>a4o x y)
  refine(t _).trans ?_;unfold cmpL;cases uZ C1 a.args b.args with
  |some z=>rfl
  |none=>simp only[ah];exact Ng _ _
 ·have e:(a.rel==b.rel)=false:=by simpa using h
  rw[e,bz,aF,bL h,a4p];rfl
theorem ZO(a b:aC):gN a b=some (nc a b):=by
 unfold gN nc;rw[a4B,aA];by_cases h:a.rel=b.rel
 ·have e:(xg a.rel b.rel != 0)=false:=by rw[h,Q3];rfl
  rw[e,aM,b9 (by simpa using h)];have t:=fun k=>Nf (f:=nG) (g:=C1) (c:=tx) (L:=jY a b k) (b:=b.args) (k:=k) (fun _=>rfl) (fun _ _ _=>rfl) a.args [] b.args rfl (fun x _ y _=>a8I x y)
  refine(t _).trans ?_;unfold cmpL;cases uZ C1 a.args b.args with
  |some z=>rfl
  |none=>simp only[ah,ZP,aA]
 ·have e:(xg a.rel b.rel != 0)=true:=by simpa using Qt h
  rw[e,aF,bL h]
theorem a9C(a b:aO):oq a b=some (cmpL nc a.facts b.facts):=by
 unfold oq;have t:=fun k=>Nf (f:=fS) (g:=nc) (c:=aC.c) (L:=iw a b k) (b:=b.facts) (k:=k) (fun _=>rfl) (fun _ _ _=>rfl) a.facts [] b.facts rfl (fun x _ y _=>TS x y)
 refine(t _).trans ?_;unfold cmpL;cases uZ nc a.facts b.facts with
 |some z=>rfl
 |none=>simp only[ah];exact Ng _ _
theorem a8J(a b:aO):om a b=some (cmpL nc a.facts b.facts):=by
 unfold om pL;have t:=Nf (f:=gN) (g:=nc) (c:=aC.c) (L:=fK a.facts b.facts ((j8 ((a.facts.map aC.c).length:Int) ((b.facts.map aC.c).length:Int)).bind fun EZ=>(some EZ))) (b:=b.facts) (k:=_) (fun _=>rfl) (fun _ _ _=>rfl) a.facts [] b.facts rfl (fun x _ y _=>ZO x y);rw[show fK a.facts b.facts _ a.facts 0=_ from t];unfold cmpL;cases uZ nc a.facts b.facts with
 |some z=>rfl
 |none=>simp only[ah,ZP,aA]
def chainB:Option aC->aI->Bool
 |_,[]=>true
 |p,x::xs=>oT x&&(match p with|some q=>decide (nc q x<0)|none=>true)&&chainB (some x) xs
def eb(l:aI):Bool:=chainB none l&&decide (l.length<=24)
theorem Pt{isF:aC->Option Bool}{cmp:aC->aC->Option Int}{a:aI}{L:aI->Nat->Option Bool}{k:Option Bool}(ha:a.length<=1099511627770)(hc:∀x y,cmp x y=some (nc x y))(vz:∀i,L [] i=k)
 (vc:∀x xs i,L (x::xs) i=((isF x).bind fun y=>(bif !(y)then(some false)else(bif decide (((i:Int):Int)>0)then((fy a (IntKind.i64.wrap ((i:Int)-1))).bind fun q=>((cmp q x).bind fun z=>(bif decide ((z:Int)>=0)then(some false)else(L xs (i+1)))))else(L xs (i+1)))))):
 ∀(l pre:aI),a=pre++l->(∀x∈l,isF x=some (oT x))->L l pre.length=bif chainB pre.getLast? l then k else some false:=by
 intro l
 induction l with
 |nil=>intro pre _ _;rw[vz];rfl
 |cons x xs ih=>
  intro pre h hf;have hl:a.length=pre.length+(xs.length+1):=by rw[h];simp
  have t:=ih (pre++[x]) (by simp[h]) (fun y hy=>hf y (by simp[hy]));rw[ax,dO,oc]at t;rw[vc,hf x (by simp),aA,t];simp only[chainB];cases oT x with
  |false=>rfl
  |true=>
   rw[bN,aM,eM];rcases ya pre with rfl|⟨p,z,hpz⟩
   ·simp
   ·rw[yZ]at hpz;subst hpz;have e0:decide (((p++[z]).length:Int)>0)=true:=by simp<;>omega
    have e1:IntKind.i64.wrap (((p++[z]).length:Int)-1)=(p.length:Int):=by
     rw[dY (qQ.i64.2 (by simp at hl⊢;omega))];simp
    have e2:fy a (p.length:Int)=some z:=x7 (xs:=x::xs) (by rw[h];simp);rw[e0,aF,e1,e2,aA,hc,aA,oc];by_cases hz:nc z x<0
    ·have e3:decide (nc z x>=0)=false:=by simp;omega
     rw[e3,aM];show _=bif (decide (nc z x<0)&&chainB (some x) xs)then k else some false
     rw[av hz,eM]
    ·have e3:decide (nc z x>=0)=true:=by simp;omega
     rw[e3,aF];show _=bif (decide (nc z x<0)&&chainB (some x) xs)then k else some false
     rw[bB hz];rfl
theorem WI(l:aI)(h:qw aC.wt l<=1048576):nU l=some (eb l):=by
 unfold nU eb;have hl:=qo aC.wt l;have t:=Pt (isF:=qJ) (cmp:=fS) (a:=l) (L:=lE l (some (decide ((((l.map aC.c).length:Int):Int)<=24)))) (k:=_) (by omega) TS (fun _=>rfl) (fun _ _ _=>rfl) l [] rfl (fun x hx=>a0V x (by have:=oZ (w:=aC.wt) hx;omega));refine t.trans ?_;have e:decide (((l.map aC.c).length:Int)<=24)=decide (l.length<=24):=by rw[ah];congr 1;rw[vQ];omega
 rw[e];show(bif chainB none l then _ else _)=_;cases chainB none l<;>rfl
theorem ZJ(l:aI)(h:qw aC.wt l<=1048576):pT l=some (eb l):=by
 unfold pT eb;have hl:=qo aC.wt l;have t:=Pt (isF:=qH) (cmp:=gN) (a:=l) (L:=j0 l (some true)) (k:=_) (by omega) ZO (fun _=>rfl) (fun _ _ _=>rfl) l [] rfl (fun x hx=>ZT x (by have:=oZ (w:=aC.wt) hx;omega));rw[show j0 l (some true) l 0=_ from t];by_cases h24:l.length<=24
 ·have e:decide (((l.map aC.c).length:Int)>24)=false:=by rw[ah];simp;omega
  rw[e,aM,av h24,wW];show(bif chainB none l then _ else _)=_;cases chainB none l<;>rfl
 ·have e:decide (((l.map aC.c).length:Int)>24)=true:=by rw[ah];simp;omega
  rw[e,aF,bB h24,sZ]
def PB(b:aT):Prop:=b.length<=1048576/\∀x∈b,x.var.length<=1048576/\x.value.length<=1048576
theorem PB.nil:PB []:=⟨by simp,by simp⟩
def pS:Option aV->aT->Bool
 |_,[]=>true
 |p,x::xs=>fQ x.var&&(fH x.value&&((match p with|some q=>Op.bytesLess q.var x.var|none=>true)&&pS (some x) xs))
def gq(b:aT):Bool:=pS none b&&decide (b.length<=6)
theorem HH{b:aT}(h:gq b=true):b.length<=6:=by
 unfold gq at h;simp only[aR,bC]at h;exact h.2
theorem SJ{isV isA:Bytes->Option Bool}{a:aT}{L:aT->Nat->Option Bool}{k:Option Bool}(ha:a.length<=1099511627770)(hV:∀x:Bytes,x.length<=1048576->isV x=some (fQ x))(hA:∀x:Bytes,x.length<=1048576->isA x=some (fH x))(vz:∀i,L [] i=k)
 (vc:∀x xs i,L (x::xs) i=((isV x.var).bind fun y=>(bif !(y)then(some false)else((isA x.value).bind fun z=>(bif !(z)then(some false)else(bif decide (((i:Int):Int)>0)then((fy a (IntKind.i64.wrap ((i:Int)-1))).bind fun q=>(bif !(Op.bytesLess q.var x.var)then(some false)else(L xs (i+1))))else(L xs (i+1)))))))):
 ∀(l pre:aT),a=pre++l->(∀x∈l,x.var.length<=1048576/\x.value.length<=1048576)->L l pre.length=bif pS pre.getLast? l then k else some false:=by
 intro l
 induction l with
 |nil=>intro pre _ _;rw[vz];rfl
 |cons x xs ih=>
  intro pre h hf;have hl:a.length=pre.length+(xs.length+1):=by rw[h];simp
  have t:=ih (pre++[x]) (by simp[h]) (fun y hy=>hf y (by simp[hy]));rw[ax,dO,oc]at t;rw[vc,hV _ (hf x (by simp)).1,aA,hA _ (hf x (by simp)).2,aA,t];simp only[pS];cases fQ x.var with
  |false=>rfl
  |true=>
   cases fH x.value with
   |false=>rfl
   |true=>
    simp only[bN,aM,eM];rcases ya pre with rfl|⟨p,z,hpz⟩
    ·simp
    ·rw[yZ]at hpz;subst hpz;have e0:decide (((p++[z]).length:Int)>0)=true:=by simp<;>omega
     have e1:IntKind.i64.wrap (((p++[z]).length:Int)-1)=(p.length:Int):=by
      rw[dY (qQ.i64.2 (by simp at hl⊢;omega))];simp
     have e2:fy a (p.length:Int)=some z:=x7 (xs:=x::xs) (by rw[h];simp);rw[e0,aF,e1,e2,aA,oc];show _=bif (Op.bytesLess z.var x.var&&pS (some x) xs)then k else some false
     cases Op.bytesLess z.var x.var<;>rfl
theorem WJ(b:aT)(h:PB b):lm b=some (gq b):=by
 unfold lm gq;have t:=fun k=>SJ (isV:=iF) (isA:=gF) (a:=b) (L:=k8 b k) (k:=k) (by have:=h.1;omega) Rj ND (fun _=>rfl) (fun _ _ _=>rfl) b [] rfl h.2
 refine(t _).trans ?_;have e:decide (((b.map aV.c).length:Int)<=6)=decide (b.length<=6):=by rw[ah];congr 1;rw[vQ];omega
 rw[e];show(bif pS none b then _ else _)=_;cases pS none b<;>rfl
theorem Vq(b:aT)(h:PB b):lU b=some (gq b):=by
 unfold lU gq;have t:=fun k=>SJ (isV:=mZ) (isA:=gC) (a:=b) (L:=iV b k) (k:=k) (by have:=h.1;omega) X7 Mx (fun _=>rfl) (fun _ _ _=>rfl) b [] rfl h.2
 rw[show iV b (some true) b 0=_ from t _];by_cases h6:b.length<=6
 ·have e:decide (((b.map aV.c).length:Int)>6)=false:=by rw[ah];simp;omega
  rw[e,aM,av h6,wW];show(bif pS none b then _ else _)=_;cases pS none b<;>rfl
 ·have e:decide (((b.map aV.c).length:Int)>6)=true:=by rw[ah];simp;omega
  rw[e,aF,bB h6,sZ]
def dA(t:Bytes):aT->Option Bytes
 | []=>none
 |x::xs=>bif x.var==t then some x.value else dA t xs
def qi(b:aT)(t:Bytes):Bytes×Bool:=bif fH t then(t,true)else bif fQ t then(match dA t b with|some v=>(v,true)|none=>([],false))else([],false)
theorem a6t(b:aT)(t:Bytes)(ht:t.length<=1048576):qe b t=some (qi b t):=by
 unfold qe qi;have key:∀(l:aT) (i:Nat),ig b t (some ([],false)) l i=some (bif fQ t then(match dA t l with|some v=>(v,true)|none=>([],false))else([],false)):=by
  intro l
  induction l with
  |nil=>intro i;rw[ig];cases fQ t<;>rfl
  |cons x xs ih=>
   intro i;rw[ig,Rj t ht,aA,ih];simp only[dA];cases x.var==t<;>cases fQ t<;>rfl
 rw[ND t ht,aA,key];cases fH t<;>rfl
theorem a2m(b:aT)(t:Bytes)(ht:t.length<=1048576):oo b t=some (qi b t):=by
 unfold oo qi;have key:∀(l:aT) (i:Nat),me b t (some ([],false)) l i=some (match dA t l with|some v=>(v,true)|none=>([],false)):=by
  intro l
  induction l with
  |nil=>intro i;rfl
  |cons x xs ih=>
   intro i;rw[me,ih];simp only[dA];cases x.var==t<;>rfl
 rw[Mx t ht,aA,X7 t ht,aA,key];cases fH t<;>cases fQ t<;>rfl
theorem Up(b:aT)(h:b.length<=1099511627776):sL b=some b:=by
 unfold sL;rw[TR h (by decide)];simp
theorem UU(b:aT)(h:b.length<=1099511627776):jd b=some b:=by
 unfold jd;rw[TR h (by decide)];simp
def wU(v val:Bytes):aT->aT
 | []=>[⟨v,val⟩]
 |x::xs=>bif !(Op.bytesLess x.var v||x.var==v)then⟨v,val⟩::x::xs else x::wU v val xs
theorem Dd(v val:Bytes)(b:aT):(wU v val b).length=b.length+1:=by
 induction b with
 |nil=>rfl
 |cons x xs ih=>simp only[wU];cases !(Op.bytesLess x.var v||x.var==v)<;>simp[ih]
theorem P6(v val:Bytes)(b:aT){x:aV}(h:x∈wU v val b):x=⟨v,val⟩\/x∈b:=by
 induction b with
 |nil=>simp[wU]at h;exact .inl h
 |cons y ys ih=>
  simp only[wU]at h;cases hc: !(Op.bytesLess y.var v||y.var==v)with
  |true=>
   rw[hc,aF]at h;rcases bJ.1 h with h|h
   ·exact .inl h
   ·exact .inr h
  |false=>
   rw[hc,aM]at h;rcases bJ.1 h with h|h
   ·exact .inr (by simp[h])
   ·rcases ih h with h|h
    ·exact .inl h
    ·exact .inr (by simp[h])
theorem WM{γ:Type}{v val:Bytes}{L:aT->Nat->Bool->aT->Option γ}{k:Bool->aT->Option γ}{K:aT->Option γ}(hk1:∀w,k true w=K w)(hk2:∀w:aT,w.length<1099511627770->k false w=K (w++[⟨v,val⟩]))(vz:∀i d w,L [] i d w=k d w)
 (vc:∀x xs i d w,L (x::xs) i d w=(bif !(d)then(bif !(Op.bytesLess x.var v||(x.var:Bytes)==v)then(bif room ((w.map aV.c).length+([[D.str v,D.str val]]).length) 32 then(bif room (((w.map aV.c)++([[D.str v,D.str val]])).length+([[D.str x.var,D.str x.value]]).length) 32 then(L xs (i+1) true ((w++([(⟨v,val⟩:aV)]))++([x])))else none)else none)else(bif room ((w.map aV.c).length+([[D.str x.var,D.str x.value]]).length) 32 then(L xs (i+1) d (w++([x])))else none))else(bif room ((w.map aV.c).length+([[D.str x.var,D.str x.value]]).length) 32 then(L xs (i+1) d (w++([x])))else none))):
 ∀(l:aT) (i:Nat) (w:aT),w.length+l.length<1099511627760->L l i false w=K (w++wU v val l):=by
 have c1:∀(l:aT) (i:Nat) (w:aT),w.length+l.length<1099511627765->L l i true w=K (w++l):=by
  intro l
  induction l with
  |nil=>intro i w _;rw[vz,hk1,dD]
  |cons x xs ih=>
   intro i w hw;simp only[aS]at hw;rw[vc,bN,aM,gB (by omega) (by decide),aF,ih (i+1) (w++[x]) (by simp;omega)];simp
 intro l
 induction l with
 |nil=>intro i w hw;simp only[bf]at hw;rw[vz,hk2 _ (by omega)];rfl
 |cons x xs ih=>
  intro i w hw;simp only[aS]at hw;have r1:∀y:aQ,room ((w.map aV.c).length+([y]).length) 32=true:=fun y=>gB (by omega) (by decide)
  have r2:room (((w.map aV.c)++([[D.str v,D.str val]])).length+([[D.str x.var,D.str x.value]]).length) 32=true:=Ek (by simp;omega) (by decide);have t1:=ih (i+1) (w++[x]) (by simp;omega);have t2:=c1 xs (i+1) ((w++[⟨v,val⟩])++[x]) (by simp;omega);rw[vc,bz,aF,r1,r1,r2];simp only[aF,wU];cases !(Op.bytesLess x.var v||x.var==v)with
  |true=>rw[aF,aF,t2];simp
  |false=>rw[aM,aM,t1];simp
theorem a9X(b:aT)(v val:Bytes)(h:b.length<1099511627700):yI b v val=some (wU v val b):=by
 unfold yI;exact WM (v:=v) (val:=val) (K:=fun w=>some w) (L:=nX b v val (fun(z:Bool) (q:aT)=>(bif !(z)then(bif room ((q.map aV.c).length+([[D.str v,D.str val]]).length) 32 then(some (q++([(⟨v,val⟩:aV)])))else none)else(some q)))) (fun w=>rfl) (fun w hw=>by show(bif !false then _ else _)=_;rw[gB (by omega) (by decide)];rfl) (fun _ _ _=>rfl) (fun _ _ _ _ _=>rfl) b 0 [] (by simp;omega)
def wu(b:aT)(v val:Bytes):aT×Bool:=bif gq b&&(fQ v&&fH val)then(match dA v b with|some o=>bif o==val then(b,true)else([],false)|none=>bif decide (b.length=6)then([],false)else(wU v val b,true))else([],false)
theorem VX{b:aT}{v val:Bytes}(h:PB b)(hv:v.length<=1048576)(hl:val.length<=1048576):PB (wu b v val).1:=by
 unfold wu;cases hb:gq b&&(fQ v&&fH val)with
 |false=>exact PB.nil
 |true=>
  rw[aF];have h6:b.length<=6:=HH (by simp only[aR]at hb;exact hb.1);cases dA v b with
  |some o=>simp only;cases o==val<;>first|exact h|exact PB.nil
  |none=>
   simp only;cases decide (b.length=6)with
   |true=>exact PB.nil
   |false=>
    refine⟨by simp only[aM,Dd];omega,fun x hx=>?_⟩;rcases P6 _ _ _ hx with rfl|hx
    ·exact⟨hv,hl⟩
    ·exact h.2 x hx
theorem aCF(b:aT)(v val:Bytes)(h:PB b)(hv:v.length<=1048576)(hl:val.length<=1048576):uf b v val=some (wu b v val):=by
 unfold uf wu;have hlen:=h.1;rw[WJ b h,aA,Rj v hv,aA,ND val hl,aA,a6t b v hv,aA,Up b (by omega),aA,a9X b v val (by omega),aA];have e6:((((b.map aV.c).length:Int):Int)==6)=decide (b.length=6):=by
  rw[ah,bw];simp;omega
 rw[e6];cases hb:gq b with
 |false=>rfl
 |true=>
  cases hvv:fQ v with
  |false=>rfl
  |true=>
   cases fH val with
   |false=>rfl
   |true=>
    have Ik:qi b v=(match dA v b with|some o=>(o,true)|none=>([],false)):=by unfold qi;rw[nC hvv,hvv];rfl
    rw[Ik];simp only[bN,aM,eM,wW,aF];cases dA v b with
    |some o=>simp only[aF];cases o==val<;>rfl
    |none=>simp only[aM];cases decide (b.length=6)<;>rfl
theorem a8M(b:aT)(v val:Bytes)(h:PB b)(hv:v.length<=1048576)(hl:val.length<=1048576):sE b v val=some (wu b v val):=by
 unfold sE wu;have hlen:=h.1;have t:=(WM (v:=v) (val:=val) (K:=fun w=>some ((w,true):aT×Bool)) (L:=lS b v val (fun(z:Bool) (q:aT)=>(bif !(z)then(bif room ((q.map aV.c).length+([[D.str v,D.str val]]).length) 32 then(some (q++([(⟨v,val⟩:aV)]),true))else none)else(some (q,true))))) (fun w=>rfl) (fun w hw=>by show(bif !false then _ else _)=_;rw[gB (by omega) (by decide)];rfl) (fun _ _ _=>rfl) (fun _ _ _ _ _=>rfl) b 0 [] (by simp;omega))
 rw[Vq b h,aA,X7 v hv,aA,Mx val hl,aA,a2m b v hv,aA,UU b (by omega),aA,t];cases hb:gq b with
 |false=>rfl
 |true=>
  have h6:=HH hb;have e6:decide ((((b.map aV.c).length:Int):Int)>=6)=decide (b.length=6):=by
   rw[ah];congr 1;rw[vQ];omega
  rw[e6];cases hvv:fQ v with
  |false=>rfl
  |true=>
   cases fH val with
   |false=>rfl
   |true=>
    have Ik:qi b v=(match dA v b with|some o=>(o,true)|none=>([],false)):=by unfold qi;rw[nC hvv,hvv];rfl
    rw[Ik];simp only[bN,aM,eM,wW,aF];cases dA v b with
    |some o=>simp only[aF];cases o==val<;>rfl
    |none=>simp only[aM];cases decide (b.length=6)<;>rfl
def sV:aH->aH->aT->aT×Bool
 | [],_,w=>(w,true)
 |_::_,[],_=>([],false)
 |x::xs,y::ys,w=>bif fH x then(bif x==y then sV xs ys w else([],false))else(bif (wu w x y).2 then sV xs ys (wu w x y).1 else([],false))
def ko(p f:aC)(b:aT):aT×Bool:=bif vM p&&(oT f&&(gq b&&(p.rel==f.rel&&decide (p.args.length=f.args.length))))then sV p.args f.args b else([],false)
theorem RO:∀(l r:aH) (w:aT),PB w->(∀x∈l,x.length<=1048576)->(∀x∈r,x.length<=1048576)->PB (sV l r w).1
 | [],_,w,h,_,_=>h
 |_::_,[],_,_,_,_=>PB.nil
 |x::xs,y::ys,w,h,hl,hr=>by
  simp only[sV];have i1:=RO xs ys w h (fun z hz=>hl z (by simp[hz])) (fun z hz=>hr z (by simp[hz]));have i2:=RO xs ys (wu w x y).1 (VX h (hl x (by simp)) (hr y (by simp))) (fun z hz=>hl z (by simp[hz])) (fun z hz=>hr z (by simp[hz]));cases fH x with
  |true=>cases x==y<;>first|exact i1|exact PB.nil
  |false=>cases(wu w x y).2<;>first|exact i2|exact PB.nil
theorem a2y{p f:aC}{b:aT}(hb:PB b)(hp:p.wt<=1048576)(hf:f.wt<=1048576):PB (ko p f b).1:=by
 unfold ko;cases vM p&&(oT f&&(gq b&&(p.rel==f.rel&&decide (p.args.length=f.args.length))))with
 |false=>exact PB.nil
 |true=>exact RO _ _ _ hb (fun x hx=>aC.uw hp hx) (fun x hx=>aC.uw hf hx)
theorem Vw{isA:Bytes->Option Bool}{ext:aT->Bytes->Bytes->Option (aT×Bool)}{fa:aH}{L:aH->Nat->aT->Option (aT×Bool)}(hA:∀x:Bytes,x.length<=1048576->isA x=some (fH x))(hE:∀w x y,PB w->x.length<=1048576->y.length<=1048576->ext w x y=some (wu w x y))(vz:∀i w,L [] i w=some (w,true))
 (vc:∀x xs i w,L (x::xs) i w=((isA x).bind fun y=>(bif y then((fy fa (i:Int)).bind fun z=>(bif !((x:Bytes)==z)then(some ([],false))else(L xs (i+1) w)))else((fy fa (i:Int)).bind fun z=>((ext w x z).bind fun q=>(bif !(q.2)then(some ([],false))else(L xs (i+1) q.1))))))):
 ∀(l pre rest:aH) (w:aT),fa=pre++rest->l.length=rest.length->(∀x∈l,x.length<=1048576)->(∀x∈rest,x.length<=1048576)->PB w->L l pre.length w=some (sV l rest w):=by
 intro l
 induction l with
 |nil=>intro pre rest w _ _ _ _ _;rw[vz];simp[sV]
 |cons x xs ih=>
  intro pre rest w h hl hx hr hw;cases rest with
  |nil=>simp at hl
  |cons y ys=>
   have t:=fun w' hw'=>ih (pre++[y]) ys w' (by simp[h]) (by simpa using hl) (fun z hz=>hx z (by simp[hz])) (fun z hz=>hr z (by simp[hz])) hw'
   simp only[ax,dO]at t;rw[vc,hA x (hx x (by simp)),aA,x7 h,aA,aA,hE w x y hw (hx x (by simp)) (hr y (by simp)),aA];simp only[sV];cases fH x with
   |true=>
    simp only[aF];cases x==y with
    |true=>simp only[bN,aM,aF];exact t w hw
    |false=>rfl
   |false=>
    simp only[aM];cases hq:(wu w x y).2 with
    |true=>simp only[bN,aM,aF];exact t _ (VX hw (hx x (by simp)) (hr y (by simp)))
    |false=>rfl
theorem Zo(a b:aH):((((a.map tx).length:Int):Int) != ((b.map tx).length:Int))= !decide (a.length=b.length):=by
 rw[ah,ah];by_cases h:a.length=b.length
 ·simp[h]
 ·rw[bB h];simp;omega
theorem a6f(p f:aC)(b:aT)(hp:p.wt<=1048576)(hf:f.wt<=1048576)(hb:PB b):jh p f b=some (ko p f b):=by
 unfold jh ko;have hlen:=hb.1;rw[a6i p hp,aA,a0V f hf,aA,WJ b hb,aA,Up b (by omega),aA,Zo];cases vM p with
 |false=>rfl
 |true=>
  cases oT f with
  |false=>rfl
  |true=>
   cases gq b with
   |false=>rfl
   |true=>
    cases p.rel==f.rel with
    |false=>rfl
    |true=>
     by_cases h:p.args.length=f.args.length
     ·rw[av h];have t:=Vw (isA:=gF) (ext:=uf) (fa:=f.args) (L:=kB p f (fun(q:aT)=>(some (q,true)))) ND (fun w x y hw hx hy=>aCF w x y hw hx hy) (fun _ _=>rfl) (fun _ _ _ _=>rfl) p.args [] f.args b rfl h (fun x hx=>aC.uw hp hx) (fun x hx=>aC.uw hf hx) hb;exact t
     ·rw[bB h];rfl
theorem a60(p f:aC)(b:aT)(hp:p.wt<=1048576)(hf:f.wt<=1048576)(hb:PB b):jb p f b=some (ko p f b):=by
 unfold jb ko;have hlen:=hb.1;rw[a62 p hp,aA,ZT f hf,aA,Vq b hb,aA,UU b (by omega),aA,Zo];cases vM p with
 |false=>rfl
 |true=>
  cases oT f with
  |false=>rfl
  |true=>
   cases gq b with
   |false=>rfl
   |true=>
    cases p.rel==f.rel with
    |false=>rfl
    |true=>
     by_cases h:p.args.length=f.args.length
     ·rw[av h];have t:=Vw (isA:=gC) (ext:=sE) (fa:=f.args) (L:=ju p f (fun(q:aT)=>(some (q,true)))) Mx (fun w x y hw hx hy=>a8M w x y hw hx hy) (fun _ _=>rfl) (fun _ _ _ _=>rfl) p.args [] f.args b rfl h (fun x hx=>aC.uw hp hx) (fun x hx=>aC.uw hf hx) hb;exact t
     ·rw[bB h];rfl
def ltB(l r:Bytes):Bool:=match yU l,yU r with|some x,some y=>decide (x<y)|_,_=>false
def UE(c:aP)(b:aT):Bool:=Iu c&&(gq b&&((qi b c.left).2&&((qi b c.right).2&&(bif decide (c.kind=3)then(qi b c.left).1==(qi b c.right).1 else bif decide (c.kind=4)then !((qi b c.left).1==(qi b c.right).1)else ltB (qi b c.left).1 (qi b c.right).1))))
theorem zL(a b:Int):(a==b)=decide (a=b):=by rw[bw];simp
theorem a9I(c:aP)(b:aT)(hc:c.wt<=1048576)(hb:PB b):tJ c b=some (UE c b):=by
 unfold tJ UE;rw[a0n c hc,aA,WJ b hb,aA,a6t b c.left (aP.CL hc),aA,a6t b c.right (aP.zn hc),aA,zL,zL];cases Iu c with
 |false=>rfl
 |true=>
  cases gq b with
  |false=>rfl
  |true=>
   cases(qi b c.left).2 with
   |false=>rfl
   |true=>
    cases(qi b c.right).2 with
    |false=>rfl
    |true=>
     cases decide (c.kind=3)with
     |true=>rfl
     |false=>
      cases decide (c.kind=4)with
      |true=>rfl
      |false=>
       simp only[bN,aM,eM];unfold uS ltB;rw[Ri,aA,aA,Ri,aA,aA,a4o,aA];unfold pI C1;cases yU (qi b c.left).1 with
       |none=>rfl
       |some x=>
        cases yU (qi b c.right).1 with
        |none=>rfl
        |some y=>
         simp only[aF]
         congr 1
         unfold HV;by_cases h:x<y
         ·have h1:(x:Int)<y:=by omega
          simp[h1,h]
         ·have h1:¬(x:Int)<y:=by omega
          by_cases h2:(x:Int)>y
          ·simp[h1,h,h2]
          ·simp[h1,h,h2]
theorem a8S(c:aP)(b:aT)(hc:c.wt<=1048576)(hb:PB b):sv c b=some (UE c b):=by
 unfold sv UE;rw[a8b c hc,aA,Vq b hb,aA,a2m b c.left (aP.CL hc),aA,a2m b c.right (aP.zn hc),aA,zL,zL];cases Iu c with
 |false=>rfl
 |true=>
  cases gq b with
  |false=>rfl
  |true=>
   cases(qi b c.left).2 with
   |false=>rfl
   |true=>
    cases(qi b c.right).2 with
    |false=>rfl
    |true=>
     cases decide (c.kind=3)with
     |true=>rfl
     |false=>
      cases decide (c.kind=4)with
      |true=>rfl
      |false=>
       simp only[bN,aM,eM];unfold ltB;rw[RF,aA,RF,aA];unfold pI;cases yU (qi b c.left).1 with
       |none=>rfl
       |some x=>
        cases yU (qi b c.right).1 with
        |none=>rfl
        |some y=>
         simp only[aF]
         congr 1
         by_cases h:x<y
         ·simp[h]
         ·simp[h]
def qt(p:aC)(b:aT)(fs:aI):aI:=fs.filter fun f=>(ko p f b).2
def FS(fs:aI):Prop:=fs.length<=1048576/\∀f∈fs,f.wt<=1048576
theorem FS.of{fs:aI}(h:qw aC.wt fs<=1048576):FS fs:=⟨by have:=qo aC.wt fs;omega,fun f hf=>by have:=oZ (w:=aC.wt) hf;omega⟩
theorem Vb{γ:Type}{mf:aC->Option (aT×Bool)}{cp:aC->Option aC}{p:aC}{b:aT}{L:aI->Nat->aI->Option γ}{k:aI->Option γ}(hm:∀f:aC,f.wt<=1048576->mf f=some (ko p f b))(hc:∀f:aC,f.wt<=1048576->cp f=some f)(vz:∀i w,L [] i w=k w)
 (vc:∀x xs i w,L (x::xs) i w=((mf x).bind fun y=>(bif y.2 then((cp x).bind fun z=>(bif room ((w.map aC.c).length+([[D.str z.rel,D.sl (z.args.map tx)]]).length) 40 then(L xs (i+1) (w++([z])))else none))else(L xs (i+1) w)))):
 ∀(l:aI) (i:Nat) (w:aI),(∀f∈l,f.wt<=1048576)->w.length+l.length<1099511627700->L l i w=k (w++qt p b l):=by
 intro l
 induction l with
 |nil=>intro i w _ _;rw[vz];simp[qt]
 |cons x xs ih=>
  intro i w hl hw;simp only[aS]at hw;have hx:=hl x (by simp);rw[vc,hm x hx,aA,hc x hx,aA,gB (by omega) (by decide),aF];have e:qt p b (x::xs)=bif (ko p x b).2 then x::qt p b xs else qt p b xs:=by
   unfold qt;rw[List.filter_cons];cases(ko p x b).2<;>rfl
  rw[e];cases(ko p x b).2 with
  |true=>rw[aF,aF,ih _ _ (fun f hf=>hl f (by simp[hf])) (by simp;omega)];simp
  |false=>rw[aM,aM,ih _ _ (fun f hf=>hl f (by simp[hf])) (by omega)]
theorem a3M(p:aC)(b:aT)(fs:aI)(hp:p.wt<=1048576)(hb:PB b)(hf:FS fs):fw p b fs=some (qt p b fs):=by
 unfold fw;have h1:=hf.1;refine(Vb (mf:=fun f=>jh p f b) (cp:=dQ) (p:=p) (b:=b) (L:=gX p b fs _) (k:=fun q=>some q) (fun f h=>a6f p f b hp h hb) (fun f h=>zC f (by have:=aC.dM h;omega)) (fun _ _=>rfl) (fun _ _ _ _=>rfl) fs 0 [] hf.2 (by simp;omega)).trans ?_;simp
theorem a8O(p:aC)(b:aT)(fs:aI)(hp:p.wt<=1048576)(hb:PB b)(hf:FS fs):j6 p b fs=some (qt p b fs):=by
 unfold j6;have h1:=hf.1;refine(Vb (mf:=fun f=>jb p f b) (cp:=eR) (p:=p) (b:=b) (L:=gU p b fs _) (k:=fun q=>some q) (fun f h=>a60 p f b hp h hb) (fun f h=>MN f (by have:=aC.dM h;omega)) (fun _ _=>rfl) (fun _ _ _ _=>rfl) fs 0 [] hf.2 (by simp;omega)).trans ?_;simp
def C6(c:aP)(b:aT)(fs:aI):Bool:=oh c&&(gq b&&(bif decide (c.kind=1)then decide (0<(qt c.pat b fs).length)else bif decide (c.kind=2)then decide ((qt c.pat b fs).length=0)else UE c b))
theorem Zn(l:aI):decide ((((l.map aC.c).length:Int):Int)>0)=decide (0<l.length):=by rw[ah];congr 1;rw[vQ];omega
theorem len_eq(l:aI):((((l.map aC.c).length:Int):Int)==0)=decide (l.length=0):=by rw[ah,zL];congr 1;rw[vQ];omega
theorem a9H(c:aP)(b:aT)(fs:aI)(hc:c.wt<=1048576)(hb:PB b)(hf:FS fs):tI c b fs=some (C6 c b fs):=by
 unfold tI C6;rw[a0M c hc,aA,WJ b hb,aA,a3M c.pat b fs (aP.gG hc) hb hf,aA,aA,a9I c b hc hb,aA,zL,zL,Zn,len_eq];cases oh c with
 |false=>rfl
 |true=>
  cases gq b with
  |false=>rfl
  |true=>cases decide (c.kind=1)<;>cases decide (c.kind=2)<;>rfl
theorem a8R(c:aP)(b:aT)(fs:aI)(hc:c.wt<=1048576)(hb:PB b)(hf:FS fs):su c b fs=some (C6 c b fs):=by
 unfold su C6;rw[ZQ c hc,aA,Vq b hb,aA,a8O c.pat b fs (aP.gG hc) hb hf,aA,aA,a8S c b hc hb,aA,zL,zL,Zn,len_eq];cases oh c with
 |false=>rfl
 |true=>
  cases gq b with
  |false=>rfl
  |true=>cases decide (c.kind=1)<;>cases decide (c.kind=2)<;>rfl
def Fix(h:Bytes->Bytes):Prop:=∀y,fH y=true->h y=y
def Cov(a b:aC):Prop:=vM a=true/\vM b=true/\a.rel=b.rel/\∃h,b.args=a.args.map h/\Fix h
theorem s5{t v val:Bytes}(h:v≠t):∀(w:aT),dA t (wU v val w)=dA t w
 | []=>by
  have:(v==t)=false:=by simpa using h
  simp only[wU,dA,this,aM]
 |x::xs=>by
  have hv:(v==t)=false:=by simpa using h
  rw[wU];cases !(Op.bytesLess x.var v||x.var==v)with
  |true=>rw[aF,dA];simp only[hv,aM]
  |false=>rw[aM,dA,dA,s5 h xs]
theorem z6{v val:Bytes}:∀(w:aT),dA v w=none->dA v (wU v val w)=some val
 | [],_=>by simp[wU,dA]
 |x::xs,h=>by
  rw[dA]at h;rw[wU];cases hx:x.var==v with
  |true=>rw[hx]at h;cases h
  |false=>
   rw[hx,aM]at h;cases !(Op.bytesLess x.var v||false)with
   |true=>rw[aF,dA];simp
   |false=>rw[aM,dA,hx,aM];exact z6 xs h
theorem xb{t o:Bytes}:∀ {w:aT},dA t w=some o->∃p∈w,p.var=t/\p.value=o
 |x::xs,h=>by
  rw[dA]at h;cases hx:x.var==t with
  |true=>rw[hx,aF]at h;cases h;exact⟨x,by simp,by simpa using hx,rfl⟩
  |false=>
   rw[hx,aM]at h;obtain⟨p,hp,h1⟩:=xb h;exact⟨p,by simp[hp],h1⟩
theorem OK{t:Bytes}:∀ {w:aT},dA t w=none->∀p∈w,p.var≠t
 |x::xs,h,p,hp=>by
  rw[dA]at h;cases hx:x.var==t with
  |true=>rw[hx]at h;cases h
  |false=>
   rw[hx,aM]at h;rcases bJ.1 hp with rfl|hp
   ·simpa using hx
   ·exact OK h p hp
theorem rL(p:Option aV)(x:aV)(xs:aT):pS p (x::xs)=(fQ x.var&&(fH x.value&&((match p with|some q=>Op.bytesLess q.var x.var|none=>true)&&pS (some x) xs))):=by
 cases p<;>rfl
theorem Pw{v val:Bytes}(hv:fQ v=true)(ha:fH val=true):∀(w:aT) (p:Option aV),pS p w=true->dA v w=none->(∀q,p=some q->Op.bytesLess q.var v=true)->pS p (wU v val w)=true
 | [],p,_,_,hp=>by
  simp only[wU,pS,hv,ha,eM,wW];cases p with
  |none=>rfl
  |some q=>exact hp q rfl
 |x::xs,p,hc,hf,hp=>by
  rw[rL]at hc;simp only[aR]at hc;obtain⟨c1,c2,c3,c4⟩:=hc;rw[dA]at hf;cases hx:x.var==v with
  |true=>rw[hx]at hf;cases hf
  |false=>
   rw[hx,aM]at hf;rw[wU,hx,uc];cases hl:Op.bytesLess x.var v with
   |true=>
    rw[bN,aM,rL];simp only[aR];exact⟨c1,c2,c3,Pw hv ha xs (some x) c4 hf (fun q hq=>by cases hq;exact hl)⟩
   |false=>
    have h2:Op.bytesLess v x.var=true:=by
     cases h3:Op.bytesLess v x.var with
     |true=>rfl
     |false=>
      have:=Fl hl h3;rw[this]at hx;simp at hx
    rw[bz,aF,rL];simp only[aR];refine⟨hv,ha,?_,?_⟩
    ·cases p with
     |none=>rfl
     |some q=>exact hp q rfl
    ·rw[rL];simp only[aR];exact⟨c1,c2,h2,c4⟩
theorem Cw{v val:Bytes}{w:aT}(hv:fQ v=true)(ha:fH val=true)(hb:gq w=true)(hf:dA v w=none)(hl:w.length≠6):gq (wU v val w)=true:=by
 have h6:=HH hb;unfold gq at hb⊢;rw[aR]at hb⊢;exact⟨Pw hv ha w none hb.1 hf (fun q h=>by cases h),by rw[Dd];simp;omega⟩
theorem Bn:∀(l r:aH) (w:aT),l.length=r.length->(∀p∈w,fQ p.var=true)->(sV l r w).2=true->∃h,(∀v o,dA v w=some o->h v=o)/\r=l.map h/\Fix h
 | [],[],w,_,hk,_=>by
  refine⟨fun y=>match dA y w with|some o=>o|none=>y,fun v o ho=>by simp only[ho],rfl,fun y hy=>?_⟩;cases hf:dA y w with
  |none=>simp only[hf]
  |some o=>
   obtain⟨p,hp,h1,_⟩:=xb hf;have:=hk p hp;rw[h1]at this;rw[nC this]at hy;cases hy
 |x::xs,y::ys,w,hl,hk,hm=>by
  simp only[sV]at hm;cases hx:fH x with
  |true=>
   rw[hx,aF]at hm;cases hxy:x==y with
   |false=>rw[hxy]at hm;cases hm
   |true=>
    rw[hxy,aF]at hm;obtain⟨h,h1,h2,h3⟩:=Bn xs ys w (by simpa using hl) hk hm;have:x=y:=by simpa using hxy
    exact⟨h,h1,by rw[au,h3 x hx,<-this,<-h2],h3⟩
  |false=>
   rw[hx,aM]at hm;cases he:(wu w x y).2 with
   |false=>rw[he]at hm;cases hm
   |true=>
    rw[he,aF]at hm;have key:fQ x=true/\((dA x w=some y/\(wu w x y).1=w)\/(dA x w=none/\(wu w x y).1=wU x y w)):=by
     unfold wu at he⊢;cases hc:gq w&&(fQ x&&fH y)with
     |false=>rw[hc]at he;cases he
     |true=>
      rw[hc,aF]at he;simp only[aR]at hc;refine⟨hc.2.1,?_⟩;rw[aF];cases hf:dA x w with
      |some o=>
       rw[hf]at he;simp only at he⊢;cases ho:o==y with
       |false=>rw[ho]at he;cases he
       |true=>exact .inl ⟨by rw[show o=y from by simpa using ho],rfl⟩
      |none=>
       rw[hf]at he;simp only at he⊢;cases hd:decide (w.length=6)with
       |true=>rw[hd]at he;cases he
       |false=>exact .inr ⟨by first|trivial|rfl,by first|rfl|trivial⟩
    obtain⟨hv,a7o⟩:=key;rcases a7o with⟨hf,h1⟩|⟨hf,h1⟩
    ·rw[h1]at hm;obtain⟨h,k1,k2,k3⟩:=Bn xs ys w (by simpa using hl) hk hm;exact⟨h,k1,by rw[au,k1 x y hf,<-k2],k3⟩
    ·rw[h1]at hm;obtain⟨h,k1,k2,k3⟩:=Bn xs ys (wU x y w) (by simpa using hl) (fun p hp=>by
      rcases P6 x y w hp with h|h
      ·rw[h];exact hv
      ·exact hk p h) hm
     refine⟨h,fun v o ho=>?_,by rw[au,k1 x y (z6 w hf),<-k2],k3⟩;refine k1 v o ?_;rw[s5 (fun e=>?_),ho];rw[e,ho]at hf;cases hf
 | [],_::_,_,hl,_,_=>by simp at hl
 |_::_,[],_,hl,_,_=>by simp at hl
theorem LB(h:Bytes->Bytes)(a2T:Fix h):∀(l:aH) (w:aT),(∀x∈l,mK x=true)->(∀x∈l,fH (h x)=true)->gq w=true->w.length+l.length<=6->(∀v o,dA v w=some o->h v=o)->(sV l (l.map h) w).2=true
 | [],_,_,_,_,_,_=>rfl
 |x::xs,w,ht,ha,hb,hl,hw=>by
  simp only[aS]at hl;rw[au];simp only[sV];have ht':∀y∈xs,mK y=true:=fun y hy=>ht y (by simp[hy])
  have ha':∀y∈xs,fH (h y)=true:=fun y hy=>ha y (by simp[hy])
  cases hx:fH x with
  |true=>
   rw[aF,a2T x hx,jW,aF];exact LB h a2T xs w ht' ha' hb (by omega) hw
  |false=>
   have hv:fQ x=true:=by
    have:=ht x (by simp);unfold mK at this;rw[hx,oU]at this;exact this
   have hax:=ha x (by simp);rw[aM];unfold wu;rw[hb,hv,hax];simp only[eM,aF];cases hf:dA x w with
   |some o=>
    have:=hw x o hf;simp only[this,jW,aF];exact LB h a2T xs w ht' ha' hb (by omega) hw
   |none=>
    have h6:w.length≠6:=by omega
    simp only[bB h6,aM,aF];refine LB h a2T xs (wU x (h x) w) ht' ha' (Cw hv hax hb hf h6) (by rw[Dd];omega) (fun v o ho=>?_);by_cases e:x=v
    ·subst e;rw[z6 w hf]at ho;cases ho;rfl
    ·rw[s5 e]at ho;exact hw v o ho
theorem Om{p f:aC}:(ko p f []).2=true↔vM p=true/\oT f=true/\p.rel=f.rel/\∃h,f.args=p.args.map h/\Fix h:=by
 unfold ko;constructor
 ·intro hm;cases hc:vM p&&(oT f&&(gq []&&(p.rel==f.rel&&decide (p.args.length=f.args.length))))with
  |false=>rw[hc]at hm;cases hm
  |true=>
   rw[hc,aF]at hm;simp only[aR,cZ,bC]at hc;obtain⟨c1,c2,_,c4,c5⟩:=hc;obtain⟨h,_,h2,h3⟩:=Bn p.args f.args [] c5 (by simp) hm;exact⟨c1,c2,c4,h,h2,h3⟩
 ·rintro⟨c1,c2,c4,h,h2,h3⟩;have c5:p.args.length=f.args.length:=by rw[h2];simp
  rw[c1,c2,show gq []=true from rfl,c4,jW,av c5];simp only[wW,aF];have c1':=c1;unfold vM at c1';simp only[aR,bC]at c1';unfold oT at c2;simp only[aR]at c2;rw[h2];refine LB h h3 p.args [] (fun x hx=>aj.1 c1'.1 x hx) (fun x hx=>?_) rfl (by simp;omega) (fun v o ho=>by simp[dA]at ho);exact aj.1 c2.1 _ (by rw[h2];exact bt.2 ⟨x,hx,rfl⟩)
theorem a2I{p q f:aC}(hc:Cov p q)(hm:(ko q f []).2=true):(ko p f []).2=true:=by
 obtain⟨c1,c2,c3,h,h2,h3⟩:=hc;obtain⟨m1,m2,m3,k,k2,k3⟩:=Om.1 hm;refine Om.2 ⟨c1,m2,c3.trans m3,fun x=>k (h x),?_,fun y hy=>by show k (h y)=y;rw[h3 y hy,k3 y hy]⟩;rw[k2,h2,rI];rfl
theorem Ns{p:aC}(h:vM p=true):∀t∈p.args,mK t=true:=by
 unfold vM at h;rw[aR]at h;exact fun t ht=>aj.1 h.1 t ht
theorem zo(l:aI)(h:l.length<=1048576)(hf:∀f∈l,f.args.length<=1048576):dF l=some l:=by
 unfold dF;refine(ES (c:=aC.c) (b:=40) (f:=dQ) (g:=fun x=>x) (L:=oI l _) (k:=fun q=>some q) (by decide) (fun _ _=>rfl) (fun _ _ _ _=>rfl) l 0 [] (fun f h=>zC f (by have:=hf f h;omega)) (by simp;omega)).trans ?_;simp
theorem wv(l:aI)(h:l.length<=1048576)(hf:∀f∈l,f.args.length<=1048576):cV l=some l:=by
 unfold cV;refine(ES (c:=aC.c) (b:=40) (f:=eR) (g:=fun x=>x) (L:=nK l _) (k:=fun q=>some q) (by decide) (fun _ _=>rfl) (fun _ _ _ _=>rfl) l 0 [] (fun f h=>MN f (by have:=hf f h;omega)) (by simp;omega)).trans ?_;simp
def TK(n:Nat)(t:aO):Prop:=t.facts.length<=n/\(∀f∈t.facts,f.wt<=1048576)/\PB t.bind
theorem TK.le{n m:Nat}{t:aO}(h:TK n t)(hm:n<=m):TK m t:=⟨by have:=h.1;omega,h.2⟩
theorem a0N(t:aO)(h:TK 1048576 t):sN t=some t:=by
 unfold sN;rw[zo t.facts h.1 (fun f hf=>by have:=aC.dM (h.2.1 f hf);omega),aA,Up t.bind (by have:=h.2.2.1;omega),aA]
def ext1(c:aP)(t:aO)(f:aC):ai:=bif (ko c.pat f t.bind).2 then [⟨t.facts++[f],(ko c.pat f t.bind).1⟩]else []
def Cg(c:aP)(fs:aI)(t:aO):ai:=bif decide (c.kind=1)then fs.flatMap (ext1 c t)else bif C6 c t.bind fs then [t]else []
def sS(fs:aI)(l:ai)(c:aP):ai:=l.flatMap (Cg c fs)
def qh(cs:ar)(fs:aI):ai:=cs.foldl (sS fs) [⟨[],[]⟩]
theorem Yi(c:aP)(t:aO)(f:aC):(ext1 c t f).length<=1:=by unfold ext1;cases(ko c.pat f t.bind).2<;>simp
theorem OF(c:aP)(t:aO)(fs:aI):(fs.flatMap (ext1 c t)).length<=fs.length:=by
 induction fs with
 |nil=>simp
 |cons f fs ih=>rw[ck,ax];have:=Yi c t f;simp only[aS];omega
theorem Ou(c:aP)(fs:aI)(t:aO):(Cg c fs t).length<=fs.length+1:=by
 unfold Cg;cases decide (c.kind=1)with
 |true=>have:=OF c t fs;rw[aF];omega
 |false=>cases C6 c t.bind fs<;>simp
theorem Ov(fs:aI)(l:ai)(c:aP):(sS fs l c).length<=l.length*(fs.length+1):=by
 unfold sS
 induction l with
 |nil=>simp
 |cons t l ih=>rw[ck,ax,aS,Ds];have:=Ou c fs t;omega
theorem a38{c:aP}{fs:aI}{t:aO}{n:Nat}(h:TK n t)(hc:c.wt<=1048576)(hf:FS fs):∀u∈Cg c fs t,TK (n+1) u:=by
 intro u hu;unfold Cg at hu;cases hk:decide (c.kind=1)with
 |false=>
  rw[hk,aM]at hu;cases hh:C6 c t.bind fs with
  |false=>rw[hh]at hu;cases hu
  |true=>
   rw[hh,aF,cG]at hu;subst hu;exact h.le (by omega)
 |true=>
  rw[hk,aF]at hu;obtain⟨f,hf1,hu⟩:=cA.1 hu;unfold ext1 at hu;cases hm:(ko c.pat f t.bind).2 with
  |false=>rw[hm]at hu;cases hu
  |true=>
   rw[hm,aF,cG]at hu;subst hu;refine⟨by have:=h.1;simp;omega,?_,a2y h.2.2 (aP.gG hc) (hf.2 f hf1)⟩;intro g hg;rcases aZ.1 hg with hg|hg
   ·exact h.2.1 g hg
   ·rw[cG]at hg;rw[hg];exact hf.2 f hf1
theorem RR{c:aP}{fs:aI}{l:ai}{n:Nat}(h:∀t∈l,TK n t)(hc:c.wt<=1048576)(hf:FS fs):∀u∈sS fs l c,TK (n+1) u:=by
 intro u hu;obtain⟨t,ht,hu⟩:=cA.1 hu;exact a38 (h t ht) hc hf u hu
theorem VY{γ:Type}{mf:aC->Option (aT×Bool)}{cps:Option aI}{cp:aC->Option aC}{c:aP}{t:aO}{L:aI->Nat->ai->Option γ}{k:ai->Option γ}(hm:∀f:aC,f.wt<=1048576->mf f=some (ko c.pat f t.bind))(hcs:cps=some t.facts)(hc:∀f:aC,f.wt<=1048576->cp f=some f)(ht:t.facts.length<=1048576)(vz:∀i w,L [] i w=k w)
 (vc:∀x xs i w,L (x::xs) i w=((mf x).bind fun y=>(bif y.2 then(cps.bind fun q=>((cp x).bind fun z=>(bif room ((q.map aC.c).length+([[D.str z.rel,D.sl (z.args.map tx)]]).length) 40 then(bif room ((w.map aO.c).length+([[D.sl ((q.map aC.c)++([[D.str z.rel,D.sl (z.args.map tx)]])),D.sl (y.1.map aV.c)]]).length) 48 then(L xs (i+1) (w++([(⟨q++([z]),y.1⟩:aO)])))else none)else none)))else(L xs (i+1) w)))):
 ∀(l:aI) (i:Nat) (w:ai),(∀f∈l,f.wt<=1048576)->w.length+l.length<1099511627770->L l i w=k (w++l.flatMap (ext1 c t)):=by
 intro l
 induction l with
 |nil=>intro i w _ _;rw[vz];simp
 |cons x xs ih=>
  intro i w hl hw;simp only[aS]at hw;have hx:=hl x (by simp);rw[vc,hm x hx,aA,hcs,aA,hc x hx,aA,gB (by omega) (by decide),aF,gB (by omega) (by decide),aF,ck];rw[show ext1 c t x=bif (ko c.pat x t.bind).2 then [⟨t.facts++[x],(ko c.pat x t.bind).1⟩]else []from rfl];cases(ko c.pat x t.bind).2 with
  |true=>rw[aF,aF,ih _ _ (fun f hf=>hl f (by simp[hf])) (by simp;omega)];simp
  |false=>rw[aM,aM,ih _ _ (fun f hf=>hl f (by simp[hf])) (by omega)];simp
theorem Vu(c:aP):((c.kind:Int) != 1)= !decide (c.kind=1):=by
 show(!((c.kind:Int)==1))=_;rw[zL]
theorem a6h(l0:ai)(c:aP)(fs:aI)(k:ai->Option ai)(hc:c.wt<=1048576)(hf:FS fs):∀(l:ai) (i:Nat) (w:ai),(∀t∈l,TK 1048576 t)->w.length+l.length*(fs.length+1)<1099511627700->iT l0 c fs k l i w=k (w++sS fs l c):=by
 intro l;have h1:=hf.1
 induction l with
 |nil=>intro i w _ _;rw[iT];simp[sS]
 |cons t l ih=>
  intro i w hl hw;rw[aS,Ds]at hw;have ht:=hl t (by simp);have e:sS fs (t::l) c=Cg c fs t++sS fs l c:=by simp[sS]
  have hn:=Ou c fs t;have he:=OF c t fs;rw[iT,Vu,a9H c t.bind fs hc ht.2.2 hf,aA,a0N t ht,aA,gB (by omega) (by decide),aF,tY (by omega),aF,e];rw[VY (mf:=fun f=>jh c.pat f t.bind) (cps:=dF t.facts) (cp:=dQ) (c:=c) (t:=t) (L:=oO l0 c fs i t _) (k:=_) (fun f h=>a6f c.pat f t.bind (aP.gG hc) h ht.2.2) (zo t.facts ht.1 (fun f hf=>by have:=aC.dM (ht.2.1 f hf);omega)) (fun f h=>zC f (by have:=aC.dM h;omega)) ht.1 (fun _ _=>rfl) (fun _ _ _ _=>rfl) fs 0 w hf.2 (by omega)];unfold Cg;cases decide (c.kind=1)with
  |true=>simp only[bN,aM,aF];rw[ih _ _ (fun u hu=>hl u (by simp[hu])) (by rw[ax];omega)];simp
  |false=>
   simp only[bz,aF,aM];cases C6 c t.bind fs with
   |true=>simp only[aF];rw[ih _ _ (fun u hu=>hl u (by simp[hu])) (by rw[ax];simp;omega)];simp
   |false=>simp only[aM];rw[ih _ _ (fun u hu=>hl u (by simp[hu])) (by omega)];simp
theorem a0c(l:ai)(c:aP)(fs:aI)(hc:c.wt<=1048576)(hf:FS fs)(hl:∀t∈l,TK 1048576 t)(hn:l.length*(fs.length+1)<1099511627700):sO l c fs=some (sS fs l c):=by
 unfold sO;rw[a6h l c fs _ hc hf l 0 [] hl (by simpa using hn)];simp
theorem RU:∀t∈[(⟨[],[]⟩:aO)],TK 0 t:=by
 intro t ht;rw[cG]at ht;subst ht;exact⟨by simp,by simp,PB.nil⟩
theorem a09{n:Nat}(h:n<=4):[(⟨[],[]⟩:aO)].length*25^n<=390625:=by
 have:=vP (n:=25) (by decide) h;simp only[dO,qG];exact this
theorem a6s(c0:ar)(fs:aI)(k:ai->Option ai)(hf:FS fs)(h24:fs.length<=24):∀(cs:ar) (i:Nat) (w:ai) (n:Nat),(∀c∈cs,c.wt<=1048576)->(∀t∈w,TK n t)->n+cs.length<=1048576->w.length*25^cs.length<=390625->lM c0 fs k cs i w=k (cs.foldl (sS fs) w):=by
 intro cs
 induction cs with
 |nil=>intro i w n _ _ _ _;rfl
 |cons c cs ih=>
  intro i w n hc hw hn hl;simp only[aS]at hn;rw[aS,xp,Dr (25^cs.length) 25,<-Ia]at hl;have hp:1<=25^cs.length:=Nat.one_le_pow _ _ (by decide);have DT:w.length*25<=390625:=eD (Cu _ hp) hl;have h25:w.length*(fs.length+1)<=w.length*25:=dJ _ (by omega);rw[lM,a0c w c fs (hc c (by simp)) hf (fun t ht=>(hw t ht).le (by omega)) (by omega),aA];refine ih _ _ (n+1) (fun x hx=>hc x (by simp[hx])) (RR hw (hc c (by simp)) hf) (by omega) ?_;exact eD (er _ (eD (Ov fs w c) h25)) hl
theorem a0p(cs:ar)(fs:aI)(hc:∀c∈cs,c.wt<=1048576)(h4:cs.length<=4)(hf:FS fs)(h24:fs.length<=24):nZ cs fs=some (qh cs fs):=by
 unfold nZ;exact a6s cs fs _ hf h24 cs 0 _ 0 hc RU (by omega) (a09 h4)
theorem a2l(c0:ar)(fs:aI)(w0:ai)(i1:Nat)(c:aP)(k:ai->Option ai)(hc:c.wt<=1048576)(hf:FS fs):∀(l:ai) (i:Nat) (w:ai),(∀t∈l,TK 1048576 t)->w.length+l.length*(fs.length+1)<1099511627700->gE c0 fs w0 i1 c k l i w=k (w++sS fs l c):=by
 intro l;have h1:=hf.1
 induction l with
 |nil=>intro i w _ _;rw[gE];simp[sS]
 |cons t l ih=>
  intro i w hl hw;rw[aS,Ds]at hw;have ht:=hl t (by simp);have e:sS fs (t::l) c=Cg c fs t++sS fs l c:=by simp[sS]
  have hn:=Ou c fs t;have he:=OF c t fs;rw[gE,Vu,a8R c t.bind fs hc ht.2.2 hf,aA,gB (by omega) (by decide),aF,tY (by omega),aF,e];rw[VY (mf:=fun f=>jb c.pat f t.bind) (cps:=cV t.facts) (cp:=eR) (c:=c) (t:=t) (L:=lD c0 fs i w0 t i1 c _) (k:=_) (fun f h=>a60 c.pat f t.bind (aP.gG hc) h ht.2.2) (wv t.facts ht.1 (fun f hf=>by have:=aC.dM (ht.2.1 f hf);omega)) (fun f h=>MN f (by have:=aC.dM h;omega)) ht.1 (fun _ _=>rfl) (fun _ _ _ _=>rfl) fs 0 w hf.2 (by omega)];unfold Cg;cases decide (c.kind=1)with
  |true=>simp only[bN,aM,aF];rw[ih _ _ (fun u hu=>hl u (by simp[hu])) (by rw[ax];omega)];simp
  |false=>
   simp only[bz,aF,aM];cases C6 c t.bind fs with
   |true=>simp only[aF];rw[ih _ _ (fun u hu=>hl u (by simp[hu])) (by rw[ax];simp;omega)];simp
   |false=>simp only[aM];rw[ih _ _ (fun u hu=>hl u (by simp[hu])) (by omega)];simp
theorem a68(c0:ar)(fs:aI)(k:ai->Option ai)(hf:FS fs)(h24:fs.length<=24):∀(cs:ar) (i:Nat) (w:ai) (n:Nat),(∀c∈cs,c.wt<=1048576)->(∀t∈w,TK n t)->n+cs.length<=1048576->w.length*25^cs.length<=390625->lC c0 fs k cs i w=k (cs.foldl (sS fs) w):=by
 intro cs
 induction cs with
 |nil=>intro i w n _ _ _ _;rfl
 |cons c cs ih=>
  intro i w n hc hw hn hl;simp only[aS]at hn;rw[aS,xp,Dr (25^cs.length) 25,<-Ia]at hl;have hp:1<=25^cs.length:=Nat.one_le_pow _ _ (by decide);have DT:w.length*25<=390625:=eD (Cu _ hp) hl;have h25:w.length*(fs.length+1)<=w.length*25:=dJ _ (by omega);rw[lC,tY (by omega),aF,a2l c0 fs w i c _ (hc c (by simp)) hf w 0 [] (fun t ht=>(hw t ht).le (by omega)) (by simp only[bf];omega),dZ];refine ih _ _ (n+1) (fun x hx=>hc x (by simp[hx])) (RR hw (hc c (by simp)) hf) (by omega) ?_;exact eD (er _ (eD (Ov fs w c) h25)) hl
theorem a8c(cs:ar)(fs:aI)(hc:∀c∈cs,c.wt<=1048576)(h4:cs.length<=4)(hf:FS fs)(h24:fs.length<=24):uP cs fs=some (qh cs fs):=by
 unfold uP;exact a68 cs fs _ hf h24 cs 0 _ 0 hc RU (by omega) (a09 h4)
theorem Ma{r:aK}(h:fX r=true):r.conds.length<=4:=by
 unfold fX at h;simp only[aR,bC]at h;omega
theorem OA{r:aK}:∀ {l:ar} {i:Nat},th r l i=true->∀c∈l,oh c=true
 | [],_,_,c,hc=>by cases hc
 |x::xs,i,h,c,hc=>by
  simp only[th,aR]at h;rcases bJ.1 hc with rfl|hc
  ·exact h.1.1.1
  ·exact OA h.2 c hc
theorem CM{r:aK}(h:fX r=true):∀c∈r.conds,oh c=true:=by
 unfold fX at h;simp only[aR]at h;exact OA h.2.1
theorem lQ{l:aI}(h:eb l=true):l.length<=24:=by
 unfold eb at h;simp only[aR,bC]at h;exact h.2
theorem a4f{n:Nat}{a:Int}(h0:0<=a)(h1:a.toNat<=n):wT n none (some (D.int .i64 a))=some (0,a.toNat):=by
 unfold wT;simp only[bL (show 0<=a/\a.toNat<=n from⟨h0,h1⟩)]
def tkO(r:aK)(n:Int)(fs:aI):ai:=bif fX r&&(eb fs&&(decide (n>=0)&&decide (n<=(r.conds.length:Int))))then qh (r.conds.take n.toNat) fs else []
theorem a3e{r:aK}(h:r.wt<=1048576)(n:Nat):∀c∈r.conds.take n,c.wt<=1048576:=fun c hc=>aK.rN h (bn hc)
theorem aCI(r:aK)(n:Int)(fs:aI)(hr:r.wt<=1048576)(hf:qw aC.wt fs<=1048576):uU r n fs=some (tkO r n fs):=by
 unfold uU tkO;rw[a0e r hr,aA,WI fs hf,aA,Il,aA,ah];cases h1:fX r with
 |false=>rfl
 |true=>
  cases h2:eb fs with
  |false=>rfl
  |true=>
   cases h3:(decide (n>=0)&&decide (n<=(r.conds.length:Int)))with
   |false=>rfl
   |true=>
    simp only[aR,bC]at h3;simp only[bN,aM,eM,aF];rw[a4f h3.1 (by omega),aA];simp only[B7];have h4:=Ma h1;rw[a0p _ fs (a3e hr _) (by rw[cE];omega) (FS.of hf) (lQ h2)];rfl
theorem a6y{r:aK}{fs:aI}(h1:fX r=true)(h2:eb fs=true){j:Nat}(hj:j<=r.conds.length):tkO r (j:Int) fs=qh (r.conds.take j) fs:=by
 unfold tkO;rw[h1,h2];have e1:decide ((j:Int)>=0)=true:=by simp
 have e2:decide ((j:Int)<=(r.conds.length:Int))=true:=by simp;omega
 rw[e1,e2];simp
def mtB(r:aK)(fs:aI):cR:=(tkO r (r.conds.length:Int) fs).map fun t=>⟨r.name,t.facts,t.bind⟩
theorem PG{cs:ar}{fs:aI}(h4:cs.length<=4)(h24:fs.length<=24):(qh cs fs).length<=390625:=by
 have key:∀(cs:ar) (w:ai),w.length*25^cs.length<=390625->(cs.foldl (sS fs) w).length<=390625:=by
  intro cs
  induction cs with
  |nil=>intro w h;simpa using h
  |cons c cs ih=>
   intro w h;rw[aS,xp,Dr (25^cs.length) 25,<-Ia]at h;refine ih _ ?_;have h25:w.length*(fs.length+1)<=w.length*25:=dJ _ (by omega);exact eD (er _ (eD (Ov fs w c) h25)) h
 exact key cs _ (a09 h4)
theorem WQ(r:aK)(n:Int)(fs:aI):(tkO r n fs).length<=390625:=by
 unfold tkO;cases h1:fX r with
 |false=>simp
 |true=>
  cases h2:eb fs with
  |false=>simp
  |true=>
   have h4:=Ma h1;cases(decide (n>=0)&&decide (n<=(r.conds.length:Int)))with
   |false=>simp
   |true=>exact PG (by rw[cE];omega) (lQ h2)
theorem aCG(r:aK)(fs:aI)(hr:r.wt<=1048576)(hf:qw aC.wt fs<=1048576):tL r fs=some (mtB r fs):=by
 unfold tL mtB;have hl:=WQ r (r.conds.length:Int) fs;rw[ah,aCI r _ fs hr hf,aA,tY (by omega),aF];refine(ES (c:=bM.c) (b:=64) (f:=fun t:aO=>some (⟨r.name,t.facts,t.bind⟩:bM)) (g:=fun t=>⟨r.name,t.facts,t.bind⟩) (L:=nP r _ _) (k:=fun q=>some q) (by decide) (fun _ _=>rfl) (fun _ _ _ _=>rfl) _ 0 [] (fun _ _=>rfl) (by simp;omega)).trans ?_;simp
theorem XG(a b:bM):((a.rule==b.rule)&&(decide (a.facts=b.facts)&&decide (a.bind=b.bind)))=decide (a=b):=by
 cases a;cases b;rw[bw];simp
theorem a6n(a b:bM):tM a b=some (decide (a=b)):=by
 unfold tM;rw[Nq,aA,a0j,aA,<-XG];cases a.rule==b.rule<;>cases decide (a.facts=b.facts)<;>rfl
theorem SE{all:aq}:∀ {l:aq} {i:Nat},NK all l i=true->∀r∈l,fX r=true
 | [],_,_,r,hr=>by cases hr
 |x::xs,i,h,r,hr=>by
  simp only[NK,aR]at h;rcases bJ.1 hr with rfl|hr
  ·exact h.1.1
  ·exact SE h.2 r hr
theorem og{l:aq}(h:rK l=true):∀r∈l,fX r=true:=by
 unfold rK at h;simp only[aR]at h;exact SE h.1
theorem MT:∀(a b:aH),a.Nodup->(∀x∈a,x∈b)->a.length<=b.length
 | [],b,_,_=>Fg _
 |x::xs,b,hn,hs=>by
  rw[fZ]at hn;have h1:=MT xs (b.erase x) hn.2 fun y hy=>(List.mem_erase_of_ne (fun e=>hn.1 (by rw[<-e];exact hy))).2 (hs y (by simp[hy]))
  have h2:=sC (hs x (by simp));have h3:0<b.length:=Dq (hs x (by simp));simp only[aS];omega
theorem K4{x:Bytes}(h:fH x=true):fQ x=false:=by
 cases hv:fQ x with
 |false=>rfl
 |true=>rw[nC hv]at h;cases h
theorem Mb{r:aK}(h:fX r=true):(fD (A8 r.conds)).length<=6:=by
 unfold fX at h;simp only[aR,bC]at h;omega
theorem D0{c:aP}(hc:oh c=true)(hk:c.kind=1\/c.kind=2):vM c.pat=true/\c.left=[]/\c.right=[]:=by
 unfold oh at hc;have:(decide (c.kind=1)||decide (c.kind=2))=true:=by simpa using hk
 rw[this,aF]at hc;simp only[aR,cZ]at hc;exact⟨hc.1,hc.2.1,hc.2.2⟩
theorem O7{c:aP}(hc:oh c=true)(h1:c.kind≠1)(h2:c.kind≠2):(decide (c.kind=3)||decide (c.kind=4)||decide (c.kind=5))=true/\Dj c.pat=true/\mK c.left=true/\mK c.right=true:=by
 unfold oh at hc;rw[bB h1,bB h2,uc,aM]at hc;cases h:(decide (c.kind=3)||decide (c.kind=4)||decide (c.kind=5))with
 |false=>rw[h]at hc;cases hc
 |true=>
  rw[h,aF]at hc;simp only[aR]at hc;exact⟨rfl,hc.1,hc.2.1,hc.2.2⟩
theorem Mn{p:Option aV}{b:aT}(h:pS p b=true):pS none b=true:=by
 cases b with
 |nil=>rfl
 |cons x xs=>
  rw[rL]at h⊢;simp only[aR]at h⊢
  first|exact⟨h.1,h.2.1,rfl,h.2.2.2⟩|exact⟨h.1,h.2.1,h.2.2.2⟩|exact⟨h.1,h.2.1,trivial,h.2.2.2⟩
theorem K7:∀ {b:aT} {p:aV},pS (some p) b=true->∀x∈b,Op.bytesLess p.var x.var=true
 |y::ys,p,h,x,hx=>by
  rw[rL]at h;simp only[aR]at h;rcases bJ.1 hx with rfl|hx
  ·exact h.2.2.1
  ·exact zQ h.2.2.1 (K7 h.2.2.2 x hx)
theorem Mo:∀ {b:aT} {p:Option aV},pS p b=true->(b.map aV.var).Nodup
 | [],_,_=>by simp
 |x::xs,p,h=>by
  rw[rL]at h;simp only[aR]at h;rw[au,fZ];refine⟨fun hm=>?_,Mo h.2.2.2⟩;obtain⟨q,hq,e⟩:=bt.1 hm;have:=K7 h.2.2.2 q hq;rw[e,qy]at this;cases this
theorem tW{b:aT}(h:gq b=true):pS none b=true:=by
 unfold gq at h;rw[aR]at h;exact h.1
theorem Az:∀ {b:aT} {p:Option aV},pS p b=true->∀x∈b,fQ x.var=true/\fH x.value=true
 |y::ys,p,h,x,hx=>by
  rw[rL]at h;simp only[aR]at h;rcases bJ.1 hx with rfl|hx
  ·exact⟨h.1,h.2.1⟩
  ·exact Az h.2.2.2 x hx
theorem Pu:∀ {a b:aT},pS none a=true->pS none b=true->(∀v,dA v a=dA v b)->a=b
 | [],[],_,_,_=>rfl
 | [],y::ys,_,_,h=>by have:=h y.var;simp[dA]at this
 |x::xs,[],_,_,h=>by have:=h x.var;simp[dA]at this
 |x::xs,y::ys,ha,hb,h=>by
  have ha0:=ha;have hb0:=hb;rw[rL]at ha hb;simp only[aR]at ha hb;have key:∀ {u v:aV} {us vs:aT},pS (some u) us=true->pS (some v) vs=true->(∀t,dA t (u::us)=dA t (v::vs))->Op.bytesLess u.var v.var=false:=by
   intro u v us vs hu hv ht;cases hl:Op.bytesLess u.var v.var with
   |false=>rfl
   |true=>
    have h1:=ht u.var;rw[show dA u.var (u::us)=some u.value by simp[dA]]at h1;obtain⟨q,hq,e,_⟩:=xb h1.symm;rcases bJ.1 hq with rfl|hq
    ·rw[e,qy]at hl;cases hl
    ·have:=zQ hl (K7 hv q hq);rw[e,qy]at this;cases this
  have e1:=key ha.2.2.2 hb.2.2.2 h;have e2:=key hb.2.2.2 ha.2.2.2 (fun t=>(h t).symm);have ev:x.var=y.var:=Fl e1 e2;have e3:x.value=y.value:=by
   have:=h x.var;rw[show dA x.var (x::xs)=some x.value by simp[dA],show dA x.var (y::ys)=some y.value by simp[dA,ev]]at this;exact kZ this
  have e4:x=y:=by cases x;cases y;cases ev;cases e3;rfl
  subst e4
  congr 1
  refine Pu (Mn ha.2.2.2) (Mn hb.2.2.2) fun v=>?_
  by_cases hv:x.var=v
  ·have n1:∀ {l:aT},pS (some x) l=true->dA v l=none:=by
    intro l hl;cases hf:dA v l with
    |none=>rfl
    |some o=>
     obtain⟨q,hq,e,_⟩:=xb hf;have:=K7 hl q hq;rw[hv,e,qy]at this;cases this
   rw[n1 ha.2.2.2,n1 hb.2.2.2]
  ·have:=h v;have hne:(x.var==v)=false:=by rw[cw];exact hv
   rw[dA,dA,hne,aM,aM]at this;exact this
structure WB(U:List Bytes)(b:List aV):Prop where
 ok:gq b=true
 sub:∀p∈b,p.var∈U
theorem WB.nil(U:aH):WB U []:=⟨rfl,fun p h=>by cases h⟩
theorem WB.room{U:aH}(hU:U.length<=6){b:aT}(h:WB U b){x:Bytes}(hx:x∈U)(hf:dA x b=none):b.length≠6:=by
 have h1:(x::b.map aV.var).length<=U.length:=MT _ _ (by
  rw[fZ];refine⟨fun hm=>?_,Mo (tW h.ok)⟩;obtain⟨p,hp,e⟩:=bt.1 hm;exact OK hf p hp e) (fun y hy=>by
  rcases bJ.1 hy with rfl|hy
  ·exact hx
  ·obtain⟨p,hp,rfl⟩:=bt.1 hy;exact h.sub p hp)
 simp only[aS,ah]at h1;omega
theorem WB.set{U:aH}(hU:U.length<=6){b:aT}(h:WB U b){x y:Bytes}(hx:x∈U)(hv:fQ x=true)(ha:fH y=true)(hf:dA x b=none):WB U (wU x y b):=
 ⟨Cw hv ha h.ok hf (h.room hU hx hf),fun p hp=>by
  rcases P6 x y b hp with e|e
  ·rw[e];exact hx
  ·exact h.sub p e⟩
theorem WB.ext{U:aH}{a b:aT}(ha:WB U a)(hb:WB U b)(h:∀v,dA v a=dA v b):a=b:=Pu (tW ha.ok) (tW hb.ok) h
theorem a2N{U:aH}(hU:U.length<=6){b:aT}(h:WB U b){x y:Bytes}(hx:x∈U)(hv:fQ x=true):wu b x y=if fH y=true then(match dA x b with|some o=>bif o==y then(b,true)else([],false)|none=>(wU x y b,true))else([],false):=by
 unfold wu;rw[h.ok,hv];simp only[eM];cases ha:fH y with
 |false=>rfl
 |true=>
  rw[aF,bL rfl];cases hf:dA x b with
  |some o=>rfl
  |none=>dsimp only;rw[bB (h.room hU hx hf),aM]
def Says(h:Bytes->Bytes)(b:aT):Prop:=∀v o,dA v b=some o->h v=o
theorem vv{x y v:Bytes}{b:aT}(hf:dA x b=none):dA v (wU x y b)=if v=x then some y else dA v b:=by
 by_cases e:v=x
 ·subst e;rw[bL rfl,z6 _ hf]
 ·rw[b9 e,s5 (fun e2=>e e2.symm)]
theorem Zu{U:aH}(hU:U.length<=6):∀(l r:aH) (b:aT),WB U b->(∀x∈l,mK x=true)->(∀x∈l,fQ x=true->x∈U)->(∀y∈r,fH y=true)->l.length=r.length->
 ((sV l r b).2=true↔∃h,Says h b/\Fix h/\r=l.map h)/\((sV l r b).2=true->WB U (sV l r b).1/\∀v o,(dA v (sV l r b).1=some o↔dA v b=some o\/(v∈l/\fQ v=true/\∀h,Says h b->Fix h->r=l.map h->h v=o))):=by
 intro l
 induction l with
 |nil=>
  intro r b hb _ _ _ hl;have hr:r=[]:=by cases r with|nil=>rfl|cons _ _=>simp at hl
  subst hr;refine⟨⟨fun _=>?_,fun _=>rfl⟩,fun _=>⟨hb,fun v o=>⟨fun h=>.inl h,fun h=>?_⟩⟩⟩
  ·refine⟨fun y=>(dA y b).getD y,fun v o ho=>by simp[ho],fun y hy=>?_,rfl⟩;cases hf:dA y b with
   |none=>simp[hf]
   |some o=>
    obtain⟨p,hp,h1,_⟩:=xb hf;have:=(Az (tW hb.ok) p hp).1;rw[h1]at this;rw[nC this]at hy;cases hy
  ·rcases h with h|⟨h,_⟩
   ·exact h
   ·cases h
 |cons x xs ih=>
  intro r b hb ht hv Mt hl;cases r with
  |nil=>simp at hl
  |cons y ys=>
   have ht':∀z∈xs,mK z=true:=fun z hz=>ht z (by simp[hz])
   have hv':∀z∈xs,fQ z=true->z∈U:=fun z hz=>hv z (by simp[hz])
   have ha':∀z∈ys,fH z=true:=fun z hz=>Mt z (by simp[hz])
   have hl':xs.length=ys.length:=by simpa using hl
   have hay:=Mt y (by simp);cases hx:fH x with
   |true=>
    have Vp:=K4 hx;cases hxy:x==y with
    |false=>
     have e:sV (x::xs) (y::ys) b=([],false):=by simp only[sV,hx,hxy,aF,aM]
     rw[e];refine⟨⟨fun h=>(by cases h),?_⟩,fun h=>(by cases h)⟩;rintro⟨h,_,h2,h3⟩;rw[au,h2 x hx]at h3;have:x=y:=(mQ h3).1.symm;rw[this]at hxy;simp at hxy
    |true=>
     have exy:x=y:=by simpa using hxy
     have e:sV (x::xs) (y::ys) b=sV xs ys b:=by simp only[sV,hx,hxy,aF]
     rw[e];obtain⟨i1,i2⟩:=ih ys b hb ht' hv' ha' hl';have hh:∀h:Bytes->Bytes,Fix h->(y::ys=(x::xs).map h↔ys=xs.map h):=by
      intro h hf;rw[au,hf x hx,exy];exact⟨fun q=>(mQ q).2,fun q=>by rw[<-q]⟩
     refine⟨⟨fun h=>?_,?_⟩,fun h=>?_⟩
     ·obtain⟨g,g1,g2,g3⟩:=i1.1 h;exact⟨g,g1,g2,(hh g g2).2 g3⟩
     ·rintro⟨g,g1,g2,g3⟩;exact i1.2 ⟨g,g1,g2,(hh g g2).1 g3⟩
     ·obtain⟨k1,k2⟩:=i2 h;refine⟨k1,fun v o=>(k2 v o).trans ⟨?_,?_⟩⟩
      ·rintro(q|⟨q1,q2,q3⟩)
       ·exact .inl q
       ·exact .inr ⟨by simp[q1],q2,fun g g1 g2 g3=>q3 g g1 g2 ((hh g g2).1 g3)⟩
      ·rintro(q|⟨q1,q2,q3⟩)
       ·exact .inl q
       ·rcases bJ.1 q1 with rfl|q1
        ·rw[Vp]at q2;cases q2
        ·exact .inr ⟨q1,q2,fun g g1 g2 g3=>q3 g g1 g2 ((hh g g2).2 g3)⟩
   |false=>
    have Vp:fQ x=true:=by have:=ht x (by simp);unfold mK at this;rw[hx]at this;simpa using this
    have hxU:=hv x (by simp) Vp;have ee:=a2N hU hb (y:=y) hxU Vp;rw[bL hay]at ee;cases hf:dA x b with
    |some o=>
     rw[hf]at ee;dsimp only at ee;cases ho:o==y with
     |false=>
      rw[ho,aM]at ee;have e:sV (x::xs) (y::ys) b=([],false):=by simp only[sV,hx,aM,ee]
      rw[e];refine⟨⟨fun h=>(by cases h),?_⟩,fun h=>(by cases h)⟩;rintro⟨h,h1,h2,h3⟩;rw[au,h1 x o hf]at h3;have:o=y:=(mQ h3).1.symm;rw[this]at ho;simp at ho
     |true=>
      have eo:o=y:=by simpa using ho
      rw[ho,aF]at ee;have e:sV (x::xs) (y::ys) b=sV xs ys b:=by simp only[sV,hx,aM,ee,aF]
      rw[e];obtain⟨i1,i2⟩:=ih ys b hb ht' hv' ha' hl';have hh:∀h:Bytes->Bytes,Says h b->(y::ys=(x::xs).map h↔ys=xs.map h):=by
       intro h h1;rw[au,h1 x o hf,eo];exact⟨fun q=>(mQ q).2,fun q=>by rw[<-q]⟩
      refine⟨⟨fun h=>?_,?_⟩,fun h=>?_⟩
      ·obtain⟨g,g1,g2,g3⟩:=i1.1 h;exact⟨g,g1,g2,(hh g g1).2 g3⟩
      ·rintro⟨g,g1,g2,g3⟩;exact i1.2 ⟨g,g1,g2,(hh g g1).1 g3⟩
      ·obtain⟨k1,k2⟩:=i2 h;refine⟨k1,fun v q=>(k2 v q).trans ⟨?_,?_⟩⟩
       ·rintro(q1|⟨q1,q2,q3⟩)
        ·exact .inl q1
        ·exact .inr ⟨by simp[q1],q2,fun g g1 g2 g3=>q3 g g1 g2 ((hh g g1).1 g3)⟩
       ·rintro(q1|⟨q1,q2,q3⟩)
        ·exact .inl q1
        ·rcases bJ.1 q1 with rfl|q1
         ·obtain⟨g,g1,g2,g3⟩:=i1.1 h;have:=q3 g g1 g2 ((hh g g1).2 g3);rw[g1 v o hf]at this;subst this;exact .inl hf
         ·exact .inr ⟨q1,q2,fun g g1 g2 g3=>q3 g g1 g2 ((hh g g1).2 g3)⟩
    |none=>
     rw[hf]at ee;dsimp only at ee;have e:sV (x::xs) (y::ys) b=sV xs ys (wU x y b):=by simp only[sV,hx,aM,ee,aF]
     rw[e];obtain⟨i1,i2⟩:=ih ys (wU x y b) (hb.set hU hxU Vp hay hf) ht' hv' ha' hl';have hs:∀h:Bytes->Bytes,Says h (wU x y b)↔Says h b/\h x=y:=by
      intro h;constructor
      ·intro q;refine⟨fun v o ho=>q v o ?_,q x y (z6 _ hf)⟩;rw[vv hf,b9 (fun e=>by rw[e,hf]at ho;cases ho)];exact ho
      ·rintro⟨q1,q2⟩ v o ho;rw[vv hf]at ho;by_cases e:v=x
       ·rw[bL e]at ho;cases ho;rw[e];exact q2
       ·rw[b9 e]at ho;exact q1 v o ho
     have hh:∀h:Bytes->Bytes,(y::ys=(x::xs).map h↔h x=y/\ys=xs.map h):=by
      intro h;rw[au];exact⟨fun q=>⟨(mQ q).1.symm,(mQ q).2⟩,fun q=>by rw[q.1,<-q.2]⟩
     refine⟨⟨fun h=>?_,?_⟩,fun h=>?_⟩
     ·obtain⟨g,g1,g2,g3⟩:=i1.1 h;obtain⟨g1,g4⟩:=(hs g).1 g1;exact⟨g,g1,g2,(hh g).2 ⟨g4,g3⟩⟩
     ·rintro⟨g,g1,g2,g3⟩;obtain⟨g4,g3⟩:=(hh g).1 g3;exact i1.2 ⟨g,(hs g).2 ⟨g1,g4⟩,g2,g3⟩
     ·obtain⟨k1,k2⟩:=i2 h;refine⟨k1,fun v q=>(k2 v q).trans ⟨?_,?_⟩⟩
      ·rintro(q1|⟨q1,q2,q3⟩)
       ·rw[vv hf]at q1;by_cases ev:v=x
        ·rw[bL ev]at q1;cases q1;refine .inr ⟨by simp[ev],by rw[ev];exact Vp,fun g g1 g2 g3=>by rw[ev];exact((hh g).1 g3).1⟩
        ·rw[b9 ev]at q1;exact .inl q1
       ·refine .inr ⟨by simp[q1],q2,fun g g1 g2 g3=>?_⟩;obtain⟨g4,g3⟩:=(hh g).1 g3;exact q3 g ((hs g).2 ⟨g1,g4⟩) g2 g3
      ·rintro(q1|⟨q1,q2,q3⟩)
       ·left
        rw[vv hf,b9 (fun e=>by rw[e,hf]at q1;cases q1)];exact q1
       ·by_cases ev:v=x
        ·left
         obtain⟨g,g1,g2,g3⟩:=i1.1 h;obtain⟨g1,g4⟩:=(hs g).1 g1;have:=q3 g g1 g2 ((hh g).2 ⟨g4,g3⟩);rw[ev,g4]at this;rw[vv hf,bL ev,this]
        ·rcases bJ.1 q1 with q1|q1
         ·exact absurd q1 ev
         ·refine .inr ⟨q1,q2,fun g g1 g2 g3=>?_⟩;obtain⟨g1,g4⟩:=(hs g).1 g1;exact q3 g g1 g2 ((hh g).2 ⟨g4,g3⟩)
def Fits(p f:aC)(h:Bytes->Bytes):Prop:=oT f=true/\p.rel=f.rel/\f.args=p.args.map h
theorem Zv{U:aH}(hU:U.length<=6){p f:aC}{b:aT}(hb:WB U b)(hp:vM p=true)(hv:∀x∈p.args,fQ x=true->x∈U):
 ((ko p f b).2=true↔∃h,Says h b/\Fix h/\Fits p f h)/\((ko p f b).2=true->WB U (ko p f b).1/\∀v o,(dA v (ko p f b).1=some o↔dA v b=some o\/(v∈p.args/\fQ v=true/\∀h,Says h b->Fix h->Fits p f h->h v=o))):=by
 cases hc:vM p&&(oT f&&(gq b&&(p.rel==f.rel&&decide (p.args.length=f.args.length))))with
 |false=>
  have e:ko p f b=([],false):=by unfold ko;rw[hc];rfl
  rw[e];refine⟨⟨fun h=>(by cases h),?_⟩,fun h=>(by cases h)⟩;rintro⟨h,_,_,h1,h2,h3⟩;rw[hp,h1,hb.ok,h2,jW,av (by rw[h3];simp)]at hc;cases hc
 |true=>
  have e:ko p f b=sV p.args f.args b:=by unfold ko;rw[hc];rfl
  simp only[aR,cZ,bC]at hc;obtain⟨_,c2,_,c4,c5⟩:=hc;have Mt:∀y∈f.args,fH y=true:=by
   unfold oT at c2;rw[aR]at c2;exact aj.1 c2.1
  obtain⟨i1,i2⟩:=Zu hU p.args f.args b hb (Ns hp) hv Mt c5;rw[e];have hf:∀h,Fits p f h↔f.args=p.args.map h:=fun h=>⟨fun q=>q.2.2,fun q=>⟨c2,c4,q⟩⟩
  refine⟨⟨fun h=>?_,?_⟩,fun h=>?_⟩
  ·obtain⟨g,g1,g2,g3⟩:=i1.1 h;exact⟨g,g1,g2,(hf g).2 g3⟩
  ·rintro⟨g,g1,g2,g3⟩;exact i1.2 ⟨g,g1,g2,(hf g).1 g3⟩
  ·obtain⟨k1,k2⟩:=i2 h;refine⟨k1,fun v o=>(k2 v o).trans ⟨?_,?_⟩⟩
   ·rintro(q|⟨q1,q2,q3⟩)
    ·exact .inl q
    ·exact .inr ⟨q1,q2,fun g g1 g2 g3=>q3 g g1 g2 ((hf g).1 g3)⟩
   ·rintro(q|⟨q1,q2,q3⟩)
    ·exact .inl q
    ·exact .inr ⟨q1,q2,fun g g1 g2 g3=>q3 g g1 g2 ((hf g).2 g3)⟩
theorem O9{r:aK}:∀ {pre rest:ar} {c:aP} {i:Nat},th r (pre++c::rest) i=true->oh c=true/\(i+pre.length=0->c.kind=1)/\∀v∈rM c,NQ r (i+pre.length) c v=true
 | [],rest,c,i,h=>by
  rw[dZ]at h;unfold th at h;rw[Pr]at h;simp only[aR,pR,p9,pG,bC]at h;refine⟨h.1.1.1,fun e=>?_,fun v hv=>aj.1 h.1.2 v hv⟩;rcases h.1.1.2 with q|q
  ·exact absurd (by simpa using e) q
  ·exact q
 |x::pre,rest,c,i,h=>by
  rw[si]at h;unfold th at h;rw[aR]at h;have:=O9 h.2;rw[aS,show i+(pre.length+1)=i+1+pre.length by omega];exact this
theorem Rb{r:aK}(h:fX r=true):th r r.conds 0=true:=by
 unfold fX at h;simp only[aR]at h;exact h.2.1
def Wj(sh:aC):bK->Nat->Option Nat
 | [],_=>none
 |x::xs,i=>if x.shape=sh then some i else Wj sh xs (i+1)
def VJ(al:bK)(sh:aC):bK×Int:=match Wj sh al 0 with
 |some i=>(al,dB i)
 |none=>(al++[⟨sh,[]⟩],dB al.length)
theorem NG{n:Nat}(h:n<=1099511627776):IntKind.i64.wrap (((n+1:Nat):Int)-1)=dB n:=by
 unfold dB;rw[dY (qQ.i64.2 (by omega))];omega
theorem aCC(n:aG)(sh:aC)(k:Option (aG×Int)):∀(l:bK) (i:Nat),n9 n sh k l i=match Wj sh l i with|some j=>some (n,dB j)|none=>k:=by
 intro l
 induction l with
 |nil=>intro i;rfl
 |cons x l ih=>
  intro i;rw[n9,Ut,aA,ih,Wj];by_cases h:x.shape=sh
  ·rw[av h,aF,bL h];rfl
  ·rw[bB h,aM,b9 h]
theorem sAl(n:aG)(sh:aC)(h:n.az.length<=1048576):tQ n sh=some (⟨n.rules,n.ends,(VJ n.az sh).1,n.nodes,n.facts,n.br⟩,(VJ n.az sh).2):=by
 unfold tQ;rw[tY (by omega),aF,aCC,gB (by omega) (by decide),aF];unfold VJ;cases Wj sh n.az 0 with
 |some j=>rfl
 |none=>
  dsimp only;rw[show((n.az.map aX.c)++[[D.str sh.rel,D.sl (sh.args.map tx),D.sl []]]).length=n.az.length+1 by simp,NG (by omega)]
theorem aBt(n:aG)(sh:aC)(k:Option (aG×Int)):∀(l:bK) (i:Nat),fI n sh k l i=match Wj sh l i with|some j=>some (n,dB j)|none=>k:=by
 intro l
 induction l with
 |nil=>intro i;rfl
 |cons x l ih=>
  intro i;rw[fI,OY,aA,ih,Wj];by_cases h:x.shape=sh
  ·rw[av h,aF,bL h];rfl
  ·rw[bB h,aM,b9 h]
theorem iAl(n:aG)(sh:aC)(h:n.az.length<=1048576):iv n sh=some (⟨n.rules,n.ends,(VJ n.az sh).1,n.nodes,n.facts,n.br⟩,(VJ n.az sh).2):=by
 unfold iv;rw[tY (by omega),aF,aBt,gB (by omega) (by decide),aF];unfold VJ;cases Wj sh n.az 0 with
 |some j=>rfl
 |none=>
  dsimp only;rw[show((n.az.map aX.c)++[[D.str sh.rel,D.sl (sh.args.map tx),D.sl []]]).length=n.az.length+1 by simp,NG (by omega)]
def PU(p:Int)(c:aP):bI->Nat->Option Nat
 | [],_=>none
 |x::xs,i=>if 0<i/\x.parent=p/\x.cond=c then some i else PU p c xs (i+1)
def Ps(al:bK)(c:aP):bK×Int:=if c.kind=1\/c.kind=2 then VJ al (vE c.pat)else(al, -1)
def Lm(al:bK)(ns:bI)(p:Int)(c:aP):(bK×bI)×Int:=match PU p c ns 0 with
 |some i=>((al,ns),dB i)
 |none=>(((Ps al c).1,ns++[⟨p,c,(Ps al c).2,[]⟩]),dB ns.length)
theorem SO(p:Int)(c:aP)(ns:bI):PU p c ns 0=PU p c (ns.drop 1) 1:=by
 cases ns with
 |nil=>rfl
 |cons x ns=>rw[PU,b9 (fun h=>by omega)];rfl
def XN(n:aG)(z:(bK×bI)×Int):aG×Int:=(⟨n.rules,n.ends,z.1.1,z.1.2,n.facts,n.br⟩,z.2)
theorem aCD(n:aG)(p:Int)(c:aP)(k:Option (aG×Int))(hn:n.nodes.length<=1048576):∀(d v fu:Nat),v+d=n.nodes.length+1->1<=v->d<fu->gl n p c k fu (v:Int)=match PU p c (n.nodes.drop v) v with|some j=>some (n,dB j)|none=>k:=by
 intro d
 induction d with
 |zero=>
  intro v fu hv h1 hf;obtain⟨fu,rfl⟩:∃m,fu=m+1:=⟨fu-1,by omega⟩
  rw[gl,ah,bB (by omega),aM,mV (by omega)];rfl
 |succ d ih=>
  intro v fu hv h1 hf;obtain⟨fu,rfl⟩:∃m,fu=m+1:=⟨fu-1,by omega⟩
  by_cases hl:v<n.nodes.length
  ·have hx:n.nodes[v]?=some n.nodes[v]:=af hl;have e3:fy n.nodes (v:Int)=some n.nodes[v]:=by unfold fy;rw[av (by omega),aF];exact hx
   rw[nk hl,PU,gl,ah,av (by omega),aF,e3,aA,En (by omega),ih (v+1) fu (by omega) (by omega) (by omega),a0k,aA];generalize n.nodes[v]=x;by_cases hp:x.parent=p
   ·rw[show((x.parent:Int)==p)=true by simp[hp],aF];by_cases hc:x.cond=c
    ·rw[av hc,aF,bL ⟨by omega,hp,hc⟩];rfl
    ·rw[bB hc,aM,b9 (fun h=>hc h.2.2)]
   ·rw[show((x.parent:Int)==p)=false by simp[hp],aM,b9 (fun h=>hp h.2.1)]
  ·rw[gl,ah,bB (by omega),aM,mV (by omega)];rfl
theorem sCh(n:aG)(p:Int)(c:aP)(hn:n.nodes.length<=1048576)(ha:n.az.length<=1048576)(hc:c.wt<=1048576):vZ n p c=some (XN n (Lm n.az n.nodes p c)):=by
 have hp:=aP.gG hc;have hargs:=aC.dM hp;unfold vZ;have e:=aCD n p c;rw[show(1:Int)=((1:Nat):Int)from rfl,e _ hn n.nodes.length 1 fuel (by omega) (bU _) (by unfold fuel;omega),<-SO,Re c (by omega),aA,a6q c.pat hp,aA,sAl n _ ha,aA];unfold Lm Ps XN;cases PU p c n.nodes 0 with
 |some j=>rfl
 |none=>
  dsimp only;rw[gB (by omega) (by decide),aF];by_cases h1:c.kind=1
  ·rw[show((c.kind:Int)==((1:Nat):Int))=true by simp[h1],aF,bL (.inl h1)];simp[NG,hn,show n.nodes.length<=1099511627776 by omega]
   first|done| (unfold dB;rw[dY (qQ.i64.2 (by omega))])
  ·rw[show((c.kind:Int)==((1:Nat):Int))=false by simp[h1],aM];by_cases h2:c.kind=2
   ·rw[show((c.kind:Int)==(2:Int))=true by simp[h2],aF,bL (.inr h2)];simp[NG,hn,show n.nodes.length<=1099511627776 by omega]
    first|done| (unfold dB;rw[dY (qQ.i64.2 (by omega))])
   ·rw[show((c.kind:Int)==(2:Int))=false by simp[h2],aM,b9 (by omega)]
    first|rw[gB (by omega) (by decide),aF]|rw[aA,gB (by omega) (by decide),aF]|skip
    simp[NG,hn,show n.nodes.length<=1099511627776 by omega]
    first|done| (unfold dB;rw[dY (qQ.i64.2 (by omega))])
theorem aBv(n:aG)(p:Int)(c:aP)(k:Option (aG×Int)):∀(l:bI) (i:Nat),dS n p c k l i=match PU p c l i with|some j=>some (n,dB j)|none=>k:=by
 intro l
 induction l with
 |nil=>intro i;rfl
 |cons x l ih=>
  intro i;rw[dS,PU,ih,RG,aA];by_cases hi:0<i
  ·rw[av (by omega),aF];by_cases hp:x.parent=p
   ·rw[show((x.parent:Int)==p)=true by simp[hp],aF];by_cases hc:x.cond=c
    ·rw[av hc,aF,bL ⟨hi,hp,hc⟩];rfl
    ·rw[bB hc,aM,b9 (fun h=>hc h.2.2)]
   ·rw[show((x.parent:Int)==p)=false by simp[hp],aM,b9 (fun h=>hp h.2.1)]
  ·rw[bB (by omega),aM,b9 (fun h=>hi h.1)]
theorem iCh(n:aG)(p:Int)(c:aP)(hn:n.nodes.length<=1048576)(ha:n.az.length<=1048576)(hc:c.wt<=1048576):lR n p c=some (XN n (Lm n.az n.nodes p c)):=by
 have hp:=aP.gG hc;have hargs:=aC.dM hp;unfold lR;rw[tY (by omega),aF,aBv,RC c (by omega),a67 c.pat hp,aA,iAl n _ ha,aA,aA];unfold Lm Ps XN;cases PU p c n.nodes 0 with
 |some j=>rfl
 |none=>
  dsimp only;rw[gB (by omega) (by decide),aF];by_cases h1:c.kind=1
  ·rw[show((c.kind:Int)==(1:Int))=true by simp[h1],aF,bL (.inl h1)];simp[NG,hn,show n.nodes.length<=1099511627776 by omega]
   first|done| (unfold dB;rw[dY (qQ.i64.2 (by omega))])
  ·rw[show((c.kind:Int)==(1:Int))=false by simp[h1],aM];by_cases h2:c.kind=2
   ·rw[show((c.kind:Int)==(2:Int))=true by simp[h2],aF,bL (.inr h2)];simp[NG,hn,show n.nodes.length<=1099511627776 by omega]
    first|done| (unfold dB;rw[dY (qQ.i64.2 (by omega))])
   ·rw[show((c.kind:Int)==(2:Int))=false by simp[h2],aM,b9 (by omega)]
    first|rw[gB (by omega) (by decide),aF]|rw[aA,gB (by omega) (by decide),aF]|skip
    simp[NG,hn,show n.nodes.length<=1099511627776 by omega]
    first|done| (unfold dB;rw[dY (qQ.i64.2 (by omega))])
def HQ(s:(bK×bI)×Int)(c:aP):(bK×bI)×Int:=Lm s.1.1 s.1.2 s.2 c
def Is(z:(bK×bI)×bH)(r:aK):(bK×bI)×bH:=(((fW r).foldl HQ (z.1,0)).1,z.2++[((fW r).foldl HQ (z.1,0)).2])
def root(tk:ai):Node:=⟨-1,⟨0,⟨[],[]⟩,[],[]⟩, -1,tk⟩
def cN(tk:ai)(rs:aq):(bK×bI)×bH:=rs.foldl Is (([],[root tk]),[])
theorem a1u(al:bK)(sh:aC):(VJ al sh).1.length<=al.length+1:=by
 unfold VJ;cases Wj sh al 0<;>simp
theorem a2A(al:bK)(c:aP):(Ps al c).1.length<=al.length+1:=by
 unfold Ps;by_cases h:c.kind=1\/c.kind=2
 ·rw[bL h];exact a1u _ _
 ·rw[b9 h];exact Nat.le_succ _
theorem Qs(al:bK)(ns:bI)(p:Int)(c:aP):(Lm al ns p c).1.1.length<=al.length+1/\(Lm al ns p c).1.2.length<=ns.length+1:=by
 unfold Lm;cases PU p c ns 0 with
 |some i=>exact⟨Nat.le_succ _,Nat.le_succ _⟩
 |none=>exact⟨a2A _ _,by simp⟩
theorem HR:∀(cs:ar) (s:(bK×bI)×Int),(cs.foldl HQ s).1.1.length<=s.1.1.length+cs.length/\(cs.foldl HQ s).1.2.length<=s.1.2.length+cs.length
 | [],s=>⟨bU _,bU _⟩
 |c::cs,s=>by
  have h1:=Qs s.1.1 s.1.2 s.2 c;have h2:=HR cs (HQ s c);have h3:(HQ s c).1.1.length<=s.1.1.length+1/\(HQ s c).1.2.length<=s.1.2.length+1:=h1;rw[cu,aS];omega
theorem a9a(a:aq)(i:Nat)(y:ar)(k:Int->Int->aq->bH->bK->bI->aI->Option (aG×Bool)):∀(cs:ar) (j:Nat) (v u:Int) (w3:aq) (w4:bH) (al:bK) (ns:bI) (w7:aI),(∀c∈cs,c.wt<=1048576)->al.length+cs.length<=1048576->ns.length+cs.length<=1048576->
 iD a i y k cs j v u w3 w4 al ns w7=k (cs.foldl HQ ((al,ns),v)).2 u w3 w4 (cs.foldl HQ ((al,ns),v)).1.1 (cs.foldl HQ ((al,ns),v)).1.2 w7:=by
 intro cs
 induction cs with
 |nil=>intros;rfl
 |cons c cs ih=>
  intro j v u w3 w4 al ns w7 hc ha hn;simp only[aS]at ha hn;have h1:=Qs al ns v c;rw[iD,sCh _ v c (show ns.length<=1048576 by omega) (show al.length<=1048576 by omega) (hc c (by simp)),aA];unfold XN;dsimp only;rw[ih _ _ _ _ _ _ _ _ (fun x hx=>hc x (by simp[hx])) (by omega) (by omega)];rfl
theorem a8a(a:aq)(i:Nat)(y:ar)(k:Int->Int->aq->bH->bK->bI->aI->Option aG):∀(cs:ar) (j:Nat) (v u:Int) (w3:aq) (w4:bH) (al:bK) (ns:bI) (w7:aI),(∀c∈cs,c.wt<=1048576)->al.length+cs.length<=1048576->ns.length+cs.length<=1048576->
 jy a i y k cs j v u w3 w4 al ns w7=k (cs.foldl HQ ((al,ns),v)).2 u w3 w4 (cs.foldl HQ ((al,ns),v)).1.1 (cs.foldl HQ ((al,ns),v)).1.2 w7:=by
 intro cs
 induction cs with
 |nil=>intros;rfl
 |cons c cs ih=>
  intro j v u w3 w4 al ns w7 hc ha hn;simp only[aS]at ha hn;have h1:=Qs al ns v c;rw[jy,iCh _ v c (show ns.length<=1048576 by omega) (show al.length<=1048576 by omega) (hc c (by simp)),aA];unfold XN;dsimp only;rw[ih _ _ _ _ _ _ _ _ (fun x hx=>hc x (by simp[hx])) (by omega) (by omega)];rfl
theorem MK:∀(ts:aH) (N:aT) {p:aV},p∈ts.foldl jm N->p∈N\/(p.var∈ts/\fQ p.var=true)
 | [],_,_,h=>.inl h
 |t::ts,N,p,h=>by
  rcases MK ts (jm N t) h with h1|h1
  ·unfold jm at h1;cases hv:fQ t&& !Gl N t with
   |false=>rw[hv]at h1;exact .inl h1
   |true=>
    rw[hv,aF]at h1;simp only[aR]at hv;rcases aZ.1 h1 with h2|h2
    ·exact .inl h2
    ·rw[cG.1 h2];exact .inr ⟨by simp,hv.1⟩
  ·exact .inr ⟨by simp[h1.1],h1.2⟩
theorem Bo{l:ar}{v:Bytes}:v∈A8 l↔v∈xR l/\fQ v=true:=by
 unfold A8 xR rM jq;simp only[cA,fY];constructor
 ·rintro⟨c,hc,hm,hv⟩;exact⟨⟨c,hc,hm⟩,hv⟩
 ·rintro⟨⟨c,hc,hm⟩,hv⟩;exact⟨c,hc,hm,hv⟩
theorem MR{r:aK}(h:fX r=true):(iJ r).length<=6:=by
 have h1:((iJ r).map aV.var).length<=(fD (A8 r.conds)).length:=by
  refine MT _ _ (zl _ Rx.nil) fun x hx=>?_
  obtain⟨p,hp,rfl⟩:=bt.1 hx;rcases MK _ _ hp with h1|h1
  ·cases h1
  ·exact qZ.2 (Bo.2 h1)
 rw[ah]at h1;exact eD h1 (Mb h)
theorem Gy{r:aK}(h:fX r=true){v:Bytes}(hv:v∈A8 r.conds):∃i p,i<6/\(iJ r)[i]?=some p/\p.var=v/\Co (iJ r) v=nmB i:=by
 obtain⟨ht,Ik⟩:=Bo.1 hv;obtain⟨p,hp,he⟩:=Kz _ [] ht Ik;have hp':p∈iJ r:=hp;obtain⟨i,hi,OR,hval,_⟩:=Jp (CP _ Tr.nil) hp';refine⟨i,p,by have:=MR h;unfold iJ at this;omega,OR,he,?_⟩;rw[<-he];exact(HN (N:=iJ r) (zl (xR r.conds) Rx.nil) hp').trans hval
theorem LR{r:aK}(h:fX r=true){x:Bytes}(hx:x.length<=16)(hV:fQ x=true->x∈A8 r.conds):(Co (iJ r) x).length<=16:=by
 cases hv:fQ x with
 |false=>rw[show Co (iJ r) x=x from LI hv];exact hx
 |true=>
  obtain⟨i,p,hi,_,_,e⟩:=Gy h (hV hv);rw[e];exact W7 i hi
theorem Nt:∀(l:aH),(∀x∈l,x.length<=16)->qw tw l<=17*l.length
 | [],_=>by simp[qw]
 |x::l,h=>by
  have h1:=Nt l fun y hy=>h y (by simp[hy])
  have h2:=h x (by simp);rw[oz,aS];unfold tw at*;omega
theorem PD{t:Bytes}(h:mK t=true):t.length<=16:=by have:=Xg h;omega
theorem O8{c:aP}(h:oh c=true):c.pat.rel.length<=8/\c.pat.args.length<=3/\(∀x∈c.pat.args,x.length<=16)/\c.left.length<=16/\c.right.length<=16:=by
 by_cases hk:c.kind=1\/c.kind=2
 ·obtain⟨hp,hl,hr⟩:=D0 h hk;have ht:=Ns hp;unfold vM at hp;simp only[aR,bC]at hp;have:=QF hp.2.1;rw[hl,hr];exact⟨by omega,by omega,fun x hx=>PD (ht x hx),by simp,by simp⟩
 ·obtain⟨_,hz,hl,hr⟩:=O7 h (fun e=>hk (.inl e)) (fun e=>hk (.inr e));unfold Dj at hz;simp only[aR,cZ,bC]at hz;have h0:c.pat.args=[]:=cc (by omega);rw[hz.1,h0];exact⟨by simp,by simp,fun x hx=>(by cases hx),PD hl,PD hr⟩
theorem H7{r:aK}(h:fX r=true):∀c∈fW r,c.wt<=1048576:=by
 intro c' Yr;obtain⟨c,hc,rfl⟩:=bt.1 Yr;obtain⟨h1,h2,h3,h4,h5⟩:=O8 (CM h c hc);have hV:∀x∈c.pat.args++[c.left,c.right],fQ x=true->x∈A8 r.conds:=fun x hx hv=>Bo.2 ⟨cA.2 ⟨c,hc,hx⟩,hv⟩
 have a1:(Co (iJ r) c.left).length<=16:=LR h h4 (hV _ (by simp));have a2:(Co (iJ r) c.right).length<=16:=LR h h5 (hV _ (by simp));have a3:=Nt (c.pat.args.map (Co (iJ r))) (fun x hx=>by
  obtain⟨y,hy,rfl⟩:=bt.1 hx;exact LR h (h3 y hy) (hV y (by simp[hy])))
 rw[ah]at a3;unfold P3 aP.wt;dsimp only;unfold tw at*;omega
theorem zA{r:aK}(h:fX r=true):(fW r).length<=4:=by unfold fW;rw[ah];exact Ma h
theorem VH{r:aK}{n:Nat}(h:r.wt<=n){a:Action}(ha:a∈r.cY):a.pat.args.length<=n:=by
 have h1:=aK.K1 h;have h2:=oZ (w:=Action.wt) ha;have h3:=qo tw a.pat.args;simp only[Action.wt]at h2;omega
theorem a0O(p:aC)(h:p.args.length<=1099511627770):ez p=some p:=by
 unfold ez;rw[a0o p.args (by omega)];rfl
theorem ZS(p:aC)(h:p.args.length<=1099511627770):eS p=some p:=by
 unfold eS;rw[RI p.args (by omega)];rfl
theorem a6Z(r:aK)(h:r.wt<=1048576):uh r=some r:=by
 have h1:=aK.uH h;have h2:=aK.K1 h;have h3:=qo aP.wt r.conds;have h4:=qo Action.wt r.cY;unfold uh;rw[ES (c:=aP.c) (b:=80) (f:=kW) (g:=fun x=>x) (L:=qY r _) (k:=_) (by decide) (fun _ _=>rfl) (fun _ _ _ _=>rfl) _ _ _ (fun c hc=>Re c (by have:=aC.dM (aP.gG (aK.rN h hc));omega)) (by simp;omega)];rw[ES (c:=Action.c) (b:=48) (f:=fun a:Action=>(ez a.pat).bind fun y=>some (⟨a.kind,y⟩:Action)) (g:=fun x=>x) (L:=oM r _ _) (k:=_) (by decide) (fun _ _=>rfl) (fun x xs i w=>by rw[oM];cases ez x.pat<;>rfl) _ _ _ (fun a ha=>by rw[a0O a.pat (by have:=VH h ha;omega)];rfl) (by simp;omega)];simp
theorem TT(l:aq)(h:qw aK.wt l<=1048576):rF l=some l:=by
 have h3:=qo aK.wt l;unfold rF;rw[ES (c:=aK.c) (b:=72) (f:=uh) (g:=fun x=>x) (L:=oL l _) (k:=_) (by decide) (fun _ _=>rfl) (fun _ _ _ _=>rfl) _ _ _ (fun r hr=>a6Z r (by have:=oZ (w:=aK.wt) hr;omega)) (by simp;omega)];simp
theorem ZR(l:ar)(h:l.length<=1048576)(hw:∀c∈l,c.wt<=1048576):tB l=some l:=by
 unfold tB;rw[ES (c:=aP.c) (b:=80) (f:=fc) (g:=fun x=>x) (L:=nJ l _) (k:=_) (by decide) (fun _ _=>rfl) (fun _ _ _ _=>rfl) _ _ _ (fun c hc=>RC c (by have:=aC.dM (aP.gG (hw c hc));omega)) (by simp;omega)];simp
theorem a5x(r:aK)(h:r.wt<=1048576):rB r=some r:=by
 have h1:=aK.uH h;have h2:=aK.K1 h;have h3:=qo aP.wt r.conds;have h4:=qo Action.wt r.cY;unfold rB;rw[ZR r.conds (by omega) (fun c hc=>aK.rN h hc),aA];rw[ES (c:=Action.c) (b:=48) (f:=fun a:Action=>(eS a.pat).bind fun y=>some (⟨a.kind,y⟩:Action)) (g:=fun x=>x) (L:=l9 r _ _) (k:=_) (by decide) (fun _ _=>rfl) (fun x xs i w=>by rw[l9];cases eS x.pat<;>rfl) _ _ _ (fun a ha=>by rw[ZS a.pat (by have:=VH h ha;omega)];rfl) (by simp;omega)];simp
theorem Sr(l:aq)(h:qw aK.wt l<=1048576):qT l=some l:=by
 have h3:=qo aK.wt l;unfold qT;rw[ES (c:=aK.c) (b:=72) (f:=rB) (g:=fun x=>x) (L:=nL l _) (k:=_) (by decide) (fun _ _=>rfl) (fun _ _ _ _=>rfl) _ _ _ (fun r hr=>a5x r (by have:=oZ (w:=aK.wt) hr;omega)) (by simp;omega)];simp
theorem a9Z(a:aq)(k:Int->aq->bH->bK->bI->aI->Option (aG×Bool)):∀(l:aq) (i:Nat) (u:Int) (w2:aq) (es:bH) (al:bK) (ns:bI) (w6:aI),(∀r∈l,r.wt<=1048576/\fX r=true)->es.length+l.length<=1000->al.length+4*l.length<=1000->ns.length+4*l.length<=1000->
 iC a k l i u w2 es al ns w6=k u w2 (l.foldl Is ((al,ns),es)).2 (l.foldl Is ((al,ns),es)).1.1 (l.foldl Is ((al,ns),es)).1.2 w6:=by
 intro l
 induction l with
 |nil=>intros;rfl
 |cons r l ih=>
  intro i u w2 es al ns w6 hr he ha hn;simp only[aS]at he ha hn;obtain⟨hw,hb⟩:=hr r (by simp);have h4:=zA hb;have hl:=HR (fW r) ((al,ns),0);dsimp only at hl;rw[iC,a6Y r hw,aA,tY (by omega),aF,a9a _ _ _ _ _ _ _ _ _ _ _ _ _ (H7 hb) (by omega) (by omega),gB (by omega) (by decide),aF,ih _ _ _ _ _ _ _ (fun x hx=>hr x (by simp[hx])) (by simp;omega) (by omega) (by omega)];rfl
theorem a0U(rs:aq)(h:qw aK.wt rs<=1048576):k7 rs=some (bif rK rs then(⟨rs,(cN [⟨[],[]⟩] rs).2,(cN [⟨[],[]⟩] rs).1.1,(cN [⟨[],[]⟩] rs).1.2,[],0⟩,true)else(⟨[],[],[],[],[],0⟩,false)):=by
 unfold k7;rw[a6V rs h,aA];cases hb:rK rs with
 |false=>rfl
 |true=>
  have h6:rs.length<=6:=by unfold rK at hb;simp only[aR,bC]at hb;omega
  rw[bN,aM,aF,TT rs h,aA,a9Z _ _ _ _ _ _ _ _ _ _ (fun r hr=>⟨by have:=oZ (w:=aK.wt) hr;omega,og hb r hr⟩) (by simp;omega) (by simp;omega) (by simp;omega)];rfl
theorem a8Z(a:aq)(k:Int->aq->bH->bK->bI->aI->Option aG):∀(l:aq) (i:Nat) (u:Int) (w2:aq) (es:bH) (al:bK) (ns:bI) (w6:aI),(∀r∈l,r.wt<=1048576/\fX r=true)->es.length+l.length<=1000->al.length+4*l.length<=1000->ns.length+4*l.length<=1000->
 jx a k l i u w2 es al ns w6=k u w2 (l.foldl Is ((al,ns),es)).2 (l.foldl Is ((al,ns),es)).1.1 (l.foldl Is ((al,ns),es)).1.2 w6:=by
 intro l
 induction l with
 |nil=>intros;rfl
 |cons r l ih=>
  intro i u w2 es al ns w6 hr he ha hn;simp only[aS]at he ha hn;obtain⟨hw,hb⟩:=hr r (by simp);have h4:=zA hb;have hl:=HR (fW r) ((al,ns),0);dsimp only at hl;rw[jx,a5w r hw,aA,tY (by omega),aF,a8a _ _ _ _ _ _ _ _ _ _ _ _ _ (H7 hb) (by omega) (by omega),gB (by omega) (by decide),aF,ih _ _ _ _ _ _ _ (fun x hx=>hr x (by simp[hx])) (by simp;omega) (by omega) (by omega)];rfl
theorem aBy(rs:aq)(h:qw aK.wt rs<=1048576)(hb:rK rs=true):tF rs=some ⟨rs,(cN [] rs).2,(cN [] rs).1.1,(cN [] rs).1.2,[],0⟩:=by
 unfold tF;have h6:rs.length<=6:=by unfold rK at hb;simp only[aR,bC]at hb;omega
 rw[Sr rs h,aA,a8Z _ _ _ _ _ _ _ _ _ _ (fun r hr=>⟨by have:=oZ (w:=aK.wt) hr;omega,og hb r hr⟩) (by simp;omega) (by simp;omega) (by simp;omega)];rfl
def chR(al:bK)(ns:bI)(p:Int)(c:aP):(bK×bI)×Int:=match PU p c ns 1 with
 |some i=>((al,ns),dB i)
 |none=>(((Ps al c).1,ns++[⟨p,c,(Ps al c).2,[]⟩]),dB (ns.length+1))
theorem YX(tk:ai)(al:bK)(ns:bI)(p:Int)(c:aP):Lm al (root tk::ns) p c=(((chR al ns p c).1.1,root tk::(chR al ns p c).1.2),(chR al ns p c).2):=by
 unfold Lm chR;rw[SO,List.drop_succ_cons,B7];cases PU p c ns 1<;>rfl
def rtC(s:(bK×bI)×Int)(c:aP):(bK×bI)×Int:=chR s.1.1 s.1.2 s.2 c
def rtR(z:(bK×bI)×bH)(r:aK):(bK×bI)×bH:=(((fW r).foldl rtC (z.1,0)).1,z.2++[((fW r).foldl rtC (z.1,0)).2])
def rtB(rs:aq):(bK×bI)×bH:=rs.foldl rtR (([],[]),[])
theorem TY(tk:ai):∀(cs:ar) (al:bK) (ns:bI) (v:Int),cs.foldl HQ ((al,root tk::ns),v)=(((cs.foldl rtC ((al,ns),v)).1.1,root tk::(cs.foldl rtC ((al,ns),v)).1.2),(cs.foldl rtC ((al,ns),v)).2)
 | [],_,_,_=>rfl
 |c::cs,al,ns,v=>by
  rw[cu,cu];show cs.foldl HQ (Lm al (root tk::ns) v c)=_;rw[YX,TY tk cs];rfl
theorem Ta(tk:ai):∀(rs:aq) (al:bK) (ns:bI) (es:bH),rs.foldl Is ((al,root tk::ns),es)=(((rs.foldl rtR ((al,ns),es)).1.1,root tk::(rs.foldl rtR ((al,ns),es)).1.2),(rs.foldl rtR ((al,ns),es)).2)
 | [],_,_,_=>rfl
 |r::rs,al,ns,es=>by
  rw[cu,cu];have e:Is ((al,root tk::ns),es) r=(((rtR ((al,ns),es) r).1.1,root tk::(rtR ((al,ns),es) r).1.2),(rtR ((al,ns),es) r).2):=by
   unfold Is rtR;dsimp only;rw[TY]
  rw[e,Ta tk rs]
theorem gy(tk:ai)(rs:aq):cN tk rs=(((rtB rs).1.1,root tk::(rtB rs).1.2),(rtB rs).2):=Ta tk rs [] [] []
theorem Bu(tk:ai){rs:aq}(h:∀r∈rs,fX r=true)(h6:rs.length<=6):(cN tk rs).1.2.length<=25:=by
 have main:∀(l:aq) (z:(bK×bI)×bH),(∀r∈l,fX r=true)->(l.foldl Is z).1.2.length<=z.1.2.length+4*l.length:=by
  intro l
  induction l with
  |nil=>intro z _;exact bU _
  |cons r l ih=>
   intro z hl;have h1:=ih (Is z r) (fun x hx=>hl x (by simp[hx]));have h2:=(HR (fW r) (z.1,0)).2;have h3:=zA (hl r (by simp));have h4:(Is z r).1.2.length=((fW r).foldl HQ (z.1,0)).1.2.length:=rfl;rw[cu,aS];dsimp only at h2;omega
 have:=main rs (([],[root tk]),[]) h;unfold cN;simp only[aS,bf]at this;omega
def qv(x:Node):Int×aP:=(x.parent,x.cond)
theorem QU{a b:bI}(h:a.map qv=b.map qv):∀(k v:Nat),Ph a k v=Ph b k v
 |0,_=>rfl
 |k+1,v=>by
  have e:(a[v]?).map qv=(b[v]?).map qv:=by rw[<-cF,<-cF,h]
  unfold Ph;cases ha:a[v]? with
  |none=>
   cases hb:b[v]? with
   |none=>rfl
   |some y=>rw[ha,hb]at e;cases e
  |some x=>
   cases hb:b[v]? with
   |none=>rw[ha,hb]at e;cases e
   |some y=>
    rw[ha,hb]at e;have e1:x.parent=y.parent:=(kI (kZ e)).1;dsimp only;rw[e1,QU h k]
theorem Qu{a b:bI}(h:a.map qv=b.map qv):CS a=CS b:=by
 funext i
 have e:(a[i]?).map qv=(b[i]?).map qv:=by rw[<-cF,<-cF,h]
 unfold CS;cases ha:a[i]? with
 |none=>
  cases hb:b[i]? with
  |none=>rfl
  |some y=>rw[ha,hb]at e;cases e
 |some x=>
  cases hb:b[i]? with
  |none=>rw[ha,hb]at e;cases e
  |some y=>
   rw[ha,hb]at e;have e2:x.cond=y.cond:=(kI (kZ e)).2;show some x.cond=some y.cond;rw[e2]
theorem ve{a b:bI}(h:a.map qv=b.map qv)(v:Int):eF a v=eF b v:=by
 have hl:a.length=b.length:=by have:=congrArg List.length h;simpa using this
 unfold eF Io;rw[hl,QU h,Qu h]
def gA(al:bK)(fs:aI):bK:=al.map fun a=>⟨a.shape,qt a.shape [] fs⟩
def ou(ns:bI)(fs:aI):bI->Nat->bI
 | [],_=>[]
 |x::xs,i=>⟨x.parent,x.cond,x.cM,qh (eF ns (dB i)) fs⟩::ou ns fs xs (i+1)
def fA(ns:bI)(fs:aI):bI:=ou ns fs ns 0
theorem Je(ns:bI)(fs:aI):∀(l:bI) (i:Nat),(ou ns fs l i).map qv=l.map qv
 | [],_=>rfl
 |x::l,i=>by rw[ou,au,Je ns fs l];rfl
theorem Wx(ns:bI)(fs:aI)(l:bI)(i:Nat):(ou ns fs l i).length=l.length:=by
 have:=congrArg List.length (Je ns fs l i);simpa using this
theorem setAt{α:Type}(pre l:List α)(x y:α):(pre++x::l).set pre.length y=pre++y::l:=by
 rw[nv _ _ (bU _),rJ];rfl
structure CB(ns:List Node):Prop where
 len:ns.length<=1048576
 wt:∀x∈ns,x.cond.wt<=1048576
 path:∀i:Nat,(eF ns (dB i)).length<=4
theorem LO{ns:bI}{v:Int}{c:aP}(h:c∈eF ns v):∃x∈ns,x.cond=c:=by
 unfold eF at h;split at h
 ·unfold Io at h;obtain⟨i,_,hc⟩:=cI.1 h;unfold CS at hc;cases hx:ns[i]? with
  |none=>rw[hx]at hc;cases hc
  |some x=>rw[hx]at hc;exact⟨x,aE hx,kZ hc⟩
 ·cases h
theorem Yj(n:aG)(fs y:aI)(k:bK->Option (aG×Unit))(hf:FS fs):∀(l pre:bK),(∀x∈l,x.shape.wt<=1048576)->fU n fs y k l pre.length (pre++l)=k (pre++gA l fs):=by
 intro l
 induction l with
 |nil=>intro pre _;rfl
 |cons x l ih=>
  intro pre hw;have hx:(pre++x::l)[pre.length]?=some x:=by simp
  have hlt:decide (pre.length<((pre++x::l).map aX.c).length)=true:=by simp
  rw[fU,hlt,aF,hx,aA,a8O x.shape [] fs (hw x (by simp)) PB.nil hf,aA,aF,setAt];have:=ih (pre++[⟨x.shape,qt x.shape [] fs⟩]) (fun z hz=>hw z (by simp[hz]));rw[ax,dO,cy]at this;rw[show pre++(⟨x.shape,qt x.shape [] fs⟩:aX)::l=pre++([⟨x.shape,qt x.shape [] fs⟩]++l)from rfl,this];simp[gA]
theorem a5V(n:aG)(fs y:aI)(q:bK)(k:Option (aG×Unit))(hf:FS fs)(h24:fs.length<=24)(ns:bI)(hp:CB ns):∀(l pre:bI),(pre++l).map qv=ns.map qv->
 eX n fs y q k l pre.length (pre++l)=some (⟨n.rules,n.ends,q,pre++ou ns fs l pre.length,y,n.br⟩,()):=by
 intro l
 induction l with
 |nil=>intro pre _;rfl
 |cons x l ih=>
  intro pre he;have hx:(pre++x::l)[pre.length]?=some x:=by simp
  have hlt:decide (pre.length<((pre++x::l).map Node.c).length)=true:=by simp
  have hlen:(pre++x::l).length=ns.length:=by have:=congrArg List.length he;simpa using this
  have hok:NOk ⟨n.rules,n.ends,q,pre++x::l,y,n.br⟩:=by
   refine⟨by show(pre++x::l).length<=1048576;rw[hlen];exact hp.len,fun z hz=>?_⟩;have hm:qv z∈ns.map qv:=by rw[<-he];exact bt.2 ⟨z,hz,rfl⟩
   obtain⟨w,hw,e⟩:=bt.1 hm;have:w.cond=z.cond:=(kI e).2;rw[<-this];exact hp.wt w hw
  have Z9:eF (pre++x::l) ((pre.length:Nat):Int)=eF ns (dB pre.length):=ve he _;have Sg:∀c∈eF ns (dB pre.length),c.wt<=1048576:=by
   intro c hc;obtain⟨z,hz,e⟩:=LO hc;rw[<-e];exact hp.wt z hz
  rw[eX,a63 _ _ hok,aA,Z9,a8c _ fs Sg (hp.path _) hf h24,aA,hlt,aF,hx,aA,setAt];have:=ih (pre++[⟨x.parent,x.cond,x.cM,qh (eF ns (dB pre.length)) fs⟩]) (by
   rw[<-he];simp[qv])
  rw[ax,dO,cy]at this;rw[show pre++(⟨x.parent,x.cond,x.cM,qh (eF ns (dB pre.length)) fs⟩:Node)::l=pre++([⟨x.parent,x.cond,x.cM,qh (eF ns (dB pre.length)) fs⟩]++l)from rfl,this,ou];simp
theorem a4C(n:aG)(fs:aI)(hf:FS fs)(h24:fs.length<=24)(ha:n.az.length<=1048576)(hs:∀x∈n.az,x.shape.wt<=1048576)(hp:CB n.nodes):jX n fs=some (⟨n.rules,n.ends,gA n.az fs,fA n.nodes fs,fs,n.br⟩,()):=by
 unfold jX;have h1:=Yj n fs fs;have hl:=hp.len;rw[wv fs hf.1 (fun f Yv=>by have:=aC.dM (hf.2 f Yv);omega),aA,tY (by omega),aF];have e1:=Yj n fs fs (fun(dl:bK)=>(bif decide (n.nodes.length<=maxLen)then(eX n fs fs dl none n.nodes 0 n.nodes)else none)) hf n.az [] hs;refine e1.trans ?_;rw[dZ,tY (by omega),aF];exact a5V n fs fs _ none hf h24 n.nodes hp n.nodes [] rfl
theorem Tg(ns:bI):∀(k k' v:Nat),1<=v->v<=k->v<=k'->Ph ns k v=Ph ns k' v
 |0,_,v,h1,h2,_=>by omega
 |k+1,0,v,h1,_,h3=>by omega
 |k+1,k'+1,v,h1,h2,h3=>by
  unfold Ph;cases hx:ns[v]? with
  |none=>rfl
  |some x=>
   dsimp only;by_cases hp:1<=x.parent/\x.parent<(v:Int)
   ·rw[bL hp,bL hp,Tg ns k k' x.parent.toNat (by omega) (by omega) (by omega)]
   ·rw[b9 hp,b9 hp]
theorem uF(ns:bI):eF ns (dB 0)=[]:=by unfold eF dB;rw[b9 (by omega)]
theorem xP{ns:bI}{i:Nat}{x:Node}(hx:ns[i]?=some x)(h1:1<=i){p:Nat}(hp:x.parent=dB p)(hpi:p<i):eF ns (dB i)=eF ns (dB p)++[x.cond]:=by
 have hl:=(aJ.1 hx).1;unfold dB at hp;have e1:eF ns (dB i)=Io ns i i:=by unfold eF dB;rw[bL (by omega)];rfl
 obtain⟨k,rfl⟩:∃k,i=k+1:=⟨i-1,by omega⟩
 rw[e1,Oy hx];by_cases h0:1<=p
 ·rw[bL (by omega)];have e2:eF ns (dB p)=Io ns p p:=by unfold eF dB;rw[bL (by omega)];rfl
  rw[e2,hp,kH];unfold Io;rw[Tg ns k p p h0 (by omega) (bU _)]
 ·rw[b9 (by omega),show p=0 by omega,uF]
def Tq(ns:bI):Prop:=∀(i:Nat) x,1<=i->ns[i]?=some x->∃p:Nat,x.parent=dB p/\p<i
theorem MU{ns:bI}(hb:Tq ns)(m:bI):∀(n i:Nat),i<=n->i<ns.length->eF (ns++m) (dB i)=eF ns (dB i):=by
 intro n
 induction n with
 |zero=>
  intro i h1 _;rw[show i=0 by omega,uF,uF]
 |succ n ih=>
  intro i h1 h2;by_cases h0:i=0
  ·rw[h0,uF,uF]
  ·have hx:ns[i]?=some ns[i]:=af h2;have hx':(ns++m)[i]?=some ns[i]:=by rw[bA h2];exact hx
   obtain⟨p,hp,hpi⟩:=hb i _ (by omega) hx;rw[xP hx (by omega) hp hpi,xP hx' (by omega) hp hpi,ih p (by omega) (by omega)]
structure Eb(R:List aP->Prop)(ns:List Node):Prop where
 pos:1<=ns.length
 below:Tq ns
 path:∀i:Nat,1<=i->i<ns.length->R (eF ns (dB i))
theorem SP{p:Int}{c:aP}:∀ {l:bI} {i j:Nat},PU p c l i=some j->∃x,l[j-i]?=some x/\i<=j/\0<j/\x.parent=p/\x.cond=c
 |x::l,i,j,h=>by
  unfold PU at h;split at h
  ·rename_i hc;cases h;exact⟨x,by simp,bU _,hc.1,hc.2.1,hc.2.2⟩
  ·obtain⟨y,h1,h2,h3,h4,h5⟩:=SP h;refine⟨y,?_,by omega,h3,h4,h5⟩;rw[show j-i=(j-(i+1))+1 by omega];exact h1
theorem Eb.step{R:ar->Prop}{al:bK}{ns:bI}(h:Eb R ns){a:Nat}(ha:a<ns.length){c:aP}(hR:R (eF ns (dB a)++[c])):
 Eb R (Lm al ns (dB a) c).1.2/\∃b:Nat,(Lm al ns (dB a) c).2=dB b/\b<(Lm al ns (dB a) c).1.2.length/\eF (Lm al ns (dB a) c).1.2 (dB b)=eF ns (dB a)++[c]:=by
 unfold Lm;cases hc:PU (dB a) c ns 0 with
 |some j=>
  obtain⟨x,h1,h2,h3,h4,h5⟩:=SP hc;rw[xq]at h1;have hj:=(aJ.1 h1).1;obtain⟨p,hp,hpj⟩:=h.below j x (by omega) h1;have:p=a:=by rw[hp]at h4;unfold dB at h4;omega
  subst this;exact⟨h,j,rfl,hj,by rw[xP h1 (by omega) hp hpj,h5]⟩
 |none=>
  dsimp only;have hbel:Tq (ns++[⟨dB a,c,(Ps al c).2,[]⟩]):=by
   intro i x h1 hx;by_cases hi:i<ns.length
   ·rw[bA hi]at hx;exact h.below i x h1 hx
   ·rw[bE (by omega)]at hx;have hi2:i=ns.length:=by
     have:=(aJ.1 hx).1;simp at this;omega
    rw[hi2,rJ]at hx;cases hx;exact⟨a,rfl,by omega⟩
  have hnew:eF (ns++[⟨dB a,c,(Ps al c).2,[]⟩]) (dB ns.length)=eF ns (dB a)++[c]:=by
   have hx:(ns++[(⟨dB a,c,(Ps al c).2,[]⟩:Node)])[ns.length]?=some ⟨dB a,c,(Ps al c).2,[]⟩:=by simp
   have h1:=h.pos;rw[xP hx (by omega) (p:=a) rfl ha,MU h.below _ a a (bU _) ha]
  refine⟨⟨by simp,hbel,fun i h1 h2=>?_⟩,ns.length,rfl,by simp,hnew⟩;by_cases hi:i<ns.length
  ·rw[MU h.below _ i i (bU _) hi];exact h.path i h1 hi
  ·have:i=ns.length:=by simp at h2;omega
   rw[this,hnew];exact hR
theorem Eb.rule{R:ar->Prop}:∀(cs:ar) {al:bK} {ns:bI} {a:Nat},Eb R ns->a<ns.length->(∀j:Nat,1<=j->j<=cs.length->R (eF ns (dB a)++cs.take j))->
 Eb R (cs.foldl HQ ((al,ns),dB a)).1.2/\∃b:Nat,(cs.foldl HQ ((al,ns),dB a)).2=dB b/\b<(cs.foldl HQ ((al,ns),dB a)).1.2.length/\eF (cs.foldl HQ ((al,ns),dB a)).1.2 (dB b)=eF ns (dB a)++cs
 | [],al,ns,a,h,ha,_=>⟨h,a,rfl,ha,by simp⟩
 |c::cs,al,ns,a,h,ha,hR=>by
  obtain⟨h1,b,h2,h3,h4⟩:=h.step (al:=al) ha (c:=c) (by have:=hR 1 (bU _) (by simp);simpa using this);have e:HQ ((al,ns),dB a) c=(((Lm al ns (dB a) c).1.1,(Lm al ns (dB a) c).1.2),dB b):=by
   show Lm al ns (dB a) c=_;rw[<-h2]
  rw[cu,e];obtain⟨k1,d,k2,k3,k4⟩:=Eb.rule cs (al:=(Lm al ns (dB a) c).1.1) h1 h3 (fun j Mv hj2=>by
   rw[h4,cy];have:=hR (j+1) (by omega) (by simp;omega);simpa using this)
  exact⟨k1,d,k2,k3,by rw[k4,h4];simp⟩
theorem a2B(al:bK)(ns:bI)(p:Int)(c:aP):∃m,(Lm al ns p c).1.2=ns++m:=by
 unfold Lm;cases PU p c ns 0 with
 |some i=>exact⟨[],by simp⟩
 |none=>exact⟨[⟨p,c,(Ps al c).2,[]⟩],rfl⟩
theorem WO:∀(cs:ar) (s:(bK×bI)×Int),∃m,(cs.foldl HQ s).1.2=s.1.2++m
 | [],s=>⟨[],by simp⟩
 |c::cs,s=>by
  obtain⟨m,h⟩:=a2B s.1.1 s.1.2 s.2 c;obtain⟨m2,h2⟩:=WO cs (HQ s c);refine⟨m++m2,?_⟩;rw[cu,h2];show(Lm s.1.1 s.1.2 s.2 c).1.2++m2=_;rw[h,cy]
def VG(rs:aq)(p:ar):Prop:=∃r∈rs,∃j:Nat,1<=j/\j<=(fW r).length/\p=(fW r).take j
theorem TZ(all:aq):∀(l:aq) (al:bK) (ns:bI) (es:bH),(∀r∈l,r∈all)->Eb (VG all) ns->
 Eb (VG all) (l.foldl Is ((al,ns),es)).1.2/\(∃m,(l.foldl Is ((al,ns),es)).1.2=ns++m)/\∃fs,(l.foldl Is ((al,ns),es)).2=es++fs/\fs.length=l.length/\
  ∀(i:Nat) r,l[i]?=some r->∃b:Nat,fs[i]?=some (dB b)/\b<(l.foldl Is ((al,ns),es)).1.2.length/\eF (l.foldl Is ((al,ns),es)).1.2 (dB b)=fW r
 | [],al,ns,es,_,h=>⟨h,⟨[],by simp⟩,[],by simp,rfl,fun i r hr=>by simp at hr⟩
 |r::l,al,ns,es,hm,h=>by
  obtain⟨h1,b,h2,h3,h4⟩:=Eb.rule (fW r) (al:=al) h (a:=0) (by have:=h.pos;omega) (fun j Mv hj2=>by
   rw[uF,dZ];exact⟨r,hm r (by simp),j,Mv,hj2,rfl⟩)
  obtain⟨m1,hm1⟩:=WO (fW r) ((al,ns),dB 0);obtain⟨k1,⟨m2,hm2⟩,fs,k2,k3,k4⟩:=TZ all l ((fW r).foldl HQ ((al,ns),dB 0)).1.1 ((fW r).foldl HQ ((al,ns),dB 0)).1.2 (es++[dB b]) (fun x hx=>hm x (by simp[hx])) h1;have e:Is ((al,ns),es) r=((((fW r).foldl HQ ((al,ns),dB 0)).1.1,((fW r).foldl HQ ((al,ns),dB 0)).1.2),es++[dB b]):=by
   rw[<-h2];rfl
  rw[cu,e];refine⟨k1,⟨m1++m2,by rw[hm2,hm1,cy]⟩,dB b::fs,by rw[k2];simp,by simp[k3],?_⟩;intro i x hx;cases i with
  |zero=>
   have:r=x:=by simpa using hx
   subst this;refine⟨b,rfl,by rw[hm2];simp;omega,?_⟩;rw[hm2,MU h1.below _ b b (bU _) h3,h4,uF];rfl
  |succ i=>exact k4 i x (by simpa using hx)
theorem XZ(R:ar->Prop)(tk:ai):Eb R [root tk]:=
 ⟨bU _,fun i x h1 hx=>by
  have:=(aJ.1 hx).1;simp at this;omega,fun i h1 h2=>by simp at h2;omega⟩
theorem uo(tk:ai)(rs:aq):Eb (VG rs) (cN tk rs).1.2/\(cN tk rs).2.length=rs.length/\∀(i:Nat) r,rs[i]?=some r->∃b:Nat,(cN tk rs).2[i]?=some (dB b)/\b<(cN tk rs).1.2.length/\eF (cN tk rs).1.2 (dB b)=fW r:=by
 obtain⟨h1,_,fs,h2,h3,h4⟩:=TZ rs rs [] [root tk] [] (fun r hr=>hr) (XZ _ tk);rw[dZ]at h2;refine⟨h1,?_,?_⟩
 ·show(rs.foldl Is (([],[root tk]),[])).2.length=_;rw[h2,h3]
 ·intro i r hr;obtain⟨b,k1,k2,k3⟩:=h4 i r hr;refine⟨b,?_,k2,k3⟩;show(rs.foldl Is (([],[root tk]),[])).2[i]?=_;rw[h2];exact k1
theorem TL{r:aK}(h:fX r=true):∃c cs,fW r=c::cs/\c.kind=1:=by
 have hb:=Rb h;cases hc:r.conds with
 |nil=>
  unfold fX at h;rw[hc]at h;simp at h
 |cons c cs=>
  refine⟨P3 (iJ r) c,cs.map (P3 (iJ r)),by unfold fW;rw[hc];rfl,?_⟩;exact(O9 (pre:=[]) (i:=0) (c:=c) (rest:=cs) (by rw[dZ,<-hc];exact hb)).2.1 rfl
theorem QJ{rs:aq}(h:∀r∈rs,fX r=true){p:ar}(hp:VG rs p):p.length<=4/\∃c cs,p=c::cs/\c.kind=1:=by
 obtain⟨r,hr,j,h1,h2,rfl⟩:=hp;have:=zA (h r hr);refine⟨by rw[cE];omega,?_⟩;obtain⟨c,cs,e,hk⟩:=TL (h r hr);obtain⟨j,rfl⟩:∃k,j=k+1:=⟨j-1,by omega⟩
 exact⟨c,cs.take j,by rw[e];rfl,hk⟩
theorem Xl{c:aP}{cs:ar}(hk:c.kind=1):qh (c::cs) []=[]:=by
 have h0:∀(l:ar),l.foldl (sS []) []=[]:=by
  intro l
  induction l with
  |nil=>rfl
  |cons x l ih=>rw[cu];exact ih
 unfold qh;rw[cu];have:sS [] [⟨[],[]⟩] c=[]:=by
  unfold sS Cg;rw[av hk];rfl
 rw[this,h0]
theorem N8{r:aK}(h:fX r=true):∀c∈fW r,c.pat.rel.length<=8/\c.pat.args.length<=3/\∀x∈c.pat.args,x.length<=16:=by
 intro c' Yr;obtain⟨c,hc,rfl⟩:=bt.1 Yr;obtain⟨h1,h2,h3,h4,h5⟩:=O8 (CM h c hc);have hV:∀x∈c.pat.args++[c.left,c.right],fQ x=true->x∈A8 r.conds:=fun x hx hv=>Bo.2 ⟨cA.2 ⟨c,hc,hx⟩,hv⟩
 refine⟨h1,by show(c.pat.args.map _).length<=3;rw[ah];exact h2,fun x hx=>?_⟩;obtain⟨y,hy,rfl⟩:=bt.1 hx;exact LR h (h3 y hy) (hV y (by simp[hy]))
theorem a0q{p:aC}(h1:p.rel.length<=8)(h2:p.args.length<=3)(h3:∀x∈p.args,x.length<=16):(vE p).wt<=1048576:=by
 have a3:=Nt (p.args.map (Co (p.args.foldl jm []))) (fun x hx=>by
  obtain⟨y,hy,rfl⟩:=bt.1 hx;exact a6R (by omega) (h3 y hy))
 rw[ah]at a3;show aC.wt ⟨p.rel,p.args.map (Co (p.args.foldl jm []))⟩<=1048576;unfold aC.wt;dsimp only;unfold tw at*;omega
def xu(al:bK):Prop:=∀x∈al,x.shape.wt<=1048576/\x.facts=[]
theorem Tx{al:bK}{ns:bI}{p:Int}{c:aP}(h:xu al)(hc:(vE c.pat).wt<=1048576):xu (Lm al ns p c).1.1:=by
 unfold Lm;cases PU p c ns 0 with
 |some i=>exact h
 |none=>
  show xu (Ps al c).1;unfold Ps;by_cases hk:c.kind=1\/c.kind=2
  ·rw[bL hk];unfold VJ;cases Wj (vE c.pat) al 0 with
   |some i=>exact h
   |none=>
    intro x hx;rcases aZ.1 hx with hx|hx
    ·exact h x hx
    ·rw[cG.1 hx];exact⟨hc,rfl⟩
  ·rw[b9 hk];exact h
theorem P9:∀(cs:ar) (s:(bK×bI)×Int),xu s.1.1->(∀c∈cs,(vE c.pat).wt<=1048576)->xu (cs.foldl HQ s).1.1
 | [],_,h,_=>h
 |c::cs,s,h,hc=>P9 cs (HQ s c) (Tx h (hc c (by simp))) (fun x hx=>hc x (by simp[hx]))
theorem xe(tk:ai){rs:aq}(h:∀r∈rs,fX r=true):xu (cN tk rs).1.1:=by
 have main:∀(l:aq) (z:(bK×bI)×bH),(∀r∈l,fX r=true)->xu z.1.1->xu (l.foldl Is z).1.1:=by
  intro l
  induction l with
  |nil=>intro z _ hz;exact hz
  |cons r l ih=>
   intro z hl hz;refine ih (Is z r) (fun x hx=>hl x (by simp[hx])) ?_;exact P9 (fW r) (z.1,0) hz (fun c hc=>by
    obtain⟨p1,p2,p3⟩:=N8 (hl r (by simp)) c hc;exact a0q p1 p2 p3)
 exact main rs _ h (fun x hx=>by cases hx)
theorem LX(tk:ai){rs:aq}(h:∀r∈rs,fX r=true)(h6:rs.length<=6):CB (cN tk rs).1.2:=by
 have hp:=(uo tk rs).1;have hl:=Bu tk h h6;refine⟨by omega,?_,?_⟩
 ·intro x hx;obtain⟨i,hi⟩:=iz hx;have Vi:=(aJ.1 hi).1;by_cases h0:i=0
  ·subst h0;rw[gy]at hi;cases hi;unfold root aP.wt;simp[qw,tw]
  ·obtain⟨p,hpp,hpi⟩:=hp.below i x (by omega) hi;obtain⟨r,hr,j,j1,j2,e⟩:=hp.path i (by omega) Vi;rw[xP hi (by omega) hpp hpi]at e;have hm:x.cond∈fW r:=bn (by rw[<-e];simp:x.cond∈(fW r).take j);exact H7 (h r hr) _ hm
 ·intro i;by_cases hi:1<=i/\i<(cN tk rs).1.2.length
  ·exact(QJ h (hp.path i hi.1 hi.2)).1
  ·unfold eF dB;rw[b9 (by omega)];simp
theorem a5v(rs:aq)(fs:aI)(t:Int)(hr:qw aK.wt rs<=1048576)(hb:rK rs=true)(hf:FS fs)(h24:fs.length<=24):yC rs fs t=some ⟨rs,(cN [] rs).2,gA (cN [] rs).1.1 fs,fA (cN [] rs).1.2 fs,fs,t⟩:=by
 have h6:rs.length<=6:=by unfold rK at hb;simp only[aR,bC]at hb;omega
 have hv:=og hb;have hsh:=xe [] hv;have hal:(cN [] rs).1.1.length<=1048576:=by
  have main:∀(l:aq) (z:(bK×bI)×bH),(∀r∈l,fX r=true)->(l.foldl Is z).1.1.length<=z.1.1.length+4*l.length:=by
   intro l
   induction l with
   |nil=>intro z _;exact bU _
   |cons r l ih=>
    intro z hl;have h1:=ih (Is z r) (fun x hx=>hl x (by simp[hx]));have h2:=(HR (fW r) (z.1,0)).1;have h3:=zA (hl r (by simp));have h4:(Is z r).1.1.length=((fW r).foldl HQ (z.1,0)).1.1.length:=rfl;rw[cu,aS];dsimp only at h2;omega
  have:=main rs (([],[root []]),[]) hv;unfold cN;simp only[bf]at this;omega
 unfold yC;rw[aBy rs hr hb,aA,a4C _ fs hf h24 hal (fun x hx=>(hsh x hx).1) (LX [] hv h6)];rfl
theorem Wt{al:bK}(h:xu al):gA al []=al:=by
 unfold gA;have:∀l:bK,(∀x∈l,x.facts=[])->l.map (fun a=>(⟨a.shape,qt a.shape [] []⟩:aX))=l:=by
  intro l
  induction l with
  |nil=>intro _;rfl
  |cons x l ih=>
   intro hl;rw[au,ih (fun y hy=>hl y (by simp[hy]))];have:=hl x (by simp);cases x;simp only at this;subst this;rfl
 exact this al fun x hx=>(h x hx).2
theorem a2C{al:bK}{ns:bI}{p:Int}{c:aP}(h:∀x∈ns,x.tokens=[]):∀x∈(chR al ns p c).1.2,x.tokens=[]:=by
 unfold chR;cases PU p c ns 1 with
 |some i=>exact h
 |none=>
  intro x hx;rcases aZ.1 hx with hx|hx
  ·exact h x hx
  ·rw[cG.1 hx]
theorem WH:∀(cs:ar) (s:(bK×bI)×Int),(∀x∈s.1.2,x.tokens=[])->∀x∈(cs.foldl rtC s).1.2,x.tokens=[]
 | [],_,h=>h
 |c::cs,s,h=>WH cs (rtC s c) (a2C h)
theorem a3F(rs:aq):∀x∈(rtB rs).1.2,x.tokens=[]:=by
 have main:∀(l:aq) (z:(bK×bI)×bH),(∀x∈z.1.2,x.tokens=[])->∀x∈(l.foldl rtR z).1.2,x.tokens=[]:=by
  intro l
  induction l with
  |nil=>intro z hz;exact hz
  |cons r l ih=>intro z hz;exact ih (rtR z r) (WH (fW r) (z.1,0) hz)
 exact main rs _ (fun x hx=>by cases hx)
theorem OJ(ns:bI):∀(l:bI) (i:Nat),(∀x∈l,x.tokens=[])->(∀j:Nat,i<=j->j<i+l.length->qh (eF ns (dB j)) []=[])->ou ns [] l i=l
 | [],_,_,_=>rfl
 |x::l,i,ht,hp=>by
  rw[ou,hp i (bU _) (by simp),OJ ns l (i+1) (fun y hy=>ht y (by simp[hy])) (fun j h1 h2=>hp j (by omega) (by simp only[aS];omega))];have:=ht x (by simp);cases x;simp only at this;subst this;rfl
theorem Wv{rs:aq}(h:∀r∈rs,fX r=true):fA (cN [] rs).1.2 []=(cN [⟨[],[]⟩] rs).1.2:=by
 have hp:=(uo [] rs).1;have e:(cN [] rs).1.2=root []::(rtB rs).1.2:=by rw[gy]
 have e2:(cN [⟨[],[]⟩] rs).1.2=root [⟨[],[]⟩]::(rtB rs).1.2:=by rw[gy]
 have hlen:(cN [] rs).1.2.length=(rtB rs).1.2.length+1:=by rw[e];rfl
 unfold fA;rw[e2];have h1:=OJ (cN [] rs).1.2 (rtB rs).1.2 1 (a3F rs) (fun j j1 j2=>by
  obtain⟨_,c,cs,ec,hk⟩:=QJ h (hp.path j j1 (by rw[hlen];omega));rw[ec];exact Xl hk)
 have h2:ou (cN [] rs).1.2 [] (cN [] rs).1.2 0=ou (cN [] rs).1.2 [] (root []::(rtB rs).1.2) 0:=by rw[<-e]
 rw[h2,ou,h1,uF];rfl
def ng(rs:aq)(fs:aI)(t:Int):aG:=⟨rs,(cN [] rs).2,gA (cN [] rs).1.1 fs,fA (cN [] rs).1.2 fs,fs,t⟩
def Im(n:aG):Bool:=rK n.rules&&(eb n.facts&&(decide (0<=n.br)&&FW n (ng n.rules n.facts 0)))
theorem FS.Ej{fs:aI}(h:qw aC.wt fs<=1048576):FS fs:=⟨by have:=qo aC.wt fs;omega,fun f hf=>by have:=oZ (w:=aC.wt) hf;omega⟩
theorem RD(n:aG)(hr:qw aK.wt n.rules<=1048576)(hf:qw aC.wt n.facts<=1048576):gT n=some (Im n):=by
 unfold gT Im;rw[aBu _ hr,ZJ _ hf,aA,aA];cases h1:rK n.rules with
 |false=>rfl
 |true=>
  cases h2:eb n.facts with
  |false=>rfl
  |true=>
   rw[a5v _ _ _ hr h1 (FS.Ej hf) (lQ h2),aA,a61,aA];simp only[aF,eM];by_cases h3:0<=n.br
   ·rw[av h3];rfl
   ·rw[bB h3];rfl
def wS(x:Node):Int×Int×aP:=(x.parent,x.cM,x.cond)
theorem a03{a b:bI}(h:a.map wS=b.map wS):a.map qv=b.map qv:=by
 have:=congrArg (List.map fun t:Int×Int×aP=>(t.1,t.2.2)) h;rw[rI,rI]at this;exact this
def Xm(ns:bI)(fs:aI):bI->Nat->Bool
 | [],_=>true
 |x::xs,i=>decide (x.tokens=qh (eF ns (dB i)) fs)&&Xm ns fs xs (i+1)
theorem Q6(fs:aI):∀(a b:bK),a.map aX.shape=b.map aX.shape->((a.all fun x=>decide (x.facts=qt x.shape [] fs))=true↔a=gA b fs)
 | [],[],_=>⟨fun _=>rfl,fun _=>rfl⟩
 | [],_::_,h=>by simp at h
 |_::_,[],h=>by simp at h
 |x::a,y::b,h=>by
  rw[au,au]at h;obtain⟨h1,h2⟩:=mQ h;have ih:=Q6 fs a b h2;rw[dP,aR,bC,ih];show _↔x::a=⟨y.shape,qt y.shape [] fs⟩::gA b fs;constructor
  ·rintro⟨q1,q2⟩;rw[<-h1,<-q1,<-q2]
  ·intro q;obtain⟨q1,q2⟩:=mQ q;exact⟨by rw[q1],q2⟩
theorem Q7(ns:bI)(fs:aI):∀(a b:bI) (i:Nat),a.map wS=b.map wS->(Xm ns fs a i=true↔a=ou ns fs b i)
 | [],[],_,_=>⟨fun _=>rfl,fun _=>rfl⟩
 | [],_::_,_,h=>by simp at h
 |_::_,[],_,h=>by simp at h
 |x::a,y::b,i,h=>by
  rw[au,au]at h;obtain⟨h1,h2⟩:=mQ h;have ih:=Q7 ns fs a b (i+1) h2;have e1:x.parent=y.parent:=(kI h1).1;have e2:x.cM=y.cM:=(kI (kI h1).2).1;have e3:x.cond=y.cond:=(kI (kI h1).2).2;unfold Xm ou;rw[aR,bC,ih];constructor
  ·rintro⟨q1,q2⟩;rw[<-e1,<-e2,<-e3,<-q1,<-q2]
  ·intro q;obtain⟨q1,q2⟩:=mQ q;exact⟨by rw[q1],q2⟩
theorem a4v(n:aG)(k:Option Bool)(hf:FS n.facts):∀(l:bK) (i:Nat),(∀x∈l,x.shape.wt<=1048576)->k9 n k l i=bif l.all (fun x=>decide (x.facts=qt x.shape [] n.facts))then k else some false
 | [],_,_=>rfl
 |x::l,i,h=>by
  rw[k9,a3M x.shape [] n.facts (h x (by simp)) PB.nil hf,aA,Nq,aA,a4v n k hf l _ (fun y hy=>h y (by simp[hy])),dP];cases decide (x.facts=qt x.shape [] n.facts)<;>rfl
theorem a4w(n:aG)(k:Option Bool)(hf:FS n.facts)(h24:n.facts.length<=24)(hp:CB n.nodes):∀(l:bI) (i:Nat),kA n k l i=bif Xm n.nodes n.facts l i then k else some false
 | [],_=>rfl
 |x::l,i=>by
  have Sg:∀c∈eF n.nodes ((i:Nat):Int),c.wt<=1048576:=by
   intro c hc;obtain⟨z,hz,e⟩:=LO hc;rw[<-e];exact hp.wt z hz
  rw[kA,a0d n _ ⟨hp.len,hp.wt⟩,aA,a0p _ n.facts Sg (hp.path i) hf h24,aA,a3X,aA,a4w n k hf h24 hp l,Xm];show(bif !decide (x.tokens=qh (eF n.nodes (dB i)) n.facts)then some false else _)=_;cases decide (x.tokens=qh (eF n.nodes (dB i)) n.facts)<;>rfl
theorem a6c(n:aG)(hr:qw aK.wt n.rules<=1048576)(hf:qw aC.wt n.facts<=1048576):tK n=some (Im n):=by
 unfold tK Im;rw[a0U _ hr,WI _ hf,aA,aA];cases h1:rK n.rules with
 |false=>rfl
 |true=>
  cases h2:eb n.facts with
  |false=>rfl
  |true=>
   have h6:n.rules.length<=6:=by unfold rK at h1;simp only[aR,bC]at h1;omega
   have hv:=og h1;simp only[aF,bN,aM,eM];rw[a9G,aA];have hroot:(cN [⟨[],[]⟩] n.rules).1.2.map wS=(cN [] n.rules).1.2.map wS:=by rw[gy,gy];rfl
   have hA:(cN [⟨[],[]⟩] n.rules).1.1=(cN [] n.rules).1.1:=by rw[gy,gy]
   have hE:(cN [⟨[],[]⟩] n.rules).2=(cN [] n.rules).2:=by rw[gy,gy]
   have hmem:FW n (ng n.rules n.facts 0)=(decide (n.ends=(cN [] n.rules).2)&&(decide (n.az=gA (cN [] n.rules).1.1 n.facts)&&decide (n.nodes=fA (cN [] n.rules).1.2 n.facts))):=by
    unfold FW ng;simp
   by_cases hform:OM n ⟨n.rules,(cN [⟨[],[]⟩] n.rules).2,(cN [⟨[],[]⟩] n.rules).1.1,(cN [⟨[],[]⟩] n.rules).1.2,[],0⟩=true
   ·rw[hform];unfold OM at hform;simp only[aR,bC]at hform;obtain⟨f1,f2,f3⟩:=hform;have f2':n.nodes.map wS=(cN [] n.rules).1.2.map wS:=by rw[<-hroot];exact f2
    have f1':n.az.map aX.shape=(cN [] n.rules).1.1.map aX.shape:=by rw[<-hA];exact f1
    have f3':n.ends=(cN [] n.rules).2:=by rw[<-hE];exact f3
    have a5k:=LX [] hv h6;have hfn:=a03 f2';have hok:CB n.nodes:=by
     refine⟨by have:=congrArg List.length f2';rw[ah,ah]at this;rw[this];exact a5k.len,fun x hx=>?_,fun i=>by rw[ve hfn];exact a5k.path i⟩;have hm:qv x∈(cN [] n.rules).1.2.map qv:=by rw[<-hfn];exact bt.2 ⟨x,hx,rfl⟩
     obtain⟨w,hw,e⟩:=bt.1 hm;have:w.cond=x.cond:=(kI e).2;rw[<-this];exact a5k.wt w hw
    have hsh:∀x∈n.az,x.shape.wt<=1048576:=by
     intro x hx;have hm:x.shape∈(cN [] n.rules).1.1.map aX.shape:=by rw[<-f1'];exact bt.2 ⟨x,hx,rfl⟩
     obtain⟨w,hw,e⟩:=bt.1 hm;rw[<-e];exact(xe [] hv w hw).1
    have g1:=Q6 n.facts n.az _ f1';have g2:=Q7 n.nodes n.facts n.nodes _ 0 f2';have g3:ou n.nodes n.facts (cN [] n.rules).1.2 0=fA (cN [] n.rules).1.2 n.facts:=by
     unfold fA;have:∀(l:bI) (i:Nat),ou n.nodes n.facts l i=ou (cN [] n.rules).1.2 n.facts l i:=by
      intro l
      induction l with
      |nil=>intro i;rfl
      |cons x l ih=>intro i;rw[ou,ou,ih,ve hfn]
     exact this _ _
    rw[g3]at g2;rw[hmem,av f3',eM,a4v n _ (FS.Ej hf) _ _ hsh,a4w n _ (FS.Ej hf) (lQ h2) hok];have k1:(n.az.all fun x=>decide (x.facts=qt x.shape [] n.facts))=decide (n.az=gA (cN [] n.rules).1.1 n.facts):=by rw[bw,g1,bC]
    have k2:Xm n.nodes n.facts n.nodes 0=decide (n.nodes=fA (cN [] n.rules).1.2 n.facts):=by rw[bw,g2,bC]
    rw[k1,k2];by_cases h3:0<=n.br
    ·rw[av h3,bB (by omega)];cases decide (n.az=gA (cN [] n.rules).1.1 n.facts)<;>cases decide (n.nodes=fA (cN [] n.rules).1.2 n.facts)<;>rfl
    ·rw[bB h3,av (by omega)];rfl
   ·have hfalse:OM n ⟨n.rules,(cN [⟨[],[]⟩] n.rules).2,(cN [⟨[],[]⟩] n.rules).1.1,(cN [⟨[],[]⟩] n.rules).1.2,[],0⟩=false:=by
     cases hq:OM n ⟨n.rules,(cN [⟨[],[]⟩] n.rules).2,(cN [⟨[],[]⟩] n.rules).1.1,(cN [⟨[],[]⟩] n.rules).1.2,[],0⟩with
     |true=>exact absurd hq hform
     |false=>rfl
    rw[hfalse];have hm:FW n (ng n.rules n.facts 0)=false:=by
     cases hq:FW n (ng n.rules n.facts 0)with
     |false=>rfl
     |true=>
      exfalso;rw[hmem]at hq;simp only[aR,bC]at hq;obtain⟨q1,q2,q3⟩:=hq;apply hform;unfold OM;simp only[aR,bC];have r1:n.az.map aX.shape=(cN [⟨[],[]⟩] n.rules).1.1.map aX.shape:=by rw[hA,q2];unfold gA;rw[rI];rfl
      have r2:n.nodes.map wS=(cN [⟨[],[]⟩] n.rules).1.2.map wS:=by
       rw[hroot,q3];have:∀(ns l:bI) (i:Nat),(ou ns n.facts l i).map wS=l.map wS:=by
        intro ns l
        induction l with
        |nil=>intro i;rfl
        |cons x l ih=>intro i;rw[ou,au,ih];rfl
       exact this _ _ _
      exact⟨r1,r2,by rw[hE];exact q1⟩
    rw[hm,sZ];rfl
theorem Rp{fs:aI}(hf:FS fs):∀(cs:ar) (l:ai) (n:Nat),(∀c∈cs,c.wt<=1048576)->(∀t∈l,TK n t)->∀t∈cs.foldl (sS fs) l,TK (n+cs.length) t
 | [],l,n,_,hl=>hl
 |c::cs,l,n,hc,hl=>by
  have:=Rp hf cs (sS fs l c) (n+1) (fun x hx=>hc x (by simp[hx])) (RR hl (hc c (by simp)) hf);rw[aS,show n+(cs.length+1)=n+1+cs.length from by omega];exact this
def Wk(rs:aq)(fs:aI):cR:=bif rK rs then rs.flatMap fun r=>mtB r fs else []
theorem YR{l:aq}(h:rK l=true):l.length<=6:=by
 unfold rK at h;simp only[aR,bC]at h;omega
theorem a4k(rs:aq)(fs:aI)(hr:qw aK.wt rs<=1048576)(hf:qw aC.wt fs<=1048576):mq rs fs=some (Wk rs fs):=by
 unfold mq Wk;cases h:rK rs with
 |false=>
  cases rs with
  |nil=>rfl
  |cons r rs=>rw[fp,a6V _ hr,h,aA];rfl
 |true=>
  have h6:=YR h;have key:∀(l:aq) (i:Nat) (w:cR),(∀r∈l,r.wt<=1048576)->w.length+l.length*390625<=1099511627776->fp rs fs (fun q=>some q) l i w=some (w++l.flatMap fun r=>mtB r fs):=by
   intro l
   induction l with
   |nil=>intro i w _ _;rw[fp];simp
   |cons r l ih=>
    intro i w hl hw;rw[aS,Ds]at hw;have h2:(mtB r fs).length<=390625:=by unfold mtB;rw[ah];exact WQ _ _ _
    rw[fp,a6V _ hr,h,aA,aF,aCG r fs (hl r (by simp)) hf,aA,WG (by omega) (by decide),aF,ih _ _ (fun x hx=>hl x (by simp[hx])) (by rw[ax];omega)];simp
  rw[key rs 0 [] (fun r hrm=>by have:=oZ (w:=aK.wt) hrm;omega) (by simp;omega)];rfl
theorem Ws{b:aT}{x y:Bytes}(h:(wu b x y).2=true):gq (wu b x y).1=true:=by
 unfold wu at h⊢;cases hc:gq b&&(fQ x&&fH y)with
 |false=>rw[hc]at h;cases h
 |true=>
  rw[hc,aF]at h;rw[aF];simp only[aR]at hc;cases hf:dA x b with
  |some o=>
   rw[hf]at h;dsimp only at h⊢;cases ho:o==y with
   |false=>rw[ho]at h;cases h
   |true=>exact hc.1
  |none=>
   rw[hf]at h;dsimp only at h⊢;cases hd:decide (b.length=6)with
   |true=>rw[hd]at h;cases h
   |false=>exact Cw hc.2.1 hc.2.2 hc.1 hf (of_decide_eq_false hd)
theorem MP:∀(l r:aH) (b:aT),gq b=true->(sV l r b).2=true->gq (sV l r b).1=true
 | [],_,b,hb,_=>hb
 |_::_,[],_,_,h=>by cases h
 |x::xs,y::ys,b,hb,h=>by
  simp only[sV]at h⊢;cases hx:fH x with
  |true=>
   rw[hx,aF]at h;rw[aF];cases hxy:x==y with
   |false=>rw[hxy]at h;cases h
   |true=>rw[hxy,aF]at h;rw[aF];exact MP xs ys b hb h
  |false=>
   rw[hx,aM]at h;rw[aM];cases he:(wu b x y).2 with
   |false=>rw[he]at h;cases h
   |true=>rw[he,aF]at h;rw[aF];exact MP xs ys _ (Ws he) h
theorem XF{p f:aC}{b:aT}(hb:gq b=true)(h:(ko p f b).2=true):gq (ko p f b).1=true:=by
 unfold ko at h⊢;cases hc:vM p&&(oT f&&(gq b&&(p.rel==f.rel&&decide (p.args.length=f.args.length))))with
 |false=>rw[hc]at h;cases h
 |true=>rw[hc,aF]at h;rw[aF];exact MP _ _ _ hb h
theorem XQ{c:aP}{fs:aI}{t u:aO}(hb:gq t.bind=true)(hu:u∈Cg c fs t):gq u.bind=true:=by
 unfold Cg at hu;cases hk:decide (c.kind=1)with
 |true=>
  rw[hk,aF]at hu;obtain⟨f,hf,hu⟩:=cA.1 hu;unfold ext1 at hu;cases hm:(ko c.pat f t.bind).2 with
  |false=>rw[hm]at hu;cases hu
  |true=>
   rw[hm,aF]at hu;rw[cG.1 hu];exact XF hb hm
 |false=>
  rw[hk,aM]at hu;cases hh:C6 c t.bind fs with
  |false=>rw[hh]at hu;cases hu
  |true=>rw[hh,aF]at hu;rw[cG.1 hu];exact hb
theorem Tf(fs:aI):∀(cs:ar) (A:ai),(∀t∈A,gq t.bind=true)->∀u∈cs.foldl (sS fs) A,gq u.bind=true
 | [],_,h=>h
 |c::cs,A,h=>Tf fs cs (sS fs A c) (fun u hu=>by
  obtain⟨t,ht,hu⟩:=cA.1 hu;exact XQ (h t ht) hu)
theorem Xk{cs:ar}{fs:aI}:∀u∈qh cs fs,gq u.bind=true:=Tf fs cs [⟨[],[]⟩] (fun t ht=>by rw[cG.1 ht];rfl)
def bkS(b:aT)(w:aT)(x:aV):aT:=bif (qi b x.value).2 then wU x.var (qi b x.value).1 w else w
def bkB(b to:aT):aT:=to.foldl (bkS b) []
theorem YU{b:aT}(h:gq b=true):PB b:=by
 have h6:=HH h;refine⟨by omega,fun p hp=>?_⟩;obtain⟨h1,h2⟩:=Az (tW h) p hp;have:=La h1;have:=Ay h2;omega
theorem ZK(a:aG)(w2:cR)(i2:Nat)(t:aO)(i1:Nat)(r:aK)(y:aT)(nd:Node)(fs:aI)(k:aT->Option cR)(hb:gq t.bind=true):∀(l:aT) (i:Nat) (w:aT),(∀x∈l,fQ x.var=true/\fQ x.value=true/\dA x.var w=none)->(l.map aV.var).Nodup->gq w=true->w.length+l.length<=6->gL a w2 i2 t i1 r y nd fs k l i w=k (l.foldl (bkS t.bind) w)
 | [],_,_,_,_,_,_=>rfl
 |x::l,i,w,h,hn,hw,hl=>by
  simp only[aS]at hl;rw[au,fZ]at hn;obtain⟨h1,h2,h3⟩:=h x (by simp);have ih:=ZK a w2 i2 t i1 r y nd fs k hb l (i+1);have hx:=La h1;have hv:=La h2;rw[gL,a2m t.bind x.value (by omega),aA,cu];unfold bkS;cases hval:(qi t.bind x.value).2 with
  |false=>rw[aM,aM];exact ih w (fun z hz=>h z (by simp[hz])) hn.2 hw (by omega)
  |true=>
   have Mt:fH (qi t.bind x.value).1=true:=by
    unfold qi at hval⊢;rw[nC h2,h2,aM,aF]at hval⊢;cases hf:dA x.value t.bind with
    |none=>rw[hf]at hval;cases hval
    |some o=>
     obtain⟨p,hp,_,e⟩:=xb hf;dsimp only;rw[<-e];exact(Az (tW hb) p hp).2
   have hal:=Ay Mt;have hne:w.length≠6:=by omega
   have he:wu w x.var (qi t.bind x.value).1=(wU x.var (qi t.bind x.value).1 w,true):=by
    unfold wu;rw[hw,h1,Mt,h3,bB hne];rfl
   rw[aF,aF,a8M w x.var _ (YU hw) (by omega) (by omega),aA,he];refine ih _ (fun z hz=>?_) hn.2 (Cw h1 Mt hw h3 hne) (by rw[Dd];omega);obtain⟨z1,z2,z3⟩:=h z (by simp[hz]);refine⟨z1,z2,?_⟩;rw[s5 (fun e=>hn.1 (by rw[e];exact bt.2 ⟨z,hz,rfl⟩))];exact z3
def cfT(r:aK)(t:aO):bM:=⟨r.name,t.facts,bkB t.bind (iJ r)⟩
def TF(t:aO):Prop:=t.facts.length<=1048576/\∀f∈t.facts,f.args.length<=1048576
theorem T7{r:aK}(h:fX r=true):(∀x∈iJ r,fQ x.var=true/\fQ x.value=true)/\((iJ r).map aV.var).Nodup/\(iJ r).length<=6:=by
 refine⟨fun x hx=>?_,zl (xR r.conds) Rx.nil,MR h⟩;obtain⟨i,hi,_,hval,hv⟩:=Jp (CP (xR r.conds) Tr.nil) hx;have:=MR h;unfold iJ at this;exact⟨hv,by rw[hval];exact LH i (by omega)⟩
theorem a4A(a:aG)(i1:Nat)(r:aK)(nd:Node)(k:cR->Option cR)(hr:fX r=true):∀(l:ai) (i:Nat) (w:cR),(∀t∈l,TF t/\gq t.bind=true)->w.length+l.length<=1099511627000->gK a i1 r (iJ r) nd k l i w=k (w++l.map (cfT r))
 | [],_,_,_,_=>by rw[gK];simp
 |t::l,i,w,h,hl=>by
  simp only[aS]at hl;obtain⟨n1,n2,n3⟩:=T7 hr;obtain⟨⟨h1,h2⟩,h3⟩:=h t (by simp);rw[gK,wv t.facts h1 h2,aA,tY (by omega),aF,ZK _ _ _ _ _ _ _ _ _ _ h3 (iJ r) 0 [] (fun x hx=>⟨(n1 x hx).1,(n1 x hx).2,rfl⟩) n2 rfl (by simp;omega),gB (by omega) (by decide),aF,a4A a i1 r nd k hr l _ _ (fun u hu=>h u (by simp[hu])) (by simp;omega)];simp[cfT,bkB]
theorem HJ(ns:bI)(fs:aI):∀(l:bI) (i j:Nat),(ou ns fs l i)[j]?=(l[j]?).map fun x=>⟨x.parent,x.cond,x.cM,qh (eF ns (dB (i+j))) fs⟩
 | [],_,_=>by simp[ou]
 |x::l,i,0=>by simp[ou]
 |x::l,i,j+1=>by
  rw[ou,gR,gR,HJ ns fs l (i+1) j,show i+1+j=i+(j+1)by omega]
def VD(n:aG)(i:Nat)(r:aK):Prop:=fX r=true/\r.wt<=1048576/\∃(b:Nat) (nd:Node),n.ends[i]?=some (dB b)/\n.nodes[b]?=some nd/\nd.tokens.length<=390625/\∀t∈nd.tokens,TF t/\gq t.bind=true
def Yh(n:aG)(i:Nat):ai:=match n.ends[i]? with
 |some e=>(match fy n.nodes e with|some nd=>nd.tokens|none=>[])
 |none=>[]
def cfB(n:aG):aq->Nat->cR
 | [],_=>[]
 |r::rs,i=>(Yh n i).map (cfT r)++cfB n rs (i+1)
theorem VD.get{n:aG}{i:Nat}{r:aK}(h:VD n i r):∃e nd,fy n.ends (i:Int)=some e/\fy n.nodes e=some nd/\Yh n i=nd.tokens/\nd.tokens.length<=390625/\∀t∈nd.tokens,TF t/\gq t.bind=true:=by
 obtain⟨_,_,b,nd,h1,h2,h3,h4⟩:=h;have e1:fy n.ends (i:Int)=some (dB b):=by unfold fy;rw[av (by omega),aF];exact h1
 have e2:fy n.nodes (dB b)=some nd:=by unfold fy dB;rw[av (by omega),aF];exact h2
 exact⟨dB b,nd,e1,e2,by unfold Yh;rw[h1];dsimp only;rw[e2],h3,h4⟩
theorem a48(n:aG)(k:cR->Option cR):∀(l:aq) (i:Nat) (w:cR),(∀(j:Nat) r,l[j]?=some r->VD n (i+j) r)->w.length+390625*l.length<=100000000->gJ n k l i w=k (w++cfB n l i)
 | [],_,_,_,_=>by rw[gJ];simp[cfB]
 |r::l,i,w,h,hl=>by
  simp only[aS]at hl;have h0:=h 0 r rfl;rw[vl]at h0;obtain⟨e,nd,g1,g2,g3,g4,g5⟩:=h0.get;rw[gJ,ZW r h0.2.1,aA,g1,aA,g2,aA,tY (by omega),aF,a4A n i r nd _ h0.1 nd.tokens 0 w g5 (by omega),a48 n k l (i+1) _ (fun j x hx=>by rw[show i+1+j=i+(j+1)by omega];exact h (j+1) x (by simpa using hx)) (by simp;omega),cfB,g3,cy]
theorem Yg{n:aG}(hb:Im n=true)(hr:qw aK.wt n.rules<=1048576)(hf:qw aC.wt n.facts<=1048576):∀(i:Nat) r,n.rules[i]?=some r->VD n i r:=by
 intro i r hri;unfold Im FW ng at hb;simp only[aR,bC]at hb;obtain⟨b1,b2,_,_,b3,_,_,b4⟩:=hb;have hm:=aE hri;have hv:=og b1 r hm;have hrw:r.wt<=1048576:=by have:=oZ (w:=aK.wt) hm;omega
 obtain⟨b,e1,e2,e3⟩:=(uo [] n.rules).2.2 i r hri;have hx:=af e2;have h4:=zA hv;have h24:=lQ b2;have Qx:=FS.Ej hf;refine⟨hv,hrw,b,⟨((cN [] n.rules).1.2[b]).parent,((cN [] n.rules).1.2[b]).cond,((cN [] n.rules).1.2[b]).cM,qh (fW r) n.facts⟩,by rw[b3];exact e1,?_,PG h4 h24,?_⟩
 ·rw[b4];unfold fA;rw[HJ,hx,cS,e3];rfl
 ·intro t ht;have ht':t∈(fW r).foldl (sS n.facts) [⟨[],[]⟩]:=ht;have hk:=Rp Qx (fW r) [⟨[],[]⟩] 0 (H7 hv) RU t ht';exact⟨⟨by have:=hk.1;omega,fun f hff=>aC.dM (hk.2.1 f hff)⟩,Xk t ht⟩
theorem a8L(n:aG)(hr:qw aK.wt n.rules<=1048576)(hf:qw aC.wt n.facts<=1048576):j5 n=some (bif Im n then cfB n n.rules 0 else []):=by
 unfold j5 tj;rw[RD n hr hf,aA];cases hb:Im n with
 |true=>
  have h6:n.rules.length<=6:=by
   have Qz:=hb;unfold Im rK at Qz;simp only[aR,bC]at Qz;omega
  rw[a48 n _ n.rules 0 [] (fun j r hj=>by rw[cS];exact Yg hb hr hf j r hj) (by simp;omega)];rfl
 |false=>rfl
def findF(f:aC):aI->Nat->Int
 | [],_=> -1
 |x::xs,i=>if x=f then(i:Int)else findF f xs (i+1)
theorem DQ(f:aC):∀(l:aI) (i:Nat),decide (findF f l i>=0)=decide (f∈l)
 | [],i=>by simp[findF]
 |x::xs,i=>by
  rw[findF];by_cases h:x=f
  ·rw[bL h];subst h;simp
  ·rw[b9 h,DQ f xs (i+1)];have:f≠x:=fun e=>h e.symm
   simp[this]
theorem a0Y(l:aI)(f:aC):rD l f=some (findF f l 0):=by
 unfold rD;have:∀(r:aI) (i:Nat),lG l f (some (-1)) r i=some (findF f r i):=by
  intro r
  induction r with
  |nil=>intro i;rfl
  |cons x xs ih=>
   intro i;rw[lG,Us,aA,ih,findF];by_cases h:x=f
   ·rw[av h,bL h,aF]
   ·rw[bB h,b9 h,aM]
 exact this l 0
theorem ZU(l:aI)(f:aC):qz l f=some (findF f l 0):=by
 unfold qz;have:∀(r:aI) (i:Nat),kx l f (some (-1)) r i=some (findF f r i):=by
  intro r
  induction r with
  |nil=>intro i;rfl
  |cons x xs ih=>
   intro i;rw[kx,ZX,aA,ih,findF];by_cases h:x=f
   ·rw[av h,bL h,aF]
   ·rw[bB h,b9 h,aM]
 exact this l 0
theorem Q0{a b:Bytes}(h:xg a b>0):xg b a<0:=by
 unfold xg at h⊢;by_cases h1:Op.bytesLess a b=true
 ·rw[bL h1]at h;omega
 ·rw[b9 h1]at h;by_cases h2:a=b
  ·rw[bL h2]at h;omega
  ·have h3:Op.bytesLess b a=true:=by
    cases hb:Op.bytesLess b a with
    |true=>rfl
    |false=>exact absurd (Fl (by simpa using h1) hb) h2
   rw[bL h3];omega
theorem Q4{a b:Bytes}(h:xg a b=0):a=b:=di fun hne=>Qt hne h
theorem O5{a b:Bytes}(h:xg a b<0):xg b a>0:=by
 unfold xg at h⊢;by_cases h1:Op.bytesLess a b=true
 ·have h3:=K5 h1;have h4:¬(Op.bytesLess b a=true):=by rw[h3];simp
  have h5:¬b=a:=fun e=>by subst e;rw[qy]at h1;cases h1
  rw[b9 h4,b9 h5];omega
 ·rw[b9 h1]at h;by_cases h2:a=b
  ·rw[bL h2]at h;omega
  ·rw[b9 h2]at h;omega
theorem Px(a b:Bytes):(C1 a b>0->C1 b a<0)/\(C1 a b=0->a=b)/\(C1 a b<0->C1 b a>0):=by
 have num:∀ {s:Bytes} {n:Nat},yU s=some n->Lib.decDigits n=s:=by
  intro s n h;unfold yU at h;split at h
  ·split at h
   ·split at h
    ·rename_i h2;cases h;exact h2
    ·cases h
   ·cases h
  ·cases h
 unfold C1;cases ha:yU a with
 |none=>
  cases hb:yU b with
  |none=>exact⟨Q0,Q4,O5⟩
  |some y=>simp
 |some x=>
  cases hb:yU b with
  |none=>simp
  |some y=>
   simp only[HV];refine⟨fun h=>?_,fun h=>?_,fun h=>?_⟩
   ·split at h
    ·omega
    ·split at h
     ·rw[bL (by omega)];omega
     ·omega
   ·split at h
    ·omega
    ·split at h
     ·omega
     ·have:x=y:=by omega
      rw[<-num ha,<-num hb,this]
   ·split at h
    ·rw[b9 (by omega),bL (by omega)];omega
    ·split at h<;>omega
theorem OB{α:Type}{g:α->α->Int}(hg:∀a b,(g a b>0->g b a<0)/\(g a b=0->a=b)/\(g a b<0->g b a>0)):∀(a b:List α),
 (∀z,uZ g a b=some z->z≠0/\∃y,uZ g b a=some y/\(z>0->y<0)/\(z<0->y>0))/\(uZ g a b=none->uZ g b a=none/\(a.length=b.length->a=b))
 | [],[]=>⟨fun z h=>(by simp[uZ]at h),fun _=>⟨rfl,fun _=>rfl⟩⟩
 | [],y::ys=>⟨fun z h=>(by simp[uZ]at h),fun _=>⟨by simp[uZ],fun h=>by simp at h⟩⟩
 |x::xs,[]=>⟨fun z h=>(by simp[uZ]at h),fun _=>⟨by simp[uZ],fun h=>by simp at h⟩⟩
 |x::xs,y::ys=>by
  obtain⟨i1,i2⟩:=OB hg xs ys;obtain⟨g1,g2,g3⟩:=hg x y;by_cases h0:g x y=0
  ·have e:=g2 h0;subst e;simp only[uZ,h0,ne_eq,not_true_eq_false,zO];exact⟨i1,fun h=>⟨(i2 h).1,fun hl=>by rw[(i2 h).2 (by simpa using hl)]⟩⟩
  ·have h1:g y x≠0:=by
    intro e;by_cases hp:g x y>0
    ·have:=g1 hp;omega
    ·have:=g3 (by omega);omega
   simp only[uZ,ne_eq,h0,h1,not_false_eq_true,qk];refine⟨fun z h=>?_,fun h=>by cases h⟩;cases h;exact⟨h0,_,rfl,g1,g3⟩
theorem Pz{α:Type}{g:α->α->Int}(hg:∀a b,(g a b>0->g b a<0)/\(g a b=0->a=b)/\(g a b<0->g b a>0))(a b:List α):(cmpL g a b>0->cmpL g b a<0)/\(cmpL g a b=0->a=b)/\(cmpL g a b<0->cmpL g b a>0):=by
 obtain⟨h1,h2⟩:=OB hg a b;unfold cmpL;cases hd:uZ g a b with
 |some z=>
  obtain⟨hz,y,hy,p,q⟩:=h1 z hd;rw[hy];exact⟨p,fun e=>absurd e hz,q⟩
 |none=>
  obtain⟨h3,h4⟩:=h2 hd;rw[h3];simp only[HV];refine⟨fun h=>?_,fun h=>?_,fun h=>?_⟩
  ·split at h
   ·omega
   ·split at h
    ·rw[bL (by omega)];omega
    ·omega
  ·split at h
   ·omega
   ·split at h
    ·omega
    ·exact h4 (by omega)
  ·split at h
   ·rw[b9 (by omega),bL (by omega)];omega
   ·split at h<;>omega
theorem B0(a b:aC):(nc a b>0->nc b a<0)/\(nc a b=0->a=b)/\(nc a b<0->nc b a>0):=by
 obtain⟨h1,h2,h3⟩:=Pz Px a.args b.args;unfold nc;by_cases hr:a.rel=b.rel
 ·rw[b9 (by simpa using hr),b9 (by simpa using hr.symm)];refine⟨h1,fun h=>?_,h3⟩;cases a;cases b;simp only at hr h2 h;rw[hr,h2 h]
 ·have hr2:b.rel≠a.rel:=fun e=>hr e.symm
  rw[bL hr,bL hr2];exact⟨Q0,fun h=>absurd (Q4 h) hr,O5⟩
def vD(f:aC):aI->aI
 | []=>[f]
 |x::xs=>if nc x f>0 then f::x::xs else x::vD f xs
theorem Gr(f:aC):∀(l:aI) (x:aC),x∈vD f l↔x=f\/x∈l
 | [],x=>by simp[vD]
 |y::ys,x=>by
  rw[vD];split
  ·simp
  ·simp only[bJ,Gr f ys x];constructor
   ·rintro(h|h|h)<;>simp[h]
   ·rintro(h|h|h)<;>simp[h]
theorem L6(f:aC):∀(l:aI),(vD f l).length=l.length+1
 | []=>rfl
 |y::ys=>by rw[vD];split<;>simp[L6 f ys]
theorem Pv{f:aC}(hf:oT f=true):∀(l:aI) (p:Option aC),chainB p l=true->f∉l->(∀q,p=some q->nc q f<0)->chainB p (vD f l)=true
 | [],p,_,_,hp=>by
  cases p with
  |none=>simp[vD,chainB,hf]
  |some q=>simp[vD,chainB,hf,hp q rfl]
 |x::xs,p,h,hn,hp=>by
  simp only[bJ,Fi]at hn;have hx:chainB (some x) xs=true/\oT x=true/\(∀q,p=some q->nc q x<0):=by
   cases p with
   |none=>simp[chainB]at h;exact⟨h.2,h.1,by simp⟩
   |some q=>
    simp only[chainB,aR,bC]at h;exact⟨by first|exact h.2.2|exact h.2,by first|exact h.1.1|exact h.1,fun q' e=>by cases e;first|exact h.1.2|exact h.2.1⟩
  rw[vD];split
  ·rename_i hgt;have h1:=(B0 x f).1 hgt;cases p with
   |none=>simp[chainB,hf,hx.2.1,h1,hx.1]
   |some q=>simp[chainB,hf,hx.2.1,h1,hx.1,hp q rfl]
  ·rename_i hle;have hlt:nc x f<0:=by
    have:nc x f≠0:=fun e=>hn.1 ((B0 x f).2.1 e).symm
    omega
   have ih:=Pv hf xs (some x) hx.1 hn.2 (fun q e=>by cases e;exact hlt);cases p with
   |none=>simp[chainB,hx.2.1,ih]
   |some q=>simp[chainB,hx.2.1,ih,hx.2.2 q rfl]
theorem Nd{f:aC}{l:aI}(hf:oT f=true)(hl:eb l=true)(hn:f∉l)(h24:l.length≠24):eb (vD f l)=true:=by
 unfold eb at hl⊢;simp only[aR,bC]at hl⊢;exact⟨Pv hf l none hl.1 hn (by simp),by rw[L6];omega⟩
theorem a9J(a:aI)(f:aC)(K:Bool->aI->Option aI)(hf:f.args.length<=1099511627776):∀(rest:aI) (i:Nat) (v:Bool) (w:aI),(∀x∈rest,x.args.length<=1099511627776)->w.length+2*rest.length<=1048576->f∉rest->
 (v=true->cm a f K rest i v w=K true (w++rest))/\
 (v=false->(cm a f K rest i v w=K true (w++vD f rest))\/(cm a f K rest i v w=K false (w++rest)/\vD f rest=rest++[f])):=by
 intro rest
 induction rest with
 |nil=>intro i v w _ _ _;exact⟨fun h=>by subst h;simp[cm],fun h=>by subst h;exact .inr ⟨by simp[cm],rfl⟩⟩
 |cons x xs ih=>
  intro i v w hs hl hn;simp only[aS]at hl;simp only[bJ,Fi]at hn;have hx:=hs x (by simp);have hs':∀y∈xs,y.args.length<=1099511627776:=fun y hy=>hs y (by simp[hy])
  have cx:=zC x hx;have cf:=zC f hf;have nx:=fun w':aI=>fun h:w'.length<1099511627776=>gB (w:=w') (c:=aC.c) (y:=[D.str x.rel,D.sl (x.args.map tx)]) (b:=40) h (by decide)
  have nf:=fun w':aI=>fun h:w'.length<1099511627776=>gB (w:=w') (c:=aC.c) (y:=[D.str f.rel,D.sl (f.args.map tx)]) (b:=40) h (by decide)
  constructor
  ·intro h;subst h;rw[cm,bN,aM,cx,aA,nx w (by omega),aF,(ih (i+1) true (w++[x]) hs' (by simp;omega) hn.2).1 rfl];simp
  ·intro h;subst h;rw[cm,bz,aF,TS,aA];by_cases hgt:nc x f>0
   ·left
    have e2:room (((w.map aC.c)++[[D.str f.rel,D.sl (f.args.map tx)]]).length+[[D.str x.rel,D.sl (x.args.map tx)]].length) 40=true:=by
     have:=nx (w++[f]) (by simp;omega);rw[bD]at this;exact this
    rw[av (by omega:nc x f>=0),aF,aA,av hgt,aF,cf,aA,nf w (by omega),aF,cx,aA,e2,aF];rw[(ih (i+1) true (w++[f]++[x]) hs' (by simp;omega) hn.2).1 rfl,vD,bL hgt];simp
   ·have hlt:¬nc x f>=0:=by
     have:nc x f≠0:=fun e=>hn.1 ((B0 x f).2.1 e).symm
     omega
    rw[bB hlt,aM,cx,aA,nx w (by omega),aF];rw[vD,b9 hgt];rcases(ih (i+1) false (w++[x]) hs' (by simp;omega) hn.2).2 rfl with q|⟨q1,q2⟩
    ·left;rw[q];simp
    ·right;rw[q1,q2];simp
theorem a4s(l:aI)(f:aC)(hf:f.args.length<=1099511627776)(hl:∀x∈l,x.args.length<=1099511627776)(hn:l.length<=1000)(hm:f∉l):kn l f=some (vD f l):=by
 unfold kn;rcases(a9J l f _ hf l 0 false [] hl (by simp;omega) hm).2 rfl with q|⟨q1,q2⟩
 ·rw[q];rfl
 ·rw[q1,q2];show(bif !false then _ else _)=_;rw[bz,aF,zC f hf,aA,dZ,gB (w:=l) (c:=aC.c) (y:=[D.str f.rel,D.sl (f.args.map tx)]) (by omega) (by decide),aF]
def Cv(l:aI)(f:aC):aI×Bool:=if eb l=true/\oT f=true/\f∉l/\l.length≠24 then(vD f l,true)else(l,false)
theorem a4j(l:aI)(f:aC)(hl:qw aC.wt l<=1048576)(hf:f.wt<=1048576):tH l f=some (Cv l f):=by
 have hm:∀x∈l,x.args.length<=1048576:=fun x hx=>by have:=aC.dM (n:=1048576) (p:=x) (by have:=oZ (w:=aC.wt) hx;omega);omega
 have hlen:=qo aC.wt l;have cp:=zo l (by omega) hm;unfold tH Cv;rw[WI l hl,aA];cases h1:eb l with
 |false=>rw[bz,aF,cp,aA,b9 (by simp)]
 |true=>
  rw[bN,aM,a0V f hf,aA];cases h2:oT f with
  |false=>rw[bz,aF,cp,aA,b9 (by simp)]
  |true=>
   rw[bN,aM,a0Y,aA,DQ];by_cases h3:f∈l
   ·rw[av h3,aF,cp,aA,b9 (by simp[h3])]
   ·rw[bB h3,aM,ah];by_cases h4:l.length=24
    ·have e:(((l.length:Nat):Int)==(24:Int))=true:=by simp[h4]
     rw[e,aF,cp,aA,b9 (by simp[h4])]
    ·have e:(((l.length:Nat):Int)==(24:Int))=false:=by simp;omega
     rw[e,aM,a4s l f (by have:=aC.dM hf;omega) (fun x hx=>by have:=hm x hx;omega) (by have:=lQ h1;omega) h3,aA,bL ⟨rfl,rfl,h3,h4⟩]
theorem O6{a b c:Bytes}(h1:xg a b<0)(h2:xg b c<0):xg a c<0:=by
 have lt:∀ {x y:Bytes},xg x y<0->Op.bytesLess x y=true:=by
  intro x y h;unfold xg at h;split at h
  ·assumption
  ·split at h<;>omega
 have:=zQ (lt h1) (lt h2);unfold xg;rw[bL this];omega
theorem a2F{x y:Int}:HV x y<0↔x<y:=by
 unfold HV;split
 ·omega
 ·split<;>omega
theorem Tz{a b c:Bytes}(h1:C1 a b<0)(h2:C1 b c<0):C1 a c<0:=by
 unfold C1 at*;cases ha:yU a<;>cases hb:yU b<;>cases hc:yU c<;>simp only[ha,hb,hc]at h1 h2⊢ <;>first|omega|exact O6 h1 h2| (rw[a2F]at*;omega)
theorem a2E{α:Type}(g:α->α->Int):cmpL g [] []=0:=rfl
theorem a2D{α:Type}(g:α->α->Int)(y:α)(ys:List α):cmpL g [] (y::ys)= -1:=by
 unfold cmpL uZ HV;simp<;>omega
theorem VU{α:Type}(g:α->α->Int)(x:α)(xs:List α):cmpL g (x::xs) []=1:=by
 unfold cmpL uZ HV;simp<;>omega
theorem VT{α:Type}(g:α->α->Int)(x y:α)(xs ys:List α):cmpL g (x::xs) (y::ys)=if g x y≠0 then g x y else cmpL g xs ys:=by
 unfold cmpL;rw[uZ];by_cases h:g x y≠0
 ·rw[bL h,bL h]
 ·rw[b9 h,b9 h,aS,aS];cases uZ g xs ys with
  |some z=>rfl
  |none=>
   show HV _ _=HV _ _;unfold HV
   congr 1
   ·rw[vQ];omega
   ·congr 1
    rw[vQ];omega
theorem O4{α:Type}{g:α->α->Int}(h0:∀a b,g a b=0->a=b)(ht:∀a b c,g a b<0->g b c<0->g a c<0):∀(a b c:List α),cmpL g a b<0->cmpL g b c<0->cmpL g a c<0
 | [],[],c,h1,_=>by rw[a2E]at h1;omega
 |_::_,[],c,h1,_=>by rw[VU]at h1;omega
 |_,y::ys,[],_,h2=>by rw[VU]at h2;omega
 | [],y::ys,z::zs,_,_=>by rw[a2D];omega
 |x::xs,y::ys,z::zs,h1,h2=>by
  rw[VT]at*;by_cases e1:g x y=0
  ·have:=h0 _ _ e1;subst this;rw[b9 (by omega)]at h1;by_cases e2:g x z=0
   ·rw[b9 (by omega)]at h2⊢;exact O4 h0 ht xs ys zs h1 h2
   ·rw[bL e2]at h2⊢;exact h2
  ·rw[bL e1]at h1;by_cases e2:g y z=0
   ·have:=h0 _ _ e2;subst this;rw[bL e1];exact h1
   ·rw[bL e2]at h2;have:=ht x y z h1 h2;rw[bL (by omega)];exact this
theorem Ix{a b c:aC}(h1:nc a b<0)(h2:nc b c<0):nc a c<0:=by
 unfold nc at*;by_cases e1:a.rel=b.rel
 ·by_cases e2:b.rel=c.rel
  ·rw[b9 (by simpa using e1)]at h1;rw[b9 (by simpa using e2)]at h2;rw[b9 (by simpa using e1.trans e2)];exact O4 (fun a b=>(Px a b).2.1) (fun _ _ _=>Tz) _ _ _ h1 h2
  ·rw[bL e2]at h2;rw[e1,bL e2];exact h2
 ·rw[bL e1]at h1;by_cases e2:b.rel=c.rel
  ·rw[<-e2,bL e1];exact h1
  ·rw[bL e2]at h2;have:=O6 h1 h2;have hne:a.rel≠c.rel:=fun e=>by rw[e,Q3]at this;omega
   rw[bL hne];exact this
theorem Cz(a:aC):¬nc a a<0:=by
 intro h;have:=(B0 a a).2.2 h;omega
theorem Py(a:aC):nc a a=0:=by
 have h1:=Cz a;have h2:=(B0 a a).1;omega
theorem HI{a b:aI}:cmpL nc a b=0↔a=b:=by
 constructor
 ·exact(Pz B0 a b).2.1
 ·rintro rfl
  induction a with
  |nil=>rfl
  |cons x xs ih=>rw[VT,b9 (by simp[Py]),ih]
theorem tX{p:Option aC}{x:aC}{xs:aI}(h:chainB p (x::xs)=true):oT x=true/\(∀q,p=some q->nc q x<0)/\chainB (some x) xs=true:=by
 cases p with
 |none=>simp[chainB]at h;exact⟨h.1,by simp,h.2⟩
 |some q=>
  simp only[chainB,aR,bC]at h;exact⟨h.1.1,fun q' e=>by cases e;exact h.1.2,h.2⟩
theorem yt:∀ {l:aI} {p:aC},chainB (some p) l=true->∀x∈l,nc p x<0
 | [],_,_,_,h=>by cases h
 |y::ys,p,h,x,hx=>by
  obtain⟨_,h2,h3⟩:=tX h;have hp:=h2 p rfl;rcases bJ.1 hx with rfl|hx
  ·exact hp
  ·exact Ix hp (yt h3 x hx)
theorem K6:∀ {l:aI} {p:Option aC},chainB p l=true->l.Nodup
 | [],_,_=>List.nodup_nil
 |x::xs,p,h=>by
  obtain⟨_,_,h3⟩:=tX h;rw[fZ];exact⟨fun hx=>Cz x (yt h3 x hx),K6 h3⟩
theorem Fj{l:aI}(h:eb l=true):l.Nodup:=by
 unfold eb at h;simp only[aR]at h;exact K6 h.1
theorem Mm:∀ {l:aI} {p:Option aC},chainB p l=true->∀x∈l,oT x=true
 | [],_,_,_,h=>by cases h
 |y::ys,p,h,x,hx=>by
  obtain⟨h1,_,h3⟩:=tX h;rcases bJ.1 hx with rfl|hx
  ·exact h1
  ·exact Mm h3 x hx
def xh(f:aC)(l:aI):aI:=l.filter fun x=> !decide (x=f)
theorem SQ{p:Option aC}{x:aC}{xs:aI}(h:chainB (some x) xs=true)(hp:∀q,p=some q->nc q x<0):chainB p xs=true:=by
 cases xs with
 |nil=>cases p<;>rfl
 |cons y ys=>
  obtain⟨h1,h2,h3⟩:=tX h;cases p with
  |none=>simp[chainB,h1,h3]
  |some q=>simp[chainB,h1,h3,Ix (hp q rfl) (h2 x rfl)]
theorem O2(f:aC):∀(l:aI) (p:Option aC),chainB p l=true->chainB p (xh f l)=true
 | [],_,h=>h
 |x::xs,p,h=>by
  obtain⟨h1,h2,h3⟩:=tX h;have ih:=O2 f xs;unfold xh at*;by_cases e:x=f
  ·rw[iq (by simp[e])];exact ih p (SQ h3 h2)
  ·rw[ir (by simp[e])];have:=ih (some x) h3;cases p with
   |none=>simp[chainB,h1,this]
   |some q=>simp[chainB,h1,this,h2 q rfl]
theorem Nc{l:aI}(f:aC)(h:eb l=true):eb (xh f l)=true:=by
 unfold eb at h⊢;simp only[aR,bC]at h⊢;exact⟨O2 f l none h.1,eD (nu _ _) h.2⟩
theorem VL{l:aI}{f:aC}(h:(Cv l f).2=true):eb (Cv l f).1=true:=by
 unfold Cv at h⊢;split at h
 ·rename_i hc;rw[bL hc];exact Nd hc.2.1 hc.1 hc.2.2.1 hc.2.2.2
 ·cases h
def IW(l:aI)(f:aC):aI×Bool:=if eb l=true/\f∈l then(xh f l,true)else(l,false)
theorem Xc{p:aC}(h:vM p=true)(hl:p.args.length<=5):Cov (vE p) p:=by
 have hT:∀t∈p.args,mK t=true:=Ns h;refine⟨Xd h hl,h,rfl,unB (p.args.foldl jm []),?_,fun y hy=>?_⟩
 ·rw[Jn,rI];have:p.args.map (unB (p.args.foldl jm [])∘Co (p.args.foldl jm []))=p.args.map id:=by
   apply nF;intro t ht;exact a9h hl ht (hT t ht)
  rw[this,List.map_id]
 ·refine Mf fun q hq e=>?_
  obtain⟨i,hi,_,hpv,_⟩:=Jp (CP p.args Tr.nil) hq;have h5:=CJ p.args;have:=nC (LH i (by omega));rw[<-hpv,e,hy]at this;cases this
theorem QE{p f:aC}{b:aT}(hl:p.args.length<=5)(hm:(ko p f b).2=true):(ko (vE p) f []).2=true:=by
 unfold ko at hm;cases hc:(vM p&&(oT f&&(gq b&&(p.rel==f.rel&&decide (p.args.length=f.args.length)))))with
 |false=>rw[hc]at hm;cases hm
 |true=>
  rw[hc,aF]at hm;simp only[aR,bC,cZ]at hc;obtain⟨c1,c2,c3,c4,c5⟩:=hc;obtain⟨h,_,h2,h3⟩:=Bn p.args f.args b c5 (fun x hx=>(Az (tW c3) x hx).1) hm;exact a2I (Xc c1 hl) (Om.2 ⟨c1,c2,c4,h,h2,h3⟩)
theorem OG{c:aP}(hl:c.pat.args.length<=5)(t:aO):∀fs:aI,(qt (vE c.pat) [] fs).flatMap (ext1 c t)=fs.flatMap (ext1 c t)
 | []=>rfl
 |f::fs=>by
  have ih:=OG hl t fs;unfold qt at*;cases hm:(ko (vE c.pat) f []).2 with
  |true=>rw[ir (by rw[hm]),ck,ck,ih]
  |false=>
   have h0:ext1 c t f=[]:=by
    unfold ext1;cases h2:(ko c.pat f t.bind).2 with
    |false=>rfl
    |true=>rw[QE hl h2]at hm;cases hm
   rw[iq (by simp[hm]),ck,h0,ih];rfl
theorem Wy{p:aC}{b:aT}(hl:p.args.length<=5)(fs:aI):qt p b (qt (vE p) [] fs)=qt p b fs:=by
 unfold qt;rw[xE];apply xk;intro f _;cases h:(ko p f b).2 with
 |false=>rfl
 |true=>rw[QE hl h];rfl
theorem XR{c:aP}(hl:c.pat.args.length<=5)(fs:aI)(A:ai):sS (qt (vE c.pat) [] fs) A c=sS fs A c:=by
 unfold sS
 congr 1
 funext t
 unfold Cg C6;rw[OG hl,Wy hl]
theorem a06{c:aP}(h1:c.kind≠1)(h2:c.kind≠2)(fs:aI)(A:ai):sS [] A c=sS fs A c:=by
 unfold sS
 congr 1
 funext t
 unfold Cg C6;rw[bB h1,bB h2];rfl
def KD(A:ai):Prop:=A.Pairwise fun t u=>t.facts≠u.facts
theorem Jd{c:aP}{t u:aO}{f:aC}(h:u∈ext1 c t f):u.facts=t.facts++[f]:=by
 unfold ext1 at h;cases hm:(ko c.pat f t.bind).2 with
 |false=>rw[hm]at h;cases h
 |true=>rw[hm,aF]at h;rw[cG.1 h]
theorem Ot{c:aP}{fs:aI}{t u:aO}(h:u∈Cg c fs t):(c.kind=1/\∃f∈fs,u.facts=t.facts++[f])\/(c.kind≠1/\u=t):=by
 unfold Cg at h;by_cases hk:c.kind=1
 ·rw[av hk,aF]at h;obtain⟨f,hf,hu⟩:=cA.1 h;exact .inl ⟨hk,f,hf,Jd hu⟩
 ·rw[bB hk,aM]at h;cases hh:C6 c t.bind fs with
  |false=>rw[hh]at h;cases h
  |true=>rw[hh,aF]at h;exact .inr ⟨hk,cG.1 h⟩
theorem a39{c:aP}{fs:aI}{A:ai}(hf:fs.Nodup)(hA:KD A):KD (sS fs A c):=by
 unfold KD sS;rw[Er];refine⟨fun t _=>?_,?_⟩
 ·unfold Cg;cases decide (c.kind=1)with
  |true=>
   rw[aF,Er];refine⟨fun f _=>?_,?_⟩
   ·unfold ext1;cases(ko c.pat f t.bind).2<;>simp
   ·exact List.Pairwise.imp (fun {f g} hne x hx y hy e=>by
     rw[Jd hx,Jd hy]at e;exact hne (by simpa using e)) hf
  |false=>cases C6 c t.bind fs<;>simp
 ·exact List.Pairwise.imp (fun {t u} hne x hx y hy e=>by
   rcases Ot hx with⟨k,f,_,e1⟩|⟨k,e1⟩<;>rcases Ot hy with⟨k',g,_,e2⟩|⟨k',e2⟩
   ·rw[e1,e2]at e;exact hne (List.append_inj' e rfl).1
   ·exact k' k
   ·exact k k'
   ·rw[e1,e2]at e;exact hne e) hA
theorem KD.one(t:aO):KD [t]:=List.pairwise_singleton _ _
theorem Vd{fs:aI}(hf:fs.Nodup):∀(cs:ar) {A:ai},KD A->KD (cs.foldl (sS fs) A)
 | [],_,h=>h
 |c::cs,_,h=>Vd hf cs (a39 hf h)
theorem a3g{cs:ar}{fs:aI}(hf:fs.Nodup):KD (qh cs fs):=Vd hf cs (KD.one _)
def WL(t:aO)(l:ai):ai:=l.filter fun u=>decide (t.facts=u.facts)
def PY(l:ai)(t:aO):Bool:=l.any fun u=>decide (u.facts=t.facts)
def L7(now old:ai):Nat:=(now.filter fun t=>PY old t).length
theorem QL{t:aO}:∀ {l:ai},KD l->(WL t l).length=(bif PY l t then 1 else 0)
 | [],_=>rfl
 |u::l,h=>by
  unfold KD at h;rw[kr]at h;have ih:=QL (t:=t) (l:=l) h.2;unfold WL PY at*;by_cases e:t.facts=u.facts
  ·rw[ir (by simp[e]),ud,av e.symm,Bool.true_or,aF,aS,ih];have:(l.any fun u=>decide (u.facts=t.facts))=false:=by
    rw[CA];intro w hw;have:=h.1 w hw;rw[<-e]at this;simp only[bC];exact fun e2=>this e2.symm
   rw[this];rfl
  ·rw[iq (by simp[e]),ud,bB (fun h=>e h.symm),oU,ih]
def NI(al:bK)(x:Node):Prop:=(x.cond.kind=1\/x.cond.kind=2->∃a:Nat,x.cM=dB a/\∃y,al[a]?=some y/\y.shape=vE x.cond.pat)/\(¬(x.cond.kind=1\/x.cond.kind=2)->x.cM= -1)
theorem NI.mono{al:bK}{x:Node}(h:NI al x)(m:bK):NI (al++m) x:=⟨fun hk=>by
 obtain⟨a,h1,y,h2,h3⟩:=h.1 hk;exact⟨a,h1,y,by rw[bA (aJ.1 h2).1];exact h2,h3⟩,h.2⟩
theorem SC{sh:aC}:∀ {l:bK} {i j:Nat},Wj sh l i=some j->∃x,l[j-i]?=some x/\i<=j/\x.shape=sh
 |x::l,i,j,h=>by
  unfold Wj at h;split at h
  ·rename_i hc;cases h;exact⟨x,by simp,bU _,hc⟩
  ·obtain⟨y,h1,h2,h3⟩:=SC h;refine⟨y,?_,by omega,h3⟩;rw[show j-i=(j-(i+1))+1 by omega];exact h1
theorem a5L(al:bK)(sh:aC):(∃m,(VJ al sh).1=al++m)/\∃a:Nat,(VJ al sh).2=dB a/\∃y,(VJ al sh).1[a]?=some y/\y.shape=sh:=by
 unfold VJ;cases h:Wj sh al 0 with
 |some i=>
  obtain⟨x,h1,_,h3⟩:=SC h;exact⟨⟨[],by simp⟩,i,rfl,x,by simpa using h1,h3⟩
 |none=>exact⟨⟨_,rfl⟩,al.length,rfl,⟨sh,[]⟩,by simp,rfl⟩
theorem a5Q(al:bK)(c:aP)(p:Int)(tk:ai):(∃m,(Ps al c).1=al++m)/\NI (Ps al c).1 ⟨p,c,(Ps al c).2,tk⟩:=by
 unfold Ps;by_cases hk:c.kind=1\/c.kind=2
 ·rw[bL hk];obtain⟨h1,h2⟩:=a5L al (vE c.pat);exact⟨h1,fun _=>h2,fun h=>absurd hk h⟩
 ·rw[b9 hk];exact⟨⟨[],by simp⟩,fun h=>absurd h hk,fun _=>rfl⟩
theorem a5R{al:bK}{ns:bI}{p:Int}{c:aP}(h:∀x∈ns,NI al x):∀x∈(Lm al ns p c).1.2,NI (Lm al ns p c).1.1 x:=by
 unfold Lm;cases PU p c ns 0 with
 |some i=>exact h
 |none=>
  obtain⟨⟨m,hm⟩,h2⟩:=a5Q al c p [];intro x hx;rcases aZ.1 hx with hx|hx
  ·show NI (Ps al c).1 x;rw[hm];exact(h x hx).mono m
  ·rw[cG.1 hx];exact h2
theorem a0t:∀(cs:ar) (s:(bK×bI)×Int),(∀x∈s.1.2,NI s.1.1 x)->∀x∈(cs.foldl HQ s).1.2,NI (cs.foldl HQ s).1.1 x
 | [],_,h=>h
 |c::cs,s,h=>a0t cs (HQ s c) (a5R h)
theorem a0u:∀(l:aq) (z:(bK×bI)×bH),(∀x∈z.1.2,NI z.1.1 x)->∀x∈(l.foldl Is z).1.2,NI (l.foldl Is z).1.1 x
 | [],_,h=>h
 |r::l,z,h=>a0u l (Is z r) (a0t (fW r) (z.1,0) h)
theorem a3b(tk:ai)(rs:aq):∀x∈(cN tk rs).1.2,NI (cN tk rs).1.1 x:=
 a0u rs (([],[root tk]),[]) (fun x hx=>by
  rw[cG.1 hx];exact⟨fun h=>by simp[root]at h,fun _=>rfl⟩)
theorem a10{tk:ai}{rs:aq}{i:Nat}{x:Node}(h1:1<=i)(hx:(cN tk rs).1.2[i]?=some x):∃r∈rs,x.cond∈fW r:=by
 have hp:=(uo tk rs).1;obtain⟨p,hpp,hpi⟩:=hp.below i x h1 hx;obtain⟨r,hr,j,j1,j2,e⟩:=hp.path i h1 (aJ.1 hx).1;rw[xP hx h1 hpp hpi]at e;exact⟨r,hr,bn (by rw[<-e];simp:x.cond∈(fW r).take j)⟩
theorem a17{ns:bI}{i p:Nat}{x:Node}(h1:1<=i)(hx:ns[i]?=some x)(hp:x.parent=dB p)(hpi:p<i)(fs:aI):qh (eF ns (dB i)) fs=sS fs (qh (eF ns (dB p)) fs) x.cond:=by
 rw[xP hx h1 hp hpi];unfold qh;rw[List.foldl_append];rfl
theorem a8U(a:aI)(f:aC)(K:Bool->aI->Option aI)(hf:f.args.length<=1099511627776):∀(rest:aI) (i:Nat) (v:Bool) (w:aI),(∀x∈rest,x.args.length<=1099511627776)->w.length+2*rest.length<=1048576->
 (v=true->eA a f K rest i v w=K true (w++rest))/\
 (v=false->(eA a f K rest i v w=K true (w++vD f rest))\/(eA a f K rest i v w=K false (w++rest)/\vD f rest=rest++[f])):=by
 intro rest
 induction rest with
 |nil=>intro i v w _ _;exact⟨fun h=>by subst h;simp[eA],fun h=>by subst h;exact .inr ⟨by simp[eA],rfl⟩⟩
 |cons x xs ih=>
  intro i v w hs hl;simp only[aS]at hl;have hx:=hs x (by simp);have hs':∀y∈xs,y.args.length<=1099511627776:=fun y hy=>hs y (by simp[hy])
  have cx:=MN x hx;have cf:=MN f hf;have nx:=fun w':aI=>fun h:w'.length<1099511627776=>gB (w:=w') (c:=aC.c) (y:=[D.str x.rel,D.sl (x.args.map tx)]) (b:=40) h (by decide)
  have nf:=fun w':aI=>fun h:w'.length<1099511627776=>gB (w:=w') (c:=aC.c) (y:=[D.str f.rel,D.sl (f.args.map tx)]) (b:=40) h (by decide)
  constructor
  ·intro h;subst h;rw[eA,bN,aM,cx,aA,nx w (by omega),aF,(ih (i+1) true (w++[x]) hs' (by simp;omega)).1 rfl];simp
  ·intro h;subst h;rw[eA,bz,aF,ZO,aA];by_cases hgt:nc x f>0
   ·left
    have e2:room (((w.map aC.c)++[[D.str f.rel,D.sl (f.args.map tx)]]).length+[[D.str x.rel,D.sl (x.args.map tx)]].length) 40=true:=by
     have:=nx (w++[f]) (by simp;omega);rw[bD]at this;exact this
    rw[av hgt,aF,cf,aA,nf w (by omega),aF,cx,aA,e2,aF];rw[(ih (i+1) true (w++[f]++[x]) hs' (by simp;omega)).1 rfl,vD,bL hgt];simp
   ·rw[bB hgt,aM,cx,aA,nx w (by omega),aF];rw[vD,b9 hgt];rcases(ih (i+1) false (w++[x]) hs' (by simp;omega)).2 rfl with q|⟨q1,q2⟩
    ·left;rw[q];simp
    ·right;rw[q1,q2];simp
theorem a8T(l:aI)(f:aC)(hf:f.args.length<=1099511627776)(hl:∀x∈l,x.args.length<=1099511627776)(hn:l.length<=1000):vX l f=some (vD f l):=by
 unfold vX;rcases(a8U l f _ hf l 0 false [] hl (by simp;omega)).2 rfl with q|⟨q1,q2⟩
 ·rw[q];rfl
 ·rw[q1,q2];show(bif !false then _ else _)=_;rw[bz,aF,MN f hf,aA,dZ,gB (w:=l) (c:=aC.c) (y:=[D.str f.rel,D.sl (f.args.map tx)]) (by omega) (by decide),aF]
theorem a8G(l:aI)(f:aC)(hl:qw aC.wt l<=1048576)(hf:f.wt<=1048576):vU l f=some (Cv l f):=by
 have hm:∀x∈l,x.args.length<=1048576:=fun x hx=>by have:=aC.dM (n:=1048576) (p:=x) (by have:=oZ (w:=aC.wt) hx;omega);omega
 have hlen:=qo aC.wt l;have cp:=wv l (by omega) hm;unfold vU Cv;rw[ZJ l hl,aA];cases h1:eb l with
 |false=>rw[bz,aF,cp,aA,b9 (by simp)]
 |true=>
  have h24:=lQ h1;rw[bN,aM,ZT f hf,aA];cases h2:oT f with
  |false=>rw[bz,aF,cp,aA,b9 (by simp)]
  |true=>
   rw[bN,aM,ZU,aA,DQ];by_cases h3:f∈l
   ·rw[av h3,aF,cp,aA,b9 (by simp[h3])]
   ·rw[bB h3,aM,ah];by_cases h4:l.length=24
    ·rw[av (by omega),aF,cp,aA,b9 (by simp[h4])]
    ·rw[bB (by omega),aM,a8T l f (by have:=aC.dM hf;omega) (fun x hx=>by have:=hm x hx;omega) (by omega),aA,bL ⟨rfl,rfl,h3,h4⟩]
theorem a4q(a:aI)(f:aC)(K:aI->Option aI):∀(rest:aI) (i:Nat) (w:aI),(∀x∈rest,x.args.length<=1048576)->w.length+rest.length<=1048576->gQ a f K rest i w=K (w++xh f rest)
 | [],i,w,_,_=>by rw[gQ];simp[xh]
 |x::xs,i,w,hs,hl=>by
  simp only[aS]at hl;have ih:=a4q a f K xs (i+1);unfold xh at*;rw[gQ,Us,aA];by_cases e:x=f
  ·rw[av e,bN,aM,iq (by simp[e]),ih w (fun y hy=>hs y (by simp[hy])) (by omega)]
  ·rw[bB e,bz,aF,zC x (by have:=hs x (by simp);omega),aA,gB (w:=w) (c:=aC.c) (y:=[D.str x.rel,D.sl (x.args.map tx)]) (by omega) (by decide),aF,ir (by simp[e]),ih (w++[x]) (fun y hy=>hs y (by simp[hy])) (by simp;omega)];simp
theorem a9U(l:aI)(f:aC)(hl:qw aC.wt l<=1048576):pP l f=some (IW l f):=by
 have hm:∀x∈l,x.args.length<=1048576:=fun x hx=>by have:=aC.dM (n:=1048576) (p:=x) (by have:=oZ (w:=aC.wt) hx;omega);omega
 have hlen:=qo aC.wt l;have cp:=zo l (by omega) hm;unfold pP IW;rw[WI l hl,aA];cases h1:eb l with
 |false=>rw[bz,aF,cp,aA,b9 (by simp)]
 |true=>
  have hd:decide (findF f l 0<0)= !decide (f∈l):=by
   rw[<-DQ f l 0,<-decide_not]
   congr 1
   rw[vQ];omega
  rw[bN,aM,a0Y,aA,hd];by_cases h3:f∈l
  ·rw[av h3,bN,aM,bL ⟨rfl,h3⟩];unfold vr;rw[a4q l f _ l 0 [] hm (by simp;omega)];rfl
  ·rw[bB h3,bz,aF,cp,aA,b9 (by simp[h3])]
theorem Gg{f:aC}:∀ {l:aI} (i:Nat),f∈l->∃pre post,l=pre++f::post/\f∉pre/\findF f l i=((i+pre.length:Nat):Int)
 | [],_,h=>by cases h
 |x::xs,i,h=>by
  by_cases e:x=f
  ·subst e;exact⟨[],xs,rfl,by simp,by rw[findF,bL rfl];rfl⟩
  ·have hx:f∈xs:=by
    rcases bJ.1 h with h|h
    ·exact absurd h.symm e
    ·exact h
   obtain⟨pre,post,h1,h2,h3⟩:=Gg (i+1) hx;refine⟨x::pre,post,by rw[h1];rfl,?_,?_⟩
   ·simp only[bJ,Fi];exact⟨fun h=>e h.symm,h2⟩
   ·rw[findF,b9 e,h3,aS,show i+1+pre.length=i+(pre.length+1)by omega]
theorem MJ{f:aC}:∀ {l:aI},f∉l->xh f l=l
 | [],_=>rfl
 |x::xs,h=>by
  simp only[bJ,Fi]at h;have ih:=MJ (l:=xs) h.2;unfold xh at*;rw[ir (by simp only[p9,pG];exact fun e=>h.1 e.symm),ih]
theorem SU{f:aC}{pre post:aI}(h1:f∉pre)(h2:f∉post):xh f (pre++f::post)=pre++post:=by
 have e1:=MJ h1;have e2:=MJ h2;unfold xh at*;rw[B8,iq (by simp),e1,e2]
theorem a8W(l:aI)(f:aC)(hl:qw aC.wt l<=1048576):rR l f=some (IW l f):=by
 have hm:∀x∈l,x.args.length<=1048576:=fun x hx=>by have:=aC.dM (n:=1048576) (p:=x) (by have:=oZ (w:=aC.wt) hx;omega);omega
 have hlen:=qo aC.wt l;have cp:=wv l (by omega) hm;unfold rR IW;rw[ZU,aA,ZJ l hl,aA];cases h1:eb l with
 |false=>rw[bz,aF,cp,aA,b9 (by simp)]
 |true=>
  have hd:decide (findF f l 0<0)= !decide (f∈l):=by
   rw[<-DQ f l 0,<-decide_not]
   congr 1
   rw[vQ];omega
  rw[bN,aM,hd];by_cases h3:f∈l
  ·rw[av h3,bN,aM,bL ⟨rfl,h3⟩];obtain⟨pre,post,e1,e2,e3⟩:=Gg 0 h3;have hnd:=Fj h1;have e4:f∉post:=by
    rw[e1,bW]at hnd;exact(fZ.1 hnd.2.1).1
   rw[cS]at e3;have hl1:l.length=pre.length+(post.length+1):=by rw[e1];simp
   have hw:IntKind.i64.wrap (findF f l 0+1)=((pre.length+1:Nat):Int):=by rw[e3];exact En (by omega)
   have p1:wT ((l.map aC.c).length) none (some (D.int .i64 (findF f l 0)))=some (0,pre.length):=by
    rw[a4f (by omega) (by rw[ah];omega),e3];rfl
   have p2:wT ((l.map aC.c).length) (some (D.int .i64 (IntKind.i64.wrap (findF f l 0+1)))) none=some (pre.length+1,l.length):=by
    rw[hw];unfold wT;rw[ah];simp only[bL (show 0<=((pre.length+1:Nat):Int)/\((pre.length+1:Nat):Int).toNat<=l.length from⟨by omega,by omega⟩)];rfl
   have t1:(l.take pre.length).drop 0=pre:=by rw[e1];simp
   have t2:(l.take l.length).drop (pre.length+1)=post:=by
    rw[yq,e1,List.drop_append,mV (by omega),show pre.length+1-pre.length=1 by omega];rfl
   rw[p1,aA];dsimp only;rw[t1,wv pre (by omega) (fun x hx=>hm x (by rw[e1];simp[hx])),aA,p2,aA];dsimp only;rw[t2,wv post (by omega) (fun x hx=>hm x (by rw[e1];simp[hx])),aA,Ek (by simp;omega) (by decide),aF];have e5:xh f l=pre++post:=by rw[e1];exact SU e2 e4
   rw[e5]
  ·rw[bB h3,bz,aF,cp,aA,b9 (by simp[h3])]
structure BC(n:aG):Prop where
 rules:qw aK.wt n.rules<=1048576
 facts:qw aC.wt n.facts<=1048576
 ends:n.ends.length<=1048576
 az:n.az.length<=1048576
 cM:∀a∈n.az,a.shape.wt<=1048576/\FS a.facts
 nodes:n.nodes.length<=1048576
 node:∀x∈n.nodes,x.cond.wt<=1048576/\x.tokens.length<=1048576/\∀t∈x.tokens,TK 1048576 t
theorem FS.args{fs:aI}(h:FS fs):∀f∈fs,f.args.length<=1048576:=fun f hf=>aC.dM (h.2 f hf)
theorem a3H(l:ai)(hl:l.length<=1048576)(h:∀t∈l,TK 1048576 t):kF l=some l:=by
 unfold kF;rw[ES (c:=aO.c) (b:=48) (f:=sN) (g:=fun x=>x) (L:=jk l _) (k:=_) (by decide) (fun _ _=>rfl) (fun _ _ _ _=>rfl) _ _ _ (fun t ht=>a0N t (h t ht)) (by simp;omega)];simp
theorem a2c(l:ai)(hl:l.length<=1048576)(h:∀t∈l,TK 1048576 t):mh l=some l:=by
 unfold mh;rw[ES (c:=aO.c) (b:=48) (f:=fun t:aO=>(cV t.facts).bind fun y=>(jd t.bind).bind fun z=>some (⟨y,z⟩:aO)) (g:=fun x=>x) (L:=j9 l _) (k:=_) (by decide) (fun _ _=>rfl) (fun x xs i w=>by
  rw[j9];cases cV x.facts with
  |none=>rfl
  |some a=>cases jd x.bind<;>rfl) _ _ _ (fun t ht=>by
  have hk:=h t ht;rw[wv t.facts hk.1 (fun f hf=>aC.dM (hk.2.1 f hf)),aA,UU t.bind (by have:=hk.2.2.1;omega)];rfl) (by simp;omega)]
 simp
theorem a9K(l:bH)(h:l.length<=1048576):wj l=some l:=by
 unfold wj;rw[Ek (by simp;omega) (by decide),aF,dZ]
theorem a8V(l:bH)(h:l.length<=1048576):uM l=some l:=by
 unfold uM;rw[Ek (by simp;omega) (by decide),aF,dZ]
theorem Uo(n:aG)(h:BC n):sP n=some n:=by
 have hF:=FS.Ej h.facts;have h1:=h.az;have h2:=h.nodes;unfold sP;rw[TT n.rules h.rules,aA,a9K n.ends h.ends,aA,zo n.facts hF.1 hF.args,aA];rw[ES (c:=aX.c) (b:=64) (f:=fun a:aX=>(ez a.shape).bind fun y=>(dF a.facts).bind fun z=>some (⟨y,z⟩:aX)) (g:=fun x=>x) (L:=oP n _ _ _ _) (k:=_) (by decide) (fun _ _=>rfl) (fun x xs i w=>by
  rw[oP];cases ez x.shape with
  |none=>rfl
  |some a=>cases dF x.facts<;>rfl) _ _ _ (fun a ha=>by
  obtain⟨g1,g2⟩:=h.cM a ha;rw[a0O a.shape (by have:=aC.dM g1;omega),aA,zo a.facts g2.1 g2.args];rfl) (by simp;omega)]
 rw[ES (c:=Node.c) (b:=120) (f:=fun x:Node=>(kW x.cond).bind fun y=>(kF x.tokens).bind fun z=>some (⟨x.parent,y,x.cM,z⟩:Node)) (g:=fun x=>x) (L:=oQ n _ _ _ _ _) (k:=_) (by decide) (fun _ _=>rfl) (fun x xs i w=>by
  rw[oQ];cases kW x.cond with
  |none=>rfl
  |some a=>cases kF x.tokens<;>rfl) _ _ _ (fun x hx=>by
  obtain⟨g1,g2,g3⟩:=h.node x hx;rw[Re x.cond (by have:=aC.dM (aP.gG g1);omega),aA,a3H x.tokens g2 g3];rfl) (by simp;omega)]
 simp
theorem OX(n:aG)(h:BC n):iB n=some n:=by
 have hF:=FS.Ej h.facts;have h1:=h.az;have h2:=h.nodes;unfold iB;rw[Sr n.rules h.rules,aA,a8V n.ends h.ends,aA,wv n.facts hF.1 hF.args,aA];rw[ES (c:=aX.c) (b:=64) (f:=fun a:aX=>(eS a.shape).bind fun y=>(cV a.facts).bind fun z=>some (⟨y,z⟩:aX)) (g:=fun x=>x) (L:=iX n _ _ _ _) (k:=_) (by decide) (fun _ _=>rfl) (fun x xs i w=>by
  rw[iX];cases eS x.shape with
  |none=>rfl
  |some a=>cases cV x.facts<;>rfl) _ _ _ (fun a ha=>by
  obtain⟨g1,g2⟩:=h.cM a ha;rw[ZS a.shape (by have:=aC.dM g1;omega),aA,wv a.facts g2.1 g2.args];rfl) (by simp;omega)]
 rw[ES (c:=Node.c) (b:=120) (f:=fun x:Node=>(fc x.cond).bind fun y=>(mh x.tokens).bind fun z=>some (⟨x.parent,y,x.cM,z⟩:Node)) (g:=fun x=>x) (L:=iY n _ _ _ _ _) (k:=_) (by decide) (fun _ _=>rfl) (fun x xs i w=>by
  rw[iY];cases fc x.cond with
  |none=>rfl
  |some a=>cases mh x.tokens<;>rfl) _ _ _ (fun x hx=>by
  obtain⟨g1,g2,g3⟩:=h.node x hx;rw[RC x.cond (by have:=aC.dM (aP.gG g1);omega),aA,a2c x.tokens g2 g3];rfl) (by simp;omega)]
 simp
theorem EQ{n:aG}(h:Im n=true):rK n.rules=true/\eb n.facts=true/\0<=n.br/\n=ng n.rules n.facts n.br:=by
 unfold Im FW ng at h;simp only[aR,bC]at h;obtain⟨b1,b2,b0,_,b3,_,b5,b4⟩:=h;refine⟨b1,b2,b0,?_⟩;unfold ng;cases n;simp only at b3 b4 b5⊢;rw[<-b3,<-b4,<-b5]
theorem Nn{rs:aq}{fs:aI}{t:Int}(h1:rK rs=true)(h2:eb fs=true):Im (ng rs fs t)=decide (0<=t):=by
 unfold Im FW ng;simp[h1,h2]
theorem Ky{f:aC}(h:oT f=true):f.wt<=100:=by
 unfold oT at h;simp only[aR,bC,aj]at h;obtain⟨h1,h2,h3⟩:=h;have a1:=QF h2;have a2:=Nt f.args (fun x hx=>by have:=Ay (h1 x hx);omega);unfold aC.wt tw;unfold tw at a2;omega
theorem BF{fs:aI}(h:eb fs=true):∀f∈fs,oT f=true:=by
 unfold eb at h;simp only[aR]at h;exact Mm h.1
theorem QX{α:Type}{w:α->Nat}{B:Nat}:∀(l:List α),(∀x∈l,w x<=B)->qw w l<=(B+1)*l.length
 | [],_=>by simp[qw]
 |x::l,h=>by
  have h1:=QX l fun y hy=>h y (by simp[hy])
  have h2:=h x (by simp);rw[oz,aS,Nat.mul_add];omega
theorem wZ{fs:aI}(h:eb fs=true):qw aC.wt fs<=2424:=by
 have h1:=QX (w:=aC.wt) (B:=100) fs fun f hf=>Ky (BF h f hf)
 have h2:=lQ h;have:(100+1)*fs.length<=(100+1)*24:=dJ _ h2;omega
theorem ul(ns:bI)(fs:aI)(i:Nat):(fA ns fs)[i]?=(ns[i]?).map fun x=>⟨x.parent,x.cond,x.cM,qh (eF ns (dB i)) fs⟩:=by
 unfold fA;rw[HJ,cS]
theorem yz(ns:bI)(fs:aI):(fA ns fs).length=ns.length:=Wx ns fs ns 0
theorem wY{rs:aq}(h:rK rs=true):rs.length<=6:=by unfold rK at h;simp only[aR,bC]at h;omega
theorem PA{rs:aq}(tk:ai)(h:rK rs=true):(cN tk rs).1.1.length<=24:=by
 have h6:=wY h;have main:∀(l:aq) (z:(bK×bI)×bH),(∀r∈l,fX r=true)->(l.foldl Is z).1.1.length<=z.1.1.length+4*l.length:=by
  intro l
  induction l with
  |nil=>intro z _;exact bU _
  |cons r l ih=>
   intro z hl;have h1:=ih (Is z r) (fun x hx=>hl x (by simp[hx]));have h2:=(HR (fW r) (z.1,0)).1;have h3:=zA (hl r (by simp));have h4:(Is z r).1.1.length=((fW r).foldl HQ (z.1,0)).1.1.length:=rfl;rw[cu,aS];dsimp only at h2;omega
 have:=main rs (([],[root tk]),[]) (og h);unfold cN;simp only[bf]at this;omega
theorem DX{rs:aq}{fs:aI}(h1:rK rs=true)(h2:eb fs=true){i:Nat}{x:Node}(hx:(fA (cN [] rs).1.2 fs)[i]?=some x):x.cond.wt<=1048576/\x.tokens.length<=390625/\(∀t∈x.tokens,TK 4 t)/\KD x.tokens:=by
 have hv:=og h1;have hok:=LX [] hv (wY h1);rw[ul]at hx;obtain⟨y,hy,rfl⟩:=Dt.1 hx;have Qx:=FS.Ej (by have:=wZ h2;omega:qw aC.wt fs<=1048576);have Sg:∀c∈eF (cN [] rs).1.2 (dB i),c.wt<=1048576:=by
  intro c hc;obtain⟨z,hz,e⟩:=LO hc;rw[<-e];exact hok.wt z hz
 refine⟨hok.wt y (aE hy),PG (hok.path i) (lQ h2),fun t ht=>?_,a3g (Fj h2)⟩;exact(Rp Qx _ [⟨[],[]⟩] 0 Sg RU t ht).le (by have:=hok.path i;omega)
theorem MS{rs:aq}{fs:aI}(t:Int)(h1:rK rs=true)(h2:eb fs=true)(hr:qw aK.wt rs<=1048576):BC (ng rs fs t):=by
 have hv:=og h1;have h6:=wY h1;have hw:=wZ h2;have hl:=Bu [] hv h6;refine⟨hr,by show qw aC.wt fs<=1048576;omega,?_,?_,?_,?_,?_⟩
 ·show(cN [] rs).2.length<=1048576;rw[(uo [] rs).2.1];omega
 ·show(gA (cN [] rs).1.1 fs).length<=1048576;unfold gA;rw[ah];have:=PA [] h1;omega
 ·intro a ha;obtain⟨y,hy,rfl⟩:=bt.1 (show a∈(cN [] rs).1.1.map _ from ha);refine⟨(xe [] hv y hy).1,?_,fun f hf=>?_⟩
  ·have:=nu (fun f=>(ko y.shape f []).2) fs;have:=lQ h2;show(qt y.shape [] fs).length<=1048576;unfold qt;omega
  ·have:=Ky (BF h2 f (fY.1 hf).1);omega
 ·show(fA (cN [] rs).1.2 fs).length<=1048576;rw[yz];omega
 ·intro x hx;obtain⟨i,hi⟩:=iz (show x∈fA (cN [] rs).1.2 fs from hx);obtain⟨g1,g2,g3,_⟩:=DX h1 h2 hi;exact⟨g1,by omega,fun t ht=>(g3 t ht).le (by omega)⟩
def VI(now old:ai):Nat:=now.length-L7 now old
theorem Od(now old:ai):L7 now old<=now.length:=nu _ _
theorem Oc(t:aO)(l old:ai):L7 (t::l) old=(bif PY old t then 1 else 0)+L7 l old:=by
 unfold L7;cases h:PY old t with
 |true=>rw[ir (by rw[h]),aS,aF];omega
 |false=>rw[iq (by simp[h]),aM];omega
def stepT(al:bK)(f:aC)(x:Node)(now old:ai)(t:Int):Int:=
 if x.cM<0 then IntKind.i64.wrap (t+((VI now old:Nat):Int))else match fy al x.cM with
  |none=>t
  |some y=>bif (ko y.shape f []).2 then IntKind.i64.wrap (IntKind.i64.wrap (t+IntKind.i64.wrap (((VI now old:Nat):Int)*((y.facts.length:Nat):Int)))+((L7 now old:Nat):Int))else IntKind.i64.wrap (t+IntKind.i64.wrap (((VI now old:Nat):Int)*((y.facts.length:Nat):Int)))
def Bv(ns:bI)(p:Int):ai:=match fy ns p with|some x=>x.tokens|none=>[]
def trN(N0 N1:bI)(al:bK)(f:aC):bI->Int->Int
 | [],t=>t
 |x::xs,t=>trN N0 N1 al f xs (stepT al f x (Bv N1 x.parent) (Bv N0 x.parent) t)
theorem WK(a b:ai)(i1:Nat)(x:aO)(k:Int->Option (Int×Int)):∀(l:ai) (i v:Nat),v+l.length<=1099511627000->mI a b i1 x k l i (v:Int)=k ((v+(WL x l).length:Nat):Int)
 | [],i,v,_=>rfl
 |y::l,i,v,h=>by
  simp only[aS]at h;have ih:=WK a b i1 x k l (i+1);unfold WL at*;rw[mI,a9C,aA];by_cases e:x.facts=y.facts
  ·rw[show((cmpL nc x.facts y.facts:Int)==0)=true by simp[HI.2 e],aF,En (by omega),ih (v+1) (by omega),ir (by simp[e]),aS]
   congr 2;omega
  ·rw[show((cmpL nc x.facts y.facts:Int)==0)=false by
    have:cmpL nc x.facts y.facts≠0:=fun h=>e (HI.1 h)
    simp[this],aM,ih v (by omega),iq (by simp[e])]
theorem Rg(a b:ai)(k:Int->Option (Int×Int))(hK:KD b)(hb:b.length<=1048576):∀(l:ai) (i v:Nat),v+l.length<=1099500000000->oS a b k l i (v:Int)=k ((v+L7 l b:Nat):Int)
 | [],i,v,_=>rfl
 |x::l,i,v,h=>by
  simp only[aS]at h;have hx:=QL (t:=x) hK;rw[oS,tY (by omega),aF,WK a b i x _ b 0 v (by omega),hx,Oc];cases PY b x with
  |true=>rw[aF,Rg a b k hK hb l (i+1) (v+1) (by omega)];congr 2;omega
  |false=>rw[aM,Rg a b k hK hb l (i+1) (v+0) (by omega)];congr 2;omega
theorem a9L(now old:ai)(hK:KD old)(h1:now.length<=1048576)(h2:old.length<=1048576):wq now old=some (((L7 now old:Nat):Int),((VI now old:Nat):Int)):=by
 have hle:=Od now old;unfold wq;have:=Rg now old (fun(vi:Int)=>(some (vi,IntKind.i64.wrap (((now.map aO.c).length:Int)-vi)))) hK h2 now 0 0 (by omega);rw[show(0:Int)=((0:Nat):Int)from rfl,this,cS,ah,dY (qQ.i64.2 (by omega))];unfold VI
 congr 2
 omega
theorem a8Q(l:ai)(t:aO):uN l t=some (PY l t):=by
 unfold uN;have:∀(r:ai) (i:Nat),lB l t (some false) r i=some (PY r t):=by
  intro r
  induction r with
  |nil=>intro i;rfl
  |cons x r ih=>
   intro i;rw[lB,a8J,aA,ih];unfold PY;rw[ud];by_cases e:x.facts=t.facts
   ·rw[show((cmpL nc x.facts t.facts:Int)==0)=true by simp[HI.2 e],aF,av e,Bool.true_or]
   ·rw[show((cmpL nc x.facts t.facts:Int)==0)=false by
     have:cmpL nc x.facts t.facts≠0:=fun h=>e (HI.1 h)
     simp[this],aM,bB e,oU]
 exact this l 0
theorem ZN(n:aG)(f:aC)(y3:aG×Unit)(u:Int)(i1:Nat)(x xx y:Node)(k:Int->Int->Option aG)(hy:fy n.nodes x.parent=some y):∀(l:ai) (i a b:Nat),a+l.length<=1099511627000->b+l.length<=1099511627000->
 kJ n f y3 u i1 x xx k l i (a:Int) (b:Int)=k ((a+L7 l y.tokens:Nat):Int) ((b+VI l y.tokens:Nat):Int)
 | [],i,a,b,_,_=>rfl
 |t::l,i,a,b,h1,h2=>by
  simp only[aS]at h1 h2;have ih:=ZN n f y3 u i1 x xx y k hy l (i+1);have hle:=Od l y.tokens;rw[kJ,hy,aA,a8Q,aA];unfold VI at*;rw[Oc,aS];cases PY y.tokens t with
  |true=>
   rw[aF,aF,En (by omega),ih (a+1) b (by omega) (by omega)]
   congr 2<;>omega
  |false=>
   rw[aM,aM,En (by omega),ih a (b+1) (by omega) (by omega)]
   congr 2<;>omega
def aAW(N0 N1:bI)(al:bK)(x:Node):Prop:=(∃p0 p1,fy N0 x.parent=some p0/\fy N1 x.parent=some p1/\p1.tokens.length<=1048576)/\(x.cM<0\/∃y,fy al x.cM=some y/\y.shape.wt<=1048576)
theorem ZM(n:aG)(f:aC)(y3:aG×Unit)(k:Int->Option aG)(hf:f.wt<=1048576):∀(l:bI) (i:Nat) (u:Int),1<=i->(∀x∈l,aAW n.nodes y3.1.nodes y3.1.az x)->fm n f y3 k l i u=k (trN n.nodes y3.1.nodes y3.1.az f l u)
 | [],_,_,_,_=>rfl
 |x::l,i,u,hi,hU=>by
  have ih:=ZM n f y3 k hf l (i+1);have hU':=fun z (hz:z∈l)=>hU z (by simp[hz])
  obtain⟨⟨p0,p1,e0,e1,hl⟩,ha⟩:=hU x (by simp);rw[fm,show(((i:Nat):Int)==0)=false by simp;omega,aM,e1,aA,tY (by omega),aF];rw[show(0:Int)=((0:Nat):Int)from rfl,ZN n f y3 u i x p1 p0 _ e0 p1.tokens 0 0 0 (by omega) (by omega),cS,cS,trN];unfold stepT;rw[show Bv y3.1.nodes x.parent=p1.tokens by unfold Bv;rw[e1],show Bv n.nodes x.parent=p0.tokens by unfold Bv;rw[e0]];by_cases hal:x.cM<0
  ·rw[av (by simpa using hal),aF,bL hal,ih _ (by omega) hU']
  ·rw[bB (by simpa using hal),aM,b9 hal];rcases ha with ha|⟨y,hy,hyw⟩
   ·exact absurd ha hal
   ·rw[hy,aA,a60 y.shape f [] hyw hf PB.nil,aA,ah];dsimp only;cases(ko y.shape f []).2 with
    |true=>rw[aF,aF,ih _ (by omega) hU']
    |false=>rw[aM,aM,ih _ (by omega) hU']
theorem Ah{α:Type}(l:List α)(i:Nat):fy l (dB i)=l[i]?:=by
 unfold fy dB;rw[av (by omega),aF];rfl
theorem Zy{rs:aq}{fs0 fs:aI}(h1:rK rs=true)(h0:eb fs0=true)(h2:eb fs=true){i:Nat}(hi:1<=i){x:Node}(hx:(cN [] rs).1.2[i]?=some x):
 ∃(p:Nat) (q:Node),p<i/\x.parent=dB p/\(cN [] rs).1.2[p]?=some q/\(fA (cN [] rs).1.2 fs0)[p]?=some ⟨q.parent,q.cond,q.cM,qh (eF (cN [] rs).1.2 (dB p)) fs0⟩/\(fA (cN [] rs).1.2 fs)[p]?=some ⟨q.parent,q.cond,q.cM,qh (eF (cN [] rs).1.2 (dB p)) fs⟩/\
  x.cond.pat.args.length<=3/\x.cond.wt<=1048576/\((x.cM<0/\x.cond.kind≠1/\x.cond.kind≠2)\/∃(a:Nat) (y:aX),x.cM=dB a/\(cN [] rs).1.1[a]?=some y/\y.shape=vE x.cond.pat/\y.shape.wt<=1048576):=by
 have hv:=og h1;obtain⟨p,hp,hpi⟩:=(uo [] rs).1.below i x hi hx;have Vi:=(aJ.1 hx).1;have hq:=af (show p<(cN [] rs).1.2.length by omega);obtain⟨r,hr,hc⟩:=a10 hi hx;have hal:=a3b [] rs x (aE hx);refine⟨p,_,hpi,hp,hq,by rw[ul,hq];rfl,by rw[ul,hq];rfl,(N8 (hv r hr) _ hc).2.1,H7 (hv r hr) _ hc,?_⟩;by_cases hk:x.cond.kind=1\/x.cond.kind=2
 ·obtain⟨a,e1,y,e2,e3⟩:=hal.1 hk;exact .inr ⟨a,y,e1,e2,e3,(xe [] hv y (aE e2)).1⟩
 ·exact .inl ⟨by rw[hal.2 hk];decide,fun e=>hk (.inl e),fun e=>hk (.inr e)⟩
def Ty(n:aG)(fs:aI)(f:aC):aG:=ng n.rules fs (trN n.nodes (fA (cN [] n.rules).1.2 fs) (gA (cN [] n.rules).1.1 fs) f ((fA (cN [] n.rules).1.2 fs).drop 1) n.br)
theorem a8H(n:aG)(fs:aI)(f:aC)(hn:Im n=true)(hr:qw aK.wt n.rules<=1048576)(h2:eb fs=true)(hf:f.wt<=1048576):sy n fs f=some (Ty n fs f):=by
 obtain⟨h1,h0,ht,e⟩:=EQ hn;have hv:=og h1;have h6:=wY h1;have Qx:=FS.Ej (by have:=wZ h2;omega:qw aC.wt fs<=1048576);have hok:BC n:=by rw[e];exact MS _ h1 h0 hr
 have hN:n.nodes=fA (cN [] n.rules).1.2 n.facts:=congrArg aG.nodes e;have hA:n.az=gA (cN [] n.rules).1.1 n.facts:=congrArg aG.az e;have hE:n.ends=(cN [] n.rules).2:=congrArg aG.ends e;have hform:n.nodes.map qv=(cN [] n.rules).1.2.map qv:=by rw[hN];exact Je _ _ _ _
 have hp0:=LX [] hv h6;have a5m:CB n.nodes:=by
  refine⟨hok.nodes,fun x hx=>(hok.node x hx).1,fun i=>?_⟩;rw[ve hform];exact hp0.path i
 have hfA:gA n.az fs=gA (cN [] n.rules).1.1 fs:=by
  rw[hA];unfold gA;rw[rI];rfl
 have hfN:fA n.nodes fs=fA (cN [] n.rules).1.2 fs:=by
  have key:∀(l m:bI) (i:Nat),l.map wS=m.map wS->ou n.nodes fs l i=ou (cN [] n.rules).1.2 fs m i:=by
   intro l
   induction l with
   |nil=>intro m i hm;cases m with
    |nil=>rfl
    |cons y m=>simp at hm
   |cons x l ih=>intro m i hm;cases m with
    |nil=>simp at hm
    |cons y m=>
     rw[au,au]at hm;obtain⟨q1,q2⟩:=mQ hm;have e1:x.parent=y.parent:=(kI q1).1;have e2:x.cM=y.cM:=(kI (kI q1).2).1;have e3:x.cond=y.cond:=(kI (kI q1).2).2;rw[ou,ou,ih m (i+1) q2,ve hform,e1,e2,e3]
  refine key _ _ 0 ?_;rw[hN];have:∀(ns l:bI) (i:Nat),(ou ns n.facts l i).map wS=l.map wS:=by
   intro ns l
   induction l with
   |nil=>intro i;rfl
   |cons x l ih=>intro i;rw[ou,au,ih];rfl
  exact this _ _ _
 unfold sy;rw[OX n hok,aA,a4C n fs Qx (lQ h2) hok.az (fun x hx=>(hok.cM x hx).1) a5m,aA,hfA,hfN];have hlen:=yz (cN [] n.rules).1.2 fs;have aE6:=Bu [] hv h6;dsimp only;rw[tY (by omega),aF];have vc:fA (cN [] n.rules).1.2 fs=(fA (cN [] n.rules).1.2 fs).take 1++(fA (cN [] n.rules).1.2 fs).drop 1:=(cO 1 _).symm;cases hns:fA (cN [] n.rules).1.2 fs with
 |nil=>
  have:=(uo [] n.rules).1.pos;rw[hns]at hlen;simp at hlen;omega
 |cons x0 l=>
  rw[fm,show(((0:Nat):Int)==0)=true from rfl,aF,ZM n f _ _ hf l 1 _ (bU _) (fun x hx=>?_)]
  ·unfold Ty ng;rw[hns,hE];rfl
  ·obtain⟨i,hi⟩:=iz hx;have hi2:(fA (cN [] n.rules).1.2 fs)[i+1]?=some x:=by rw[hns];exact hi
   rw[ul]at hi2;obtain⟨z,hz,rfl⟩:=Dt.1 hi2;obtain⟨p,q,_,e1,_,e3,e4,_,_,e7⟩:=Zy h1 h0 h2 (i:=i+1) (by omega) hz;have g4:=(DX h1 h2 e4).2.1;have u3:=(show fy n.nodes z.parent=(fA (cN [] n.rules).1.2 n.facts)[p]? by rw[e1,Ah,hN]).trans e3;have u4:=(show fy (x0::l) z.parent=(fA (cN [] n.rules).1.2 fs)[p]? by rw[e1,Ah,hns]).trans e4;refine⟨⟨_,_,u3,u4,by omega⟩,?_⟩
   ·rcases e7 with⟨e7,_⟩|⟨a,y,e7,e8,_,e10⟩
    ·exact .inl e7
    ·refine .inr ⟨⟨y.shape,qt y.shape [] fs⟩,?_,e10⟩;show fy (gA (cN [] n.rules).1.1 fs) z.cM=_;rw[e7,Ah];unfold gA;rw[cF,e8];rfl
end Go.Cx

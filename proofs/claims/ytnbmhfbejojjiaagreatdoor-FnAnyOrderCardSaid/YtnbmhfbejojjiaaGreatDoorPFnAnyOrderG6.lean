/- The conditions on the path to a node, in plain words. No condition but bounds. -/
import Derived.Test.YtnbmhfbejojjiaaGreatDoorPFnAnyOrderG5
import Derived.Lib.Atoi
import Derived.Test.YtnbmhfbejojjiaaGreatDoorPFnAnyOrderG3
import Derived.ProofKit
set_option linter.unusedVariables false
set_option linter.unusedSimpArgs false
namespace Go.Cx
open Go.RowKit Go.Proofs Tryz
def Zm(n:aI):Prop:=n.nodes.length<=1048576/\∀x∈n.nodes,x.cond.wt<=1048576
theorem Vb(s:Bytes):CL [] s=s:=rfl
theorem T8(x:aM):IU [] x=x:=by
 have:x.pat.args.map (CL [])=x.pat.args:=by
  rw[show(CL [])=id from funext Vb];simp
 unfold IU;rw[this];rfl
def dV(i:Nat):Int:=(i:Int)
def J0(ns:bI):Nat->Nat->aP
 |0,_=>[]
 |k+1,v=>v::(match ns[v]? with
  |some x=>if 1<=x.parent/\x.parent<(v:Int)then J0 ns k x.parent.toNat else []
  |none=>[])
def yI(ns:bI)(i:Nat):Option aM:=(ns[i]?).map Node.cond
def DN(ns:bI)(k v:Nat):aq:=(J0 ns k v).reverse.filterMap (yI ns)
def iZ(ns:bI)(v:Int):aq:=if 1<=v/\v<(ns.length:Int)then DN ns v.toNat v.toNat else []
theorem Md{ns:bI}{k v:Nat}{x:Node}(hx:ns[v]?=some x):J0 ns (k+1) v=v::(if 1<=x.parent/\x.parent<(v:Int)then J0 ns k x.parent.toNat else []):=by simp only[J0,hx]
theorem Tx(ns:bI):∀(k v:Nat),v<ns.length->∀i∈J0 ns k v,i<ns.length
 |0,v,_,i,hi=>by cases hi
 |k+1,v,hv,i,hi=>by
  rw[J0]at hi;rcases bA.1 hi with rfl|hi
  ·exact hv
  ·split at hi
   ·split at hi
    ·rename_i x hx hp;exact Tx ns k _ (by omega) i hi
    ·cases hi
   ·cases hi
theorem PL(ns:bI):∀(k v:Nat),(J0 ns k v).length<=k
 |0,v=>by simp[J0]
 |k+1,v=>by
  rw[J0,aQ];split
  ·split
   ·have:=PL ns k (by assumption:Node).parent.toNat;omega
   ·simp
  ·simp
theorem IR{ns:bI}{k v:Nat}{x:Node}(hx:ns[v]?=some x):DN ns (k+1) v=(if 1<=x.parent/\x.parent<(v:Int)then DN ns k x.parent.toNat else [])++[x.cond]:=by
 have hc:yI ns v=some x.cond:=by unfold yI;rw[hx];rfl
 unfold DN;rw[Md hx];by_cases hp:1<=x.parent/\x.parent<(v:Int)
 ·rw[bE hp,bE hp];simp[hc]
 ·rw[av hp,av hp];simp[hc]
theorem Kw(x:aM)(h:x.pat.args.length<=1099511627770):kZ x=some x:=by
 unfold kZ;rw[Yy x [] h,aA,T8]
theorem KL(x:aM)(h:x.pat.args.length<=1099511627770):eU x=some x:=by
 unfold eU dO;rw[KS x.pat.args (by omega)];rfl
theorem a4K(n:aI)(h:Zm n)(K:aq->Option aq):∀(k v fu:Nat) (w:aq),v<=k->1<=v->v<n.nodes.length->k<fu->w.length+k<=4194304->rH n K fu (v:Int) w=K (DN n.nodes k v++w):=by
 have hl:=h.1;intro k
 induction k with
 |zero=>intro v fu w h1 h2;omega
 |succ k ih=>
  intro v fu w h1 h2 h3 h4 h5;obtain⟨fu,rfl⟩:∃m,fu=m+1:=⟨fu-1,by omega⟩
  have hx:n.nodes[v]?=some n.nodes[v]:=aT h3;have hw:=h.2 _ (mM h3);generalize hxe:n.nodes[v]=x at*;have e1:IntKind.i64.wrap (((n.nodes.map Node.c).length:Int)-1)=(n.nodes.length:Int)-1:=by rw[ax];exact dG (n8.i64.2 (by omega))
  have e2:(decide ((v:Int)>=1)&&decide ((v:Int)<=(n.nodes.length:Int)-1))=true:=by simp;omega
  have e3:iY n.nodes (v:Int)=some x:=by unfold iY;rw[bC (by omega),aH];exact hx
  have e4:=Kw x.cond (by have:=aF.dF (aM.ei hw);omega);rw[rH,e1,GS,aA,e2,aH,e3,aA,e4,aA,DQ (by simp;omega) (by decide),aH,IR hx];by_cases h6:x.parent>=(v:Int)
  ·rw[bC h6,aH,av (by omega)];rfl
  ·rw[bK h6,aS];by_cases h7:1<=x.parent
   ·rw[bE ⟨h7,by omega⟩];obtain⟨m,hm⟩:=oF (by omega:0<=x.parent);rw[hm];rw[ih m fu ([x.cond]++w) (by omega) (by omega) (by omega) (by omega) (by simp;omega)];simp
   ·rw[av (by omega)];obtain⟨fu,rfl⟩:∃m,fu=m+1:=⟨fu-1,by omega⟩
    have e5:(decide (x.parent>=1)&&decide (x.parent<=(n.nodes.length:Int)-1))=false:=by
     rw[bK (by omega)];rfl
    rw[rH,e1,GS,aA,e5,aS];rfl
theorem VB(n:aI)(h:Zm n)(K:b9->Option aq):∀(k v fu:Nat) (w:b9),v<=k->1<=v->v<n.nodes.length->k<fu->w.length+k<=4194304->kK n K fu (v:Int) w=K (w++(J0 n.nodes k v).map dV):=by
 have hl:=h.1;intro k
 induction k with
 |zero=>intro v fu w h1 h2;omega
 |succ k ih=>
  intro v fu w h1 h2 h3 h4 h5;obtain⟨fu,rfl⟩:∃m,fu=m+1:=⟨fu-1,by omega⟩
  have hx:n.nodes[v]?=some n.nodes[v]:=aT h3;generalize hxe:n.nodes[v]=x at*;have e3:iY n.nodes (v:Int)=some x:=by unfold iY;rw[bC (by omega),aH];exact hx
  rw[kK,hG (by omega) (by decide),aH,e3,aA,Md hx];by_cases h7:x.parent<1
  ·rw[bC h7,aH,av (by omega)];rfl
  ·rw[bK h7,aS];by_cases h6:x.parent>=(v:Int)
   ·rw[bC h6,aH,av (by omega)];rfl
   ·rw[bK h6,aS,bE ⟨by omega,by omega⟩];obtain⟨m,hm⟩:=oF (by omega:0<=x.parent);rw[hm,ih m fu (w++[(v:Int)]) (by omega) (by omega) (by omega) (by omega) (by simp;omega)];simp[dV]
theorem VC(n:aI)(h:Zm n)(us:aP)(qR:∀i∈us,i<n.nodes.length)(hul:us.length<=1048576)(K:aq->Option aq):∀(j fu:Nat) (w:aq),j<=us.length->j<fu->w.length+j<=4194304->jF n (us.map dV) K fu ((j:Int)-1) w=K (w++((us.take j).reverse.filterMap (yI n.nodes))):=by
 intro j
 induction j with
 |zero=>
  intro fu w _ hf _;obtain⟨fu,rfl⟩:∃m,fu=m+1:=⟨fu-1,by omega⟩
  rw[jF,bK (by omega),aS];simp
 |succ j ih=>
  intro fu w hj hf hw;obtain⟨fu,rfl⟩:∃m,fu=m+1:=⟨fu-1,by omega⟩
  have hlt:j<us.length:=by omega
  have h3:=qR us[j] (mM hlt);have hx:n.nodes[us[j]]?=some n.nodes[us[j]]:=aT h3;have hww:=h.2 _ (mM h3);generalize hxe:n.nodes[us[j]]=x at*;have e0:((j+1:Nat):Int)-1=(j:Int):=by omega
  have e1:iY (us.map dV) (j:Int)=some ((us[j]:Nat):Int):=by
   unfold iY;rw[bC (by omega),aH];show(us.map dV)[(j:Int).toNat]?=_;rw[tH,bU,aT hlt];rfl
  have e3:iY n.nodes ((us[j]:Nat):Int)=some x:=by unfold iY;rw[bC (by omega),aH];exact hx
  have e4:=KL x.cond (by have:=aF.dF (aM.ei hww);omega);have e5:IntKind.i64.wrap ((j:Int)-1)=(j:Int)-1:=dG (n8.i64.2 (by omega));rw[e0,jF,bC (by omega),aH,e1,aA,e3,aA,e4,aA,hG (by omega) (by decide),aH,e5,ih fu _ (by omega) (by omega) (by simp;omega)];have hc:yI n.nodes us[j]=some x.cond:=by unfold yI;rw[hx];rfl
  have ht:us.take (j+1)=us.take j++[us[j]]:=by rw[List.take_add_one,aT hlt];rfl
  rw[ht,List.reverse_append,List.filterMap_append];simp[hc]
theorem YL(n:aI)(v:Int)(h:Zm n):sB n v=some (iZ n.nodes v):=by
 have hl:=h.1;unfold sB iZ;rw[ax];by_cases h1:v<1
 ·rw[bC h1,aH,av (by omega)]
 ·rw[bK h1,aS];by_cases h2:v>=(n.nodes.length:Int)
  ·rw[bC h2,aH,av (by omega)]
  ·rw[bK h2,aS,bE ⟨by omega,by omega⟩];obtain⟨m,rfl⟩:=oF (by omega:0<=v);rw[VB n h _ m m fuel [] (bJ _) (by omega) (by omega) (by unfold fuel;omega) (by simp;omega)];have hul:=PL n.nodes m m;have e5:IntKind.i64.wrap ((((([]:b9)++(J0 n.nodes m m).map dV).map lZ).length:Int)-1)=(((J0 n.nodes m m).length:Nat):Int)-1:=by
    rw[cX,ax,ax];exact dG (n8.i64.2 (by omega))
   rw[e5,cX,VC n h (J0 n.nodes m m) (Tx n.nodes m m (by omega)) (by omega) _ (J0 n.nodes m m).length fuel [] (bJ _) (by unfold fuel;omega) (by simp;omega),List.take_length];rfl
end Go.Cx
namespace Go.Cx
open Go.RowKit Go.Proofs Tryz
def Za(k:Nat):Bytes:=[63]++Lib.itoa ((k:Int)+1)
theorem decDigits_one{u:Nat}(h:u<10):Lib.decDigits u=[UInt8.ofNat (48+u)]:=by
 rw[Lib.decDigits,dif_pos h]
theorem VV:∀i,i<6->Za i=[63,UInt8.ofNat (49+i)]
 |0,_|1,_|2,_|3,_|4,_|5,_=>by
  unfold Za Lib.itoa;rw[av (by decide),decDigits_one (by decide)];decide
 |n+6,h=>by omega
def UD(N:aU):Prop:=∀(i:Nat) p,N[i]?=some p->p.value=Za i/\kz p.var=true
theorem Lz(N:aU)(t:Bytes):Bq N t=true↔∃p∈N,p.var=t:=by simp[Bq]
theorem Q7(N:aU)(t:Bytes){p:aa}(h:p∈N):p∈jh N t:=by
 unfold jh;cases kz t&& !Bq N t<;>simp[h]
theorem Lw:∀(ts:aG) (N:aU) {p:aa},p∈N->p∈ts.foldl jh N
 | [],_,_,h=>h
 |t::ts,N,p,h=>Lw ts (jh N t) (Q7 N t h)
theorem U4{N:aU}(h:UD N)(t:Bytes):UD (jh N t):=by
 unfold jh;cases hv:kz t&& !Bq N t with
 |false=>exact h
 |true=>
  simp only[aR]at hv;intro i p hp;rw[aH]at hp;rcases dU i N.length with hlt|hge
  ·rw[ai hlt]at hp;exact h i p hp
  ·rw[au hge]at hp;cases hi:i-N.length with
   |zero=>
    rw[hi]at hp;simp at hp;subst hp;have:i=N.length:=by omega
    subst this;exact⟨rfl,hv.1⟩
   |succ m=>rw[hi]at hp;simp at hp
theorem HO:∀(ts:aG) {N:aU},UD N->UD (ts.foldl jh N)
 | [],_,h=>h
 |t::ts,_,h=>HO ts (U4 h t)
def OG(N:aU):Prop:=(N.map aa.var).Nodup
theorem Q9{N:aU}(h:OG N)(t:Bytes):OG (jh N t):=by
 unfold jh;cases hv:kz t&& !Bq N t with
 |false=>exact h
 |true=>
  simp only[aR,nL]at hv;rw[aH];unfold OG;rw[bP,bB];refine⟨h,by simp,?_⟩;intro a ha b hb e;simp at hb;subst hb;subst e;obtain⟨p,hp,he⟩:=cH.1 ha;have:=(Lz N a).2 ⟨p,hp,he⟩;rw[hv.2]at this;cases this
theorem F6:∀(ts:aG) {N:aU},OG N->OG (ts.foldl jh N)
 | [],_,h=>h
 |t::ts,_,h=>F6 ts (Q9 h t)
theorem Lu:∀(ts:aG) (N:aU) {t:Bytes},t∈ts->kz t=true->∃p∈ts.foldl jh N,p.var=t
 |x::ts,N,t,h,hv=>by
  rcases bA.1 h with rfl|h
  ·have:∃p∈jh N t,p.var=t:=by
    unfold jh;cases hh:Bq N t with
    |true=>rw[hv];exact(Lz N t).1 hh
    |false=>rw[hv];exact⟨⟨t,[63]++Lib.itoa ((N.length:Int)+1)⟩,by simp,rfl⟩
   obtain⟨p,hp,he⟩:=this;exact⟨p,Lw ts _ hp,he⟩
  ·exact Lu ts _ h hv
theorem Kt:∀ {N:aU} {p:aa},OG N->p∈N->CL N p.var=p.value
 |q::N,p,hn,hp=>by
  unfold OG at hn;rw[bO,di]at hn;rcases bA.1 hp with rfl|hp
  ·simp[CL]
  ·have hne:(q.var==p.var)=false:=by
    rw[cy];intro e;exact hn.1 (by rw[e];exact cH.2 ⟨p,hp,rfl⟩)
   rw[CL,hne,aS];exact Kt (show OG N from hn.2) hp
theorem GC:∀ {N:aU} {t:Bytes},(∀p∈N,p.var≠t)->CL N t=t
 | [],t,_=>rfl
 |q::N,t,h=>by
  have hne:(q.var==t)=false:=by rw[cy];exact h q (by simp)
  rw[CL,hne,aS];exact GC fun p hp=>h p (by simp[hp])
theorem UD.nil:UD []:=fun i p h=>by simp at h
theorem OG.nil:OG []:=by simp[OG]
theorem Lv(ts:aG):(ts.foldl jh []).length<=ts.length:=by simpa using vW ts []
theorem O7{N:aU}(h:UD N){p:aa}(hp:p∈N):∃i,i<N.length/\N[i]?=some p/\p.value=Za i/\kz p.var=true:=by
 obtain⟨i,hi⟩:=dB hp;exact⟨i,(aC.1 hi).1,hi,h i p hi⟩
theorem Sw{ts:aG}{t:Bytes}(ht:kz t=false):CL (ts.foldl jh []) t=t:=
 GC fun p hp e=>by
  obtain⟨i,_,_,_,hv⟩:=O7 (HO ts UD.nil) hp;rw[e,ht]at hv;cases hv
theorem P5:∀i,i<6->(Za i).length<=16:=by
 intro i hi;rw[VV i hi];simp
theorem Yl{ts:aG}(hl:ts.length<=5){t:Bytes}(ht:t.length<=16):(CL (ts.foldl jh []) t).length<=16:=by
 by_cases h:∃p∈ts.foldl jh [],p.var=t
 ·obtain⟨p,hp,he⟩:=h;rw[<-he,Kt (F6 ts OG.nil) hp];obtain⟨i,hi,_,hpv,_⟩:=O7 (HO ts UD.nil) hp;have:=Lv ts;rw[hpv];exact P5 i (by omega)
 ·rw[GC (fun p hp e=>h ⟨p,hp,e⟩)];exact ht
end Go.Cx
namespace Go.Cx
open Go.RowKit Go.Proofs Tryz
def Gp(c:aM):aG:=bif decide (c.kind=1)then iA c.pat.args else []
theorem RN{c:aM}:(Gp c).length<=c.wt:=by
 unfold Gp;have h2:=tE c.pat.args;have h3:=aF.dF (aM.ei (bJ c.wt));cases decide (c.kind=1)<;>simp;omega
def wj(r:aL)(n:Int):aG:=(r.conds.take n.toNat).flatMap Gp
theorem Jc{α:Type}(x:α)(xs:List α)(n:Int)(i:Nat):(x::xs).take (n-(i:Int)).toNat=if(i:Int)<n then x::xs.take (n-((i+1:Nat):Int)).toNat else []:=by
 by_cases h:(i:Int)<n
 ·rw[bE h];obtain⟨m,hm⟩:∃m,(n-(i:Int)).toNat=m+1:=⟨(n-(i:Int)).toNat -1,by omega⟩
  have:(n-((i+1:Nat):Int)).toNat=m:=by omega
  rw[hm,this];rfl
 ·rw[av h,show(n-(i:Int)).toNat=0 from by omega];rfl
theorem Bl{α β:Type}{f:α->List β}{w:α->Nat}(l:List α)(h:∀x∈l,(f x).length<=w x+2):(l.flatMap f).length<=3*rp w l:=by
 induction l with
 |nil=>simp[rp]
 |cons x l ih=>
  rw[eV,b8,lg];have h1:=h x (by simp);have h2:=ih (fun y hy=>h y (by simp[hy]));omega
theorem RO{r:aL}{n:Nat}(h:r.wt<=n)(m:Int):(wj r m).length<=3*n:=by
 unfold wj;have h1:=Bl (w:=aM.wt) (f:=Gp) (r.conds.take m.toNat) (fun c _=>by have:= @RN c;omega);have h2:rp aM.wt (r.conds.take m.toNat)<=rp aM.wt r.conds:=by
  conv=>rhs;rw[<-bp m.toNat r.conds]
  rw[O8];omega
 have h3:=aL.pP h;omega
theorem TI(a:aL)(n:Int)(i:Nat)(y:aG)(k:aG->Option aG):∀(l:aG) (j:Nat) (w:aG),w.length+l.length<=1099511627770->iG a n i y k l j w=k (l.foldl vc w):=by
 intro l
 induction l with
 |nil=>intro j w _;rfl
 |cons x l ih=>
  intro j w hw;simp only[aQ]at hw;have:=xO w x;rw[iG,Nw w x (by omega),aA,ih _ _ (by omega)];rfl
theorem Vc(a:aL)(n:Int)(k:aG->Option aG):∀(l:aq) (i:Nat) (acc:aG),(∀c∈l,c.wt<=1048576)->acc.length+rp aM.wt l<=2097152->
 fB a n k l i (eP acc)=k (eP (acc++(l.take (n-(i:Int)).toNat).flatMap Gp)):=by
 intro l
 induction l with
 |nil=>intro i acc _ _;simp[fB]
 |cons c l ih=>
  intro i acc hc hb;rw[lg]at hb;have S9:=hc c (by simp);have hv:=tE c.pat.args;have ha:=aF.dF (aM.ei (bJ c.wt));have hu:=nK (iA c.pat.args);have UJ:=nK acc;rw[fB,Jc];by_cases hi:(i:Int)<n
  ·have e1:decide (((i:Int):Int)<n)=true:=by simp[hi]
   rw[e1,aH,bE hi];by_cases hk:c.kind=1
   ·have e2:((c.kind:Int)==1)=true:=by simp[hk]
    rw[e2,aH,FG _ (aM.ei S9),aA,rZ (by omega),aH,TI _ _ _ _ _ _ _ _ (by omega),CB,ih _ _ (fun x hx=>hc x (by simp[hx])) (by simp;omega)];simp[Gp,hk]
   ·have e2:((c.kind:Int)==1)=false:=by simp[hk]
    rw[e2,aS,ih _ _ (fun x hx=>hc x (by simp[hx])) (by omega)];simp[Gp,hk]
  ·have e1:decide (((i:Int):Int)<n)=false:=by simp[hi]
   rw[e1,aS,av hi];simp
theorem Ns(r:aL)(n:Int)(h:r.wt<=1048576):jJ r n=some (eP (wj r n)):=by
 unfold jJ;have:=Vc r n (fun q=>some q) r.conds 0 [] (fun c hc=>aL.o7 h hc) (by have:=aL.pP h;simp;omega);rw[show eP []=[]from rfl]at this;rw[this];simp[wj]
theorem V6(a:aL)(n:Int)(k:aG->Option aG):∀(l:aq) (i:Nat) (w:aG),(∀c∈l,c.wt<=1048576)->w.length+rp aM.wt l<=2097152->
 eL a n k l i w=k (w++(l.take (n-(i:Int)).toNat).flatMap Gp):=by
 intro l
 induction l with
 |nil=>intro i w _ _;simp[eL]
 |cons c l ih=>
  intro i w hc hb;rw[lg]at hb;have S9:=hc c (by simp);have hv:=tE c.pat.args;have ha:=aF.dF (aM.ei (bJ c.wt));rw[eL,Jc];by_cases hi:(i:Int)<n
  ·have e1:decide (((i:Int):Int)<n)=true:=by simp[hi]
   rw[e1,aH,bE hi];by_cases hk:c.kind=1
   ·have e2:((c.kind:Int)==1)=true:=by simp[hk]
    rw[e2,aH,SX _ (by omega) (fun x hx=>aF.qH (aM.ei S9) hx),aA,TF (by omega) (by decide),aH,ih _ _ (fun x hx=>hc x (by simp[hx])) (by simp;omega)];simp[Gp,hk]
   ·have e2:((c.kind:Int)==1)=false:=by simp[hk]
    rw[e2,aS,ih _ _ (fun x hx=>hc x (by simp[hx])) (by omega)];simp[Gp,hk]
  ·have e1:decide (((i:Int):Int)<n)=false:=by simp[hi]
   rw[e1,aS,av hi,ih _ _ (fun x hx=>hc x (by simp[hx])) (by omega),show(n-((i+1:Nat):Int)).toNat=0 from by omega];simp
theorem SD(r:aL)(n:Int)(h:r.wt<=1048576):mO r n=some (eP (wj r n)):=by
 unfold mO;have hl:=RO h n;rw[V6 r n _ r.conds 0 [] (fun c hc=>aL.o7 h hc) (by have:=aL.pP h;simp;omega)];have e:([]:aG)++(r.conds.take (n-((0:Nat):Int)).toNat).flatMap Gp=wj r n:=by simp[wj]
 rw[e,KR _ (by omega)];rfl
def AV(l:aq):aG:=l.flatMap nP
def Uc(l:eG):aG:=l.flatMap fun a=>iA a.pat.args
def Yn(r:aL):aG:=AV r.conds++Uc r.cR
theorem RS(l:aq):(AV l).length<=3*rp aM.wt l:=Bl l (fun c _=>uK (bJ _))
theorem TV(a:aL)(i:Nat)(y:aG)(k:aG->Option aG):∀(l:aG) (j:Nat) (w:aG),w.length+l.length<=1099511627770->j5 a i y k l j w=k (l.foldl vc w):=by
 intro l
 induction l with
 |nil=>intro j w _;rfl
 |cons x l ih=>
  intro j w hw;simp only[aQ]at hw;have:=xO w x;rw[j5,Nw w x (by omega),aA,ih _ _ (by omega)];rfl
theorem TX(a:aL)(i:Nat)(y:aG)(k:aG->Option aG):∀(l:aG) (j:Nat) (w:aG),w.length+l.length<=1099511627770->j6 a i y k l j w=k (l.foldl vc w):=by
 intro l
 induction l with
 |nil=>intro j w _;rfl
 |cons x l ih=>
  intro j w hw;simp only[aQ]at hw;have:=xO w x;rw[j6,Nw w x (by omega),aA,ih _ _ (by omega)];rfl
theorem TU(a:aL)(k:aG->Option aG):∀(l:aq) (i:Nat) (acc:aG),(∀c∈l,c.wt<=1048576)->acc.length+3*rp aM.wt l<=16777216->
 gX a k l i (eP acc)=k (eP (acc++AV l)):=by
 intro l
 induction l with
 |nil=>intro i acc _ _;simp[gX,AV]
 |cons c l ih=>
  intro i acc hc hb;rw[lg]at hb;have S9:=hc c (by simp);have h1:=uK (bJ c.wt);have hu:=nK (nP c);have UJ:=nK acc;rw[gX,Nt c S9,aA,rZ (by omega),aH,TV _ _ _ _ _ _ _ (by omega),CB,ih _ _ (fun x hx=>hc x (by simp[hx])) (by simp;omega)];simp[AV]
theorem TW(a:aL)(k:aG->Option aG):∀(l:eG) (i:Nat) (acc:aG),(∀c∈l,c.wt<=1048576)->acc.length+3*rp Action.wt l<=16777216->
 fm a k l i (eP acc)=k (eP (acc++Uc l)):=by
 intro l
 induction l with
 |nil=>intro i acc _ _;simp[fm,Uc]
 |cons c l ih=>
  intro i acc hc hb;rw[lg]at hb;have S9:=hc c (by simp);have h1:=tE c.pat.args;have h2:=aF.dF (Action.ei (bJ c.wt));have hu:=nK (iA c.pat.args);have UJ:=nK acc;rw[fm,FG _ (Action.ei S9),aA,rZ (by omega),aH,TX _ _ _ _ _ _ _ (by omega),CB,ih _ _ (fun x hx=>hc x (by simp[hx])) (by simp;omega)];simp[Uc]
theorem Yz(r:aL)(h:r.wt<=1048576):pZ r=some (eP (Yn r)):=by
 unfold pZ;have h3:=aL.pP h;have h4:=aL.EK h;have hl:=RS r.conds;have:=TU r (fun q=>fm r (fun q=>some q) r.cR 0 q) r.conds 0 [] (fun c hc=>aL.o7 h hc) (by simp;omega);rw[show eP []=[]from rfl]at this;rw[this];simp only[cX];rw[TW r _ r.cR 0 _ (fun c hc=>aL.Jv h hc) (by omega)];rfl
theorem a0b(l:aq)(hc:∀c∈l,c.wt<=1048576)(hb:rp aM.wt l<=1048576):nT l=some (l.flatMap fun c=>eP (nP c)):=by
 unfold nT;have:∀(r:aq) (i:Nat) (w:aG),(∀c∈r,c.wt<=1048576)->w.length+3*rp aM.wt r<=16777216->fU l (fun q=>some q) r i w=some (w++r.flatMap fun c=>eP (nP c)):=by
  intro r
  induction r with
  |nil=>intro i w _ _;simp[fU]
  |cons c r ih=>
   intro i w hc hb;rw[lg]at hb;have h1:=uK (bJ c.wt);have hu:=nK (nP c);rw[fU,NT c (hc c (by simp)),aA,TF (by omega) (by decide),aH,ih _ _ (fun x hx=>hc x (by simp[hx])) (by simp;omega)];simp
 exact this l 0 [] hc (by simp;omega)
theorem RR(l:aq):(l.flatMap fun c=>eP (nP c)).length<=3*rp aM.wt l:=Bl l (fun c _=>by
 have h1:=uK (bJ c.wt);have hu:=nK (nP c);omega)
theorem a2Y(l:aq)(b:aG):eP ((l.flatMap fun c=>eP (nP c))++b)=eP (AV l++b):=CA (fun x=>by simp[AV,rP])
def Ph(v:Bytes)(k:Int):aq->Nat->Bool
 | [],_=>false
 |c::cs,i=>(decide (((i:Nat):Int)≠k)&&(nP c).contains v)||Ph v k cs (i+1)
def Lm(r:aL)(k:Int)(v:Bytes):Bool:=Ph v k r.conds 0||r.cR.any fun a=>(iA a.pat.args).contains v
theorem Ip{l:aG}{v:Bytes}(h:kz v=true):l.contains v=(iA l).contains v:=by
 rw[bX];simp[iA,h]
theorem a1I(r:aL)(k:Int)(v:Bytes)(h:r.wt<=1048576):kU r k v=some (Lm r k v):=by
 unfold kU Lm;have k2:∀(l:eG) (i:Nat),(∀c∈l,c.wt<=1048576)->gL r v (some false) l i=some (l.any fun a=>(iA a.pat.args).contains v):=by
  intro l
  induction l with
  |nil=>intro i _;rfl
  |cons a l ih=>
   intro i hc;rw[gL,FG _ (Action.ei (hc a (by simp))),aA,QN,aA,kn,ih _ (fun x hx=>hc x (by simp[hx])),uZ];cases(iA a.pat.args).contains v<;>rfl
 have k1:∀(l:aq) (i:Nat),(∀c∈l,c.wt<=1048576)->ew r k v (some (r.cR.any fun a=>(iA a.pat.args).contains v)) l i=some (Ph v k l i||r.cR.any fun a=>(iA a.pat.args).contains v):=by
  intro l
  induction l with
  |nil=>intro i _;rfl
  |cons c l ih=>
   intro i hc;rw[ew,Nt _ (hc c (by simp)),aA,QN,aA,kn,ih _ (fun x hx=>hc x (by simp[hx]))];simp only[Ph,bne,jV];by_cases hi:((i:Nat):Int)=k
   ·simp[hi]
   ·cases(nP c).contains v<;>simp[hi]
 rw[k2 _ _ (fun c hc=>aL.Jv h hc),k1 _ _ (fun c hc=>aL.o7 h hc)]
theorem a3s(r:aL)(k:Int)(v:Bytes)(hv:kz v=true)(h:r.wt<=1048576):jc r k v=some (Lm r k v):=by
 unfold jc Lm;have k2:∀(l:eG) (i:Nat),eO r v (some false) l i=some (l.any fun a=>(iA a.pat.args).contains v):=by
  intro l
  induction l with
  |nil=>intro i;rfl
  |cons a l ih=>
   intro i;rw[eO,VA,aA,Ip hv,ih,uZ];cases(iA a.pat.args).contains v<;>rfl
 have k1:∀(l:aq) (i:Nat),(∀c∈l,c.wt<=1048576)->dQ r k v (some (r.cR.any fun a=>(iA a.pat.args).contains v)) l i=some (Ph v k l i||r.cR.any fun a=>(iA a.pat.args).contains v):=by
  intro l
  induction l with
  |nil=>intro i _;rfl
  |cons c l ih=>
   intro i hc;rw[dQ,NT _ (hc c (by simp)),aA,VA,aA,kn,ih _ (fun x hx=>hc x (by simp[hx]))];simp only[Ph,bne,jV];by_cases hi:((i:Nat):Int)=k
   ·simp[hi]
   ·cases(nP c).contains v<;>simp[hi]
 rw[k2,k1 _ _ (fun c hc=>aL.o7 h hc)]
def Gw(r:aL)(i:Nat)(c:aM)(v:Bytes):Bool:=decide (c.kind=1)||(wj r i).contains v||(decide (c.kind=2)&& !Lm r i v)
def ot(r:aL):aq->Nat->Bool
 | [],_=>true
 |c::cs,i=>(oJ c&&(!decide (i=0)||decide (c.kind=1))&&(eP (nP c)).all (Gw r i c))&&ot r cs (i+1)
def HW(r:aL):Bool:=r.cR.all fun a=>HV a&&(iA a.pat.args).all fun v=>(wj r r.conds.length).contains v
def hO(r:aL):Bool:=tZ r.name&&(decide (0<=r.prio)&&decide (r.prio<=9))&&(decide (1<=(r.conds.length:Int))&&decide ((r.conds.length:Int)<=4))&&(decide (1<=(r.cR.length:Int))&&decide ((r.cR.length:Int)<=2))&&
 (ot r r.conds 0&&(HW r&&decide (((eP (AV r.conds)).length:Int)<=6)))
theorem J5(l:aG)(p:Bytes->Bool):(eP l).all p=l.all p:=by
 rw[bX];simp[aj,rP]
theorem Ug(r:aL)(n:Int){v:Bytes}(h:v∈wj r n):v∈AV r.conds:=by
 unfold wj at h;obtain⟨c,hc,hv⟩:=bZ.1 h;refine bZ.2 ⟨c,bw hc,?_⟩;unfold Gp at hv;cases hk:decide (c.kind=1)with
 |false=>rw[hk]at hv;cases hv
 |true=>
  rw[hk]at hv;simp only[aH]at hv;unfold nP;rw[Jf];exact aV.2 (.inl hv)
theorem Mv{r:aL}(h:HW r=true):eP (Yn r)=eP (AV r.conds):=by
 refine CA (fun x=>?_);unfold Yn;simp only[aV];constructor
 ·rintro(hx|hx)
  ·exact hx
  ·obtain⟨a,ha,hv⟩:=bZ.1 hx;unfold HW at h;have:=aj.1 h a ha;simp only[aR,aj]at this;have:=this.2 x hv;exact Ug r _ (by simpa using this)
 ·exact .inl
theorem Vl(r:aL)(y:aG)(i:Nat)(c:aM)(l:aG)(k:Option Bool)(hc:c.wt<=1048576)(hr:r.wt<=1048576)(hcb:oJ c=true):∀(rest:aG) (j:Nat),fK r y i c (eP (wj r i)) l k rest j=bif rest.all (Gw r i c)then k else some false:=by
 have hk:=DX hcb;intro rest
 induction rest with
 |nil=>intro j;rfl
 |cons v rest ih=>
  intro j;rw[fK,QN,aA,kn,Ta c hc,aA,a1I r _ v hr,aA,ih,dX];unfold FI Gw;rw[hcb];by_cases h1:c.kind=1
  ·simp[h1]
  by_cases h2:c.kind=2
  ·cases(wj r i).contains v<;>cases Lm r i v<;>simp[h2]
  have h3:c.kind>=3:=by omega
  cases(wj r i).contains v<;>simp[h1,h2,h3]
theorem Vm(r:aL)(y:aG)(i:Nat)(c:aM)(l:aG)(k:Option Bool)(hc:c.wt<=1048576)(hr:r.wt<=1048576)(hcb:oJ c=true):∀(rest:aG) (j:Nat),fL r y i c (eP (wj r i)) l k rest j=bif rest.all (Gw r i c)then k else some false:=by
 have hk:=DX hcb;intro rest
 induction rest with
 |nil=>intro j;rfl
 |cons v rest ih=>
  intro j;rw[fL,QN,aA,kn,Ta c hc,aA,a1I r _ v hr,aA,ih,dX];unfold FI Gw;rw[hcb];by_cases h1:c.kind=1
  ·simp[h1]
  by_cases h2:c.kind=2
  ·cases(wj r i).contains v<;>cases Lm r i v<;>simp[h2]
  have h3:c.kind>=3:=by omega
  cases(wj r i).contains v<;>simp[h1,h2,h3]
theorem Vk(r:aL)(y:aG)(k:Option Bool)(hr:r.wt<=1048576):∀(rest:aq) (i:Nat),(∀c∈rest,c.wt<=1048576)->jK r y k rest i=bif ot r rest i then k else some false:=by
 intro rest
 induction rest with
 |nil=>intro i _;rfl
 |cons c rest ih=>
  intro i h;have hc:=h c (by simp);have hl:=uK hc;have hu:=nK (nP c);rw[jK,TL c hc,aA,ot];cases hcb:oJ c with
  |false=>rfl
  |true=>
   rw[Ns r _ hr,Nt c hc,ih _ (fun x hx=>h x (by simp[hx]))];simp only[aA,rZ (show(eP (nP c)).length<=1099511627776 by omega),aH];rw[Vl r y i c _ _ hc hr hcb,Vm r y i c _ _ hc hr hcb];simp only[bne,jV];have e0:decide (((i:Int):Int)=0)=decide (i=0):=by rw[bX];simp
   rw[e0];cases decide (i=0)<;>cases decide (c.kind=1)<;>cases(eP (nP c)).all (Gw r i c)<;>simp
theorem Vo(r:aL)(y:aG)(i:Nat)(l:aG)(k:Option Bool):∀(rest:aG) (j:Nat),kR r y i l k rest j=bif rest.all (fun v=>y.contains v)then k else some false:=
 fun rest j=>Pb (f:=fun v=>fM y v) (L:=kR r y i l k) (fun _=>rfl) (fun _ _ _=>rfl) rest j (fun v _=>QN y v)
theorem Vn(r:aL)(b:aG)(k:Option Bool):∀(rest:eG) (i:Nat),(∀a∈rest,a.wt<=1048576)->kQ r (eP b) k rest i=bif rest.all (fun a=>HV a&&(iA a.pat.args).all fun v=>b.contains v)then k else some false:=by
 intro rest
 induction rest with
 |nil=>intro i _;rfl
 |cons a rest ih=>
  intro i h;have ha:=h a (by simp);have h1:=tE a.pat.args;have h2:=aF.dF (Action.ei ha);have hu:=nK (iA a.pat.args);rw[kQ,a4C a ha,aA,FG _ (Action.ei ha),aA,rZ (by omega),ih _ (fun x hx=>h x (by simp[hx])),Vo,dX,J5];have e:((iA a.pat.args).all fun v=>(eP b).contains v)=(iA a.pat.args).all fun v=>b.contains v:=by
   congr 1;funext v;exact kn b v
  rw[e];cases HV a<;>cases(iA a.pat.args).all (fun v=>b.contains v)<;>simp
theorem XA(r:aL)(h:r.wt<=1048576):kX r=some (hO r):=by
 unfold kX;simp only[TR _ (aL.P4 h),aA,GS,ax];rw[Ns r _ h];simp only[aA];rw[Vk r _ _ h _ _ (fun c hc=>aL.o7 h hc),Vn r _ _ _ _ (fun a ha=>aL.Jv h ha),Yz r h];simp only[aA,ax];have hab:(r.cR.all fun a=>HV a&&(iA a.pat.args).all fun v=>(wj r r.conds.length).contains v)=HW r:=rfl;rw[hab];unfold hO;have g1:decide (r.prio>=0)=decide (0<=r.prio):=rfl;have g2:decide ((r.conds.length:Int)>=1)=decide (1<=(r.conds.length:Int)):=rfl;have g3:decide ((r.cR.length:Int)>=1)=decide (1<=(r.cR.length:Int)):=rfl;rw[g1,g2,g3];cases ha:HW r with
 |false=>cases tZ r.name<;>cases(decide (0<=r.prio)&&decide (r.prio<=9))<;>cases(decide (1<=(r.conds.length:Int))&&decide ((r.conds.length:Int)<=4))<;>cases(decide (1<=(r.cR.length:Int))&&decide ((r.cR.length:Int)<=2))<;>cases ot r r.conds 0<;>rfl
 |true=>
  rw[Mv ha];cases tZ r.name<;>cases(decide (0<=r.prio)&&decide (r.prio<=9))<;>cases(decide (1<=(r.conds.length:Int))&&decide ((r.conds.length:Int)<=4))<;>cases(decide (1<=(r.cR.length:Int))&&decide ((r.cR.length:Int)<=2))<;>cases ot r r.conds 0<;>simp
theorem YF(r:aL)(i:Nat)(c:aM)(l:aG)(k:Option Bool)(hr:r.wt<=1048576)(hcb:oJ c=true):∀(rest:aG) (j:Nat),(∀v∈rest,kz v=true)->fc r (i:Int) c (eP (wj r i)) l k rest j=bif rest.all (Gw r i c)then k else some false:=by
 have hk:=DX hcb;intro rest
 induction rest with
 |nil=>intro j _;rfl
 |cons v rest ih=>
  intro j hv;rw[fc,VA,aA,kn,a3s r _ v (hv v (by simp)) hr,aA,ih _ (fun x hx=>hv x (by simp[hx])),dX];unfold Gw;simp only[bne,jV];by_cases h1:c.kind=1
  ·simp[h1]
  by_cases h2:c.kind=2
  ·cases(wj r i).contains v<;>cases Lm r i v<;>simp[h2]
  cases(wj r i).contains v<;>simp[h1,h2]
theorem a0e(r:aL)(i:Nat)(c:aM)(hr:r.wt<=1048576)(hi:r.conds[i]?=some c)(hcb:oJ c=true):nH r (i:Int)=some ((eP (nP c)).all (Gw r i c)):=by
 unfold nH;have hc:=aL.o7 hr (aE hi);have hl:=uK hc;have hu:=nK (nP c);have e:iY r.conds (i:Int)=some c:=by unfold iY;simp[hi]
 rw[e,aA,SD r _ hr,aA,NT c hc,aA,rZ (by omega),aH,YF r i c _ _ hr hcb _ _ (fun v hv=>by
  rw[rP]at hv;unfold nP iA at hv;exact(fq.1 hv).2)]
 cases(eP (nP c)).all (Gw r i c)<;>rfl
theorem VD(r:aL)(k:Option Bool)(hr:r.wt<=1048576):∀(rest pre:aq),r.conds=pre++rest->gq r k rest pre.length=bif ot r rest pre.length then k else some false:=by
 intro rest
 induction rest with
 |nil=>intro pre _;rfl
 |cons c rest ih=>
  intro pre h;have hm:c∈r.conds:=by rw[h];simp
  have hc:=aL.o7 hr hm;have hi:r.conds[pre.length]?=some c:=by rw[h];simp
  have t:=ih (pre++[c]) (by rw[h];simp);simp only[b8,aQ,bS]at t;rw[gq,SJ c hc,aA,ot];cases hcb:oJ c with
  |false=>rfl
  |true=>
   rw[a0e r _ c hr hi hcb,aA,t];simp only[bne,jV];have e0:decide ((((pre.length:Nat):Int):Int)=0)=decide (pre.length=0):=by rw[bX];simp
   rw[e0];cases decide (pre.length=0)<;>cases decide (c.kind=1)<;>cases(eP (nP c)).all (Gw r pre.length c)<;>simp
theorem VF(r:aL)(y:aG)(i:Nat)(l:aG)(k:Option Bool):∀(rest:aG) (j:Nat),kJ r y i l k rest j=bif rest.all (fun v=>y.contains v)then k else some false:=
 fun rest j=>Pb (f:=fun v=>ja y v) (L:=kJ r y i l k) (fun _=>rfl) (fun _ _ _=>rfl) rest j (fun v _=>VA y v)
theorem VE(r:aL)(b:aG)(k:Option Bool):∀(rest:eG) (i:Nat),(∀a∈rest,a.wt<=1048576)->kI r (eP b) k rest i=bif rest.all (fun a=>HV a&&(iA a.pat.args).all fun v=>b.contains v)then k else some false:=by
 intro rest
 induction rest with
 |nil=>intro i _;rfl
 |cons a rest ih=>
  intro i h;have ha:=h a (by simp);have h1:=tE a.pat.args;have h2:=aF.dF (Action.ei ha);rw[kI,a3o a ha,aA,SX _ (by omega) (fun x hx=>aF.qH (Action.ei ha) hx),aA,rZ (by omega),ih _ (fun x hx=>h x (by simp[hx])),VF,dX];have e:((iA a.pat.args).all fun v=>(eP b).contains v)=(iA a.pat.args).all fun v=>b.contains v:=by
   congr 1;funext v;exact kn b v
  rw[e];cases HV a<;>cases(iA a.pat.args).all (fun v=>b.contains v)<;>simp
theorem a0n(r:aL)(h:r.wt<=1048576):s9 r=some (hO r):=by
 unfold s9;have hcu:=RR r.conds;have hcl:=aL.pP h;rw[show gq r _ r.conds 0=_ from VD r _ h r.conds [] rfl,SD r _ h,aA,VE r _ _ _ _ (fun a ha=>aL.Jv h ha),a0b _ (fun c hc=>aL.o7 h hc) hcl,aA,KR _ (by omega),SP _ (aL.P4 h)];have e:=a2Y r.conds [];simp only[eR]at e;rw[e];simp only[aA,ax,bS];have hab:(r.cR.all fun a=>HV a&&(iA a.pat.args).all fun v=>(wj r r.conds.length).contains v)=HW r:=rfl;rw[hab];unfold hO;have g1:decide (0<=r.prio)= !decide (r.prio<0):=by rw[bX];simp
 have g2:decide (r.prio<=9)= !decide (r.prio>9):=by rw[bX];simp
 have g3:decide (1<=(r.conds.length:Int))= !decide ((r.conds.length:Int)<1):=by rw[bX];simp
 have g4:decide ((r.conds.length:Int)<=4)= !decide ((r.conds.length:Int)>4):=by rw[bX];simp
 have g5:decide (1<=(r.cR.length:Int))= !decide ((r.cR.length:Int)<1):=by rw[bX];simp
 have g6:decide ((r.cR.length:Int)<=2)= !decide ((r.cR.length:Int)>2):=by rw[bX];simp
 rw[g1,g2,g3,g4,g5,g6];cases tZ r.name
 ·rfl
 cases decide (r.prio<0)
 case true=>rfl
 cases decide (r.prio>9)
 case true=>rfl
 cases decide ((r.conds.length:Int)<1)
 case true=>rfl
 cases decide ((r.conds.length:Int)>4)
 case true=>rfl
 cases decide ((r.cR.length:Int)<1)
 case true=>rfl
 cases decide ((r.cR.length:Int)>2)
 case true=>rfl
 cases ot r r.conds 0
 ·rfl
 cases HW r
 ·rfl
 simp
def z7(name:Bytes):ar->Nat->Int
 | [],_=> -1
 |r::rs,i=>bif r.name==name then(i:Int)else z7 name rs (i+1)
def Gn(all:ar):ar->Nat->Bool
 | [],_=>true
 |r::rs,i=>(hO r&&decide (z7 r.name all 0=(i:Int)))&&Gn all rs (i+1)
def rE(l:ar):Bool:=Gn l l 0&&decide ((l.length:Int)<=6)
theorem a1J(l:ar)(n:Bytes):vS l n=some (z7 n l 0):=by
 unfold vS;have:∀(r:ar) (i:Nat),p6 l n (some (-1)) r i=some (z7 n r i):=by
  intro r
  induction r with
  |nil=>intro i;rfl
  |cons x r ih=>intro i;rw[p6,ih,z7];cases x.name==n<;>rfl
 exact this l 0
theorem a0c(l:ar)(n:Bytes):pS l n=some (z7 n l 0):=by
 unfold pS;have:∀(r:ar) (i:Nat),ij l n (some (-1)) r i=some (z7 n r i):=by
  intro r
  induction r with
  |nil=>intro i;rfl
  |cons x r ih=>intro i;rw[ij,ih,z7];cases x.name==n<;>rfl
 exact this l 0
theorem a4E(l:ar)(h:rp aL.wt l<=1048576):vR l=some (rE l):=by
 unfold vR;have:∀(r:ar) (i:Nat) (k:Option Bool),(∀x∈r,x.wt<=1048576)->oz l k r i=bif Gn l r i then k else some false:=by
  intro r
  induction r with
  |nil=>intro i k _;rfl
  |cons x r ih=>
   intro i k hx;rw[oz,XA x (hx x (by simp)),aA,a1J,aA,ih _ _ (fun y hy=>hx y (by simp[hy])),Gn];simp only[bne,jV];cases hO x<;>cases decide (z7 x.name l 0=(i:Int))<;>simp
 rw[this _ _ _ (fun x hx=>by have:=qd (w:=aL.wt) hx;omega),ax,rE];cases Gn l l 0<;>rfl
theorem a0Y(l:ar)(h:rp aL.wt l<=1048576):nF l=some (rE l):=by
 unfold nF;have:∀(r:ar) (i:Nat) (k:Option Bool),(∀x∈r,x.wt<=1048576)->ia l k r i=bif Gn l r i then k else some false:=by
  intro r
  induction r with
  |nil=>intro i k _;rfl
  |cons x r ih=>
   intro i k hx;rw[ia,a0n x (hx x (by simp)),aA,a0c,aA,ih _ _ (fun y hy=>hx y (by simp[hy])),Gn];simp only[bne,jV];cases hO x<;>cases decide (z7 x.name l 0=(i:Int))<;>simp
 rw[this _ _ _ (fun x hx=>by have:=qd (w:=aL.wt) hx;omega),ax,rE];have g:decide ((l.length:Int)<=6)= !decide ((l.length:Int)>6):=by rw[bX];simp
 rw[g];cases Gn l l 0<;>cases decide ((l.length:Int)>6)<;>rfl
end Go.Cx
namespace Go.Cx
open Go.RowKit Go.Proofs Tryz
theorem P7{α β:Type}[DecidableEq β]{f:α->α->Option Bool}{g:α->β}{a b:List α}{k:Option Bool}{L:List α->Nat->Option Bool}(hl:a.length=b.length)(rO:∀i,L [] i=k)
 (rA:∀x xs i,L (x::xs) i=(iY b (i:Int)).bind fun y=>(f x y).bind fun r=>bif !r then some false else L xs (i+1)) (hf:∀x y,f x y=some (decide (g x=g y))):
 L a 0=bif decide (a.map g=b.map g)then k else some false:=by
 have key:∀(ra rb pa pb:List α),a=pa++ra->b=pb++rb->pa.length=pb.length->L ra pa.length=bif decide (ra.map g=rb.map g)then k else some false:=by
  intro ra
  induction ra with
  |nil=>
   intro rb pa pb h1 h2 h3;rw[rO];have:rb=[]:=by
    have:=congrArg List.length h1;have:=congrArg List.length h2;simp at*;apply cI;omega
   subst this;simp
  |cons x xs ih=>
   intro rb pa pb h1 h2 h3;cases rb with
   |nil=>
    exfalso;have:=congrArg List.length h1;have:=congrArg List.length h2;simp at*;omega
   |cons y ys=>
    have e1:iY b (pa.length:Int)=some y:=by rw[h3];exact wC h2
    rw[rA,e1,aA,hf,aA];have:=ih ys (pa++[x]) (pb++[y]) (by rw[h1];simp) (by rw[h2];simp) (by simp[h3]);simp only[b8,aQ,bS]at this;rw[this];by_cases hxy:g x=g y
    ·simp[hxy]
    ·simp[hxy]
 exact key a b [] [] rfl rfl rfl
theorem KW{α:Type}{c:α->aK}(a b:List α):((((a.map c).length:Int):Int) != ((b.map c).length:Int))= !decide (a.length=b.length):=by
 rw[bX];simp;omega
theorem map_id'{α:Type}(l:List α):l.map (fun x=>x)=l:=by simp
theorem YO(a b:aL):nG a b=some (decide (a=b)):=by
 have k2:∀(k:Option Bool),a.cR.length=b.cR.length->gP a b k a.cR 0=bif decide (a.cR=b.cR)then k else some false:=fun k hl=>by
  have:=P7 (g:=fun x:Action=>x) (f:=fun x y:Action=>bif x.kind != y.kind then some false else ec x.pat y.pat) (k:=k) (L:=gP a b k) hl (fun _=>rfl) (fun x xs i=>by
   rw[gP];congr 1;funext y;cases(x.kind != y.kind)<;>rfl) (fun x y=>by
   obtain⟨x0,x1⟩:=x;obtain⟨y0,y1⟩:=y;simp only[I2,bne,jV];by_cases h0:x0=y0<;>by_cases h1:x1=y1<;>simp[h0,h1])
  rw[map_id',map_id']at this;exact this
 have k1:∀(k:Option Bool),a.conds.length=b.conds.length->ir a b k a.conds 0=bif decide (a.conds=b.conds)then k else some false:=fun k hl=>by
  have:=P7 (g:=fun x:aM=>x) (f:=iW) (k:=k) (L:=ir a b k) hl (fun _=>rfl) (fun _ _ _=>rfl) KP;rw[map_id',map_id']at this;exact this
 unfold nG;rw[KW,KW];obtain⟨a0,a1,a2,a3⟩:=a;obtain⟨b0,b1,b2,b3⟩:=b;simp only at k1 k2⊢;simp only[bne,jV,Bool.not_not];by_cases h0:a0=b0;rotate_left
 ·simp[h0]
 by_cases h1:a1=b1;rotate_left
 ·simp[h1]
 by_cases h2:a2.length=b2.length;rotate_left
 ·have:a2≠b2:=fun e=>h2 (by rw[e])
  simp[h2,this]
 by_cases h3:a3.length=b3.length;rotate_left
 ·have:a3≠b3:=fun e=>h3 (by rw[e])
  simp[h3,this]
 rw[k1 _ h2,k2 _ h3];by_cases h4:a2=b2<;>by_cases h5:a3=b3<;>simp[h0,h1,h2,h3,h4,h5]
theorem VG(a b:ar):oT a b=some (decide (a=b)):=by
 unfold oT;exact Xa (c:=aL.c) (f:=nG) (fun k=>jt a b k) (fun _ _=>rfl) (fun _ _ _ _=>rfl) YO
theorem Sz(x y:aa):((x.var:Bytes)==y.var&&(x.value:Bytes)==y.value)=decide (x=y):=by
 obtain⟨x0,x1⟩:=x;obtain⟨y0,y1⟩:=y;simp only[jV];by_cases h0:x0=y0<;>by_cases h1:x1=y1<;>simp[h0,h1]
theorem YM(a b:aU):mS a b=some (decide (a=b)):=by
 unfold mS;exact Xa (c:=aa.c) (f:=fun x y=>some (decide (x=y))) (fun k=>iD a b k) (fun _ _=>rfl) (fun k x xs i=>by rw[iD];congr 1;funext y;rw[Sz];rfl) (fun _ _=>rfl)
theorem VH(a b:ay):lD a b=some (decide (a=b)):=by
 unfold lD;exact Xa (c:=aW.c) (f:=fun x y=>(gu x.facts y.facts).bind fun r=>bif !r then some false else mS x.bind y.bind) (fun k=>gU a b k) (fun _ _=>rfl) (fun k x xs i=>by
  rw[gU];congr 1;funext y;rw[HJ,aA,aA];cases decide (x.facts=y.facts)<;>rfl) (fun x y=>by
  obtain⟨x0,x1⟩:=x;obtain⟨y0,y1⟩:=y;simp only[HJ,YM,aA];by_cases h0:x0=y0<;>by_cases h1:x1=y1<;>simp[h0,h1])
def Ka(a b:aI):Bool:=decide (a.rules=b.rules)&&(decide (a.ends=b.ends)&&(decide (a.facts=b.facts)&&(decide (a.bG=b.bG)&&decide (a.nodes=b.nodes))))
theorem YI(a b:aI):iC a b=some (Ka a b):=by
 unfold iC;simp only[VG,YN,HJ,aA,KW];by_cases h1:a.bG.length=b.bG.length;rotate_left
 ·have:a.bG≠b.bG:=fun e=>h1 (by rw[e])
  simp only[h1,Ka,this,decide_false,cJ,aH,Bool.false_and];cases decide (a.rules=b.rules)<;>cases decide (a.ends=b.ends)<;>cases decide (a.facts=b.facts)<;>rfl
 by_cases h2:a.nodes.length=b.nodes.length;rotate_left
 ·have:a.nodes≠b.nodes:=fun e=>h2 (by rw[e])
  simp only[h1,h2,Ka,this,decide_true,decide_false,cJ,bV,aH,aS,wU];cases decide (a.rules=b.rules)<;>cases decide (a.ends=b.ends)<;>cases decide (a.facts=b.facts)<;>rfl
 have k1:=fun k=>P7 (g:=fun x:ah=>x) (f:=fun x y:ah=>(ec x.shape y.shape).bind fun r=>bif !r then some false else gu x.facts y.facts) (k:=k) (L:=fY a b k) h1 (fun _=>rfl) (fun x xs i=>by
  rw[fY];congr 1;funext y;rw[I2,aA,aA];cases decide (x.shape=y.shape)<;>rfl) (fun x y=>by
  obtain⟨x0,x1⟩:=x;obtain⟨y0,y1⟩:=y;simp only[I2,HJ,aA];by_cases q0:x0=y0<;>by_cases q1:x1=y1<;>simp[q0,q1])
 have k2:=fun k=>P7 (g:=fun x:Node=>x) (f:=fun x y:Node=>bif x.parent != y.parent then some false else bif x.gB != y.gB then some false else(iW x.cond y.cond).bind fun r=>bif !r then some false else lD x.tokens y.tokens) (k:=k) (L:=fZ a b k) h2 (fun _=>rfl) (fun x xs i=>by
  rw[fZ];congr 1;funext y;rw[KP,aA,aA];cases(x.parent != y.parent)<;>cases(x.gB != y.gB)<;>cases decide (x.cond=y.cond)<;>rfl) (fun x y=>by
  obtain⟨x0,x1,x2,x3⟩:=x;obtain⟨y0,y1,y2,y3⟩:=y;simp only[KP,VH,aA,bne,jV];by_cases q0:x0=y0<;>by_cases q1:x1=y1<;>by_cases q2:x2=y2<;>by_cases q3:x3=y3<;>simp[q0,q1,q2,q3])
 rw[k1,k2,map_id',map_id',map_id',map_id',Ka];simp only[h1,h2,decide_true,bV,aS];cases decide (a.rules=b.rules)<;>cases decide (a.ends=b.ends)<;>cases decide (a.facts=b.facts)<;>cases decide (a.bG=b.bG)<;>cases decide (a.nodes=b.nodes)<;>rfl
end Go.Cx
namespace Go.Cx
open Go.RowKit Go.Proofs Tryz
def vC(s:Bytes):Option Nat:=if 1<=s.length/\s.length<=4 then(match Lib.decFrom 0 s with|some n=>if Lib.decDigits n=s then some n else none|none=>none)else none
def pI(s:Bytes):Int×Bool:=match vC s with|some n=>((n:Int),true)|none=>(0,false)
theorem RV:∀(u:Nat),∀b∈Lib.decDigits u,48<=b.toNat/\b.toNat<=57:=by
 intro u
 induction u using Nat.strongRecOn with
 |_ u ih=>
  have hb:∀v:Nat,v<10->48<=(UInt8.ofNat (48+v)).toNat/\(UInt8.ofNat (48+v)).toNat<=57:=by
   intro v hv;have:(UInt8.ofNat (48+v)).toNat=48+v:=by simp;omega
   omega
  intro b hm;rw[Lib.decDigits]at hm;split at hm
  ·rename_i h10;simp only[cZ]at hm;subst hm;exact hb u h10
  ·rename_i h10;rcases aV.1 hm with hm|hm
   ·exact ih (u/10) (by omega) b hm
   ·simp only[cZ]at hm;subst hm;exact hb (u%10) (by omega)
theorem Vh(a:Bytes)(k:Int->Option (Int×Bool))(ha:a.length<=4):∀(rest pre:Bytes) (acc:Nat),a=pre++rest->acc<10^pre.length->∀n,rest.length<n->
 gW a k n (acc:Int) (pre.length:Int)=(match Lib.decFrom acc rest with|some m=>k (m:Int)|none=>some (0,false)):=by
 intro rest
 induction rest with
 |nil=>
  intro pre acc h _ n hn;obtain⟨m,rfl⟩:∃m,n=m+1:=⟨n-1,by simp at hn;omega⟩
  have e1:decide ((pre.length:Int)<(a.length:Int))=false:=by simp[h]
  rw[gW,e1];rfl
 |cons x xs ih=>
  intro pre acc h hacc n hn;obtain⟨m,rfl⟩:∃m,n=m+1:=⟨n-1,by simp at hn;omega⟩
  have hl:a.length=pre.length+(xs.length+1):=by rw[h];simp
  have e1:decide ((pre.length:Int)<(a.length:Int))=true:=by rw[hl];simp;omega
  have e4:IntKind.i64.wrap ((pre.length:Int)+1)=((pre++[x]).length:Int):=by rw[Ie (by omega)];simp
  have h10:acc<10000:=cw hacc (qh (by omega) (show pre.length<=4 by omega));have hx:=x.toNat_lt;rw[gW,e1,aH,wC h,aA,e4];by_cases c1:(x.toNat:Int)<48
  ·have:Lib.digitVal x=none:=by unfold Lib.digitVal;rw[av (by omega)]
   simp only[Lib.decFrom,this];rw[bC c1,aH]
  ·by_cases c2:(x.toNat:Int)>57
   ·have:Lib.digitVal x=none:=by unfold Lib.digitVal;rw[av (by omega)]
    simp only[Lib.decFrom,this];rw[bK c1,aS,bC c2,aH]
   ·have hd:Lib.digitVal x=some (x.toNat-48):=by unfold Lib.digitVal;rw[bE (by omega)]
    have e5:IntKind.i64.wrap ((IntKind.i64.wrap (10*(acc:Int)))+(IntKind.i64.wrap (IntKind.u8.wrap ((x.toNat:Int)-48))))=((acc*10+(x.toNat-48):Nat):Int):=by
     rw[dG (k:=.u8) (n8.u8.2 (by omega)),dG (n:=(10:Int)*(acc:Int)) (n8.i64.2 (by omega)),dG (n:=(x.toNat:Int)-48) (n8.i64.2 (by omega)),dG (n8.i64.2 (by omega))];omega
    simp only[Lib.decFrom,hd];rw[bK c1,aS,bK c2,aS,e5];refine ih (pre++[x]) _ (by simp[h]) ?_ m (by simp at hn;omega);rw[b8,gF,tK];omega
theorem Ky(s:Bytes):k7 s=some (pI s):=by
 unfold k7;rw[GS,aA];by_cases hl:1<=s.length/\s.length<=4
 ·have e1:(decide ((s.length:Int)>=1)&&decide ((s.length:Int)<=4))=true:=by simp;omega
  have t:=Vh s (fun z=>((kO z).bind fun GH=>(bif !((GH:Bytes)==s)then(some (0,false))else(some (z,true))))) hl.2 s [] 0 rfl (by simp) fuel (by unfold fuel;omega);rw[e1,bV,aS];refine t.trans ?_;unfold pI vC;rw[bE hl];cases hd:Lib.decFrom 0 s with
  |none=>rfl
  |some m=>
   have hm:=Lib.decFrom_lt s 0 m hd;have h10:m<10000:=by
    have:=qh (n:=10) (by omega) hl.2;omega
   simp only;rw[Yu _ (n8.i64.2 (by omega)),aA];have e2:Lib.itoa (m:Int)=Lib.decDigits m:=by unfold Lib.itoa;rw[av (by omega)];simp
   rw[e2];by_cases he:Lib.decDigits m=s
   ·rw[bE he,he];simp
   ·rw[av he];have:(Lib.decDigits m==s)=false:=by simpa using he
    rw[this];rfl
 ·have e1:(decide ((s.length:Int)>=1)&&decide ((s.length:Int)<=4))=false:=by
   rw[AQ,oI,oI];omega
  rw[e1];unfold pI vC;rw[av hl];rfl
theorem KO(s:Bytes):jz s=some (pI s):=by
 unfold jz pI vC;by_cases hl:1<=s.length/\s.length<=4
 ·have e1:decide ((s.length:Int)<1)=false:=by simp;omega
  have e2:decide ((s.length:Int)>4)=false:=by simp;omega
  rw[bE hl,e1,aS,e2,aS];unfold xJ KU;rw[bE (by omega)];cases s with
  |nil=>simp at hl
  |cons b t=>
   have fin:∀(m:Nat),Lib.decFrom 0 (b::t)=some m->(bif decide ((m:Int)<0)then some ((0:Int),false)else bif decide ((m:Int)>9999)then some (0,false)else(jD (m:Int)).bind fun y8=>bif !((y8:Bytes)==(b::t))then some (0,false)else some ((m:Int),true))=
    some (match(if Lib.decDigits m=b::t then some m else none)with|some n=>((n:Int),true)|none=>(0,false)):=by
    intro m hd;have hm:=Lib.decFrom_lt (b::t) 0 m hd;have h10:m<10000:=by
     have:=qh (n:=10) (by omega) hl.2;omega
    have e3:decide ((m:Int)<0)=false:=by simp
    have e4:decide ((m:Int)>9999)=false:=by simp;omega
    have e5:Lib.itoa (m:Int)=Lib.decDigits m:=by unfold Lib.itoa;rw[av (by omega)];simp
    rw[e3,aS,e4,aS,YG,aA,e5];by_cases he:Lib.decDigits m=b::t
    ·rw[bE he,he];simp
    ·rw[av he];have:(Lib.decDigits m==(b::t))=false:=by simpa using he
     rw[this];rfl
   have sign:∀(n:Int),b.toNat<48->(bif decide (n<0)then some ((0:Int),false)else bif decide (n>9999)then some (0,false)else(jD n).bind fun y8=>bif !((y8:Bytes)==(b::t))then some (0,false)else some (n,true))=some (0,false):=by
    intro n hb;by_cases hn:n<0
    ·rw[bC hn];rfl
    rw[bK hn,aS,YG,aA];cases decide (n>9999)with
    |true=>rfl
    |false=>
     have e5:Lib.itoa n=Lib.decDigits n.toNat:=by unfold Lib.itoa;rw[av hn]
     have:(Lib.itoa n==(b::t))=false:=by
      rw[e5,cy];intro h;have:=RV n.toNat b (by rw[h];simp);omega
     rw[this];rfl
   simp only[Lib.atoi];by_cases hb:b=45
   ·subst hb;have hd:Lib.decFrom 0 ((45:UInt8)::t)=none:=by simp[Lib.decFrom,Lib.digitVal]
    rw[bE (by decide),hd];cases Lib.decNat t with
    |none=>rfl
    |some m=>exact sign _ (by decide)
   ·rw[av (by simpa using hb)];by_cases Mm:b=43
    ·subst Mm;have hd:Lib.decFrom 0 ((43:UInt8)::t)=none:=by simp[Lib.decFrom,Lib.digitVal]
     rw[bE (by decide),hd];cases Lib.decNat t with
     |none=>rfl
     |some m=>exact sign (m:Int) (by decide)
    ·rw[av (by simpa using Mm)];have hdn:Lib.decNat (b::t)=Lib.decFrom 0 (b::t):=by simp[Lib.decNat]
     rw[hdn];cases hd:Lib.decFrom 0 (b::t)with
     |none=>rfl
     |some m=>exact fin m hd
 ·rw[av hl];by_cases h1:(s.length:Int)<1
  ·rw[bC h1];rfl
  ·have h2:(s.length:Int)>4:=by omega
   rw[bK h1,aS,bC h2];rfl
def tF(a b:Bytes):Int:=if Op.bytesLess a b=true then-1 else if a=b then 0 else 1
def DW(x y:Int):Int:=if x<y then-1 else if x>y then 1 else 0
def yl(a b:Bytes):Int:=match vC a,vC b with
 |some x,some y=>DW x y
 |some _,none=> -1
 |none,some _=>1
 |none,none=>tF a b
def r9{α:Type}(g:α->α->Int):List α->List α->Option Int
 |x::xs,y::ys=>if g x y≠0 then some (g x y)else r9 g xs ys
 |_,_=>none
def cmpL{α:Type}(g:α->α->Int)(a b:List α):Int:=match r9 g a b with|some z=>z|none=>DW a.length b.length
def o5(a b:aF):Int:=if a.rel≠b.rel then tF a.rel b.rel else cmpL yl a.args b.args
theorem OZ{a b:Bytes}(h:a≠b):tF a b≠0:=by
 unfold tF;split
 ·omega
 ·first|omega| (rw[av h];omega)
theorem JH(a:Bytes):tF a a=0:=by
 unfold tF;rw[sx];simp
theorem OV:∀(a b:Bytes),Lib.compareBytes a b=tF a b
 | [],[]=>by simp[Lib.compareBytes,tF,Op.bytesLess]
 | [],_::_=>by simp[Lib.compareBytes,tF,Op.bytesLess]
 |_::_,[]=>by simp[Lib.compareBytes,tF,Op.bytesLess]
 |a::xs,b::ys=>by
  have ih:=OV xs ys;simp only[Lib.compareBytes,tF,Op.bytesLess];by_cases h1:a<b
  ·simp[h1]
  ·by_cases h2:b<a
   ·have hne:a≠b:=fun e=>by subst e;exact h1 h2
    simp[h1,h2,hne]
   ·have e:a=b:=by
     rw[AU]at h1 h2;exact UInt8.toNat_inj.1 (by omega)
    subst e;rw[av h1,av h1,ih];simp[tF,h1]
theorem K3{α:Type}{f:α->α->Option Int}{g:α->α->Int}{c:α->aK}{L:List α->Nat->Option Int}{k:Option Int}{b:List α}(rO:∀i,L [] i=k)
 (rA:∀x xs i,L (x::xs) i=bif decide (((i:Int):Int)<((b.map c).length:Int))then((iY b (i:Int)).bind fun y=>((f x y).bind fun z=>(bif (z:Int) != 0 then(some z)else(L xs (i+1)))))else k):
 ∀(l pre rest:List α),b=pre++rest->(∀x∈l,∀y∈rest,f x y=some (g x y))->L l pre.length=(match r9 g l rest with|some z=>some z|none=>k):=by
 intro l
 induction l with
 |nil=>intro pre rest h _;rw[rO];cases rest<;>rfl
 |cons x xs ih=>
  intro pre rest h hf;rw[rA];cases rest with
  |nil=>
   have e1:decide ((pre.length:Int)<((b.map c).length:Int))=false:=by simp[h]
   rw[e1];rfl
  |cons y ys=>
   have e1:decide ((pre.length:Int)<((b.map c).length:Int))=true:=by simp[h];omega
   rw[e1,aH,wC h,aA,hf x (by simp) y (by simp),aA];simp only[r9];have t:=ih (pre++[y]) ys (by simp[h]) (fun x' hx y' hy=>hf x' (by simp[hx]) y' (by simp[hy]));rw[b8,gF]at t;by_cases hz:g x y=0
   ·have e2:(g x y != 0)=false:=by simp[hz]
    rw[e2,aS,t,av (by simp[hz])]
   ·have e2:(g x y != 0)=true:=by simp[hz]
    rw[e2,aH,bE hz]
theorem K4(x y:Int):(bif decide (x<y)then some (-1:Int)else bif decide (x>y)then some 1 else some 0)=some (DW x y):=by
 unfold DW;by_cases h1:x<y
 ·simp[h1]
 ·by_cases h2:x>y
  ·simp[h1,h2]
  ·simp[h1,h2]
theorem X3(a b:Bytes):pE a b=some (tF a b):=by
 unfold pE tF;cases h:Op.bytesLess a b with
 |true=>rfl
 |false=>
  by_cases e:a=b
  ·simp[e]
  ·have e':(a==b)=false:=by simpa using e
   simp[e,e']
theorem X2(a b:Bytes):iH a b=some (yl a b):=by
 unfold iH yl;rw[Ky,Ky,aA,aA,X3];unfold pI;cases vC a with
 |none=>cases vC b<;>rfl
 |some x=>
  cases vC b with
  |none=>rfl
  |some y=>
   simp only[aH,bV,aS];exact K4 _ _
theorem SI(x y:Int):gQ x y=some (DW x y):=by
 unfold gQ;exact K4 x y
theorem WV(a b:Bytes):ng a b=some (tF a b):=by
 unfold ng;show some (Lib.compareBytes a b)=_;rw[OV]
theorem a0Z(a b:Bytes):jl a b=some (yl a b):=by
 unfold jl yl;rw[KO,KO,aA,aA,WV];unfold pI;cases vC a with
 |none=>cases vC b<;>rfl
 |some x=>
  cases vC b with
  |none=>rfl
  |some y=>
   simp only[aH,SI,aA]
theorem TJ(a b:aF):gD a b=some (o5 a b):=by
 unfold gD o5;by_cases h:a.rel=b.rel
 ·have e:(a.rel==b.rel)=true:=by simpa using h
  rw[e,bV,aS,av (by simpa using h)];have t:=fun k=>K3 (f:=iH) (g:=yl) (c:=tx) (L:=gx a b k) (b:=b.args) (k:=k) (fun _=>rfl) (fun _ _ _=>rfl) a.args [] b.args rfl (fun x _ y _=>X2 x y)
  refine(t _).trans ?_;unfold cmpL;cases r9 yl a.args b.args with
  |some z=>rfl
  |none=>simp only[ax];exact K4 _ _
 ·have e:(a.rel==b.rel)=false:=by simpa using h
  rw[e,cJ,aH,bE h,X3];rfl
theorem SH(a b:aF):ez a b=some (o5 a b):=by
 unfold ez o5;rw[WV,aA];by_cases h:a.rel=b.rel
 ·have e:(tF a.rel b.rel != 0)=false:=by rw[h,JH];rfl
  rw[e,aS,av (by simpa using h)];have t:=fun k=>K3 (f:=jl) (g:=yl) (c:=tx) (L:=gl a b k) (b:=b.args) (k:=k) (fun _=>rfl) (fun _ _ _=>rfl) a.args [] b.args rfl (fun x _ y _=>a0Z x y)
  refine(t _).trans ?_;unfold cmpL;cases r9 yl a.args b.args with
  |some z=>rfl
  |none=>simp only[ax,SI,aA]
 ·have e:(tF a.rel b.rel != 0)=true:=by simpa using OZ h
  rw[e,aH,bE h]
theorem a0a(a b:aW):ko a b=some (cmpL o5 a.facts b.facts):=by
 unfold ko l9;have t:=K3 (f:=ez) (g:=o5) (c:=aF.c) (L:=eD a.facts b.facts ((gQ ((a.facts.map aF.c).length:Int) ((b.facts.map aF.c).length:Int)).bind fun CR=>(some CR))) (b:=b.facts) (k:=_) (fun _=>rfl) (fun _ _ _=>rfl) a.facts [] b.facts rfl (fun x _ y _=>SH x y);rw[show eD a.facts b.facts _ a.facts 0=_ from t];unfold cmpL;cases r9 o5 a.facts b.facts with
 |some z=>rfl
 |none=>simp only[ax,SI,aA]
def chainB:Option aF->aJ->Bool
 |_,[]=>true
 |p,x::xs=>og x&&(match p with|some q=>decide (o5 q x<0)|none=>true)&&chainB (some x) xs
def iK(l:aJ):Bool:=chainB none l&&decide (l.length<=24)
theorem JA{isF:aF->Option Bool}{cmp:aF->aF->Option Int}{a:aJ}{L:aJ->Nat->Option Bool}{k:Option Bool}(ha:a.length<=1099511627770)(hc:∀x y,cmp x y=some (o5 x y))(rO:∀i,L [] i=k)
 (rA:∀x xs i,L (x::xs) i=((isF x).bind fun y=>(bif !(y)then(some false)else(bif decide (((i:Int):Int)>0)then((iY a (IntKind.i64.wrap ((i:Int)-1))).bind fun q=>((cmp q x).bind fun z=>(bif decide ((z:Int)>=0)then(some false)else(L xs (i+1)))))else(L xs (i+1)))))):
 ∀(l pre:aJ),a=pre++l->(∀x∈l,isF x=some (og x))->L l pre.length=bif chainB pre.getLast? l then k else some false:=by
 intro l
 induction l with
 |nil=>intro pre _ _;rw[rO];rfl
 |cons x xs ih=>
  intro pre h hf;have hl:a.length=pre.length+(xs.length+1):=by rw[h];simp
  have t:=ih (pre++[x]) (by simp[h]) (fun y hy=>hf y (by simp[hy]));rw[b8,gF,ke]at t;rw[rA,hf x (by simp),aA,t];simp only[chainB];cases og x with
  |false=>rfl
  |true=>
   rw[bV,aS,iR];rcases tu pre with rfl|⟨p,z,UI⟩
   ·simp
   ·rw[tr]at UI;subst UI;have e0:decide (((p++[z]).length:Int)>0)=true:=by simp<;>omega
    have e1:IntKind.i64.wrap (((p++[z]).length:Int)-1)=(p.length:Int):=by
     rw[dG (n8.i64.2 (by simp at hl⊢;omega))];simp
    have e2:iY a (p.length:Int)=some z:=wC (xs:=x::xs) (by rw[h];simp);rw[e0,aH,e1,e2,aA,hc,aA,ke];by_cases hz:o5 z x<0
    ·have e3:decide (o5 z x>=0)=false:=by simp;omega
     rw[e3,aS];show _=bif (decide (o5 z x<0)&&chainB (some x) xs)then k else some false
     rw[bC hz,iR]
    ·have e3:decide (o5 z x>=0)=true:=by simp;omega
     rw[e3,aH];show _=bif (decide (o5 z x<0)&&chainB (some x) xs)then k else some false
     rw[bK hz];rfl
theorem a52(l:aJ)(h:rp aF.wt l<=1048576):AI l=some (iK l):=by
 unfold AI iK;have hl:=qc aF.wt l;have t:=JA (isF:=sD) (cmp:=gD) (a:=l) (L:=oy l (some (decide ((((l.map aF.c).length:Int):Int)<=24)))) (k:=_) (by omega) TJ (fun _=>rfl) (fun _ _ _=>rfl) l [] rfl (fun x hx=>X4 x (by have:=qd (w:=aF.wt) hx;omega));refine t.trans ?_;have e:decide (((l.map aF.c).length:Int)<=24)=decide (l.length<=24):=by rw[ax];congr 1;rw[uH];omega
 rw[e];show(bif chainB none l then _ else _)=_;cases chainB none l<;>rfl
theorem WU(l:aJ)(h:rp aF.wt l<=1048576):nE l=some (iK l):=by
 unfold nE iK;have hl:=qc aF.wt l;have t:=JA (isF:=mG) (cmp:=ez) (a:=l) (L:=gN l (some true)) (k:=_) (by omega) SH (fun _=>rfl) (fun _ _ _=>rfl) l [] rfl (fun x hx=>SM x (by have:=qd (w:=aF.wt) hx;omega));rw[show gN l (some true) l 0=_ from t];by_cases h24:l.length<=24
 ·have e:decide (((l.map aF.c).length:Int)>24)=false:=by rw[ax];simp;omega
  rw[e,aS,bC h24,yE];show(bif chainB none l then _ else _)=_;cases chainB none l<;>rfl
 ·have e:decide (((l.map aF.c).length:Int)>24)=true:=by rw[ax];simp;omega
  rw[e,aH,bK h24,wU]
end Go.Cx
namespace Go.Cx
open Go.RowKit Go.Proofs Tryz
def PB(b:aU):Prop:=b.length<=1048576/\∀x∈b,x.var.length<=1048576/\x.value.length<=1048576
theorem PB.nil:PB []:=⟨by simp,by simp⟩
def zU:Option aa->aU->Bool
 |_,[]=>true
 |p,x::xs=>kz x.var&&(jy x.value&&((match p with|some q=>Op.bytesLess q.var x.var|none=>true)&&zU (some x) xs))
def ql(b:aU):Bool:=zU none b&&decide (b.length<=6)
theorem J7{b:aU}(h:ql b=true):b.length<=6:=by
 unfold ql at h;simp only[aR,bH]at h;exact h.2
theorem Lc{isV VL:Bytes->Option Bool}{a:aU}{L:aU->Nat->Option Bool}{k:Option Bool}(ha:a.length<=1099511627770)(hV:∀x:Bytes,x.length<=1048576->isV x=some (kz x))(hA:∀x:Bytes,x.length<=1048576->VL x=some (jy x))(rO:∀i,L [] i=k)
 (rA:∀x xs i,L (x::xs) i=((isV x.var).bind fun y=>(bif !(y)then(some false)else((VL x.value).bind fun z=>(bif !(z)then(some false)else(bif decide (((i:Int):Int)>0)then((iY a (IntKind.i64.wrap ((i:Int)-1))).bind fun q=>(bif !(Op.bytesLess q.var x.var)then(some false)else(L xs (i+1))))else(L xs (i+1)))))))):
 ∀(l pre:aU),a=pre++l->(∀x∈l,x.var.length<=1048576/\x.value.length<=1048576)->L l pre.length=bif zU pre.getLast? l then k else some false:=by
 intro l
 induction l with
 |nil=>intro pre _ _;rw[rO];rfl
 |cons x xs ih=>
  intro pre h hf;have hl:a.length=pre.length+(xs.length+1):=by rw[h];simp
  have t:=ih (pre++[x]) (by simp[h]) (fun y hy=>hf y (by simp[hy]));rw[b8,gF,ke]at t;rw[rA,hV _ (hf x (by simp)).1,aA,hA _ (hf x (by simp)).2,aA,t];simp only[zU];cases kz x.var with
  |false=>rfl
  |true=>
   cases jy x.value with
   |false=>rfl
   |true=>
    simp only[bV,aS,iR];rcases tu pre with rfl|⟨p,z,UI⟩
    ·simp
    ·rw[tr]at UI;subst UI;have e0:decide (((p++[z]).length:Int)>0)=true:=by simp<;>omega
     have e1:IntKind.i64.wrap (((p++[z]).length:Int)-1)=(p.length:Int):=by
      rw[dG (n8.i64.2 (by simp at hl⊢;omega))];simp
     have e2:iY a (p.length:Int)=some z:=wC (xs:=x::xs) (by rw[h];simp);rw[e0,aH,e1,e2,aA,ke];show _=bif (Op.bytesLess z.var x.var&&zU (some x) xs)then k else some false
     cases Op.bytesLess z.var x.var<;>rfl
theorem PA(b:aU)(h:PB b):mU b=some (ql b):=by
 unfold mU ql;have t:=fun k=>Lc (isV:=fk) (VL:=eg) (a:=b) (L:=o9 b k) (k:=k) (by have:=h.1;omega) Kz Gf (fun _=>rfl) (fun _ _ _=>rfl) b [] rfl h.2
 refine(t _).trans ?_;have e:decide (((b.map aa.c).length:Int)<=6)=decide (b.length<=6):=by rw[ax];congr 1;rw[uH];omega
 rw[e];show(bif zU none b then _ else _)=_;cases zU none b<;>rfl
theorem Ov(b:aU)(h:PB b):jE b=some (ql b):=by
 unfold jE ql;have t:=fun k=>Lc (isV:=jW) (VL:=eb) (a:=b) (L:=gC b k) (k:=k) (by have:=h.1;omega) Pu GR (fun _=>rfl) (fun _ _ _=>rfl) b [] rfl h.2
 rw[show gC b (some true) b 0=_ from t _];by_cases h6:b.length<=6
 ·have e:decide (((b.map aa.c).length:Int)>6)=false:=by rw[ax];simp;omega
  rw[e,aS,bC h6,yE];show(bif zU none b then _ else _)=_;cases zU none b<;>rfl
 ·have e:decide (((b.map aa.c).length:Int)>6)=true:=by rw[ax];simp;omega
  rw[e,aH,bK h6,wU]
def xw(t:Bytes):aU->Option Bytes
 | []=>none
 |x::xs=>bif x.var==t then some x.value else xw t xs
def wM(b:aU)(t:Bytes):Bytes×Bool:=bif jy t then(t,true)else bif kz t then(match xw t b with|some v=>(v,true)|none=>([],false))else([],false)
theorem Z8(b:aU)(t:Bytes)(ht:t.length<=1048576):qz b t=some (wM b t):=by
 unfold qz wM;have key:∀(l:aU) (i:Nat),lI b t (some ([],false)) l i=some (bif kz t then(match xw t l with|some v=>(v,true)|none=>([],false))else([],false)):=by
  intro l
  induction l with
  |nil=>intro i;rw[lI];cases kz t<;>rfl
  |cons x xs ih=>
   intro i;rw[lI,Kz t ht,aA,ih];simp only[xw];cases x.var==t<;>cases kz t<;>rfl
 rw[Gf t ht,aA,key];cases jy t<;>rfl
theorem YR(b:aU)(t:Bytes)(ht:t.length<=1048576):me b t=some (wM b t):=by
 unfold me wM;have key:∀(l:aU) (i:Nat),jY b t (some ([],false)) l i=some (match xw t l with|some v=>(v,true)|none=>([],false)):=by
  intro l
  induction l with
  |nil=>intro i;rfl
  |cons x xs ih=>
   intro i;rw[jY,ih];simp only[xw];cases x.var==t<;>rfl
 rw[GR t ht,aA,Pu t ht,aA,key];cases jy t<;>cases kz t<;>rfl
theorem Nu(b:aU)(h:b.length<=1099511627776):sE b=some b:=by
 unfold sE;rw[MU h (by decide)];simp
theorem NU(b:aU)(h:b.length<=1099511627776):gw b=some b:=by
 unfold gw;rw[MU h (by decide)];simp
def Iy(v val:Bytes):aU->aU
 | []=>[⟨v,val⟩]
 |x::xs=>bif !(Op.bytesLess x.var v||x.var==v)then⟨v,val⟩::x::xs else x::Iy v val xs
theorem Td(v val:Bytes)(b:aU):(Iy v val b).length=b.length+1:=by
 induction b with
 |nil=>rfl
 |cons x xs ih=>simp only[Iy];cases !(Op.bytesLess x.var v||x.var==v)<;>simp[ih]
theorem Te(v val:Bytes)(b:aU){x:aa}(h:x∈Iy v val b):x=⟨v,val⟩\/x∈b:=by
 induction b with
 |nil=>simp[Iy]at h;exact .inl h
 |cons y ys ih=>
  simp only[Iy]at h;cases hc: !(Op.bytesLess y.var v||y.var==v)with
  |true=>
   rw[hc,aH]at h;rcases bA.1 h with h|h
   ·exact .inl h
   ·exact .inr h
  |false=>
   rw[hc,aS]at h;rcases bA.1 h with h|h
   ·exact .inr (by simp[h])
   ·rcases ih h with h|h
    ·exact .inl h
    ·exact .inr (by simp[h])
theorem PC{γ:Type}{v val:Bytes}{L:aU->Nat->Bool->aU->Option γ}{k:Bool->aU->Option γ}{K:aU->Option γ}(hk1:∀w,k true w=K w)(hk2:∀w:aU,w.length<1099511627770->k false w=K (w++[⟨v,val⟩]))(rO:∀i d w,L [] i d w=k d w)
 (rA:∀x xs i d w,L (x::xs) i d w=(bif !(d)then(bif !(Op.bytesLess x.var v||(x.var:Bytes)==v)then(bif room ((w.map aa.c).length+([[D.str v,D.str val]]).length) 32 then(bif room (((w.map aa.c)++([[D.str v,D.str val]])).length+([[D.str x.var,D.str x.value]]).length) 32 then(L xs (i+1) true ((w++([(⟨v,val⟩:aa)]))++([x])))else none)else none)else(bif room ((w.map aa.c).length+([[D.str x.var,D.str x.value]]).length) 32 then(L xs (i+1) d (w++([x])))else none))else(bif room ((w.map aa.c).length+([[D.str x.var,D.str x.value]]).length) 32 then(L xs (i+1) d (w++([x])))else none))):
 ∀(l:aU) (i:Nat) (w:aU),w.length+l.length<1099511627760->L l i false w=K (w++Iy v val l):=by
 have c1:∀(l:aU) (i:Nat) (w:aU),w.length+l.length<1099511627765->L l i true w=K (w++l):=by
  intro l
  induction l with
  |nil=>intro i w _;rw[rO,hk1,eR]
  |cons x xs ih=>
   intro i w hw;simp only[aQ]at hw;rw[rA,bV,aS,hG (by omega) (by decide),aH,ih (i+1) (w++[x]) (by simp;omega)];simp
 intro l
 induction l with
 |nil=>intro i w hw;simp only[bS]at hw;rw[rO,hk2 _ (by omega)];rfl
 |cons x xs ih=>
  intro i w hw;simp only[aQ]at hw;have r1:∀y:aK,room ((w.map aa.c).length+([y]).length) 32=true:=fun y=>hG (by omega) (by decide)
  have r2:room (((w.map aa.c)++([[D.str v,D.str val]])).length+([[D.str x.var,D.str x.value]]).length) 32=true:=DQ (by simp;omega) (by decide);have t1:=ih (i+1) (w++[x]) (by simp;omega);have t2:=c1 xs (i+1) ((w++[⟨v,val⟩])++[x]) (by simp;omega);rw[rA,cJ,aH,r1,r1,r2];simp only[aH,Iy];cases !(Op.bytesLess x.var v||x.var==v)with
  |true=>rw[aH,aH,t2];simp
  |false=>rw[aS,aS,t1];simp
theorem a1Z(b:aU)(v val:Bytes)(h:b.length<1099511627700):zo b v val=some (Iy v val b):=by
 unfold zo;exact PC (v:=v) (val:=val) (K:=fun w=>some w) (L:=pu b v val (fun(z:Bool) (q:aU)=>(bif !(z)then(bif room ((q.map aa.c).length+([[D.str v,D.str val]]).length) 32 then(some (q++([(⟨v,val⟩:aa)])))else none)else(some q)))) (fun w=>rfl) (fun w hw=>by show(bif !false then _ else _)=_;rw[hG (by omega) (by decide)];rfl) (fun _ _ _=>rfl) (fun _ _ _ _ _=>rfl) b 0 [] (by simp;omega)
def Gu(b:aU)(v val:Bytes):aU×Bool:=bif ql b&&(kz v&&jy val)then(match xw v b with|some o=>bif o==val then(b,true)else([],false)|none=>bif decide (b.length=6)then([],false)else(Iy v val b,true))else([],false)
theorem Oc{b:aU}{v val:Bytes}(h:PB b)(hv:v.length<=1048576)(hl:val.length<=1048576):PB (Gu b v val).1:=by
 unfold Gu;cases hb:ql b&&(kz v&&jy val)with
 |false=>exact PB.nil
 |true=>
  rw[aH];have h6:b.length<=6:=J7 (by simp only[aR]at hb;exact hb.1);cases xw v b with
  |some o=>simp only;cases o==val<;>first|exact h|exact PB.nil
  |none=>
   simp only;cases decide (b.length=6)with
   |true=>exact PB.nil
   |false=>
    refine⟨by simp only[aS,Td];omega,fun x hx=>?_⟩;rcases Te _ _ _ hx with rfl|hx
    ·exact⟨hv,hl⟩
    ·exact h.2 x hx
theorem a4I(b:aU)(v val:Bytes)(h:PB b)(hv:v.length<=1048576)(hl:val.length<=1048576):uc b v val=some (Gu b v val):=by
 unfold uc Gu;have hlen:=h.1;rw[PA b h,aA,Kz v hv,aA,Gf val hl,aA,Z8 b v hv,aA,Nu b (by omega),aA,a1Z b v val (by omega),aA];have e6:((((b.map aa.c).length:Int):Int)==6)=decide (b.length=6):=by
  rw[ax,bX];simp;omega
 rw[e6];cases hb:ql b with
 |false=>rfl
 |true=>
  cases Y5:kz v with
  |false=>rfl
  |true=>
   cases jy val with
   |false=>rfl
   |true=>
    have JN:wM b v=(match xw v b with|some o=>(o,true)|none=>([],false)):=by unfold wM;rw[FK Y5,Y5];rfl
    rw[JN];simp only[bV,aS,iR,yE,aH];cases xw v b with
    |some o=>simp only[aH];cases o==val<;>rfl
    |none=>simp only[aS];cases decide (b.length=6)<;>rfl
theorem a3t(b:aU)(v val:Bytes)(h:PB b)(hv:v.length<=1048576)(hl:val.length<=1048576):q8 b v val=some (Gu b v val):=by
 unfold q8 Gu;have hlen:=h.1;have t:=(PC (v:=v) (val:=val) (K:=fun w=>some ((w,true):aU×Bool)) (L:=jC b v val (fun(z:Bool) (q:aU)=>(bif !(z)then(bif room ((q.map aa.c).length+([[D.str v,D.str val]]).length) 32 then(some (q++([(⟨v,val⟩:aa)]),true))else none)else(some (q,true))))) (fun w=>rfl) (fun w hw=>by show(bif !false then _ else _)=_;rw[hG (by omega) (by decide)];rfl) (fun _ _ _=>rfl) (fun _ _ _ _ _=>rfl) b 0 [] (by simp;omega))
 rw[Ov b h,aA,Pu v hv,aA,GR val hl,aA,YR b v hv,aA,NU b (by omega),aA,t];cases hb:ql b with
 |false=>rfl
 |true=>
  have h6:=J7 hb;have e6:decide ((((b.map aa.c).length:Int):Int)>=6)=decide (b.length=6):=by
   rw[ax];congr 1;rw[uH];omega
  rw[e6];cases Y5:kz v with
  |false=>rfl
  |true=>
   cases jy val with
   |false=>rfl
   |true=>
    have JN:wM b v=(match xw v b with|some o=>(o,true)|none=>([],false)):=by unfold wM;rw[FK Y5,Y5];rfl
    rw[JN];simp only[bV,aS,iR,yE,aH];cases xw v b with
    |some o=>simp only[aH];cases o==val<;>rfl
    |none=>simp only[aS];cases decide (b.length=6)<;>rfl
def MH:aG->aG->aU->aU×Bool
 | [],_,w=>(w,true)
 |_::_,[],_=>([],false)
 |x::xs,y::ys,w=>bif jy x then(bif x==y then MH xs ys w else([],false))else(bif (Gu w x y).2 then MH xs ys (Gu w x y).1 else([],false))
def vX(p f:aF)(b:aU):aU×Bool:=bif Aw p&&(og f&&(ql b&&(p.rel==f.rel&&decide (p.args.length=f.args.length))))then MH p.args f.args b else([],false)
theorem KZ:∀(l r:aG) (w:aU),PB w->(∀x∈l,x.length<=1048576)->(∀x∈r,x.length<=1048576)->PB (MH l r w).1
 | [],_,w,h,_,_=>h
 |_::_,[],_,_,_,_=>PB.nil
 |x::xs,y::ys,w,h,hl,hr=>by
  simp only[MH];have i1:=KZ xs ys w h (fun z hz=>hl z (by simp[hz])) (fun z hz=>hr z (by simp[hz]));have i2:=KZ xs ys (Gu w x y).1 (Oc h (hl x (by simp)) (hr y (by simp))) (fun z hz=>hl z (by simp[hz])) (fun z hz=>hr z (by simp[hz]));cases jy x with
  |true=>cases x==y<;>first|exact i1|exact PB.nil
  |false=>cases(Gu w x y).2<;>first|exact i2|exact PB.nil
theorem VT{p f:aF}{b:aU}(hb:PB b)(hp:p.wt<=1048576)(hf:f.wt<=1048576):PB (vX p f b).1:=by
 unfold vX;cases Aw p&&(og f&&(ql b&&(p.rel==f.rel&&decide (p.args.length=f.args.length))))with
 |false=>exact PB.nil
 |true=>exact KZ _ _ _ hb (fun x hx=>aF.qH hp hx) (fun x hx=>aF.qH hf hx)
theorem P0{VL:Bytes->Option Bool}{ext:aU->Bytes->Bytes->Option (aU×Bool)}{fa:aG}{L:aG->Nat->aU->Option (aU×Bool)}(hA:∀x:Bytes,x.length<=1048576->VL x=some (jy x))(hE:∀w x y,PB w->x.length<=1048576->y.length<=1048576->ext w x y=some (Gu w x y))(rO:∀i w,L [] i w=some (w,true))
 (rA:∀x xs i w,L (x::xs) i w=((VL x).bind fun y=>(bif y then((iY fa (i:Int)).bind fun z=>(bif !((x:Bytes)==z)then(some ([],false))else(L xs (i+1) w)))else((iY fa (i:Int)).bind fun z=>((ext w x z).bind fun q=>(bif !(q.2)then(some ([],false))else(L xs (i+1) q.1))))))):
 ∀(l pre rest:aG) (w:aU),fa=pre++rest->l.length=rest.length->(∀x∈l,x.length<=1048576)->(∀x∈rest,x.length<=1048576)->PB w->L l pre.length w=some (MH l rest w):=by
 intro l
 induction l with
 |nil=>intro pre rest w _ _ _ _ _;rw[rO];simp[MH]
 |cons x xs ih=>
  intro pre rest w h hl hx hr hw;cases rest with
  |nil=>simp at hl
  |cons y ys=>
   have t:=fun w' hw'=>ih (pre++[y]) ys w' (by simp[h]) (by simpa using hl) (fun z hz=>hx z (by simp[hz])) (fun z hz=>hr z (by simp[hz])) hw'
   simp only[b8,gF]at t;rw[rA,hA x (hx x (by simp)),aA,wC h,aA,aA,hE w x y hw (hx x (by simp)) (hr y (by simp)),aA];simp only[MH];cases jy x with
   |true=>
    simp only[aH];cases x==y with
    |true=>simp only[bV,aS,aH];exact t w hw
    |false=>rfl
   |false=>
    simp only[aS];cases hq:(Gu w x y).2 with
    |true=>simp only[bV,aS,aH];exact t _ (Oc hw (hx x (by simp)) (hr y (by simp)))
    |false=>rfl
theorem Si(a b:aG):((((a.map tx).length:Int):Int) != ((b.map tx).length:Int))= !decide (a.length=b.length):=by
 rw[ax,ax];by_cases h:a.length=b.length
 ·simp[h]
 ·rw[bK h];simp;omega
theorem a1Q(p f:aF)(b:aU)(hp:p.wt<=1048576)(hf:f.wt<=1048576)(hb:PB b):mV p f b=some (vX p f b):=by
 unfold mV vX;have hlen:=hb.1;rw[Yx p hp,aA,X4 f hf,aA,PA b hb,aA,Nu b (by omega),aA,Si];cases Aw p with
 |false=>rfl
 |true=>
  cases og f with
  |false=>rfl
  |true=>
   cases ql b with
   |false=>rfl
   |true=>
    cases p.rel==f.rel with
    |false=>rfl
    |true=>
     by_cases h:p.args.length=f.args.length
     ·rw[bC h];have t:=P0 (VL:=eg) (ext:=uc) (fa:=f.args) (L:=oA p f (fun(q:aU)=>(some (q,true)))) Gf (fun w x y hw hx hy=>a4I w x y hw hx hy) (fun _ _=>rfl) (fun _ _ _ _=>rfl) p.args [] f.args b rfl h (fun x hx=>aF.qH hp hx) (fun x hx=>aF.qH hf hx) hb;exact t
     ·rw[bK h];rfl
theorem YH(p f:aF)(b:aU)(hp:p.wt<=1048576)(hf:f.wt<=1048576)(hb:PB b):gr p f b=some (vX p f b):=by
 unfold gr vX;have hlen:=hb.1;rw[YK p hp,aA,SM f hf,aA,Ov b hb,aA,NU b (by omega),aA,Si];cases Aw p with
 |false=>rfl
 |true=>
  cases og f with
  |false=>rfl
  |true=>
   cases ql b with
   |false=>rfl
   |true=>
    cases p.rel==f.rel with
    |false=>rfl
    |true=>
     by_cases h:p.args.length=f.args.length
     ·rw[bC h];have t:=P0 (VL:=eb) (ext:=q8) (fa:=f.args) (L:=iB p f (fun(q:aU)=>(some (q,true)))) GR (fun w x y hw hx hy=>a3t w x y hw hx hy) (fun _ _=>rfl) (fun _ _ _ _=>rfl) p.args [] f.args b rfl h (fun x hx=>aF.qH hp hx) (fun x hx=>aF.qH hf hx) hb;exact t
     ·rw[bK h];rfl
def ltB(l r:Bytes):Bool:=match vC l,vC r with|some x,some y=>decide (x<y)|_,_=>false
def Rq(c:aM)(b:aU):Bool:=FI c&&(ql b&&((wM b c.left).2&&((wM b c.right).2&&(bif decide (c.kind=3)then(wM b c.left).1==(wM b c.right).1 else bif decide (c.kind=4)then !((wM b c.left).1==(wM b c.right).1)else ltB (wM b c.left).1 (wM b c.right).1))))
theorem uf(a b:Int):(a==b)=decide (a=b):=by rw[bX];simp
theorem a1M(c:aM)(b:aU)(hc:c.wt<=1048576)(hb:PB b):uM c b=some (Rq c b):=by
 unfold uM Rq;rw[Ta c hc,aA,PA b hb,aA,Z8 b c.left (aM.yB hc),aA,Z8 b c.right (aM.vF hc),aA,uf,uf];cases FI c with
 |false=>rfl
 |true=>
  cases ql b with
  |false=>rfl
  |true=>
   cases(wM b c.left).2 with
   |false=>rfl
   |true=>
    cases(wM b c.right).2 with
    |false=>rfl
    |true=>
     cases decide (c.kind=3)with
     |true=>rfl
     |false=>
      cases decide (c.kind=4)with
      |true=>rfl
      |false=>
       simp only[bV,aS,iR];unfold vT ltB;rw[Ky,aA,aA,Ky,aA,aA,X2,aA];unfold pI yl;cases vC (wM b c.left).1 with
       |none=>rfl
       |some x=>
        cases vC (wM b c.right).1 with
        |none=>rfl
        |some y=>
         simp only[aH]
         congr 1
         unfold DW;by_cases h:x<y
         ·have h1:(x:Int)<y:=by omega
          simp[h1,h]
         ·have h1:¬(x:Int)<y:=by omega
          by_cases h2:(x:Int)>y
          ·simp[h1,h,h2]
          ·simp[h1,h,h2]
theorem a0h(c:aM)(b:aU)(hc:c.wt<=1048576)(hb:PB b):oM c b=some (Rq c b):=by
 unfold oM Rq;rw[a0q c hc,aA,Ov b hb,aA,YR b c.left (aM.yB hc),aA,YR b c.right (aM.vF hc),aA,uf,uf];cases FI c with
 |false=>rfl
 |true=>
  cases ql b with
  |false=>rfl
  |true=>
   cases(wM b c.left).2 with
   |false=>rfl
   |true=>
    cases(wM b c.right).2 with
    |false=>rfl
    |true=>
     cases decide (c.kind=3)with
     |true=>rfl
     |false=>
      cases decide (c.kind=4)with
      |true=>rfl
      |false=>
       simp only[bV,aS,iR];unfold ltB;rw[KO,aA,KO,aA];unfold pI;cases vC (wM b c.left).1 with
       |none=>rfl
       |some x=>
        cases vC (wM b c.right).1 with
        |none=>rfl
        |some y=>
         simp only[aH]
         congr 1
         by_cases h:x<y
         ·simp[h]
         ·simp[h]
def Bk(p:aF)(b:aU)(fs:aJ):aJ:=fs.filter fun f=>(vX p f b).2
def FS(fs:aJ):Prop:=fs.length<=1048576/\∀f∈fs,f.wt<=1048576
theorem Og{γ:Type}{mf:aF->Option (aU×Bool)}{cp:aF->Option aF}{p:aF}{b:aU}{L:aJ->Nat->aJ->Option γ}{k:aJ->Option γ}(hm:∀f:aF,f.wt<=1048576->mf f=some (vX p f b))(hc:∀f:aF,f.wt<=1048576->cp f=some f)(rO:∀i w,L [] i w=k w)
 (rA:∀x xs i w,L (x::xs) i w=((mf x).bind fun y=>(bif y.2 then((cp x).bind fun z=>(bif room ((w.map aF.c).length+([[D.str z.rel,D.sl (z.args.map tx)]]).length) 40 then(L xs (i+1) (w++([z])))else none))else(L xs (i+1) w)))):
 ∀(l:aJ) (i:Nat) (w:aJ),(∀f∈l,f.wt<=1048576)->w.length+l.length<1099511627700->L l i w=k (w++Bk p b l):=by
 intro l
 induction l with
 |nil=>intro i w _ _;rw[rO];simp[Bk]
 |cons x xs ih=>
  intro i w hl hw;simp only[aQ]at hw;have hx:=hl x (by simp);rw[rA,hm x hx,aA,hc x hx,aA,hG (by omega) (by decide),aH];have e:Bk p b (x::xs)=bif (vX p x b).2 then x::Bk p b xs else Bk p b xs:=by
   unfold Bk;rw[List.filter_cons];cases(vX p x b).2<;>rfl
  rw[e];cases(vX p x b).2 with
  |true=>rw[aH,aH,ih _ _ (fun f hf=>hl f (by simp[hf])) (by simp;omega)];simp
  |false=>rw[aS,aS,ih _ _ (fun f hf=>hl f (by simp[hf])) (by omega)]
theorem a4J(p:aF)(b:aU)(fs:aJ)(hp:p.wt<=1048576)(hb:PB b)(hf:FS fs):nV p b fs=some (Bk p b fs):=by
 unfold nV;have h1:=hf.1;refine(Og (mf:=fun f=>mV p f b) (cp:=eM) (p:=p) (b:=b) (L:=lG p b fs _) (k:=fun q=>some q) (fun f h=>a1Q p f b hp h hb) (fun f h=>C7 f (by have:=aF.dF h;omega)) (fun _ _=>rfl) (fun _ _ _ _=>rfl) fs 0 [] hf.2 (by simp;omega)).trans ?_;simp
theorem a0d(p:aF)(b:aU)(fs:aJ)(hp:p.wt<=1048576)(hb:PB b)(hf:FS fs):gO p b fs=some (Bk p b fs):=by
 unfold gO;have h1:=hf.1;refine(Og (mf:=fun f=>gr p f b) (cp:=dN) (p:=p) (b:=b) (L:=fJ p b fs _) (k:=fun q=>some q) (fun f h=>YH p f b hp h hb) (fun f h=>G4 f (by have:=aF.dF h;omega)) (fun _ _=>rfl) (fun _ _ _ _=>rfl) fs 0 [] hf.2 (by simp;omega)).trans ?_;simp
def Hy(c:aM)(b:aU)(fs:aJ):Bool:=oJ c&&(ql b&&(bif decide (c.kind=1)then decide (0<(Bk c.pat b fs).length)else bif decide (c.kind=2)then decide ((Bk c.pat b fs).length=0)else Rq c b))
theorem Sg(l:aJ):decide ((((l.map aF.c).length:Int):Int)>0)=decide (0<l.length):=by rw[ax];congr 1;rw[uH];omega
theorem len_eq(l:aJ):((((l.map aF.c).length:Int):Int)==0)=decide (l.length=0):=by rw[ax,uf];congr 1;rw[uH];omega
theorem a1L(c:aM)(b:aU)(fs:aJ)(hc:c.wt<=1048576)(hb:PB b)(hf:FS fs):uL c b fs=some (Hy c b fs):=by
 unfold uL Hy;rw[TL c hc,aA,PA b hb,aA,a4J c.pat b fs (aM.ei hc) hb hf,aA,aA,a1M c b hc hb,aA,uf,uf,Sg,len_eq];cases oJ c with
 |false=>rfl
 |true=>
  cases ql b with
  |false=>rfl
  |true=>cases decide (c.kind=1)<;>cases decide (c.kind=2)<;>rfl
theorem a0g(c:aM)(b:aU)(fs:aJ)(hc:c.wt<=1048576)(hb:PB b)(hf:FS fs):oL c b fs=some (Hy c b fs):=by
 unfold oL Hy;rw[SJ c hc,aA,Ov b hb,aA,a0d c.pat b fs (aM.ei hc) hb hf,aA,aA,a0h c b hc hb,aA,uf,uf,Sg,len_eq];cases oJ c with
 |false=>rfl
 |true=>
  cases ql b with
  |false=>rfl
  |true=>cases decide (c.kind=1)<;>cases decide (c.kind=2)<;>rfl
end Go.Cx
namespace Go.Cx
open Go.RowKit Go.Proofs Tryz
theorem Vu{p:aF}(h:Aw p=true):∀t∈p.args,qZ t=true:=by
 unfold Aw at h;rw[aR]at h;exact fun t ht=>aj.1 h.1 t ht
end Go.Cx
namespace Go.Cx
open Go.RowKit Go.Proofs Tryz
theorem FF(l:aJ)(h:l.length<=1048576)(hf:∀f∈l,f.args.length<=1048576):iX l=some l:=by
 unfold iX;refine(Au (c:=aF.c) (b:=40) (f:=eM) (g:=fun x=>x) (L:=sW l _) (k:=fun q=>some q) (by decide) (fun _ _=>rfl) (fun _ _ _ _=>rfl) l 0 [] (fun f h=>C7 f (by have:=hf f h;omega)) (by simp;omega)).trans ?_;simp
theorem z8(l:aJ)(h:l.length<=1048576)(hf:∀f∈l,f.args.length<=1048576):cQ l=some l:=by
 unfold cQ;refine(Au (c:=aF.c) (b:=40) (f:=dN) (g:=fun x=>x) (L:=jr l _) (k:=fun q=>some q) (by decide) (fun _ _=>rfl) (fun _ _ _ _=>rfl) l 0 [] (fun f h=>G4 f (by have:=hf f h;omega)) (by simp;omega)).trans ?_;simp
def TK(n:Nat)(t:aW):Prop:=t.facts.length<=n/\(∀f∈t.facts,f.wt<=1048576)/\PB t.bind
theorem TK.le{n m:Nat}{t:aW}(h:TK n t)(hm:n<=m):TK m t:=⟨by have:=h.1;omega,h.2⟩
theorem TM(t:aW)(h:TK 1048576 t):sG t=some t:=by
 unfold sG;rw[FF t.facts h.1 (fun f hf=>by have:=aF.dF (h.2.1 f hf);omega),aA,Nu t.bind (by have:=h.2.2.1;omega),aA]
def ext1(c:aM)(t:aW)(f:aF):ay:=bif (vX c.pat f t.bind).2 then [⟨t.facts++[f],(vX c.pat f t.bind).1⟩]else []
def H7(c:aM)(fs:aJ)(t:aW):ay:=bif decide (c.kind=1)then fs.flatMap (ext1 c t)else bif Hy c t.bind fs then [t]else []
def xP(fs:aJ)(l:ay)(c:aM):ay:=l.flatMap (H7 c fs)
def HB(cs:aq)(fs:aJ):ay:=cs.foldl (xP fs) [⟨[],[]⟩]
theorem Ra(c:aM)(t:aW)(f:aF):(ext1 c t f).length<=1:=by unfold ext1;cases(vX c.pat f t.bind).2<;>simp
theorem Hr(c:aM)(t:aW)(fs:aJ):(fs.flatMap (ext1 c t)).length<=fs.length:=by
 induction fs with
 |nil=>simp
 |cons f fs ih=>rw[eV,b8];have:=Ra c t f;simp only[aQ];omega
theorem IK(c:aM)(fs:aJ)(t:aW):(H7 c fs t).length<=fs.length+1:=by
 unfold H7;cases decide (c.kind=1)with
 |true=>have:=Hr c t fs;rw[aH];omega
 |false=>cases Hy c t.bind fs<;>simp
theorem IL(fs:aJ)(l:ay)(c:aM):(xP fs l c).length<=l.length*(fs.length+1):=by
 unfold xP
 induction l with
 |nil=>simp
 |cons t l ih=>rw[eV,b8,aQ,EG];have:=IK c fs t;omega
theorem VW{c:aM}{fs:aJ}{t:aW}{n:Nat}(h:TK n t)(hc:c.wt<=1048576)(hf:FS fs):∀u∈H7 c fs t,TK (n+1) u:=by
 intro u hu;unfold H7 at hu;cases hk:decide (c.kind=1)with
 |false=>
  rw[hk,aS]at hu;cases hh:Hy c t.bind fs with
  |false=>rw[hh]at hu;cases hu
  |true=>
   rw[hh,aH,cZ]at hu;subst hu;exact h.le (by omega)
 |true=>
  rw[hk,aH]at hu;obtain⟨f,hf1,hu⟩:=bZ.1 hu;unfold ext1 at hu;cases hm:(vX c.pat f t.bind).2 with
  |false=>rw[hm]at hu;cases hu
  |true=>
   rw[hm,aH,cZ]at hu;subst hu;refine⟨by have:=h.1;simp;omega,?_,VT h.2.2 (aM.ei hc) (hf.2 f hf1)⟩;intro g hg;rcases aV.1 hg with hg|hg
   ·exact h.2.1 g hg
   ·rw[cZ]at hg;rw[hg];exact hf.2 f hf1
theorem Kh{c:aM}{fs:aJ}{l:ay}{n:Nat}(h:∀t∈l,TK n t)(hc:c.wt<=1048576)(hf:FS fs):∀u∈xP fs l c,TK (n+1) u:=by
 intro u hu;obtain⟨t,ht,hu⟩:=bZ.1 hu;exact VW (h t ht) hc hf u hu
theorem Od{γ:Type}{mf:aF->Option (aU×Bool)}{cps:Option aJ}{cp:aF->Option aF}{c:aM}{t:aW}{L:aJ->Nat->ay->Option γ}{k:ay->Option γ}(hm:∀f:aF,f.wt<=1048576->mf f=some (vX c.pat f t.bind))(hcs:cps=some t.facts)(hc:∀f:aF,f.wt<=1048576->cp f=some f)(ht:t.facts.length<=1048576)(rO:∀i w,L [] i w=k w)
 (rA:∀x xs i w,L (x::xs) i w=((mf x).bind fun y=>(bif y.2 then(cps.bind fun q=>((cp x).bind fun z=>(bif room ((q.map aF.c).length+([[D.str z.rel,D.sl (z.args.map tx)]]).length) 40 then(bif room ((w.map aW.c).length+([[D.sl ((q.map aF.c)++([[D.str z.rel,D.sl (z.args.map tx)]])),D.sl (y.1.map aa.c)]]).length) 48 then(L xs (i+1) (w++([(⟨q++([z]),y.1⟩:aW)])))else none)else none)))else(L xs (i+1) w)))):
 ∀(l:aJ) (i:Nat) (w:ay),(∀f∈l,f.wt<=1048576)->w.length+l.length<1099511627770->L l i w=k (w++l.flatMap (ext1 c t)):=by
 intro l
 induction l with
 |nil=>intro i w _ _;rw[rO];simp
 |cons x xs ih=>
  intro i w hl hw;simp only[aQ]at hw;have hx:=hl x (by simp);rw[rA,hm x hx,aA,hcs,aA,hc x hx,aA,hG (by omega) (by decide),aH,hG (by omega) (by decide),aH,eV];rw[show ext1 c t x=bif (vX c.pat x t.bind).2 then [⟨t.facts++[x],(vX c.pat x t.bind).1⟩]else []from rfl];cases(vX c.pat x t.bind).2 with
  |true=>rw[aH,aH,ih _ _ (fun f hf=>hl f (by simp[hf])) (by simp;omega)];simp
  |false=>rw[aS,aS,ih _ _ (fun f hf=>hl f (by simp[hf])) (by omega)];simp
theorem Oy(c:aM):((c.kind:Int) != 1)= !decide (c.kind=1):=by
 show(!((c.kind:Int)==1))=_;rw[uf]
theorem Yw(l0:ay)(c:aM)(fs:aJ)(k:ay->Option ay)(hc:c.wt<=1048576)(hf:FS fs):∀(l:ay) (i:Nat) (w:ay),(∀t∈l,TK 1048576 t)->w.length+l.length*(fs.length+1)<1099511627700->kV l0 c fs k l i w=k (w++xP fs l c):=by
 intro l;have h1:=hf.1
 induction l with
 |nil=>intro i w _ _;rw[kV];simp[xP]
 |cons t l ih=>
  intro i w hl hw;rw[aQ,EG]at hw;have ht:=hl t (by simp);have e:xP fs (t::l) c=H7 c fs t++xP fs l c:=by simp[xP]
  have hn:=IK c fs t;have he:=Hr c t fs;rw[kV,Oy,a1L c t.bind fs hc ht.2.2 hf,aA,TM t ht,aA,hG (by omega) (by decide),aH,rZ (by omega),aH,e];rw[Od (mf:=fun f=>mV c.pat f t.bind) (cps:=iX t.facts) (cp:=eM) (c:=c) (t:=t) (L:=rK l0 c fs i t _) (k:=_) (fun f h=>a1Q c.pat f t.bind (aM.ei hc) h ht.2.2) (FF t.facts ht.1 (fun f hf=>by have:=aF.dF (ht.2.1 f hf);omega)) (fun f h=>C7 f (by have:=aF.dF h;omega)) ht.1 (fun _ _=>rfl) (fun _ _ _ _=>rfl) fs 0 w hf.2 (by omega)];unfold H7;cases decide (c.kind=1)with
  |true=>simp only[bV,aS,aH];rw[ih _ _ (fun u hu=>hl u (by simp[hu])) (by rw[b8];omega)];simp
  |false=>
   simp only[cJ,aH,aS];cases Hy c t.bind fs with
   |true=>simp only[aH];rw[ih _ _ (fun u hu=>hl u (by simp[hu])) (by rw[b8];simp;omega)];simp
   |false=>simp only[aS];rw[ih _ _ (fun u hu=>hl u (by simp[hu])) (by omega)];simp
theorem a1S(l:ay)(c:aM)(fs:aJ)(hc:c.wt<=1048576)(hf:FS fs)(hl:∀t∈l,TK 1048576 t)(hn:l.length*(fs.length+1)<1099511627700):yQ l c fs=some (xP fs l c):=by
 unfold yQ;rw[Yw l c fs _ hc hf l 0 [] hl (by simpa using hn)];simp
theorem Nh:∀t∈[(⟨[],[]⟩:aW)],TK 0 t:=by
 intro t ht;rw[cZ]at ht;subst ht;exact⟨by simp,by simp,PB.nil⟩
theorem T3{n:Nat}(h:n<=4):[(⟨[],[]⟩:aW)].length*25^n<=390625:=by
 have:=qh (n:=25) (by decide) h;simp only[gF,kf];exact this
theorem Z7(c0:aq)(fs:aJ)(k:ay->Option ay)(hf:FS fs)(h24:fs.length<=24):∀(cs:aq) (i:Nat) (w:ay) (n:Nat),(∀c∈cs,c.wt<=1048576)->(∀t∈w,TK n t)->n+cs.length<=1048576->w.length*25^cs.length<=390625->pH c0 fs k cs i w=k (cs.foldl (xP fs) w):=by
 intro cs
 induction cs with
 |nil=>intro i w n _ _ _ _;rfl
 |cons c cs ih=>
  intro i w n hc hw hn hl;simp only[aQ]at hn;rw[aQ,tK,zN (25^cs.length) 25,<-DF]at hl;have hp:1<=25^cs.length:=Nat.one_le_pow _ _ (by decide);have zw:w.length*25<=390625:=dA (ye _ hp) hl;have h25:w.length*(fs.length+1)<=w.length*25:=dR _ (by omega);rw[pH,a1S w c fs (hc c (by simp)) hf (fun t ht=>(hw t ht).le (by omega)) (by omega),aA];refine ih _ _ (n+1) (fun x hx=>hc x (by simp[hx])) (Kh hw (hc c (by simp)) hf) (by omega) ?_;exact dA (dD _ (dA (IL fs w c) h25)) hl
theorem a54(cs:aq)(fs:aJ)(hc:∀c∈cs,c.wt<=1048576)(h4:cs.length<=4)(hf:FS fs)(h24:fs.length<=24):AL cs fs=some (HB cs fs):=by
 unfold AL;exact Z7 cs fs _ hf h24 cs 0 _ 0 hc Nh (by omega) (T3 h4)
theorem VI(c0:aq)(fs:aJ)(w0:ay)(i1:Nat)(c:aM)(k:ay->Option ay)(hc:c.wt<=1048576)(hf:FS fs):∀(l:ay) (i:Nat) (w:ay),(∀t∈l,TK 1048576 t)->w.length+l.length*(fs.length+1)<1099511627700->ed c0 fs w0 i1 c k l i w=k (w++xP fs l c):=by
 intro l;have h1:=hf.1
 induction l with
 |nil=>intro i w _ _;rw[ed];simp[xP]
 |cons t l ih=>
  intro i w hl hw;rw[aQ,EG]at hw;have ht:=hl t (by simp);have e:xP fs (t::l) c=H7 c fs t++xP fs l c:=by simp[xP]
  have hn:=IK c fs t;have he:=Hr c t fs;rw[ed,Oy,a0g c t.bind fs hc ht.2.2 hf,aA,hG (by omega) (by decide),aH,rZ (by omega),aH,e];rw[Od (mf:=fun f=>gr c.pat f t.bind) (cps:=cQ t.facts) (cp:=dN) (c:=c) (t:=t) (L:=j0 c0 fs i w0 t i1 c _) (k:=_) (fun f h=>YH c.pat f t.bind (aM.ei hc) h ht.2.2) (z8 t.facts ht.1 (fun f hf=>by have:=aF.dF (ht.2.1 f hf);omega)) (fun f h=>G4 f (by have:=aF.dF h;omega)) ht.1 (fun _ _=>rfl) (fun _ _ _ _=>rfl) fs 0 w hf.2 (by omega)];unfold H7;cases decide (c.kind=1)with
  |true=>simp only[bV,aS,aH];rw[ih _ _ (fun u hu=>hl u (by simp[hu])) (by rw[b8];omega)];simp
  |false=>
   simp only[cJ,aH,aS];cases Hy c t.bind fs with
   |true=>simp only[aH];rw[ih _ _ (fun u hu=>hl u (by simp[hu])) (by rw[b8];simp;omega)];simp
   |false=>simp only[aS];rw[ih _ _ (fun u hu=>hl u (by simp[hu])) (by omega)];simp
theorem YQ(c0:aq)(fs:aJ)(k:ay->Option ay)(hf:FS fs)(h24:fs.length<=24):∀(cs:aq) (i:Nat) (w:ay) (n:Nat),(∀c∈cs,c.wt<=1048576)->(∀t∈w,TK n t)->n+cs.length<=1048576->w.length*25^cs.length<=390625->iz c0 fs k cs i w=k (cs.foldl (xP fs) w):=by
 intro cs
 induction cs with
 |nil=>intro i w n _ _ _ _;rfl
 |cons c cs ih=>
  intro i w n hc hw hn hl;simp only[aQ]at hn;rw[aQ,tK,zN (25^cs.length) 25,<-DF]at hl;have hp:1<=25^cs.length:=Nat.one_le_pow _ _ (by decide);have zw:w.length*25<=390625:=dA (ye _ hp) hl;have h25:w.length*(fs.length+1)<=w.length*25:=dR _ (by omega);rw[iz,rZ (by omega),aH,VI c0 fs w i c _ (hc c (by simp)) hf w 0 [] (fun t ht=>(hw t ht).le (by omega)) (by simp only[bS];omega),cX];refine ih _ _ (n+1) (fun x hx=>hc x (by simp[hx])) (Kh hw (hc c (by simp)) hf) (by omega) ?_;exact dA (dD _ (dA (IL fs w c) h25)) hl
theorem a0r(cs:aq)(fs:aJ)(hc:∀c∈cs,c.wt<=1048576)(h4:cs.length<=4)(hf:FS fs)(h24:fs.length<=24):pX cs fs=some (HB cs fs):=by
 unfold pX;exact YQ cs fs _ hf h24 cs 0 _ 0 hc Nh (by omega) (T3 h4)
theorem QK{r:aL}(h:hO r=true):r.conds.length<=4:=by
 unfold hO at h;simp only[aR,bH]at h;omega
theorem Hj{r:aL}:∀ {l:aq} {i:Nat},ot r l i=true->∀c∈l,oJ c=true
 | [],_,_,c,hc=>by cases hc
 |x::xs,i,h,c,hc=>by
  simp only[ot,aR]at h;rcases bA.1 hc with rfl|hc
  ·exact h.1.1.1
  ·exact Hj h.2 c hc
theorem Ge{r:aL}(h:hO r=true):∀c∈r.conds,oJ c=true:=by
 unfold hO at h;simp only[aR]at h;exact Hj h.2.1
theorem uI{l:aJ}(h:iK l=true):l.length<=24:=by
 unfold iK at h;simp only[aR,bH]at h;exact h.2
theorem Tu{cs:aq}{fs:aJ}(h4:cs.length<=4)(h24:fs.length<=24):(HB cs fs).length<=390625:=by
 have key:∀(cs:aq) (w:ay),w.length*25^cs.length<=390625->(cs.foldl (xP fs) w).length<=390625:=by
  intro cs
  induction cs with
  |nil=>intro w h;simpa using h
  |cons c cs ih=>
   intro w h;rw[aQ,tK,zN (25^cs.length) 25,<-DF]at h;refine ih _ ?_;have h25:w.length*(fs.length+1)<=w.length*25:=dR _ (by omega);exact dA (dD _ (dA (IL fs w c) h25)) h
 exact key cs _ (T3 h4)
theorem LX{all:ar}:∀ {l:ar} {i:Nat},Gn all l i=true->∀r∈l,hO r=true
 | [],_,_,r,hr=>by cases hr
 |x::xs,i,h,r,hr=>by
  simp only[Gn,aR]at h;rcases bA.1 hr with rfl|hr
  ·exact h.1.1
  ·exact LX h.2 r hr
theorem tM{l:ar}(h:rE l=true):∀r∈l,hO r=true:=by
 unfold rE at h;simp only[aR]at h;exact LX h.1
end Go.Cx
namespace Go.Cx
open Go.RowKit Go.Proofs Tryz
theorem JV:∀(a b:aG),a.Nodup->(∀x∈a,x∈b)->a.length<=b.length
 | [],b,_,_=>B5 _
 |x::xs,b,hn,hs=>by
  rw[di]at hn;have h1:=JV xs (b.erase x) hn.2 fun y hy=>(List.mem_erase_of_ne (fun e=>hn.1 (by rw[<-e];exact hy))).2 (hs y (by simp[hy]))
  have h2:=nh (hs x (by simp));have h3:0<b.length:=zM (hs x (by simp));simp only[aQ];omega
theorem QL{r:aL}(h:hO r=true):(eP (AV r.conds)).length<=6:=by
 unfold hO at h;simp only[aR,bH]at h;omega
theorem Pd{c:aM}(hc:oJ c=true)(hk:c.kind=1\/c.kind=2):Aw c.pat=true/\c.left=[]/\c.right=[]:=by
 unfold oJ at hc;have:(decide (c.kind=1)||decide (c.kind=2))=true:=by simpa using hk
 rw[this,aH]at hc;simp only[aR,cO]at hc;exact⟨hc.1,hc.2.1,hc.2.2⟩
theorem N7{c:aM}(hc:oJ c=true)(h1:c.kind≠1)(h2:c.kind≠2):(decide (c.kind=3)||decide (c.kind=4)||decide (c.kind=5))=true/\CF c.pat=true/\qZ c.left=true/\qZ c.right=true:=by
 unfold oJ at hc;rw[bK h1,bK h2,s8,aS]at hc;cases h:(decide (c.kind=3)||decide (c.kind=4)||decide (c.kind=5))with
 |false=>rw[h]at hc;cases hc
 |true=>
  rw[h,aH]at hc;simp only[aR]at hc;exact⟨rfl,hc.1,hc.2.1,hc.2.2⟩
structure WB(U:List Bytes)(b:List aa):Prop where
 ok:ql b=true
 sub:∀p∈b,p.var∈U
theorem Hi{r:aL}:∀ {pre rest:aq} {c:aM} {i:Nat},ot r (pre++c::rest) i=true->oJ c=true/\(i+pre.length=0->c.kind=1)/\∀v∈nP c,Gw r (i+pre.length) c v=true
 | [],rest,c,i,h=>by
  rw[cX]at h;unfold ot at h;rw[J5]at h;simp only[aR,lM,nL,oI,bH]at h;refine⟨h.1.1.1,fun e=>?_,fun v hv=>aj.1 h.1.2 v hv⟩;rcases h.1.1.2 with q|q
  ·exact absurd (by simpa using e) q
  ·exact q
 |x::pre,rest,c,i,h=>by
  rw[oG]at h;unfold ot at h;rw[aR]at h;have:=Hi h.2;rw[aQ,show i+(pre.length+1)=i+1+pre.length by omega];exact this
theorem Ku{r:aL}(h:hO r=true):ot r r.conds 0=true:=by
 unfold hO at h;simp only[aR]at h;exact h.2.1
end Go.Cx
namespace Go.Cx
open Go.RowKit Go.Proofs Tryz
def Pa(sh:aF):bM->Nat->Option Nat
 | [],_=>none
 |x::xs,i=>if x.shape=sh then some i else Pa sh xs (i+1)
def OL(al:bM)(sh:aF):bM×Int:=match Pa sh al 0 with
 |some i=>(al,dV i)
 |none=>(al++[⟨sh,[]⟩],dV al.length)
theorem Gh{n:Nat}(h:n<=1099511627776):IntKind.i64.wrap (((n+1:Nat):Int)-1)=dV n:=by
 unfold dV;rw[dG (n8.i64.2 (by omega))];omega
theorem a4D(n:aI)(sh:aF)(k:Option (aI×Int)):∀(l:bM) (i:Nat),qY n sh k l i=match Pa sh l i with|some j=>some (n,dV j)|none=>k:=by
 intro l
 induction l with
 |nil=>intro i;rfl
 |cons x l ih=>
  intro i;rw[qY,TY,aA,ih,Pa];by_cases h:x.shape=sh
  ·rw[bC h,aH,bE h];rfl
  ·rw[bK h,aS,av h]
theorem sAl(n:aI)(sh:aF)(h:n.bG.length<=1048576):tX n sh=some (⟨n.rules,n.ends,(OL n.bG sh).1,n.nodes,n.facts,n.cL⟩,(OL n.bG sh).2):=by
 unfold tX;rw[rZ (by omega),aH,a4D,hG (by omega) (by decide),aH];unfold OL;cases Pa sh n.bG 0 with
 |some j=>rfl
 |none=>
  dsimp only;rw[show((n.bG.map ah.c)++[[D.str sh.rel,D.sl (sh.args.map tx),D.sl []]]).length=n.bG.length+1 by simp,Gh (by omega)]
theorem a3p(n:aI)(sh:aF)(k:Option (aI×Int)):∀(l:bM) (i:Nat),eA n sh k l i=match Pa sh l i with|some j=>some (n,dV j)|none=>k:=by
 intro l
 induction l with
 |nil=>intro i;rfl
 |cons x l ih=>
  intro i;rw[eA,I2,aA,ih,Pa];by_cases h:x.shape=sh
  ·rw[bC h,aH,bE h];rfl
  ·rw[bK h,aS,av h]
theorem iAl(n:aI)(sh:aF)(h:n.bG.length<=1048576):gM n sh=some (⟨n.rules,n.ends,(OL n.bG sh).1,n.nodes,n.facts,n.cL⟩,(OL n.bG sh).2):=by
 unfold gM;rw[rZ (by omega),aH,a3p,hG (by omega) (by decide),aH];unfold OL;cases Pa sh n.bG 0 with
 |some j=>rfl
 |none=>
  dsimp only;rw[show((n.bG.map ah.c)++[[D.str sh.rel,D.sl (sh.args.map tx),D.sl []]]).length=n.bG.length+1 by simp,Gh (by omega)]
def J9(p:Int)(c:aM):bI->Nat->Option Nat
 | [],_=>none
 |x::xs,i=>if 0<i/\x.parent=p/\x.cond=c then some i else J9 p c xs (i+1)
def J8(al:bM)(c:aM):bM×Int:=if c.kind=1\/c.kind=2 then OL al (yW c.pat)else(al, -1)
def FX(al:bM)(ns:bI)(p:Int)(c:aM):(bM×bI)×Int:=match J9 p c ns 0 with
 |some i=>((al,ns),dV i)
 |none=>(((J8 al c).1,ns++[⟨p,c,(J8 al c).2,[]⟩]),dV ns.length)
theorem Li(p:Int)(c:aM)(ns:bI):J9 p c ns 0=J9 p c (ns.drop 1) 1:=by
 cases ns with
 |nil=>rfl
 |cons x ns=>rw[J9,av (fun h=>by omega)];rfl
def QA(n:aI)(z:(bM×bI)×Int):aI×Int:=(⟨n.rules,n.ends,z.1.1,z.1.2,n.facts,n.cL⟩,z.2)
theorem a4F(n:aI)(p:Int)(c:aM)(k:Option (aI×Int))(hn:n.nodes.length<=1048576):∀(d v fu:Nat),v+d=n.nodes.length+1->1<=v->d<fu->jg n p c k fu (v:Int)=match J9 p c (n.nodes.drop v) v with|some j=>some (n,dV j)|none=>k:=by
 intro d
 induction d with
 |zero=>
  intro v fu hv h1 hf;obtain⟨fu,rfl⟩:∃m,fu=m+1:=⟨fu-1,by omega⟩
  rw[jg,ax,bK (by omega),aS,tI (by omega)];rfl
 |succ d ih=>
  intro v fu hv h1 hf;obtain⟨fu,rfl⟩:∃m,fu=m+1:=⟨fu-1,by omega⟩
  by_cases hl:v<n.nodes.length
  ·have hx:n.nodes[v]?=some n.nodes[v]:=aT hl;have e3:iY n.nodes (v:Int)=some n.nodes[v]:=by unfold iY;rw[bC (by omega),aH];exact hx
   rw[nA hl,J9,jg,ax,bC (by omega),aH,e3,aA,Ie (by omega),ih (v+1) fu (by omega) (by omega) (by omega),Z0,aA];generalize n.nodes[v]=x;by_cases hp:x.parent=p
   ·rw[show((x.parent:Int)==p)=true by simp[hp],aH];by_cases hc:x.cond=c
    ·rw[bC hc,aH,bE ⟨by omega,hp,hc⟩];rfl
    ·rw[bK hc,aS,av (fun h=>hc h.2.2)]
   ·rw[show((x.parent:Int)==p)=false by simp[hp],aS,av (fun h=>hp h.2.1)]
  ·rw[jg,ax,bK (by omega),aS,tI (by omega)];rfl
theorem sCh(n:aI)(p:Int)(c:aM)(hn:n.nodes.length<=1048576)(ha:n.bG.length<=1048576)(hc:c.wt<=1048576):xI n p c=some (QA n (FX n.bG n.nodes p c)):=by
 have hp:=aM.ei hc;have hargs:=aF.dF hp;unfold xI;have e:=a4F n p c;rw[show(1:Int)=((1:Nat):Int)from rfl,e _ hn n.nodes.length 1 fuel (by omega) (bJ _) (by unfold fuel;omega),<-Li,Kw c (by omega),aA,Z4 c.pat hp,aA,sAl n _ ha,aA];unfold FX J8 QA;cases J9 p c n.nodes 0 with
 |some j=>rfl
 |none=>
  dsimp only;rw[hG (by omega) (by decide),aH];by_cases h1:c.kind=1
  ·rw[show((c.kind:Int)==((1:Nat):Int))=true by simp[h1],aH,bE (.inl h1)];simp[Gh,hn,show n.nodes.length<=1099511627776 by omega]
   first|done| (unfold dV;rw[dG (n8.i64.2 (by omega))])
  ·rw[show((c.kind:Int)==((1:Nat):Int))=false by simp[h1],aS];by_cases h2:c.kind=2
   ·rw[show((c.kind:Int)==(2:Int))=true by simp[h2],aH,bE (.inr h2)];simp[Gh,hn,show n.nodes.length<=1099511627776 by omega]
    first|done| (unfold dV;rw[dG (n8.i64.2 (by omega))])
   ·rw[show((c.kind:Int)==(2:Int))=false by simp[h2],aS,av (by omega)]
    first|rw[hG (by omega) (by decide),aH]|rw[aA,hG (by omega) (by decide),aH]|skip
    simp[Gh,hn,show n.nodes.length<=1099511627776 by omega]
    first|done| (unfold dV;rw[dG (n8.i64.2 (by omega))])
theorem a3q(n:aI)(p:Int)(c:aM)(k:Option (aI×Int)):∀(l:bI) (i:Nat),cc n p c k l i=match J9 p c l i with|some j=>some (n,dV j)|none=>k:=by
 intro l
 induction l with
 |nil=>intro i;rfl
 |cons x l ih=>
  intro i;rw[cc,J9,ih,KP,aA];by_cases hi:0<i
  ·rw[bC (by omega),aH];by_cases hp:x.parent=p
   ·rw[show((x.parent:Int)==p)=true by simp[hp],aH];by_cases hc:x.cond=c
    ·rw[bC hc,aH,bE ⟨hi,hp,hc⟩];rfl
    ·rw[bK hc,aS,av (fun h=>hc h.2.2)]
   ·rw[show((x.parent:Int)==p)=false by simp[hp],aS,av (fun h=>hp h.2.1)]
  ·rw[bK (by omega),aS,av (fun h=>hi h.1)]
theorem iCh(n:aI)(p:Int)(c:aM)(hn:n.nodes.length<=1048576)(ha:n.bG.length<=1048576)(hc:c.wt<=1048576):jB n p c=some (QA n (FX n.bG n.nodes p c)):=by
 have hp:=aM.ei hc;have hargs:=aF.dF hp;unfold jB;rw[rZ (by omega),aH,a3q,KL c (by omega),YP c.pat hp,aA,iAl n _ ha,aA,aA];unfold FX J8 QA;cases J9 p c n.nodes 0 with
 |some j=>rfl
 |none=>
  dsimp only;rw[hG (by omega) (by decide),aH];by_cases h1:c.kind=1
  ·rw[show((c.kind:Int)==(1:Int))=true by simp[h1],aH,bE (.inl h1)];simp[Gh,hn,show n.nodes.length<=1099511627776 by omega]
   first|done| (unfold dV;rw[dG (n8.i64.2 (by omega))])
  ·rw[show((c.kind:Int)==(1:Int))=false by simp[h1],aS];by_cases h2:c.kind=2
   ·rw[show((c.kind:Int)==(2:Int))=true by simp[h2],aH,bE (.inr h2)];simp[Gh,hn,show n.nodes.length<=1099511627776 by omega]
    first|done| (unfold dV;rw[dG (n8.i64.2 (by omega))])
   ·rw[show((c.kind:Int)==(2:Int))=false by simp[h2],aS,av (by omega)]
    first|rw[hG (by omega) (by decide),aH]|rw[aA,hG (by omega) (by decide),aH]|skip
    simp[Gh,hn,show n.nodes.length<=1099511627776 by omega]
    first|done| (unfold dV;rw[dG (n8.i64.2 (by omega))])
def CN(s:(bM×bI)×Int)(c:aM):(bM×bI)×Int:=FX s.1.1 s.1.2 s.2 c
def DT(z:(bM×bI)×b9)(r:aL):(bM×bI)×b9:=(((fw r).foldl CN (z.1,0)).1,z.2++[((fw r).foldl CN (z.1,0)).2])
def root(tk:ay):Node:=⟨-1,⟨0,⟨[],[]⟩,[],[]⟩, -1,tk⟩
def hY(tk:ay)(rs:ar):(bM×bI)×b9:=rs.foldl DT (([],[root tk]),[])
theorem Ud(al:bM)(sh:aF):(OL al sh).1.length<=al.length+1:=by
 unfold OL;cases Pa sh al 0<;>simp
theorem Uj(al:bM)(c:aM):(J8 al c).1.length<=al.length+1:=by
 unfold J8;by_cases h:c.kind=1\/c.kind=2
 ·rw[bE h];exact Ud _ _
 ·rw[av h];exact Nat.le_succ _
theorem K1(al:bM)(ns:bI)(p:Int)(c:aM):(FX al ns p c).1.1.length<=al.length+1/\(FX al ns p c).1.2.length<=ns.length+1:=by
 unfold FX;cases J9 p c ns 0 with
 |some i=>exact⟨Nat.le_succ _,Nat.le_succ _⟩
 |none=>exact⟨Uj _ _,by simp⟩
theorem CO:∀(cs:aq) (s:(bM×bI)×Int),(cs.foldl CN s).1.1.length<=s.1.1.length+cs.length/\(cs.foldl CN s).1.2.length<=s.1.2.length+cs.length
 | [],s=>⟨bJ _,bJ _⟩
 |c::cs,s=>by
  have h1:=K1 s.1.1 s.1.2 s.2 c;have h2:=CO cs (CN s c);have h3:(CN s c).1.1.length<=s.1.1.length+1/\(CN s c).1.2.length<=s.1.2.length+1:=h1;rw[dL,aQ];omega
theorem a1c(a:ar)(i:Nat)(y:aq)(k:Int->Int->ar->b9->bM->bI->aJ->Option (aI×Bool)):∀(cs:aq) (j:Nat) (v u:Int) (w3:ar) (w4:b9) (al:bM) (ns:bI) (w7:aJ),(∀c∈cs,c.wt<=1048576)->al.length+cs.length<=1048576->ns.length+cs.length<=1048576->
 lz a i y k cs j v u w3 w4 al ns w7=k (cs.foldl CN ((al,ns),v)).2 u w3 w4 (cs.foldl CN ((al,ns),v)).1.1 (cs.foldl CN ((al,ns),v)).1.2 w7:=by
 intro cs
 induction cs with
 |nil=>intros;rfl
 |cons c cs ih=>
  intro j v u w3 w4 al ns w7 hc ha hn;simp only[aQ]at ha hn;have h1:=K1 al ns v c;rw[lz,sCh _ v c (show ns.length<=1048576 by omega) (show al.length<=1048576 by omega) (hc c (by simp)),aA];unfold QA;dsimp only;rw[ih _ _ _ _ _ _ _ _ (fun x hx=>hc x (by simp[hx])) (by omega) (by omega)];rfl
theorem a0p(a:ar)(i:Nat)(y:aq)(k:Int->Int->ar->b9->bM->bI->aJ->Option aI):∀(cs:aq) (j:Nat) (v u:Int) (w3:ar) (w4:b9) (al:bM) (ns:bI) (w7:aJ),(∀c∈cs,c.wt<=1048576)->al.length+cs.length<=1048576->ns.length+cs.length<=1048576->
 iF a i y k cs j v u w3 w4 al ns w7=k (cs.foldl CN ((al,ns),v)).2 u w3 w4 (cs.foldl CN ((al,ns),v)).1.1 (cs.foldl CN ((al,ns),v)).1.2 w7:=by
 intro cs
 induction cs with
 |nil=>intros;rfl
 |cons c cs ih=>
  intro j v u w3 w4 al ns w7 hc ha hn;simp only[aQ]at ha hn;have h1:=K1 al ns v c;rw[iF,iCh _ v c (show ns.length<=1048576 by omega) (show al.length<=1048576 by omega) (hc c (by simp)),aA];unfold QA;dsimp only;rw[ih _ _ _ _ _ _ _ _ (fun x hx=>hc x (by simp[hx])) (by omega) (by omega)];rfl
theorem JL:∀(ts:aG) (N:aU) {p:aa},p∈ts.foldl jh N->p∈N\/(p.var∈ts/\kz p.var=true)
 | [],_,_,h=>.inl h
 |t::ts,N,p,h=>by
  rcases JL ts (jh N t) h with h1|h1
  ·unfold jh at h1;cases hv:kz t&& !Bq N t with
   |false=>rw[hv]at h1;exact .inl h1
   |true=>
    rw[hv,aH]at h1;simp only[aR]at hv;rcases aV.1 h1 with h2|h2
    ·exact .inl h2
    ·rw[cZ.1 h2];exact .inr ⟨by simp,hv.1⟩
  ·exact .inr ⟨by simp[h1.1],h1.2⟩
theorem F4{l:aq}{v:Bytes}:v∈AV l↔v∈ve l/\kz v=true:=by
 unfold AV ve nP iA;simp only[bZ,fq];constructor
 ·rintro⟨c,hc,hm,hv⟩;exact⟨⟨c,hc,hm⟩,hv⟩
 ·rintro⟨⟨c,hc,hm⟩,hv⟩;exact⟨c,hc,hm,hv⟩
theorem Q8{r:aL}(h:hO r=true):(mo r).length<=6:=by
 have h1:((mo r).map aa.var).length<=(eP (AV r.conds)).length:=by
  refine JV _ _ (F6 _ OG.nil) fun x hx=>?_
  obtain⟨p,hp,rfl⟩:=cH.1 hx;rcases JL _ _ hp with h1|h1
  ·cases h1
  ·exact rP.2 (F4.2 h1)
 rw[ax]at h1;exact dA h1 (QL h)
theorem Sp{r:aL}(h:hO r=true){v:Bytes}(hv:v∈AV r.conds):∃i p,i<6/\(mo r)[i]?=some p/\p.var=v/\CL (mo r) v=Za i:=by
 obtain⟨ht,JN⟩:=F4.1 hv;obtain⟨p,hp,he⟩:=Lu _ [] ht JN;have hp':p∈mo r:=hp;obtain⟨i,hi,KC,hval,_⟩:=O7 (HO _ UD.nil) hp';refine⟨i,p,by have:=Q8 h;unfold mo at this;omega,KC,he,?_⟩;rw[<-he];exact(Kt (N:=mo r) (F6 (ve r.conds) OG.nil) hp').trans hval
theorem FC{r:aL}(h:hO r=true){x:Bytes}(hx:x.length<=16)(hV:kz x=true->x∈AV r.conds):(CL (mo r) x).length<=16:=by
 cases hv:kz x with
 |false=>rw[show CL (mo r) x=x from Sw hv];exact hx
 |true=>
  obtain⟨i,p,hi,_,_,e⟩:=Sp h (hV hv);rw[e];exact P5 i hi
theorem HP:∀(l:aG),(∀x∈l,x.length<=16)->rp tw l<=17*l.length
 | [],_=>by simp[rp]
 |x::l,h=>by
  have h1:=HP l fun y hy=>h y (by simp[hy])
  have h2:=h x (by simp);rw[lg,aQ];unfold tw at*;omega
theorem IZ{t:Bytes}(h:qZ t=true):t.length<=16:=by have:=QT h;omega
theorem Hh{c:aM}(h:oJ c=true):c.pat.rel.length<=8/\c.pat.args.length<=3/\(∀x∈c.pat.args,x.length<=16)/\c.left.length<=16/\c.right.length<=16:=by
 by_cases hk:c.kind=1\/c.kind=2
 ·obtain⟨hp,hl,hr⟩:=Pd h hk;have ht:=Vu hp;unfold Aw at hp;simp only[aR,bH]at hp;have:=JT hp.2.1;rw[hl,hr];exact⟨by omega,by omega,fun x hx=>IZ (ht x hx),by simp,by simp⟩
 ·obtain⟨_,hz,hl,hr⟩:=N7 h (fun e=>hk (.inl e)) (fun e=>hk (.inr e));unfold CF at hz;simp only[aR,cO,bH]at hz;have h0:c.pat.args=[]:=cI (by omega);rw[hz.1,h0];exact⟨by simp,by simp,fun x hx=>(by cases hx),IZ hl,IZ hr⟩
theorem FA{r:aL}(h:hO r=true):∀c∈fw r,c.wt<=1048576:=by
 intro c' Uw;obtain⟨c,hc,rfl⟩:=cH.1 Uw;obtain⟨h1,h2,h3,h4,h5⟩:=Hh (Ge h c hc);have hV:∀x∈c.pat.args++[c.left,c.right],kz x=true->x∈AV r.conds:=fun x hx hv=>F4.2 ⟨bZ.2 ⟨c,hc,hx⟩,hv⟩
 have a1:(CL (mo r) c.left).length<=16:=FC h h4 (hV _ (by simp));have a2:(CL (mo r) c.right).length<=16:=FC h h5 (hV _ (by simp));have a3:=HP (c.pat.args.map (CL (mo r))) (fun x hx=>by
  obtain⟨y,hy,rfl⟩:=cH.1 hx;exact FC h (h3 y hy) (hV y (by simp[hy])))
 rw[ax]at a3;unfold IU aM.wt;dsimp only;unfold tw at*;omega
theorem wR{r:aL}(h:hO r=true):(fw r).length<=4:=by unfold fw;rw[ax];exact QK h
theorem OK{r:aL}{n:Nat}(h:r.wt<=n){a:Action}(ha:a∈r.cR):a.pat.args.length<=n:=by
 have h1:=aL.EK h;have h2:=qd (w:=Action.wt) ha;have h3:=qc tw a.pat.args;simp only[Action.wt]at h2;omega
theorem TN(p:aF)(h:p.args.length<=1099511627770):fX p=some p:=by
 unfold fX;rw[Tc p.args (by omega)];rfl
theorem SL(p:aF)(h:p.args.length<=1099511627770):dO p=some p:=by
 unfold dO;rw[KS p.args (by omega)];rfl
theorem Yr(r:aL)(h:r.wt<=1048576):ud r=some r:=by
 have h1:=aL.pP h;have h2:=aL.EK h;have h3:=qc aM.wt r.conds;have h4:=qc Action.wt r.cR;unfold ud;rw[Au (c:=aM.c) (b:=80) (f:=kZ) (g:=fun x=>x) (L:=uP r _) (k:=_) (by decide) (fun _ _=>rfl) (fun _ _ _ _=>rfl) _ _ _ (fun c hc=>Kw c (by have:=aF.dF (aM.ei (aL.o7 h hc));omega)) (by simp;omega)];rw[Au (c:=Action.c) (b:=48) (f:=fun a:Action=>(fX a.pat).bind fun y=>some (⟨a.kind,y⟩:Action)) (g:=fun x=>x) (L:=rJ r _ _) (k:=_) (by decide) (fun _ _=>rfl) (fun x xs i w=>by rw[rJ];cases fX x.pat<;>rfl) _ _ _ (fun a ha=>by rw[TN a.pat (by have:=OK h ha;omega)];rfl) (by simp;omega)];simp
theorem MV(l:ar)(h:rp aL.wt l<=1048576):sM l=some l:=by
 have h3:=qc aL.wt l;unfold sM;rw[Au (c:=aL.c) (b:=72) (f:=ud) (g:=fun x=>x) (L:=sY l _) (k:=_) (by decide) (fun _ _=>rfl) (fun _ _ _ _=>rfl) _ _ _ (fun r hr=>Yr r (by have:=qd (w:=aL.wt) hr;omega)) (by simp;omega)];simp
theorem SK(l:aq)(h:l.length<=1048576)(hw:∀c∈l,c.wt<=1048576):oQ l=some l:=by
 unfold oQ;rw[Au (c:=aM.c) (b:=80) (f:=eU) (g:=fun x=>x) (L:=jq l _) (k:=_) (by decide) (fun _ _=>rfl) (fun _ _ _ _=>rfl) _ _ _ (fun c hc=>KL c (by have:=aF.dF (aM.ei (hw c hc));omega)) (by simp;omega)];simp
theorem YC(r:aL)(h:r.wt<=1048576):nI r=some r:=by
 have h1:=aL.pP h;have h2:=aL.EK h;have h3:=qc aM.wt r.conds;have h4:=qc Action.wt r.cR;unfold nI;rw[SK r.conds (by omega) (fun c hc=>aL.o7 h hc),aA];rw[Au (c:=Action.c) (b:=48) (f:=fun a:Action=>(dO a.pat).bind fun y=>some (⟨a.kind,y⟩:Action)) (g:=fun x=>x) (L:=iw r _ _) (k:=_) (by decide) (fun _ _=>rfl) (fun x xs i w=>by rw[iw];cases dO x.pat<;>rfl) _ _ _ (fun a ha=>by rw[SL a.pat (by have:=OK h ha;omega)];rfl) (by simp;omega)];simp
theorem M6(l:ar)(h:rp aL.wt l<=1048576):mR l=some l:=by
 have h3:=qc aL.wt l;unfold mR;rw[Au (c:=aL.c) (b:=72) (f:=nI) (g:=fun x=>x) (L:=js l _) (k:=_) (by decide) (fun _ _=>rfl) (fun _ _ _ _=>rfl) _ _ _ (fun r hr=>YC r (by have:=qd (w:=aL.wt) hr;omega)) (by simp;omega)];simp
theorem a1b(a:ar)(k:Int->ar->b9->bM->bI->aJ->Option (aI×Bool)):∀(l:ar) (i:Nat) (u:Int) (w2:ar) (es:b9) (al:bM) (ns:bI) (w6:aJ),(∀r∈l,r.wt<=1048576/\hO r=true)->es.length+l.length<=1000->al.length+4*l.length<=1000->ns.length+4*l.length<=1000->
 lq a k l i u w2 es al ns w6=k u w2 (l.foldl DT ((al,ns),es)).2 (l.foldl DT ((al,ns),es)).1.1 (l.foldl DT ((al,ns),es)).1.2 w6:=by
 intro l
 induction l with
 |nil=>intros;rfl
 |cons r l ih=>
  intro i u w2 es al ns w6 hr he ha hn;simp only[aQ]at he ha hn;obtain⟨hw,hb⟩:=hr r (by simp);have h4:=wR hb;have hl:=CO (fw r) ((al,ns),0);dsimp only at hl;rw[lq,Yq r hw,aA,rZ (by omega),aH,a1c _ _ _ _ _ _ _ _ _ _ _ _ _ (FA hb) (by omega) (by omega),hG (by omega) (by decide),aH,ih _ _ _ _ _ _ _ (fun x hx=>hr x (by simp[hx])) (by simp;omega) (by omega) (by omega)];rfl
theorem a4H(rs:ar)(h:rp aL.wt rs<=1048576):vz rs=some (bif rE rs then(⟨rs,(hY [⟨[],[]⟩] rs).2,(hY [⟨[],[]⟩] rs).1.1,(hY [⟨[],[]⟩] rs).1.2,[],0⟩,true)else(⟨[],[],[],[],[],0⟩,false)):=by
 unfold vz;rw[a4E rs h,aA];cases hb:rE rs with
 |false=>rfl
 |true=>
  have h6:rs.length<=6:=by unfold rE at hb;simp only[aR,bH]at hb;omega
  rw[bV,aS,aH,MV rs h,aA,a1b _ _ _ _ _ _ _ _ _ _ (fun r hr=>⟨by have:=qd (w:=aL.wt) hr;omega,tM hb r hr⟩) (by simp;omega) (by simp;omega) (by simp;omega)];rfl
theorem a0o(a:ar)(k:Int->ar->b9->bM->bI->aJ->Option aI):∀(l:ar) (i:Nat) (u:Int) (w2:ar) (es:b9) (al:bM) (ns:bI) (w6:aJ),(∀r∈l,r.wt<=1048576/\hO r=true)->es.length+l.length<=1000->al.length+4*l.length<=1000->ns.length+4*l.length<=1000->
 iE a k l i u w2 es al ns w6=k u w2 (l.foldl DT ((al,ns),es)).2 (l.foldl DT ((al,ns),es)).1.1 (l.foldl DT ((al,ns),es)).1.2 w6:=by
 intro l
 induction l with
 |nil=>intros;rfl
 |cons r l ih=>
  intro i u w2 es al ns w6 hr he ha hn;simp only[aQ]at he ha hn;obtain⟨hw,hb⟩:=hr r (by simp);have h4:=wR hb;have hl:=CO (fw r) ((al,ns),0);dsimp only at hl;rw[iE,YB r hw,aA,rZ (by omega),aH,a0p _ _ _ _ _ _ _ _ _ _ _ _ _ (FA hb) (by omega) (by omega),hG (by omega) (by decide),aH,ih _ _ _ _ _ _ _ (fun x hx=>hr x (by simp[hx])) (by simp;omega) (by omega) (by omega)];rfl
theorem a3v(rs:ar)(h:rp aL.wt rs<=1048576)(hb:rE rs=true):oU rs=some ⟨rs,(hY [] rs).2,(hY [] rs).1.1,(hY [] rs).1.2,[],0⟩:=by
 unfold oU;have h6:rs.length<=6:=by unfold rE at hb;simp only[aR,bH]at hb;omega
 rw[M6 rs h,aA,a0o _ _ _ _ _ _ _ _ _ _ (fun r hr=>⟨by have:=qd (w:=aL.wt) hr;omega,tM hb r hr⟩) (by simp;omega) (by simp;omega) (by simp;omega)];rfl
def Zt(al:bM)(ns:bI)(p:Int)(c:aM):(bM×bI)×Int:=match J9 p c ns 1 with
 |some i=>((al,ns),dV i)
 |none=>(((J8 al c).1,ns++[⟨p,c,(J8 al c).2,[]⟩]),dV (ns.length+1))
theorem RQ(tk:ay)(al:bM)(ns:bI)(p:Int)(c:aM):FX al (root tk::ns) p c=(((Zt al ns p c).1.1,root tk::(Zt al ns p c).1.2),(Zt al ns p c).2):=by
 unfold FX Zt;rw[Li,List.drop_succ_cons,wW];cases J9 p c ns 1<;>rfl
def rtC(s:(bM×bI)×Int)(c:aM):(bM×bI)×Int:=Zt s.1.1 s.1.2 s.2 c
def X1(z:(bM×bI)×b9)(r:aL):(bM×bI)×b9:=(((fw r).foldl rtC (z.1,0)).1,z.2++[((fw r).foldl rtC (z.1,0)).2])
def rtB(rs:ar):(bM×bI)×b9:=rs.foldl X1 (([],[]),[])
theorem MZ(tk:ay):∀(cs:aq) (al:bM) (ns:bI) (v:Int),cs.foldl CN ((al,root tk::ns),v)=(((cs.foldl rtC ((al,ns),v)).1.1,root tk::(cs.foldl rtC ((al,ns),v)).1.2),(cs.foldl rtC ((al,ns),v)).2)
 | [],_,_,_=>rfl
 |c::cs,al,ns,v=>by
  rw[dL,dL];show cs.foldl CN (FX al (root tk::ns) v c)=_;rw[RQ,MZ tk cs];rfl
theorem Mb(tk:ay):∀(rs:ar) (al:bM) (ns:bI) (es:b9),rs.foldl DT ((al,root tk::ns),es)=(((rs.foldl X1 ((al,ns),es)).1.1,root tk::(rs.foldl X1 ((al,ns),es)).1.2),(rs.foldl X1 ((al,ns),es)).2)
 | [],_,_,_=>rfl
 |r::rs,al,ns,es=>by
  rw[dL,dL];have e:DT ((al,root tk::ns),es) r=(((X1 ((al,ns),es) r).1.1,root tk::(X1 ((al,ns),es) r).1.2),(X1 ((al,ns),es) r).2):=by
   unfold DT X1;dsimp only;rw[MZ]
  rw[e,Mb tk rs]
theorem QS(tk:ay)(rs:ar):hY tk rs=(((rtB rs).1.1,root tk::(rtB rs).1.2),(rtB rs).2):=Mb tk rs [] [] []
theorem FH(tk:ay){rs:ar}(h:∀r∈rs,hO r=true)(h6:rs.length<=6):(hY tk rs).1.2.length<=25:=by
 have main:∀(l:ar) (z:(bM×bI)×b9),(∀r∈l,hO r=true)->(l.foldl DT z).1.2.length<=z.1.2.length+4*l.length:=by
  intro l
  induction l with
  |nil=>intro z _;exact bJ _
  |cons r l ih=>
   intro z hl;have h1:=ih (DT z r) (fun x hx=>hl x (by simp[hx]));have h2:=(CO (fw r) (z.1,0)).2;have h3:=wR (hl r (by simp));have h4:(DT z r).1.2.length=((fw r).foldl CN (z.1,0)).1.2.length:=rfl;rw[dL,aQ];dsimp only at h2;omega
 have:=main rs (([],[root tk]),[]) h;unfold hY;simp only[aQ,bS]at this;omega
end Go.Cx
namespace Go.Cx
open Go.RowKit Go.Proofs Tryz
def td(x:Node):Int×aM:=(x.parent,x.cond)
theorem Je{a b:bI}(h:a.map td=b.map td):∀(k v:Nat),J0 a k v=J0 b k v
 |0,_=>rfl
 |k+1,v=>by
  have e:(a[v]?).map td=(b[v]?).map td:=by rw[<-bU,<-bU,h]
  unfold J0;cases ha:a[v]? with
  |none=>
   cases hb:b[v]? with
   |none=>rfl
   |some y=>rw[ha,hb]at e;cases e
  |some x=>
   cases hb:b[v]? with
   |none=>rw[ha,hb]at e;cases e
   |some y=>
    rw[ha,hb]at e;have e1:x.parent=y.parent:=(qi (pM e)).1;dsimp only;rw[e1,Je h k]
theorem K5{a b:bI}(h:a.map td=b.map td):yI a=yI b:=by
 funext i
 have e:(a[i]?).map td=(b[i]?).map td:=by rw[<-bU,<-bU,h]
 unfold yI;cases ha:a[i]? with
 |none=>
  cases hb:b[i]? with
  |none=>rfl
  |some y=>rw[ha,hb]at e;cases e
 |some x=>
  cases hb:b[i]? with
  |none=>rw[ha,hb]at e;cases e
  |some y=>
   rw[ha,hb]at e;have e2:x.cond=y.cond:=(qi (pM e)).2;show some x.cond=some y.cond;rw[e2]
theorem C3{a b:bI}(h:a.map td=b.map td)(v:Int):iZ a v=iZ b v:=by
 have hl:a.length=b.length:=by have:=congrArg List.length h;simpa using this
 unfold iZ DN;rw[hl,Je h,K5 h]
def xL(al:bM)(fs:aJ):bM:=al.map fun a=>⟨a.shape,Bk a.shape [] fs⟩
def v8(ns:bI)(fs:aJ):bI->Nat->bI
 | [],_=>[]
 |x::xs,i=>⟨x.parent,x.cond,x.gB,HB (iZ ns (dV i)) fs⟩::v8 ns fs xs (i+1)
def oh(ns:bI)(fs:aJ):bI:=v8 ns fs ns 0
theorem E2(ns:bI)(fs:aJ):∀(l:bI) (i:Nat),(v8 ns fs l i).map td=l.map td
 | [],_=>rfl
 |x::l,i=>by rw[v8,bO,E2 ns fs l];rfl
theorem Pm(ns:bI)(fs:aJ)(l:bI)(i:Nat):(v8 ns fs l i).length=l.length:=by
 have:=congrArg List.length (E2 ns fs l i);simpa using this
theorem setAt{α:Type}(pre l:List α)(x y:α):(pre++x::l).set pre.length y=pre++y::l:=by
 rw[qF _ _ (bJ _),nN];rfl
structure HF(ns:List Node):Prop where
 len:ns.length<=1048576
 wt:∀x∈ns,x.cond.wt<=1048576
 path:∀i:Nat,(iZ ns (dV i)).length<=4
theorem MP{ns:bI}{v:Int}{c:aM}(h:c∈iZ ns v):∃x∈ns,x.cond=c:=by
 unfold iZ at h;split at h
 ·unfold DN at h;obtain⟨i,_,hc⟩:=bn.1 h;unfold yI at hc;cases hx:ns[i]? with
  |none=>rw[hx]at hc;cases hc
  |some x=>rw[hx]at hc;exact⟨x,aE hx,pM hc⟩
 ·cases h
theorem Re(n:aI)(fs y:aJ)(k:bM->Option (aI×Unit))(hf:FS fs):∀(l pre:bM),(∀x∈l,x.shape.wt<=1048576)->eN n fs y k l pre.length (pre++l)=k (pre++xL l fs):=by
 intro l
 induction l with
 |nil=>intro pre _;rfl
 |cons x l ih=>
  intro pre hw;have hx:(pre++x::l)[pre.length]?=some x:=by simp
  have hlt:decide (pre.length<((pre++x::l).map ah.c).length)=true:=by simp
  rw[eN,hlt,aH,hx,aA,a0d x.shape [] fs (hw x (by simp)) PB.nil hf,aA,aH,setAt];have:=ih (pre++[⟨x.shape,Bk x.shape [] fs⟩]) (fun z hz=>hw z (by simp[hz]));rw[b8,gF,dJ]at this;rw[show pre++(⟨x.shape,Bk x.shape [] fs⟩:ah)::l=pre++([⟨x.shape,Bk x.shape [] fs⟩]++l)from rfl,this];simp[xL]
theorem Xc(n:aI)(fs y:aJ)(q:bM)(k:Option (aI×Unit))(hf:FS fs)(h24:fs.length<=24)(ns:bI)(hp:HF ns):∀(l pre:bI),(pre++l).map td=ns.map td->
 dP n fs y q k l pre.length (pre++l)=some (⟨n.rules,n.ends,q,pre++v8 ns fs l pre.length,y,n.cL⟩,()):=by
 intro l
 induction l with
 |nil=>intro pre _;rfl
 |cons x l ih=>
  intro pre he;have hx:(pre++x::l)[pre.length]?=some x:=by simp
  have hlt:decide (pre.length<((pre++x::l).map Node.c).length)=true:=by simp
  have hlen:(pre++x::l).length=ns.length:=by have:=congrArg List.length he;simpa using this
  have hok:Zm ⟨n.rules,n.ends,q,pre++x::l,y,n.cL⟩:=by
   refine⟨by show(pre++x::l).length<=1048576;rw[hlen];exact hp.len,fun z hz=>?_⟩;have hm:td z∈ns.map td:=by rw[<-he];exact cH.2 ⟨z,hz,rfl⟩
   obtain⟨w,hw,e⟩:=cH.1 hm;have:w.cond=z.cond:=(qi e).2;rw[<-this];exact hp.wt w hw
  have a0H:iZ (pre++x::l) ((pre.length:Nat):Int)=iZ ns (dV pre.length):=C3 he _;have Pp:∀c∈iZ ns (dV pre.length),c.wt<=1048576:=by
   intro c hc;obtain⟨z,hz,e⟩:=MP hc;rw[<-e];exact hp.wt z hz
  rw[dP,YL _ _ hok,aA,a0H,a0r _ fs Pp (hp.path _) hf h24,aA,hlt,aH,hx,aA,setAt];have:=ih (pre++[⟨x.parent,x.cond,x.gB,HB (iZ ns (dV pre.length)) fs⟩]) (by
   rw[<-he];simp[td])
  rw[b8,gF,dJ]at this;rw[show pre++(⟨x.parent,x.cond,x.gB,HB (iZ ns (dV pre.length)) fs⟩:Node)::l=pre++([⟨x.parent,x.cond,x.gB,HB (iZ ns (dV pre.length)) fs⟩]++l)from rfl,this,v8];simp
theorem WW(n:aI)(fs:aJ)(hf:FS fs)(h24:fs.length<=24)(ha:n.bG.length<=1048576)(hs:∀x∈n.bG,x.shape.wt<=1048576)(hp:HF n.nodes):gj n fs=some (⟨n.rules,n.ends,xL n.bG fs,oh n.nodes fs,fs,n.cL⟩,()):=by
 unfold gj;have h1:=Re n fs fs;have hl:=hp.len;rw[z8 fs hf.1 (fun f Xo=>by have:=aF.dF (hf.2 f Xo);omega),aA,rZ (by omega),aH];have e1:=Re n fs fs (fun(fC:bM)=>(bif decide (n.nodes.length<=maxLen)then(dP n fs fs fC none n.nodes 0 n.nodes)else none)) hf n.bG [] hs;refine e1.trans ?_;rw[cX,rZ (by omega),aH];exact Xc n fs fs _ none hf h24 n.nodes hp n.nodes [] rfl
end Go.Cx
namespace Go.Cx
open Go.RowKit Go.Proofs Tryz
theorem Mc(ns:bI):∀(k k' v:Nat),1<=v->v<=k->v<=k'->J0 ns k v=J0 ns k' v
 |0,_,v,h1,h2,_=>by omega
 |k+1,0,v,h1,_,h3=>by omega
 |k+1,k'+1,v,h1,h2,h3=>by
  unfold J0;cases hx:ns[v]? with
  |none=>rfl
  |some x=>
   dsimp only;by_cases hp:1<=x.parent/\x.parent<(v:Int)
   ·rw[bE hp,bE hp,Mc ns k k' x.parent.toNat (by omega) (by omega) (by omega)]
   ·rw[av hp,av hp]
theorem sj(ns:bI):iZ ns (dV 0)=[]:=by unfold iZ dV;rw[av (by omega)]
theorem uR{ns:bI}{i:Nat}{x:Node}(hx:ns[i]?=some x)(h1:1<=i){p:Nat}(hp:x.parent=dV p)(hpi:p<i):iZ ns (dV i)=iZ ns (dV p)++[x.cond]:=by
 have hl:=(aC.1 hx).1;unfold dV at hp;have e1:iZ ns (dV i)=DN ns i i:=by unfold iZ dV;rw[bE (by omega)];rfl
 obtain⟨k,rfl⟩:∃k,i=k+1:=⟨i-1,by omega⟩
 rw[e1,IR hx];by_cases h0:1<=p
 ·rw[bE (by omega)];have e2:iZ ns (dV p)=DN ns p p:=by unfold iZ dV;rw[bE (by omega)];rfl
  rw[e2,hp,tH];unfold DN;rw[Mc ns k p p h0 (by omega) (bJ _)]
 ·rw[av (by omega),show p=0 by omega,sj]
def Mt(ns:bI):Prop:=∀(i:Nat) x,1<=i->ns[i]?=some x->∃p:Nat,x.parent=dV p/\p<i
theorem G6{ns:bI}(hb:Mt ns)(m:bI):∀(n i:Nat),i<=n->i<ns.length->iZ (ns++m) (dV i)=iZ ns (dV i):=by
 intro n
 induction n with
 |zero=>
  intro i h1 _;rw[show i=0 by omega,sj,sj]
 |succ n ih=>
  intro i h1 h2;by_cases h0:i=0
  ·rw[h0,sj,sj]
  ·have hx:ns[i]?=some ns[i]:=aT h2;have hx':(ns++m)[i]?=some ns[i]:=by rw[ai h2];exact hx
   obtain⟨p,hp,hpi⟩:=hb i _ (by omega) hx;rw[uR hx (by omega) hp hpi,uR hx' (by omega) hp hpi,ih p (by omega) (by omega)]
structure AF(R:List aM->Prop)(ns:List Node):Prop where
 pos:1<=ns.length
 below:Mt ns
 path:∀i:Nat,1<=i->i<ns.length->R (iZ ns (dV i))
theorem Lj{p:Int}{c:aM}:∀ {l:bI} {i j:Nat},J9 p c l i=some j->∃x,l[j-i]?=some x/\i<=j/\0<j/\x.parent=p/\x.cond=c
 |x::l,i,j,h=>by
  unfold J9 at h;split at h
  ·rename_i hc;cases h;exact⟨x,by simp,bJ _,hc.1,hc.2.1,hc.2.2⟩
  ·obtain⟨y,h1,h2,h3,h4,h5⟩:=Lj h;refine⟨y,?_,by omega,h3,h4,h5⟩;rw[show j-i=(j-(i+1))+1 by omega];exact h1
theorem AF.step{R:aq->Prop}{al:bM}{ns:bI}(h:AF R ns){a:Nat}(ha:a<ns.length){c:aM}(hR:R (iZ ns (dV a)++[c])):
 AF R (FX al ns (dV a) c).1.2/\∃b:Nat,(FX al ns (dV a) c).2=dV b/\b<(FX al ns (dV a) c).1.2.length/\iZ (FX al ns (dV a) c).1.2 (dV b)=iZ ns (dV a)++[c]:=by
 unfold FX;cases hc:J9 (dV a) c ns 0 with
 |some j=>
  obtain⟨x,h1,h2,h3,h4,h5⟩:=Lj hc;rw[wA]at h1;have hj:=(aC.1 h1).1;obtain⟨p,hp,Uz⟩:=h.below j x (by omega) h1;have:p=a:=by rw[hp]at h4;unfold dV at h4;omega
  subst this;exact⟨h,j,rfl,hj,by rw[uR h1 (by omega) hp Uz,h5]⟩
 |none=>
  dsimp only;have hbel:Mt (ns++[⟨dV a,c,(J8 al c).2,[]⟩]):=by
   intro i x h1 hx;by_cases hi:i<ns.length
   ·rw[ai hi]at hx;exact h.below i x h1 hx
   ·rw[au (by omega)]at hx;have hi2:i=ns.length:=by
     have:=(aC.1 hx).1;simp at this;omega
    rw[hi2,nN]at hx;cases hx;exact⟨a,rfl,by omega⟩
  have hnew:iZ (ns++[⟨dV a,c,(J8 al c).2,[]⟩]) (dV ns.length)=iZ ns (dV a)++[c]:=by
   have hx:(ns++[(⟨dV a,c,(J8 al c).2,[]⟩:Node)])[ns.length]?=some ⟨dV a,c,(J8 al c).2,[]⟩:=by simp
   have h1:=h.pos;rw[uR hx (by omega) (p:=a) rfl ha,G6 h.below _ a a (bJ _) ha]
  refine⟨⟨by simp,hbel,fun i h1 h2=>?_⟩,ns.length,rfl,by simp,hnew⟩;by_cases hi:i<ns.length
  ·rw[G6 h.below _ i i (bJ _) hi];exact h.path i h1 hi
  ·have:i=ns.length:=by simp at h2;omega
   rw[this,hnew];exact hR
theorem AF.rule{R:aq->Prop}:∀(cs:aq) {al:bM} {ns:bI} {a:Nat},AF R ns->a<ns.length->(∀j:Nat,1<=j->j<=cs.length->R (iZ ns (dV a)++cs.take j))->
 AF R (cs.foldl CN ((al,ns),dV a)).1.2/\∃b:Nat,(cs.foldl CN ((al,ns),dV a)).2=dV b/\b<(cs.foldl CN ((al,ns),dV a)).1.2.length/\iZ (cs.foldl CN ((al,ns),dV a)).1.2 (dV b)=iZ ns (dV a)++cs
 | [],al,ns,a,h,ha,_=>⟨h,a,rfl,ha,by simp⟩
 |c::cs,al,ns,a,h,ha,hR=>by
  obtain⟨h1,b,h2,h3,h4⟩:=h.step (al:=al) ha (c:=c) (by have:=hR 1 (bJ _) (by simp);simpa using this);have e:CN ((al,ns),dV a) c=(((FX al ns (dV a) c).1.1,(FX al ns (dV a) c).1.2),dV b):=by
   show FX al ns (dV a) c=_;rw[<-h2]
  rw[dL,e];obtain⟨k1,d,k2,k3,k4⟩:=AF.rule cs (al:=(FX al ns (dV a) c).1.1) h1 h3 (fun j DM hj2=>by
   rw[h4,dJ];have:=hR (j+1) (by omega) (by simp;omega);simpa using this)
  exact⟨k1,d,k2,k3,by rw[k4,h4];simp⟩
theorem Uk(al:bM)(ns:bI)(p:Int)(c:aM):∃m,(FX al ns p c).1.2=ns++m:=by
 unfold FX;cases J9 p c ns 0 with
 |some i=>exact⟨[],by simp⟩
 |none=>exact⟨[⟨p,c,(J8 al c).2,[]⟩],rfl⟩
theorem PE:∀(cs:aq) (s:(bM×bI)×Int),∃m,(cs.foldl CN s).1.2=s.1.2++m
 | [],s=>⟨[],by simp⟩
 |c::cs,s=>by
  obtain⟨m,h⟩:=Uk s.1.1 s.1.2 s.2 c;obtain⟨m2,h2⟩:=PE cs (CN s c);refine⟨m++m2,?_⟩;rw[dL,h2];show(FX s.1.1 s.1.2 s.2 c).1.2++m2=_;rw[h,dJ]
def OI(rs:ar)(p:aq):Prop:=∃r∈rs,∃j:Nat,1<=j/\j<=(fw r).length/\p=(fw r).take j
theorem Ma(all:ar):∀(l:ar) (al:bM) (ns:bI) (es:b9),(∀r∈l,r∈all)->AF (OI all) ns->
 AF (OI all) (l.foldl DT ((al,ns),es)).1.2/\(∃m,(l.foldl DT ((al,ns),es)).1.2=ns++m)/\∃fs,(l.foldl DT ((al,ns),es)).2=es++fs/\fs.length=l.length/\
  ∀(i:Nat) r,l[i]?=some r->∃b:Nat,fs[i]?=some (dV b)/\b<(l.foldl DT ((al,ns),es)).1.2.length/\iZ (l.foldl DT ((al,ns),es)).1.2 (dV b)=fw r
 | [],al,ns,es,_,h=>⟨h,⟨[],by simp⟩,[],by simp,rfl,fun i r hr=>by simp at hr⟩
 |r::l,al,ns,es,hm,h=>by
  obtain⟨h1,b,h2,h3,h4⟩:=AF.rule (fw r) (al:=al) h (a:=0) (by have:=h.pos;omega) (fun j DM hj2=>by
   rw[sj,cX];exact⟨r,hm r (by simp),j,DM,hj2,rfl⟩)
  obtain⟨m1,hm1⟩:=PE (fw r) ((al,ns),dV 0);obtain⟨k1,⟨m2,hm2⟩,fs,k2,k3,k4⟩:=Ma all l ((fw r).foldl CN ((al,ns),dV 0)).1.1 ((fw r).foldl CN ((al,ns),dV 0)).1.2 (es++[dV b]) (fun x hx=>hm x (by simp[hx])) h1;have e:DT ((al,ns),es) r=((((fw r).foldl CN ((al,ns),dV 0)).1.1,((fw r).foldl CN ((al,ns),dV 0)).1.2),es++[dV b]):=by
   rw[<-h2];rfl
  rw[dL,e];refine⟨k1,⟨m1++m2,by rw[hm2,hm1,dJ]⟩,dV b::fs,by rw[k2];simp,by simp[k3],?_⟩;intro i x hx;cases i with
  |zero=>
   have:r=x:=by simpa using hx
   subst this;refine⟨b,rfl,by rw[hm2];simp;omega,?_⟩;rw[hm2,G6 h1.below _ b b (bJ _) h3,h4,sj];rfl
  |succ i=>exact k4 i x (by simpa using hx)
theorem QJ(R:aq->Prop)(tk:ay):AF R [root tk]:=
 ⟨bJ _,fun i x h1 hx=>by
  have:=(aC.1 hx).1;simp at this;omega,fun i h1 h2=>by simp at h2;omega⟩
theorem zG(tk:ay)(rs:ar):AF (OI rs) (hY tk rs).1.2/\(hY tk rs).2.length=rs.length/\∀(i:Nat) r,rs[i]?=some r->∃b:Nat,(hY tk rs).2[i]?=some (dV b)/\b<(hY tk rs).1.2.length/\iZ (hY tk rs).1.2 (dV b)=fw r:=by
 obtain⟨h1,_,fs,h2,h3,h4⟩:=Ma rs rs [] [root tk] [] (fun r hr=>hr) (QJ _ tk);rw[cX]at h2;refine⟨h1,?_,?_⟩
 ·show(rs.foldl DT (([],[root tk]),[])).2.length=_;rw[h2,h3]
 ·intro i r hr;obtain⟨b,k1,k2,k3⟩:=h4 i r hr;refine⟨b,?_,k2,k3⟩;show(rs.foldl DT (([],[root tk]),[])).2[i]?=_;rw[h2];exact k1
theorem MR{r:aL}(h:hO r=true):∃c cs,fw r=c::cs/\c.kind=1:=by
 have hb:=Ku h;cases hc:r.conds with
 |nil=>
  unfold hO at h;rw[hc]at h;simp at h
 |cons c cs=>
  refine⟨IU (mo r) c,cs.map (IU (mo r)),by unfold fw;rw[hc];rfl,?_⟩;exact(Hi (pre:=[]) (i:=0) (c:=c) (rest:=cs) (by rw[cX,<-hc];exact hb)).2.1 rfl
theorem QM{rs:ar}(h:∀r∈rs,hO r=true){p:aq}(hp:OI rs p):p.length<=4/\∃c cs,p=c::cs/\c.kind=1:=by
 obtain⟨r,hr,j,h1,h2,rfl⟩:=hp;have:=wR (h r hr);refine⟨by rw[cD];omega,?_⟩;obtain⟨c,cs,e,hk⟩:=MR (h r hr);obtain⟨j,rfl⟩:∃k,j=k+1:=⟨j-1,by omega⟩
 exact⟨c,cs.take j,by rw[e];rfl,hk⟩
theorem Ga{r:aL}(h:hO r=true):∀c∈fw r,c.pat.rel.length<=8/\c.pat.args.length<=3/\∀x∈c.pat.args,x.length<=16:=by
 intro c' Uw;obtain⟨c,hc,rfl⟩:=cH.1 Uw;obtain⟨h1,h2,h3,h4,h5⟩:=Hh (Ge h c hc);have hV:∀x∈c.pat.args++[c.left,c.right],kz x=true->x∈AV r.conds:=fun x hx hv=>F4.2 ⟨bZ.2 ⟨c,hc,hx⟩,hv⟩
 refine⟨h1,by show(c.pat.args.map _).length<=3;rw[ax];exact h2,fun x hx=>?_⟩;obtain⟨y,hy,rfl⟩:=cH.1 hx;exact FC h (h3 y hy) (hV y (by simp[hy]))
theorem Tf{p:aF}(h1:p.rel.length<=8)(h2:p.args.length<=3)(h3:∀x∈p.args,x.length<=16):(yW p).wt<=1048576:=by
 have a3:=HP (p.args.map (CL (p.args.foldl jh []))) (fun x hx=>by
  obtain⟨y,hy,rfl⟩:=cH.1 hx;exact Yl (by omega) (h3 y hy))
 rw[ax]at a3;show aF.wt ⟨p.rel,p.args.map (CL (p.args.foldl jh []))⟩<=1048576;unfold aF.wt;dsimp only;unfold tw at*;omega
def uj(al:bM):Prop:=∀x∈al,x.shape.wt<=1048576/\x.facts=[]
theorem Mz{al:bM}{ns:bI}{p:Int}{c:aM}(h:uj al)(hc:(yW c.pat).wt<=1048576):uj (FX al ns p c).1.1:=by
 unfold FX;cases J9 p c ns 0 with
 |some i=>exact h
 |none=>
  show uj (J8 al c).1;unfold J8;by_cases hk:c.kind=1\/c.kind=2
  ·rw[bE hk];unfold OL;cases Pa (yW c.pat) al 0 with
   |some i=>exact h
   |none=>
    intro x hx;rcases aV.1 hx with hx|hx
    ·exact h x hx
    ·rw[cZ.1 hx];exact⟨hc,rfl⟩
  ·rw[av hk];exact h
theorem IY:∀(cs:aq) (s:(bM×bI)×Int),uj s.1.1->(∀c∈cs,(yW c.pat).wt<=1048576)->uj (cs.foldl CN s).1.1
 | [],_,h,_=>h
 |c::cs,s,h,hc=>IY cs (CN s c) (Mz h (hc c (by simp))) (fun x hx=>hc x (by simp[hx]))
theorem C8(tk:ay){rs:ar}(h:∀r∈rs,hO r=true):uj (hY tk rs).1.1:=by
 have main:∀(l:ar) (z:(bM×bI)×b9),(∀r∈l,hO r=true)->uj z.1.1->uj (l.foldl DT z).1.1:=by
  intro l
  induction l with
  |nil=>intro z _ hz;exact hz
  |cons r l ih=>
   intro z hl hz;refine ih (DT z r) (fun x hx=>hl x (by simp[hx])) ?_;exact IY (fw r) (z.1,0) hz (fun c hc=>by
    obtain⟨p1,p2,p3⟩:=Ga (hl r (by simp)) c hc;exact Tf p1 p2 p3)
 exact main rs _ h (fun x hx=>by cases hx)
theorem L7(tk:ay){rs:ar}(h:∀r∈rs,hO r=true)(h6:rs.length<=6):HF (hY tk rs).1.2:=by
 have hp:=(zG tk rs).1;have hl:=FH tk h h6;refine⟨by omega,?_,?_⟩
 ·intro x hx;obtain⟨i,hi⟩:=dB hx;have Mn:=(aC.1 hi).1;by_cases h0:i=0
  ·subst h0;rw[QS]at hi;cases hi;unfold root aM.wt;simp[rp,tw]
  ·obtain⟨p,hpp,hpi⟩:=hp.below i x (by omega) hi;obtain⟨r,hr,j,j1,j2,e⟩:=hp.path i (by omega) Mn;rw[uR hi (by omega) hpp hpi]at e;have hm:x.cond∈fw r:=bw (by rw[<-e];simp:x.cond∈(fw r).take j);exact FA (h r hr) _ hm
 ·intro i;by_cases hi:1<=i/\i<(hY tk rs).1.2.length
  ·exact(QM h (hp.path i hi.1 hi.2)).1
  ·unfold iZ dV;rw[av (by omega)];simp
theorem SE(rs:ar)(fs:aJ)(t:Int)(hr:rp aL.wt rs<=1048576)(hb:rE rs=true)(hf:FS fs)(h24:fs.length<=24):ou rs fs t=some ⟨rs,(hY [] rs).2,xL (hY [] rs).1.1 fs,oh (hY [] rs).1.2 fs,fs,t⟩:=by
 have h6:rs.length<=6:=by unfold rE at hb;simp only[aR,bH]at hb;omega
 have hv:=tM hb;have hsh:=C8 [] hv;have hal:(hY [] rs).1.1.length<=1048576:=by
  have main:∀(l:ar) (z:(bM×bI)×b9),(∀r∈l,hO r=true)->(l.foldl DT z).1.1.length<=z.1.1.length+4*l.length:=by
   intro l
   induction l with
   |nil=>intro z _;exact bJ _
   |cons r l ih=>
    intro z hl;have h1:=ih (DT z r) (fun x hx=>hl x (by simp[hx]));have h2:=(CO (fw r) (z.1,0)).1;have h3:=wR (hl r (by simp));have h4:(DT z r).1.1.length=((fw r).foldl CN (z.1,0)).1.1.length:=rfl;rw[dL,aQ];dsimp only at h2;omega
  have:=main rs (([],[root []]),[]) hv;unfold hY;simp only[bS]at this;omega
 unfold ou;rw[a3v rs hr hb,aA,WW _ fs hf h24 hal (fun x hx=>(hsh x hx).1) (L7 [] hv h6)];rfl
end Go.Cx
namespace Go.Cx
open Go.RowKit Go.Proofs Tryz
def vY(rs:ar)(fs:aJ)(t:Int):aI:=⟨rs,(hY [] rs).2,xL (hY [] rs).1.1 fs,oh (hY [] rs).1.2 fs,fs,t⟩
def NV(n:aI):Bool:=rE n.rules&&(iK n.facts&&(decide (0<=n.cL)&&Ka n (vY n.rules n.facts 0)))
theorem FS.JX{fs:aJ}(h:rp aF.wt fs<=1048576):FS fs:=⟨by have:=qc aF.wt fs;omega,fun f hf=>by have:=qd (w:=aF.wt) hf;omega⟩
theorem SO(n:aI)(hr:rp aL.wt n.rules<=1048576)(hf:rp aF.wt n.facts<=1048576):mQ n=some (NV n):=by
 unfold mQ NV;rw[a0Y _ hr,WU _ hf,aA,aA];cases h1:rE n.rules with
 |false=>rfl
 |true=>
  cases h2:iK n.facts with
  |false=>rfl
  |true=>
   rw[SE _ _ _ hr h1 (FS.JX hf) (uI h2),aA,YI,aA];simp only[aH,iR];by_cases h3:0<=n.cL
   ·rw[bC h3];rfl
   ·rw[bK h3];rfl
def Kg(x:Node):Int×Int×aM:=(x.parent,x.gB,x.cond)
end Go.Cx
namespace Go.Cx
open Go.RowKit Go.Proofs Tryz
theorem PF{fs:aJ}(hf:FS fs):∀(cs:aq) (l:ay) (n:Nat),(∀c∈cs,c.wt<=1048576)->(∀t∈l,TK n t)->∀t∈cs.foldl (xP fs) l,TK (n+cs.length) t
 | [],l,n,_,hl=>hl
 |c::cs,l,n,hc,hl=>by
  have:=PF hf cs (xP fs l c) (n+1) (fun x hx=>hc x (by simp[hx])) (Kh hl (hc c (by simp)) hf);rw[aQ,show n+(cs.length+1)=n+1+cs.length from by omega];exact this
end Go.Cx
namespace Go.Cx
open Go.RowKit Go.Proofs Tryz
theorem JJ(ns:bI)(fs:aJ):∀(l:bI) (i j:Nat),(v8 ns fs l i)[j]?=(l[j]?).map fun x=>⟨x.parent,x.cond,x.gB,HB (iZ ns (dV (i+j))) fs⟩
 | [],_,_=>by simp[v8]
 |x::l,i,0=>by simp[v8]
 |x::l,i,j+1=>by
  rw[v8,fF,fF,JJ ns fs l (i+1) j,show i+1+j=i+(j+1)by omega]
end Go.Cx
namespace Go.Cx
open Go.RowKit Go.Proofs Tryz
def findF(f:aF):aJ->Nat->Int
 | [],_=> -1
 |x::xs,i=>if x=f then(i:Int)else findF f xs (i+1)
theorem JK(f:aF):∀(l:aJ) (i:Nat),decide (findF f l i>=0)=decide (f∈l)
 | [],i=>by simp[findF]
 |x::xs,i=>by
  rw[findF];by_cases h:x=f
  ·rw[bE h];subst h;simp
  ·rw[av h,JK f xs (i+1)];have:f≠x:=fun e=>h e.symm
   simp[this]
theorem YE(l:aJ)(f:aF):pR l f=some (findF f l 0):=by
 unfold pR;have:∀(r:aJ) (i:Nat),ig l f (some (-1)) r i=some (findF f r i):=by
  intro r
  induction r with
  |nil=>intro i;rfl
  |cons x xs ih=>
   intro i;rw[ig,SQ,aA,ih,findF];by_cases h:x=f
   ·rw[bC h,bE h,aH]
   ·rw[bK h,av h,aS]
 exact this l 0
theorem JG{a b:Bytes}(h:tF a b>0):tF b a<0:=by
 unfold tF at h⊢;by_cases h1:Op.bytesLess a b=true
 ·rw[bE h1]at h;omega
 ·rw[av h1]at h;by_cases h2:a=b
  ·rw[bE h2]at h;omega
  ·have h3:Op.bytesLess b a=true:=by
    cases hb:Op.bytesLess b a with
    |true=>rfl
    |false=>exact absurd (Fe (by simpa using h1) hb) h2
   rw[bE h3];omega
theorem JI{a b:Bytes}(h:tF a b=0):a=b:=cr fun hne=>OZ hne h
theorem Hf{a b:Bytes}(h:tF a b<0):tF b a>0:=by
 unfold tF at h⊢;by_cases h1:Op.bytesLess a b=true
 ·have h3:=EN h1;have h4:¬(Op.bytesLess b a=true):=by rw[h3];simp
  have h5:¬b=a:=fun e=>by subst e;rw[sx]at h1;cases h1
  rw[av h4,av h5];omega
 ·rw[av h1]at h;by_cases h2:a=b
  ·rw[bE h2]at h;omega
  ·rw[av h2]at h;omega
theorem JC(a b:Bytes):(yl a b>0->yl b a<0)/\(yl a b=0->a=b)/\(yl a b<0->yl b a>0):=by
 have num:∀ {s:Bytes} {n:Nat},vC s=some n->Lib.decDigits n=s:=by
  intro s n h;unfold vC at h;split at h
  ·split at h
   ·split at h
    ·rename_i h2;cases h;exact h2
    ·cases h
   ·cases h
  ·cases h
 unfold yl;cases ha:vC a with
 |none=>
  cases hb:vC b with
  |none=>exact⟨JG,JI,Hf⟩
  |some y=>simp
 |some x=>
  cases hb:vC b with
  |none=>simp
  |some y=>
   simp only[DW];refine⟨fun h=>?_,fun h=>?_,fun h=>?_⟩
   ·split at h
    ·omega
    ·split at h
     ·rw[bE (by omega)];omega
     ·omega
   ·split at h
    ·omega
    ·split at h
     ·omega
     ·have:x=y:=by omega
      rw[<-num ha,<-num hb,this]
   ·split at h
    ·rw[av (by omega),bE (by omega)];omega
    ·split at h<;>omega
theorem Hl{α:Type}{g:α->α->Int}(hg:∀a b,(g a b>0->g b a<0)/\(g a b=0->a=b)/\(g a b<0->g b a>0)):∀(a b:List α),
 (∀z,r9 g a b=some z->z≠0/\∃y,r9 g b a=some y/\(z>0->y<0)/\(z<0->y>0))/\(r9 g a b=none->r9 g b a=none/\(a.length=b.length->a=b))
 | [],[]=>⟨fun z h=>(by simp[r9]at h),fun _=>⟨rfl,fun _=>rfl⟩⟩
 | [],y::ys=>⟨fun z h=>(by simp[r9]at h),fun _=>⟨by simp[r9],fun h=>by simp at h⟩⟩
 |x::xs,[]=>⟨fun z h=>(by simp[r9]at h),fun _=>⟨by simp[r9],fun h=>by simp at h⟩⟩
 |x::xs,y::ys=>by
  obtain⟨i1,i2⟩:=Hl hg xs ys;obtain⟨g1,g2,g3⟩:=hg x y;by_cases h0:g x y=0
  ·have e:=g2 h0;subst e;simp only[r9,h0,ne_eq,not_true_eq_false,yf];exact⟨i1,fun h=>⟨(i2 h).1,fun hl=>by rw[(i2 h).2 (by simpa using hl)]⟩⟩
  ·have h1:g y x≠0:=by
    intro e;by_cases hp:g x y>0
    ·have:=g1 hp;omega
    ·have:=g3 (by omega);omega
   simp only[r9,ne_eq,h0,h1,not_false_eq_true,o6];refine⟨fun z h=>?_,fun h=>by cases h⟩;cases h;exact⟨h0,_,rfl,g1,g3⟩
theorem JF{α:Type}{g:α->α->Int}(hg:∀a b,(g a b>0->g b a<0)/\(g a b=0->a=b)/\(g a b<0->g b a>0))(a b:List α):(cmpL g a b>0->cmpL g b a<0)/\(cmpL g a b=0->a=b)/\(cmpL g a b<0->cmpL g b a>0):=by
 obtain⟨h1,h2⟩:=Hl hg a b;unfold cmpL;cases hd:r9 g a b with
 |some z=>
  obtain⟨hz,y,hy,p,q⟩:=h1 z hd;rw[hy];exact⟨p,fun e=>absurd e hz,q⟩
 |none=>
  obtain⟨h3,h4⟩:=h2 hd;rw[h3];simp only[DW];refine⟨fun h=>?_,fun h=>?_,fun h=>?_⟩
  ·split at h
   ·omega
   ·split at h
    ·rw[bE (by omega)];omega
    ·omega
  ·split at h
   ·omega
   ·split at h
    ·omega
    ·exact h4 (by omega)
  ·split at h
   ·rw[av (by omega),bE (by omega)];omega
   ·split at h<;>omega
theorem wP(a b:aF):(o5 a b>0->o5 b a<0)/\(o5 a b=0->a=b)/\(o5 a b<0->o5 b a>0):=by
 obtain⟨h1,h2,h3⟩:=JF JC a.args b.args;unfold o5;by_cases hr:a.rel=b.rel
 ·rw[av (by simpa using hr),av (by simpa using hr.symm)];refine⟨h1,fun h=>?_,h3⟩;cases a;cases b;simp only at hr h2 h;rw[hr,h2 h]
 ·have V0:b.rel≠a.rel:=fun e=>hr e.symm
  rw[bE hr,bE V0];exact⟨JG,fun h=>absurd (JI h) hr,Hf⟩
def tG(f:aF):aJ->aJ
 | []=>[f]
 |x::xs=>if o5 x f>0 then f::x::xs else x::tG f xs
theorem Ey(f:aF):∀(l:aJ) (x:aF),x∈tG f l↔x=f\/x∈l
 | [],x=>by simp[tG]
 |y::ys,x=>by
  rw[tG];split
  ·simp
  ·simp only[bA,Ey f ys x];constructor
   ·rintro(h|h|h)<;>simp[h]
   ·rintro(h|h|h)<;>simp[h]
theorem Ex(f:aF):∀(l:aJ),(tG f l).length=l.length+1
 | []=>rfl
 |y::ys=>by rw[tG];split<;>simp[Ex f ys]
theorem JB{f:aF}(hf:og f=true):∀(l:aJ) (p:Option aF),chainB p l=true->f∉l->(∀q,p=some q->o5 q f<0)->chainB p (tG f l)=true
 | [],p,_,_,hp=>by
  cases p with
  |none=>simp[tG,chainB,hf]
  |some q=>simp[tG,chainB,hf,hp q rfl]
 |x::xs,p,h,hn,hp=>by
  simp only[bA,B6]at hn;have hx:chainB (some x) xs=true/\og x=true/\(∀q,p=some q->o5 q x<0):=by
   cases p with
   |none=>simp[chainB]at h;exact⟨h.2,h.1,by simp⟩
   |some q=>
    simp only[chainB,aR,bH]at h;exact⟨by first|exact h.2.2|exact h.2,by first|exact h.1.1|exact h.1,fun q' e=>by cases e;first|exact h.1.2|exact h.2.1⟩
  rw[tG];split
  ·rename_i hgt;have h1:=(wP x f).1 hgt;cases p with
   |none=>simp[chainB,hf,hx.2.1,h1,hx.1]
   |some q=>simp[chainB,hf,hx.2.1,h1,hx.1,hp q rfl]
  ·rename_i hle;have hlt:o5 x f<0:=by
    have:o5 x f≠0:=fun e=>hn.1 ((wP x f).2.1 e).symm
    omega
   have ih:=JB hf xs (some x) hx.1 hn.2 (fun q e=>by cases e;exact hlt);cases p with
   |none=>simp[chainB,hx.2.1,ih]
   |some q=>simp[chainB,hx.2.1,ih,hx.2.2 q rfl]
theorem Jw{f:aF}{l:aJ}(hf:og f=true)(hl:iK l=true)(hn:f∉l)(h24:l.length≠24):iK (tG f l)=true:=by
 unfold iK at hl⊢;simp only[aR,bH]at hl⊢;exact⟨JB hf l none hl.1 hn (by simp),by rw[Ex];omega⟩
theorem a1O(a:aJ)(f:aF)(K:Bool->aJ->Option aJ)(hf:f.args.length<=1099511627776):∀(rest:aJ) (i:Nat) (v:Bool) (w:aJ),(∀x∈rest,x.args.length<=1099511627776)->w.length+2*rest.length<=1048576->f∉rest->
 (v=true->cN a f K rest i v w=K true (w++rest))/\
 (v=false->(cN a f K rest i v w=K true (w++tG f rest))\/(cN a f K rest i v w=K false (w++rest)/\tG f rest=rest++[f])):=by
 intro rest
 induction rest with
 |nil=>intro i v w _ _ _;exact⟨fun h=>by subst h;simp[cN],fun h=>by subst h;exact .inr ⟨by simp[cN],rfl⟩⟩
 |cons x xs ih=>
  intro i v w hs hl hn;simp only[aQ]at hl;simp only[bA,B6]at hn;have hx:=hs x (by simp);have hs':∀y∈xs,y.args.length<=1099511627776:=fun y hy=>hs y (by simp[hy])
  have cx:=C7 x hx;have cf:=C7 f hf;have nx:=fun w':aJ=>fun h:w'.length<1099511627776=>hG (w:=w') (c:=aF.c) (y:=[D.str x.rel,D.sl (x.args.map tx)]) (b:=40) h (by decide)
  have nf:=fun w':aJ=>fun h:w'.length<1099511627776=>hG (w:=w') (c:=aF.c) (y:=[D.str f.rel,D.sl (f.args.map tx)]) (b:=40) h (by decide)
  constructor
  ·intro h;subst h;rw[cN,bV,aS,cx,aA,nx w (by omega),aH,(ih (i+1) true (w++[x]) hs' (by simp;omega) hn.2).1 rfl];simp
  ·intro h;subst h;rw[cN,cJ,aH,TJ,aA];by_cases hgt:o5 x f>0
   ·left
    have e2:room (((w.map aF.c)++[[D.str f.rel,D.sl (f.args.map tx)]]).length+[[D.str x.rel,D.sl (x.args.map tx)]].length) 40=true:=by
     have:=nx (w++[f]) (by simp;omega);rw[bP]at this;exact this
    rw[bC (by omega:o5 x f>=0),aH,aA,bC hgt,aH,cf,aA,nf w (by omega),aH,cx,aA,e2,aH];rw[(ih (i+1) true (w++[f]++[x]) hs' (by simp;omega) hn.2).1 rfl,tG,bE hgt];simp
   ·have hlt:¬o5 x f>=0:=by
     have:o5 x f≠0:=fun e=>hn.1 ((wP x f).2.1 e).symm
     omega
    rw[bK hlt,aS,cx,aA,nx w (by omega),aH];rw[tG,av hgt];rcases(ih (i+1) false (w++[x]) hs' (by simp;omega) hn.2).2 rfl with q|⟨q1,q2⟩
    ·left;rw[q];simp
    ·right;rw[q1,q2];simp
theorem a1N(l:aJ)(f:aF)(hf:f.args.length<=1099511627776)(hl:∀x∈l,x.args.length<=1099511627776)(hn:l.length<=1000)(hm:f∉l):pG l f=some (tG f l):=by
 unfold pG;rcases(a1O l f _ hf l 0 false [] hl (by simp;omega) hm).2 rfl with q|⟨q1,q2⟩
 ·rw[q];rfl
 ·rw[q1,q2];show(bif !false then _ else _)=_;rw[cJ,aH,C7 f hf,aA,cX,hG (w:=l) (c:=aF.c) (y:=[D.str f.rel,D.sl (f.args.map tx)]) (by omega) (by decide),aH]
def Fc(l:aJ)(f:aF):aJ×Bool:=if iK l=true/\og f=true/\f∉l/\l.length≠24 then(tG f l,true)else(l,false)
theorem Hg{a b c:Bytes}(h1:tF a b<0)(h2:tF b c<0):tF a c<0:=by
 have lt:∀ {x y:Bytes},tF x y<0->Op.bytesLess x y=true:=by
  intro x y h;unfold tF at h;split at h
  ·assumption
  ·split at h<;>omega
 have:=yg (lt h1) (lt h2);unfold tF;rw[bE this];omega
theorem Uo{x y:Int}:DW x y<0↔x<y:=by
 unfold DW;split
 ·omega
 ·split<;>omega
theorem N6{a b c:Bytes}(h1:yl a b<0)(h2:yl b c<0):yl a c<0:=by
 unfold yl at*;cases ha:vC a<;>cases hb:vC b<;>cases hc:vC c<;>simp only[ha,hb,hc]at h1 h2⊢ <;>first|omega|exact Hg h1 h2| (rw[Uo]at*;omega)
theorem Un{α:Type}(g:α->α->Int):cmpL g [] []=0:=rfl
theorem Um{α:Type}(g:α->α->Int)(y:α)(ys:List α):cmpL g [] (y::ys)= -1:=by
 unfold cmpL r9 DW;simp<;>omega
theorem OY{α:Type}(g:α->α->Int)(x:α)(xs:List α):cmpL g (x::xs) []=1:=by
 unfold cmpL r9 DW;simp<;>omega
theorem OX{α:Type}(g:α->α->Int)(x y:α)(xs ys:List α):cmpL g (x::xs) (y::ys)=if g x y≠0 then g x y else cmpL g xs ys:=by
 unfold cmpL;rw[r9];by_cases h:g x y≠0
 ·rw[bE h,bE h]
 ·rw[av h,av h,aQ,aQ];cases r9 g xs ys with
  |some z=>rfl
  |none=>
   show DW _ _=DW _ _;unfold DW
   congr 1
   ·rw[uH];omega
   ·congr 1
    rw[uH];omega
theorem He{α:Type}{g:α->α->Int}(h0:∀a b,g a b=0->a=b)(ht:∀a b c,g a b<0->g b c<0->g a c<0):∀(a b c:List α),cmpL g a b<0->cmpL g b c<0->cmpL g a c<0
 | [],[],c,h1,_=>by rw[Un]at h1;omega
 |_::_,[],c,h1,_=>by rw[OY]at h1;omega
 |_,y::ys,[],_,h2=>by rw[OY]at h2;omega
 | [],y::ys,z::zs,_,_=>by rw[Um];omega
 |x::xs,y::ys,z::zs,h1,h2=>by
  rw[OX]at*;by_cases e1:g x y=0
  ·have:=h0 _ _ e1;subst this;rw[av (by omega)]at h1;by_cases e2:g x z=0
   ·rw[av (by omega)]at h2⊢;exact He h0 ht xs ys zs h1 h2
   ·rw[bE e2]at h2⊢;exact h2
  ·rw[bE e1]at h1;by_cases e2:g y z=0
   ·have:=h0 _ _ e2;subst this;rw[bE e1];exact h1
   ·rw[bE e2]at h2;have:=ht x y z h1 h2;rw[bE (by omega)];exact this
theorem HZ{a b c:aF}(h1:o5 a b<0)(h2:o5 b c<0):o5 a c<0:=by
 unfold o5 at*;by_cases e1:a.rel=b.rel
 ·by_cases e2:b.rel=c.rel
  ·rw[av (by simpa using e1)]at h1;rw[av (by simpa using e2)]at h2;rw[av (by simpa using e1.trans e2)];exact He (fun a b=>(JC a b).2.1) (fun _ _ _=>N6) _ _ _ h1 h2
  ·rw[bE e2]at h2;rw[e1,bE e2];exact h2
 ·rw[bE e1]at h1;by_cases e2:b.rel=c.rel
  ·rw[<-e2,bE e1];exact h1
  ·rw[bE e2]at h2;have:=Hg h1 h2;have hne:a.rel≠c.rel:=fun e=>by rw[e,JH]at this;omega
   rw[bE hne];exact this
theorem ym(a:aF):¬o5 a a<0:=by
 intro h;have:=(wP a a).2.2 h;omega
theorem JD(a:aF):o5 a a=0:=by
 have h1:=ym a;have h2:=(wP a a).1;omega
theorem JE{a b:aJ}:cmpL o5 a b=0↔a=b:=by
 constructor
 ·exact(JF wP a b).2.1
 ·rintro rfl
  induction a with
  |nil=>rfl
  |cons x xs ih=>rw[OX,av (by simp[JD]),ih]
theorem sy{p:Option aF}{x:aF}{xs:aJ}(h:chainB p (x::xs)=true):og x=true/\(∀q,p=some q->o5 q x<0)/\chainB (some x) xs=true:=by
 cases p with
 |none=>simp[chainB]at h;exact⟨h.1,by simp,h.2⟩
 |some q=>
  simp only[chainB,aR,bH]at h;exact⟨h.1.1,fun q' e=>by cases e;exact h.1.2,h.2⟩
theorem uJ:∀ {l:aJ} {p:aF},chainB (some p) l=true->∀x∈l,o5 p x<0
 | [],_,_,_,h=>by cases h
 |y::ys,p,h,x,hx=>by
  obtain⟨_,h2,h3⟩:=sy h;have hp:=h2 p rfl;rcases bA.1 hx with rfl|hx
  ·exact hp
  ·exact HZ hp (uJ h3 x hx)
theorem EO:∀ {l:aJ} {p:Option aF},chainB p l=true->l.Nodup
 | [],_,_=>List.nodup_nil
 |x::xs,p,h=>by
  obtain⟨_,_,h3⟩:=sy h;rw[di];exact⟨fun hx=>ym x (uJ h3 x hx),EO h3⟩
theorem GK{l:aJ}(h:iK l=true):l.Nodup:=by
 unfold iK at h;simp only[aR]at h;exact EO h.1
theorem GM:∀ {l:aJ} {p:Option aF},chainB p l=true->∀x∈l,og x=true
 | [],_,_,_,h=>by cases h
 |y::ys,p,h,x,hx=>by
  obtain⟨h1,_,h3⟩:=sy h;rcases bA.1 hx with rfl|hx
  ·exact h1
  ·exact GM h3 x hx
theorem ON{l:aJ}{f:aF}(h:(Fc l f).2=true):iK (Fc l f).1=true:=by
 unfold Fc at h⊢;split at h
 ·rename_i hc;rw[bE hc];exact Jw hc.2.1 hc.1 hc.2.2.1 hc.2.2.2
 ·cases h
end Go.Cx
namespace Go.Cx
open Go.RowKit Go.Proofs Tryz
def KD(A:ay):Prop:=A.Pairwise fun t u=>t.facts≠u.facts
theorem E1{c:aM}{t u:aW}{f:aF}(h:u∈ext1 c t f):u.facts=t.facts++[f]:=by
 unfold ext1 at h;cases hm:(vX c.pat f t.bind).2 with
 |false=>rw[hm]at h;cases h
 |true=>rw[hm,aH]at h;rw[cZ.1 h]
theorem IJ{c:aM}{fs:aJ}{t u:aW}(h:u∈H7 c fs t):(c.kind=1/\∃f∈fs,u.facts=t.facts++[f])\/(c.kind≠1/\u=t):=by
 unfold H7 at h;by_cases hk:c.kind=1
 ·rw[bC hk,aH]at h;obtain⟨f,hf,hu⟩:=bZ.1 h;exact .inl ⟨hk,f,hf,E1 hu⟩
 ·rw[bK hk,aS]at h;cases hh:Hy c t.bind fs with
  |false=>rw[hh]at h;cases h
  |true=>rw[hh,aH]at h;exact .inr ⟨hk,cZ.1 h⟩
theorem VX{c:aM}{fs:aJ}{A:ay}(hf:fs.Nodup)(hA:KD A):KD (xP fs A c):=by
 unfold KD xP;rw[AS];refine⟨fun t _=>?_,?_⟩
 ·unfold H7;cases decide (c.kind=1)with
  |true=>
   rw[aH,AS];refine⟨fun f _=>?_,?_⟩
   ·unfold ext1;cases(vX c.pat f t.bind).2<;>simp
   ·exact List.Pairwise.imp (fun {f g} hne x hx y hy e=>by
     rw[E1 hx,E1 hy]at e;exact hne (by simpa using e)) hf
  |false=>cases Hy c t.bind fs<;>simp
 ·exact List.Pairwise.imp (fun {t u} hne x hx y hy e=>by
   rcases IJ hx with⟨k,f,_,e1⟩|⟨k,e1⟩<;>rcases IJ hy with⟨k',g,_,e2⟩|⟨k',e2⟩
   ·rw[e1,e2]at e;exact hne (List.append_inj' e rfl).1
   ·exact k' k
   ·exact k k'
   ·rw[e1,e2]at e;exact hne e) hA
theorem KD.one(t:aW):KD [t]:=List.pairwise_singleton _ _
theorem Oh{fs:aJ}(hf:fs.Nodup):∀(cs:aq) {A:ay},KD A->KD (cs.foldl (xP fs) A)
 | [],_,h=>h
 |c::cs,_,h=>Oh hf cs (VX hf h)
theorem Vv{cs:aq}{fs:aJ}(hf:fs.Nodup):KD (HB cs fs):=Oh hf cs (KD.one _)
def NF(l:ay)(t:aW):Bool:=l.any fun u=>decide (u.facts=t.facts)
def I5(now old:ay):Nat:=(now.filter fun t=>NF old t).length
def Gk(al:bM)(x:Node):Prop:=(x.cond.kind=1\/x.cond.kind=2->∃a:Nat,x.gB=dV a/\∃y,al[a]?=some y/\y.shape=yW x.cond.pat)/\(¬(x.cond.kind=1\/x.cond.kind=2)->x.gB= -1)
theorem Gk.mono{al:bM}{x:Node}(h:Gk al x)(m:bM):Gk (al++m) x:=⟨fun hk=>by
 obtain⟨a,h1,y,h2,h3⟩:=h.1 hk;exact⟨a,h1,y,by rw[ai (aC.1 h2).1];exact h2,h3⟩,h.2⟩
theorem LV{sh:aF}:∀ {l:bM} {i j:Nat},Pa sh l i=some j->∃x,l[j-i]?=some x/\i<=j/\x.shape=sh
 |x::l,i,j,h=>by
  unfold Pa at h;split at h
  ·rename_i hc;cases h;exact⟨x,by simp,bJ _,hc⟩
  ·obtain⟨y,h1,h2,h3⟩:=LV h;refine⟨y,?_,by omega,h3⟩;rw[show j-i=(j-(i+1))+1 by omega];exact h1
theorem XS(al:bM)(sh:aF):(∃m,(OL al sh).1=al++m)/\∃a:Nat,(OL al sh).2=dV a/\∃y,(OL al sh).1[a]?=some y/\y.shape=sh:=by
 unfold OL;cases h:Pa sh al 0 with
 |some i=>
  obtain⟨x,h1,_,h3⟩:=LV h;exact⟨⟨[],by simp⟩,i,rfl,x,by simpa using h1,h3⟩
 |none=>exact⟨⟨_,rfl⟩,al.length,rfl,⟨sh,[]⟩,by simp,rfl⟩
theorem XV(al:bM)(c:aM)(p:Int)(tk:ay):(∃m,(J8 al c).1=al++m)/\Gk (J8 al c).1 ⟨p,c,(J8 al c).2,tk⟩:=by
 unfold J8;by_cases hk:c.kind=1\/c.kind=2
 ·rw[bE hk];obtain⟨h1,h2⟩:=XS al (yW c.pat);exact⟨h1,fun _=>h2,fun h=>absurd hk h⟩
 ·rw[av hk];exact⟨⟨[],by simp⟩,fun h=>absurd h hk,fun _=>rfl⟩
theorem XW{al:bM}{ns:bI}{p:Int}{c:aM}(h:∀x∈ns,Gk al x):∀x∈(FX al ns p c).1.2,Gk (FX al ns p c).1.1 x:=by
 unfold FX;cases J9 p c ns 0 with
 |some i=>exact h
 |none=>
  obtain⟨⟨m,hm⟩,h2⟩:=XV al c p [];intro x hx;rcases aV.1 hx with hx|hx
  ·show Gk (J8 al c).1 x;rw[hm];exact(h x hx).mono m
  ·rw[cZ.1 hx];exact h2
theorem Ti:∀(cs:aq) (s:(bM×bI)×Int),(∀x∈s.1.2,Gk s.1.1 x)->∀x∈(cs.foldl CN s).1.2,Gk (cs.foldl CN s).1.1 x
 | [],_,h=>h
 |c::cs,s,h=>Ti cs (CN s c) (XW h)
theorem Tj:∀(l:ar) (z:(bM×bI)×b9),(∀x∈z.1.2,Gk z.1.1 x)->∀x∈(l.foldl DT z).1.2,Gk (l.foldl DT z).1.1 x
 | [],_,h=>h
 |r::l,z,h=>Tj l (DT z r) (Ti (fw r) (z.1,0) h)
theorem Vs(tk:ay)(rs:ar):∀x∈(hY tk rs).1.2,Gk (hY tk rs).1.1 x:=
 Tj rs (([],[root tk]),[]) (fun x hx=>by
  rw[cZ.1 hx];exact⟨fun h=>by simp[root]at h,fun _=>rfl⟩)
theorem Tp{tk:ay}{rs:ar}{i:Nat}{x:Node}(h1:1<=i)(hx:(hY tk rs).1.2[i]?=some x):∃r∈rs,x.cond∈fw r:=by
 have hp:=(zG tk rs).1;obtain⟨p,hpp,hpi⟩:=hp.below i x h1 hx;obtain⟨r,hr,j,j1,j2,e⟩:=hp.path i h1 (aC.1 hx).1;rw[uR hx h1 hpp hpi]at e;exact⟨r,hr,bw (by rw[<-e];simp:x.cond∈(fw r).take j)⟩
end Go.Cx
namespace Go.Cx
open Go.RowKit Go.Proofs Tryz
theorem a0j(a:aJ)(f:aF)(K:Bool->aJ->Option aJ)(hf:f.args.length<=1099511627776):∀(rest:aJ) (i:Nat) (v:Bool) (w:aJ),(∀x∈rest,x.args.length<=1099511627776)->w.length+2*rest.length<=1048576->
 (v=true->cv a f K rest i v w=K true (w++rest))/\
 (v=false->(cv a f K rest i v w=K true (w++tG f rest))\/(cv a f K rest i v w=K false (w++rest)/\tG f rest=rest++[f])):=by
 intro rest
 induction rest with
 |nil=>intro i v w _ _;exact⟨fun h=>by subst h;simp[cv],fun h=>by subst h;exact .inr ⟨by simp[cv],rfl⟩⟩
 |cons x xs ih=>
  intro i v w hs hl;simp only[aQ]at hl;have hx:=hs x (by simp);have hs':∀y∈xs,y.args.length<=1099511627776:=fun y hy=>hs y (by simp[hy])
  have cx:=G4 x hx;have cf:=G4 f hf;have nx:=fun w':aJ=>fun h:w'.length<1099511627776=>hG (w:=w') (c:=aF.c) (y:=[D.str x.rel,D.sl (x.args.map tx)]) (b:=40) h (by decide)
  have nf:=fun w':aJ=>fun h:w'.length<1099511627776=>hG (w:=w') (c:=aF.c) (y:=[D.str f.rel,D.sl (f.args.map tx)]) (b:=40) h (by decide)
  constructor
  ·intro h;subst h;rw[cv,bV,aS,cx,aA,nx w (by omega),aH,(ih (i+1) true (w++[x]) hs' (by simp;omega)).1 rfl];simp
  ·intro h;subst h;rw[cv,cJ,aH,SH,aA];by_cases hgt:o5 x f>0
   ·left
    have e2:room (((w.map aF.c)++[[D.str f.rel,D.sl (f.args.map tx)]]).length+[[D.str x.rel,D.sl (x.args.map tx)]].length) 40=true:=by
     have:=nx (w++[f]) (by simp;omega);rw[bP]at this;exact this
    rw[bC hgt,aH,cf,aA,nf w (by omega),aH,cx,aA,e2,aH];rw[(ih (i+1) true (w++[f]++[x]) hs' (by simp;omega)).1 rfl,tG,bE hgt];simp
   ·rw[bK hgt,aS,cx,aA,nx w (by omega),aH];rw[tG,av hgt];rcases(ih (i+1) false (w++[x]) hs' (by simp;omega)).2 rfl with q|⟨q1,q2⟩
    ·left;rw[q];simp
    ·right;rw[q1,q2];simp
theorem a0i(l:aJ)(f:aF)(hf:f.args.length<=1099511627776)(hl:∀x∈l,x.args.length<=1099511627776)(hn:l.length<=1000):qv l f=some (tG f l):=by
 unfold qv;rcases(a0j l f _ hf l 0 false [] hl (by simp;omega)).2 rfl with q|⟨q1,q2⟩
 ·rw[q];rfl
 ·rw[q1,q2];show(bif !false then _ else _)=_;rw[cJ,aH,G4 f hf,aA,cX,hG (w:=l) (c:=aF.c) (y:=[D.str f.rel,D.sl (f.args.map tx)]) (by omega) (by decide),aH]
theorem a0X(l:aJ)(f:aF)(hl:rp aF.wt l<=1048576)(hf:f.wt<=1048576):qm l f=some (Fc l f):=by
 have hm:∀x∈l,x.args.length<=1048576:=fun x hx=>by have:=aF.dF (n:=1048576) (p:=x) (by have:=qd (w:=aF.wt) hx;omega);omega
 have hlen:=qc aF.wt l;have cp:=z8 l (by omega) hm;unfold qm Fc;rw[WU l hl,aA];cases h1:iK l with
 |false=>rw[cJ,aH,cp,aA,av (by simp)]
 |true=>
  have h24:=uI h1;rw[bV,aS,SM f hf,aA];cases h2:og f with
  |false=>rw[cJ,aH,cp,aA,av (by simp)]
  |true=>
   rw[bV,aS,YE,aA,JK];by_cases h3:f∈l
   ·rw[bC h3,aH,cp,aA,av (by simp[h3])]
   ·rw[bK h3,aS,ax];by_cases h4:l.length=24
    ·rw[bC (by omega),aH,cp,aA,av (by simp[h4])]
    ·rw[bK (by omega),aS,a0i l f (by have:=aF.dF hf;omega) (fun x hx=>by have:=hm x hx;omega) (by omega),aA,bE ⟨rfl,rfl,h3,h4⟩]
end Go.Cx
namespace Go.Cx
open Go.RowKit Go.Proofs Tryz
structure EJ(n:aI):Prop where
 rules:rp aL.wt n.rules<=1048576
 facts:rp aF.wt n.facts<=1048576
 ends:n.ends.length<=1048576
 bG:n.bG.length<=1048576
 gB:∀a∈n.bG,a.shape.wt<=1048576/\FS a.facts
 nodes:n.nodes.length<=1048576
 node:∀x∈n.nodes,x.cond.wt<=1048576/\x.tokens.length<=1048576/\∀t∈x.tokens,TK 1048576 t
theorem FS.args{fs:aJ}(h:FS fs):∀f∈fs,f.args.length<=1048576:=fun f hf=>aF.dF (h.2 f hf)
theorem Vd(l:ay)(hl:l.length<=1048576)(h:∀t∈l,TK 1048576 t):lX l=some l:=by
 unfold lX;rw[Au (c:=aW.c) (b:=48) (f:=sG) (g:=fun x=>x) (L:=pJ l _) (k:=_) (by decide) (fun _ _=>rfl) (fun _ _ _ _=>rfl) _ _ _ (fun t ht=>TM t (h t ht)) (by simp;omega)];simp
theorem V8(l:ay)(hl:l.length<=1048576)(h:∀t∈l,TK 1048576 t):jZ l=some l:=by
 unfold jZ;rw[Au (c:=aW.c) (b:=48) (f:=fun t:aW=>(cQ t.facts).bind fun y=>(gw t.bind).bind fun z=>some (⟨y,z⟩:aW)) (g:=fun x=>x) (L:=gS l _) (k:=_) (by decide) (fun _ _=>rfl) (fun x xs i w=>by
  rw[gS];cases cQ x.facts with
  |none=>rfl
  |some a=>cases gw x.bind<;>rfl) _ _ _ (fun t ht=>by
  have hk:=h t ht;rw[z8 t.facts hk.1 (fun f hf=>aF.dF (hk.2.1 f hf)),aA,NU t.bind (by have:=hk.2.2.1;omega)];rfl) (by simp;omega)]
 simp
theorem a1P(l:b9)(h:l.length<=1048576):yO l=some l:=by
 unfold yO;rw[DQ (by simp;omega) (by decide),aH,cX]
theorem a0k(l:b9)(h:l.length<=1048576):pU l=some l:=by
 unfold pU;rw[DQ (by simp;omega) (by decide),aH,cX]
theorem a4G(n:aI)(h:EJ n):DK n=some n:=by
 have hF:=FS.JX h.facts;have h1:=h.bG;have h2:=h.nodes;unfold DK;rw[MV n.rules h.rules,aA,a1P n.ends h.ends,aA,FF n.facts hF.1 hF.args,aA];rw[Au (c:=ah.c) (b:=64) (f:=fun a:ah=>(fX a.shape).bind fun y=>(iX a.facts).bind fun z=>some (⟨y,z⟩:ah)) (g:=fun x=>x) (L:=rL n _ _ _ _) (k:=_) (by decide) (fun _ _=>rfl) (fun x xs i w=>by
  rw[rL];cases fX x.shape with
  |none=>rfl
  |some a=>cases iX x.facts<;>rfl) _ _ _ (fun a ha=>by
  obtain⟨g1,g2⟩:=h.gB a ha;rw[TN a.shape (by have:=aF.dF g1;omega),aA,FF a.facts g2.1 g2.args];rfl) (by simp;omega)]
 rw[Au (c:=Node.c) (b:=120) (f:=fun x:Node=>(kZ x.cond).bind fun y=>(lX x.tokens).bind fun z=>some (⟨x.parent,y,x.gB,z⟩:Node)) (g:=fun x=>x) (L:=rM n _ _ _ _ _) (k:=_) (by decide) (fun _ _=>rfl) (fun x xs i w=>by
  rw[rM];cases kZ x.cond with
  |none=>rfl
  |some a=>cases lX x.tokens<;>rfl) _ _ _ (fun x hx=>by
  obtain⟨g1,g2,g3⟩:=h.node x hx;rw[Kw x.cond (by have:=aF.dF (aM.ei g1);omega),aA,Vd x.tokens g2 g3];rfl) (by simp;omega)]
 simp
theorem KM(n:aI)(h:EJ n):gR n=some n:=by
 have hF:=FS.JX h.facts;have h1:=h.bG;have h2:=h.nodes;unfold gR;rw[M6 n.rules h.rules,aA,a0k n.ends h.ends,aA,z8 n.facts hF.1 hF.args,aA];rw[Au (c:=ah.c) (b:=64) (f:=fun a:ah=>(dO a.shape).bind fun y=>(cQ a.facts).bind fun z=>some (⟨y,z⟩:ah)) (g:=fun x=>x) (L:=gG n _ _ _ _) (k:=_) (by decide) (fun _ _=>rfl) (fun x xs i w=>by
  rw[gG];cases dO x.shape with
  |none=>rfl
  |some a=>cases cQ x.facts<;>rfl) _ _ _ (fun a ha=>by
  obtain⟨g1,g2⟩:=h.gB a ha;rw[SL a.shape (by have:=aF.dF g1;omega),aA,z8 a.facts g2.1 g2.args];rfl) (by simp;omega)]
 rw[Au (c:=Node.c) (b:=120) (f:=fun x:Node=>(eU x.cond).bind fun y=>(jZ x.tokens).bind fun z=>some (⟨x.parent,y,x.gB,z⟩:Node)) (g:=fun x=>x) (L:=gH n _ _ _ _ _) (k:=_) (by decide) (fun _ _=>rfl) (fun x xs i w=>by
  rw[gH];cases eU x.cond with
  |none=>rfl
  |some a=>cases jZ x.tokens<;>rfl) _ _ _ (fun x hx=>by
  obtain⟨g1,g2,g3⟩:=h.node x hx;rw[KL x.cond (by have:=aF.dF (aM.ei g1);omega),aA,V8 x.tokens g2 g3];rfl) (by simp;omega)]
 simp
theorem G5{n:aI}(h:NV n=true):rE n.rules=true/\iK n.facts=true/\0<=n.cL/\n=vY n.rules n.facts n.cL:=by
 unfold NV Ka vY at h;simp only[aR,bH]at h;obtain⟨b1,b2,b0,_,b3,_,b5,b4⟩:=h;refine⟨b1,b2,b0,?_⟩;unfold vY;cases n;simp only at b3 b4 b5⊢;rw[<-b3,<-b4,<-b5]
theorem KT{rs:ar}{fs:aJ}{t:Int}(h1:rE rs=true)(h2:iK fs=true):NV (vY rs fs t)=decide (0<=t):=by
 unfold NV Ka vY;simp[h1,h2]
theorem Ep{f:aF}(h:og f=true):f.wt<=100:=by
 unfold og at h;simp only[aR,bH,aj]at h;obtain⟨h1,h2,h3⟩:=h;have a1:=JT h2;have a2:=HP f.args (fun x hx=>by have:=CH (h1 x hx);omega);unfold aF.wt tw;unfold tw at a2;omega
theorem zS{fs:aJ}(h:iK fs=true):∀f∈fs,og f=true:=by
 unfold iK at h;simp only[aR]at h;exact GM h.1
theorem Jh{α:Type}{w:α->Nat}{B:Nat}:∀(l:List α),(∀x∈l,w x<=B)->rp w l<=(B+1)*l.length
 | [],_=>by simp[rp]
 |x::l,h=>by
  have h1:=Jh l fun y hy=>h y (by simp[hy])
  have h2:=h x (by simp);rw[lg,aQ,Nat.mul_add];omega
theorem EM{fs:aJ}(h:iK fs=true):rp aF.wt fs<=2424:=by
 have h1:=Jh (w:=aF.wt) (B:=100) fs fun f hf=>Ep (zS h f hf)
 have h2:=uI h;have:(100+1)*fs.length<=(100+1)*24:=dR _ h2;omega
theorem CI(ns:bI)(fs:aJ)(i:Nat):(oh ns fs)[i]?=(ns[i]?).map fun x=>⟨x.parent,x.cond,x.gB,HB (iZ ns (dV i)) fs⟩:=by
 unfold oh;rw[JJ,cV]
theorem G1(ns:bI)(fs:aJ):(oh ns fs).length=ns.length:=Pm ns fs ns 0
theorem B8{rs:ar}(h:rE rs=true):rs.length<=6:=by unfold rE at h;simp only[aR,bH]at h;omega
theorem Ny{rs:ar}(tk:ay)(h:rE rs=true):(hY tk rs).1.1.length<=24:=by
 have h6:=B8 h;have main:∀(l:ar) (z:(bM×bI)×b9),(∀r∈l,hO r=true)->(l.foldl DT z).1.1.length<=z.1.1.length+4*l.length:=by
  intro l
  induction l with
  |nil=>intro z _;exact bJ _
  |cons r l ih=>
   intro z hl;have h1:=ih (DT z r) (fun x hx=>hl x (by simp[hx]));have h2:=(CO (fw r) (z.1,0)).1;have h3:=wR (hl r (by simp));have h4:(DT z r).1.1.length=((fw r).foldl CN (z.1,0)).1.1.length:=rfl;rw[dL,aQ];dsimp only at h2;omega
 have:=main rs (([],[root tk]),[]) (tM h);unfold hY;simp only[bS]at this;omega
theorem II{rs:ar}{fs:aJ}(h1:rE rs=true)(h2:iK fs=true){i:Nat}{x:Node}(hx:(oh (hY [] rs).1.2 fs)[i]?=some x):x.cond.wt<=1048576/\x.tokens.length<=390625/\(∀t∈x.tokens,TK 4 t)/\KD x.tokens:=by
 have hv:=tM h1;have hok:=L7 [] hv (B8 h1);rw[CI]at hx;obtain⟨y,hy,rfl⟩:=zO.1 hx;have Xe:=FS.JX (by have:=EM h2;omega:rp aF.wt fs<=1048576);have Pp:∀c∈iZ (hY [] rs).1.2 (dV i),c.wt<=1048576:=by
  intro c hc;obtain⟨z,hz,e⟩:=MP hc;rw[<-e];exact hok.wt z hz
 refine⟨hok.wt y (aE hy),Tu (hok.path i) (uI h2),fun t ht=>?_,Vv (GK h2)⟩;exact(PF Xe _ [⟨[],[]⟩] 0 Pp Nh t ht).le (by have:=hok.path i;omega)
theorem Kf{rs:ar}{fs:aJ}(t:Int)(h1:rE rs=true)(h2:iK fs=true)(hr:rp aL.wt rs<=1048576):EJ (vY rs fs t):=by
 have hv:=tM h1;have h6:=B8 h1;have hw:=EM h2;have hl:=FH [] hv h6;refine⟨hr,by show rp aF.wt fs<=1048576;omega,?_,?_,?_,?_,?_⟩
 ·show(hY [] rs).2.length<=1048576;rw[(zG [] rs).2.1];omega
 ·show(xL (hY [] rs).1.1 fs).length<=1048576;unfold xL;rw[ax];have:=Ny [] h1;omega
 ·intro a ha;obtain⟨y,hy,rfl⟩:=cH.1 (show a∈(hY [] rs).1.1.map _ from ha);refine⟨(C8 [] hv y hy).1,?_,fun f hf=>?_⟩
  ·have:=qE (fun f=>(vX y.shape f []).2) fs;have:=uI h2;show(Bk y.shape [] fs).length<=1048576;unfold Bk;omega
  ·have:=Ep (zS h2 f (fq.1 hf).1);omega
 ·show(oh (hY [] rs).1.2 fs).length<=1048576;rw[G1];omega
 ·intro x hx;obtain⟨i,hi⟩:=dB (show x∈oh (hY [] rs).1.2 fs from hx);obtain⟨g1,g2,g3,_⟩:=II h1 h2 hi;exact⟨g1,by omega,fun t ht=>(g3 t ht).le (by omega)⟩
def Qi(now old:ay):Nat:=now.length-I5 now old
theorem M9(now old:ay):I5 now old<=now.length:=qE _ _
theorem NY(t:aW)(l old:ay):I5 (t::l) old=(bif NF old t then 1 else 0)+I5 l old:=by
 unfold I5;cases h:NF old t with
 |true=>rw[List.filter_cons_of_pos (by rw[h]),aQ,aH];omega
 |false=>rw[List.filter_cons_of_neg (by simp[h]),aS];omega
def stepT(al:bM)(f:aF)(x:Node)(now old:ay)(t:Int):Int:=
 if x.gB<0 then IntKind.i64.wrap (t+((Qi now old:Nat):Int))else match iY al x.gB with
  |none=>t
  |some y=>bif (vX y.shape f []).2 then IntKind.i64.wrap (IntKind.i64.wrap (t+IntKind.i64.wrap (((Qi now old:Nat):Int)*((y.facts.length:Nat):Int)))+((I5 now old:Nat):Int))else IntKind.i64.wrap (t+IntKind.i64.wrap (((Qi now old:Nat):Int)*((y.facts.length:Nat):Int)))
def C9(ns:bI)(p:Int):ay:=match iY ns p with|some x=>x.tokens|none=>[]
def XC(N0 N1:bI)(al:bM)(f:aF):bI->Int->Int
 | [],t=>t
 |x::xs,t=>XC N0 N1 al f xs (stepT al f x (C9 N1 x.parent) (C9 N0 x.parent) t)
theorem a0f(l:ay)(t:aW):pV l t=some (NF l t):=by
 unfold pV;have:∀(r:ay) (i:Nat),iy l t (some false) r i=some (NF r t):=by
  intro r
  induction r with
  |nil=>intro i;rfl
  |cons x r ih=>
   intro i;rw[iy,a0a,aA,ih];unfold NF;rw[uZ];by_cases e:x.facts=t.facts
   ·rw[show((cmpL o5 x.facts t.facts:Int)==0)=true by simp[JE.2 e],aH,bC e,Bool.true_or]
   ·rw[show((cmpL o5 x.facts t.facts:Int)==0)=false by
     have:cmpL o5 x.facts t.facts≠0:=fun h=>e (JE.1 h)
     simp[this],aS,bK e,pz]
 exact this l 0
theorem SG(n:aI)(f:aF)(y3:aI×Unit)(u:Int)(i1:Nat)(x xx y:Node)(k:Int->Int->Option aI)(hy:iY n.nodes x.parent=some y):∀(l:ay) (i a b:Nat),a+l.length<=1099511627000->b+l.length<=1099511627000->
 iL n f y3 u i1 x xx k l i (a:Int) (b:Int)=k ((a+I5 l y.tokens:Nat):Int) ((b+Qi l y.tokens:Nat):Int)
 | [],i,a,b,_,_=>rfl
 |t::l,i,a,b,h1,h2=>by
  simp only[aQ]at h1 h2;have ih:=SG n f y3 u i1 x xx y k hy l (i+1);have hle:=M9 l y.tokens;rw[iL,hy,aA,a0f,aA];unfold Qi at*;rw[NY,aQ];cases NF y.tokens t with
  |true=>
   rw[aH,aH,Ie (by omega),ih (a+1) b (by omega) (by omega)]
   congr 2<;>omega
  |false=>
   rw[aS,aS,Ie (by omega),ih a (b+1) (by omega) (by omega)]
   congr 2<;>omega
def a2U(N0 N1:bI)(al:bM)(x:Node):Prop:=(∃p0 p1,iY N0 x.parent=some p0/\iY N1 x.parent=some p1/\p1.tokens.length<=1048576)/\(x.gB<0\/∃y,iY al x.gB=some y/\y.shape.wt<=1048576)
theorem SF(n:aI)(f:aF)(y3:aI×Unit)(k:Int->Option aI)(hf:f.wt<=1048576):∀(l:bI) (i:Nat) (u:Int),1<=i->(∀x∈l,a2U n.nodes y3.1.nodes y3.1.bG x)->eX n f y3 k l i u=k (XC n.nodes y3.1.nodes y3.1.bG f l u)
 | [],_,_,_,_=>rfl
 |x::l,i,u,hi,hU=>by
  have ih:=SF n f y3 k hf l (i+1);have hU':=fun z (hz:z∈l)=>hU z (by simp[hz])
  obtain⟨⟨p0,p1,e0,e1,hl⟩,ha⟩:=hU x (by simp);rw[eX,show(((i:Nat):Int)==0)=false by simp;omega,aS,e1,aA,rZ (by omega),aH];rw[show(0:Int)=((0:Nat):Int)from rfl,SG n f y3 u i x p1 p0 _ e0 p1.tokens 0 0 0 (by omega) (by omega),cV,cV,XC];unfold stepT;rw[show C9 y3.1.nodes x.parent=p1.tokens by unfold C9;rw[e1],show C9 n.nodes x.parent=p0.tokens by unfold C9;rw[e0]];by_cases hal:x.gB<0
  ·rw[bC (by simpa using hal),aH,bE hal,ih _ (by omega) hU']
  ·rw[bK (by simpa using hal),aS,av hal];rcases ha with ha|⟨y,hy,hyw⟩
   ·exact absurd ha hal
   ·rw[hy,aA,YH y.shape f [] hyw hf PB.nil,aA,ax];dsimp only;cases(vX y.shape f []).2 with
    |true=>rw[aH,aH,ih _ (by omega) hU']
    |false=>rw[aS,aS,ih _ (by omega) hU']
theorem Jx{α:Type}(l:List α)(i:Nat):iY l (dV i)=l[i]?:=by
 unfold iY dV;rw[bC (by omega),aH];rfl
theorem Yc{rs:ar}{fs0 fs:aJ}(h1:rE rs=true)(h0:iK fs0=true)(h2:iK fs=true){i:Nat}(hi:1<=i){x:Node}(hx:(hY [] rs).1.2[i]?=some x):
 ∃(p:Nat) (q:Node),p<i/\x.parent=dV p/\(hY [] rs).1.2[p]?=some q/\(oh (hY [] rs).1.2 fs0)[p]?=some ⟨q.parent,q.cond,q.gB,HB (iZ (hY [] rs).1.2 (dV p)) fs0⟩/\(oh (hY [] rs).1.2 fs)[p]?=some ⟨q.parent,q.cond,q.gB,HB (iZ (hY [] rs).1.2 (dV p)) fs⟩/\
  x.cond.pat.args.length<=3/\x.cond.wt<=1048576/\((x.gB<0/\x.cond.kind≠1/\x.cond.kind≠2)\/∃(a:Nat) (y:ah),x.gB=dV a/\(hY [] rs).1.1[a]?=some y/\y.shape=yW x.cond.pat/\y.shape.wt<=1048576):=by
 have hv:=tM h1;obtain⟨p,hp,hpi⟩:=(zG [] rs).1.below i x hi hx;have Mn:=(aC.1 hx).1;have hq:=aT (show p<(hY [] rs).1.2.length by omega);obtain⟨r,hr,hc⟩:=Tp hi hx;have hal:=Vs [] rs x (aE hx);refine⟨p,_,hpi,hp,hq,by rw[CI,hq];rfl,by rw[CI,hq];rfl,(Ga (hv r hr) _ hc).2.1,FA (hv r hr) _ hc,?_⟩;by_cases hk:x.cond.kind=1\/x.cond.kind=2
 ·obtain⟨a,e1,y,e2,e3⟩:=hal.1 hk;exact .inr ⟨a,y,e1,e2,e3,(C8 [] hv y (aE e2)).1⟩
 ·exact .inl ⟨by rw[hal.2 hk];decide,fun e=>hk (.inl e),fun e=>hk (.inr e)⟩
def Ul(n:aI)(fs:aJ)(f:aF):aI:=vY n.rules fs (XC n.nodes (oh (hY [] n.rules).1.2 fs) (xL (hY [] n.rules).1.1 fs) f ((oh (hY [] n.rules).1.2 fs).drop 1) n.cL)
theorem a3r(n:aI)(fs:aJ)(f:aF)(hn:NV n=true)(hr:rp aL.wt n.rules<=1048576)(h2:iK fs=true)(hf:f.wt<=1048576):qu n fs f=some (Ul n fs f):=by
 obtain⟨h1,h0,ht,e⟩:=G5 hn;have hv:=tM h1;have h6:=B8 h1;have Xe:=FS.JX (by have:=EM h2;omega:rp aF.wt fs<=1048576);have hok:EJ n:=by rw[e];exact Kf _ h1 h0 hr
 have hN:n.nodes=oh (hY [] n.rules).1.2 n.facts:=congrArg aI.nodes e;have hA:n.bG=xL (hY [] n.rules).1.1 n.facts:=congrArg aI.bG e;have hE:n.ends=(hY [] n.rules).2:=congrArg aI.ends e;have hform:n.nodes.map td=(hY [] n.rules).1.2.map td:=by rw[hN];exact E2 _ _ _ _
 have hp0:=L7 [] hv h6;have Xz:HF n.nodes:=by
  refine⟨hok.nodes,fun x hx=>(hok.node x hx).1,fun i=>?_⟩;rw[C3 hform];exact hp0.path i
 have hfA:xL n.bG fs=xL (hY [] n.rules).1.1 fs:=by
  rw[hA];unfold xL;rw[List.map_map];rfl
 have hfN:oh n.nodes fs=oh (hY [] n.rules).1.2 fs:=by
  have key:∀(l m:bI) (i:Nat),l.map Kg=m.map Kg->v8 n.nodes fs l i=v8 (hY [] n.rules).1.2 fs m i:=by
   intro l
   induction l with
   |nil=>intro m i hm;cases m with
    |nil=>rfl
    |cons y m=>simp at hm
   |cons x l ih=>intro m i hm;cases m with
    |nil=>simp at hm
    |cons y m=>
     rw[bO,bO]at hm;obtain⟨q1,q2⟩:=List.cons.inj hm;have e1:x.parent=y.parent:=(qi q1).1;have e2:x.gB=y.gB:=(qi (qi q1).2).1;have e3:x.cond=y.cond:=(qi (qi q1).2).2;rw[v8,v8,ih m (i+1) q2,C3 hform,e1,e2,e3]
  refine key _ _ 0 ?_;rw[hN];have:∀(ns l:bI) (i:Nat),(v8 ns n.facts l i).map Kg=l.map Kg:=by
   intro ns l
   induction l with
   |nil=>intro i;rfl
   |cons x l ih=>intro i;rw[v8,bO,ih];rfl
  exact this _ _ _
 unfold qu;rw[KM n hok,aA,WW n fs Xe (uI h2) hok.bG (fun x hx=>(hok.gB x hx).1) Xz,aA,hfA,hfN];have hlen:=G1 (hY [] n.rules).1.2 fs;have a63:=FH [] hv h6;dsimp only;rw[rZ (by omega),aH];have rA:oh (hY [] n.rules).1.2 fs=(oh (hY [] n.rules).1.2 fs).take 1++(oh (hY [] n.rules).1.2 fs).drop 1:=(bp 1 _).symm;cases ZV:oh (hY [] n.rules).1.2 fs with
 |nil=>
  have:=(zG [] n.rules).1.pos;rw[ZV]at hlen;simp at hlen;omega
 |cons x0 l=>
  rw[eX,show(((0:Nat):Int)==0)=true from rfl,aH,SF n f _ _ hf l 1 _ (bJ _) (fun x hx=>?_)]
  ·unfold Ul vY;rw[ZV,hE];rfl
  ·obtain⟨i,hi⟩:=dB hx;have hi2:(oh (hY [] n.rules).1.2 fs)[i+1]?=some x:=by rw[ZV];exact hi
   rw[CI]at hi2;obtain⟨z,hz,rfl⟩:=zO.1 hi2;obtain⟨p,q,_,e1,_,e3,e4,_,_,e7⟩:=Yc h1 h0 h2 (i:=i+1) (by omega) hz;have g4:=(II h1 h2 e4).2.1;have u3:=(show iY n.nodes z.parent=(oh (hY [] n.rules).1.2 n.facts)[p]? by rw[e1,Jx,hN]).trans e3;have u4:=(show iY (x0::l) z.parent=(oh (hY [] n.rules).1.2 fs)[p]? by rw[e1,Jx,ZV]).trans e4;refine⟨⟨_,_,u3,u4,by omega⟩,?_⟩
   ·rcases e7 with⟨e7,_⟩|⟨a,y,e7,e8,_,e10⟩
    ·exact .inl e7
    ·refine .inr ⟨⟨y.shape,Bk y.shape [] fs⟩,?_,e10⟩;show iY (xL (hY [] n.rules).1.1 fs) z.gB=_;rw[e7,Jx];unfold xL;rw[bU,e8];rfl
end Go.Cx
namespace Go.Cx
open Go.RowKit Go.Proofs Tryz
structure Ren(h:Bytes->Bytes)(V:Bytes->Prop):Prop where
 var:∀v,V v->kz v=true
 a4w:∀t,kz t=false->h t=t
 a6Z:∀v,V v->kz (h v)=true
 inj:∀u v,V u->V v->h u=h v->u=v
structure RB(h:Bytes->Bytes)(V:Bytes->Prop)(b b':List aa):Prop where
 len:b'.length=b.length
 get:∀v,V v->xw (h v) b'=xw v b
 ok:ql b=true
 ok':ql b'=true
structure RT(h:Bytes->Bytes)(V:Bytes->Prop)(t t':aW):Prop where
 facts:t'.facts=t.facts
 bind:RB h V t.bind t'.bind
inductive RL(R:aW->aW->Prop):List aW->List aW->Prop
 |nil:RL R [] []
 |cons {a b:aW} {l m:ay}:R a b->RL R l m->RL R (a::l) (b::m)
end Go.Cx
namespace Go.Cx
open Go.RowKit Go.Proofs Tryz
def IT(n:aI)(f:aF):aI×Bool:=bif NV n&&(Fc n.facts f).2 then(Ul n (Fc n.facts f).1 f,true)else(n,false)
def XQ(n m:aI):Prop:=m=n\/∃fs t,rE m.rules=true/\m.rules=n.rules/\iK fs=true/\m=vY m.rules fs t
theorem QF(n:aI)(f:aF):XQ n (IT n f).1:=by
 unfold IT;cases hb:NV n&&(Fc n.facts f).2 with
 |false=>exact .inl rfl
 |true=>
  rw[aR]at hb;exact .inr ⟨_,_,(G5 hb.1).1,rfl,ON hb.2,rfl⟩
theorem XQ.ok{n m:aI}(h:XQ n m)(hn:EJ n):EJ m:=by
 rcases h with rfl|⟨fs,t,h1,h2,h3,h4⟩
 ·exact hn
 ·rw[h4];exact Kf t h1 h3 (by rw[h2];exact hn.rules)
theorem a0l(n:aI)(f:aF)(h:EJ n)(hf:f.wt<=1048576):lV n f=some (IT n f):=by
 unfold lV zh IT;rw[SO n h.rules h.facts,aA];cases hb:NV n with
 |false=>rw[cJ,aH,KM n h];rfl
 |true=>
  rw[bV,aS,a0X n.facts f h.facts hf,aA];cases ha:(Fc n.facts f).2 with
  |false=>rw[cJ,aH,KM n h];rfl
  |true=>rw[bV,aS,a3r n _ f hb h.rules (ON ha) hf];rfl
def Lo:aJ->aI->Nat->aI×Nat
 | [],n,c=>(n,c)
 |f::l,n,c=>bif (IT n f).2 then Lo l (IT n f).1 (c+1)else Lo l n c
theorem YD(a:aJ)(K:Int->Int->ar->b9->bM->bI->aJ->Option (aI×Int)):∀(l:aJ) (i:Nat) (n:aI) (c:Nat),EJ n->(∀f∈l,f.wt<=1048576)->c+l.length<=1099511627000->
 er a K l i (c:Int) n.cL n.rules n.ends n.bG n.nodes n.facts=K (((Lo l n c).2:Nat):Int) (Lo l n c).1.cL (Lo l n c).1.rules (Lo l n c).1.ends (Lo l n c).1.bG (Lo l n c).1.nodes (Lo l n c).1.facts
 | [],i,n,c,_,_,_=>rfl
 |f::l,i,n,c,hn,hf,hc=>by
  simp only[aQ]at hc;rw[er,show(⟨n.rules,n.ends,n.bG,n.nodes,n.facts,n.cL⟩:aI)=n from rfl,a0l n f hn (hf f (by simp)),aA,Lo];cases(IT n f).2 with
  |true=>rw[aH,aH,Ie (by omega),YD a K l (i+1) _ (c+1) ((QF n f).ok hn) (fun x hx=>hf x (by simp[hx])) (by omega)]
  |false=>rw[aS,aS,YD a K l (i+1) n c hn (fun x hx=>hf x (by simp[hx])) (by omega)]
theorem SN(n:aI)(l:aJ)(hn:EJ n)(hl:FS l):ic n l=some ((Lo l n 0).1,(((Lo l n 0).2:Nat):Int)):=by
 have h1:=hl.1;unfold ic;rw[KM n hn,aA];exact YD l _ l 0 n 0 hn hl.2 (by omega)
theorem J6:iK []=true:=rfl
def a27:aI:=⟨[],[],[],[],[],0⟩
theorem V7(rs:ar)(hr:rp aL.wt rs<=1048576)(hb:rE rs=true):ou rs [] 0=some (vY rs [] 0):=
 SE rs [] 0 hr hb ⟨by simp,fun f hf=>by cases hf⟩ (by simp)
theorem V9(rs:ar)(h:rp aL.wt rs<=1048576):lU rs=some (bif rE rs then(vY rs [] 0,true)else(a27,false)):=by
 unfold lU;rw[a0Y rs h,aA];cases hb:rE rs with
 |false=>rfl
 |true=>rw[bV,aS,V7 rs h hb];rfl
end Go.Cx
namespace Go.Cx
open Go.RowKit Go.Proofs Tryz
theorem OO{α:Type}{l:List α}{i:Int}{x:α}(h:iY l i=some x):x∈l:=by
 unfold iY at h;cases hd:decide (0<=i)with
 |false=>rw[hd]at h;cases h
 |true=>rw[hd,aH]at h;exact aE h
theorem QV{N:bI}(h:∀x∈N,x.tokens.length<=390625)(p:Int):(C9 N p).length<=390625:=by
 unfold C9;cases e:iY N p with
 |none=>simp
 |some x=>exact h x (OO e)
theorem Tk{al:bM}{f:aF}{x:Node}{now old:ay}{t:Int}(hn:now.length<=390625)(ha:∀y∈al,y.facts.length<=24)(h0:0<=t)(h1:t<=1000000000000000000):
 t<=stepT al f x now old t/\stepT al f x now old t<=t+10000000:=by
 have a1:Qi now old<=390625:=by unfold Qi;omega
 have a2:=M9 now old;unfold stepT;split
 ·rw[dG (n8.i64.2 (by omega))];omega
 ·cases e:iY al x.gB with
  |none=>dsimp only;omega
  |some y=>
   have hy:=ha y (OO e);have a3:Qi now old*y.facts.length<=390625*24:=Nat.mul_le_mul a1 hy;have e3:((Qi now old:Nat):Int)*((y.facts.length:Nat):Int)=((Qi now old*y.facts.length:Nat):Int):=(Int.natCast_mul _ _).symm;dsimp only;rw[e3,dG (n:=((Qi now old*y.facts.length:Nat):Int)) (n8.i64.2 (by omega)),dG (n:=t+((Qi now old*y.facts.length:Nat):Int)) (n8.i64.2 (by omega))];cases(vX y.shape f []).2 with
   |true=>rw[aH,dG (n8.i64.2 (by omega))];omega
   |false=>rw[aS];omega
theorem Tv{N0 N1:bI}{al:bM}{f:aF}(hN:∀x∈N1,x.tokens.length<=390625)(ha:∀y∈al,y.facts.length<=24):∀(l:bI) (t:Int),0<=t->t+10000000*(l.length:Int)<=1000000000000000000->
 t<=XC N0 N1 al f l t/\XC N0 N1 al f l t<=t+10000000*(l.length:Int)
 | [],t,_,_=>by rw[XC];simp
 |x::xs,t,h0,h1=>by
  rw[aQ,AB,AD]at h1⊢;have s:=Tk (x:=x) (f:=f) (old:=C9 N0 x.parent) (QV hN x.parent) ha h0 (by omega);have r:=Tv (N0:=N0) (f:=f) hN ha xs (stepT al f x (C9 N1 x.parent) (C9 N0 x.parent) t) (by omega) (by omega);rw[XC];omega
theorem Pk{rs:ar}{fs:aJ}(h1:rE rs=true)(h2:iK fs=true):∀x∈oh (hY [] rs).1.2 fs,x.tokens.length<=390625:=by
 intro x hx;obtain⟨i,hi⟩:=dB hx;exact(II h1 h2 hi).2.1
theorem Pj{al:bM}{fs:aJ}(h2:iK fs=true):∀y∈xL al fs,y.facts.length<=24:=by
 intro y hy;obtain⟨z,_,rfl⟩:=cH.1 hy;exact dA (qE _ _) (uI h2)
theorem XX{n:aI}{fs:aJ}(f:aF)(hb:NV n=true)(h2:iK fs=true)(ht:n.cL<=100000000000000000):
 ∃t,Ul n fs f=vY n.rules fs t/\n.cL<=t/\t<=n.cL+250000000:=by
 obtain⟨h1,_,h0,_⟩:=G5 hb;have hl:=FH [] (tM h1) (B8 h1);have h3:((oh (hY [] n.rules).1.2 fs).drop 1).length<=25:=by rw[rC,G1];omega
 have:=Tv (N0:=n.nodes) (f:=f) (Pk h1 h2) (Pj (al:=(hY [] n.rules).1.1) h2) ((oh (hY [] n.rules).1.2 fs).drop 1) n.cL h0 (by omega);exact⟨_,rfl,by omega,by omega⟩
theorem T5{n:aI}{f:aF}(hb:NV n=true)(hf:og f=true)(hn:f∉n.facts)(h24:n.facts.length<24)(ht:n.cL<=100000000000000000):
 ∃t,IT n f=(vY n.rules (tG f n.facts) t,true)/\iK (tG f n.facts)=true/\n.cL<=t/\t<=n.cL+250000000:=by
 have h2:=(G5 hb).2.1;have ha:Fc n.facts f=(tG f n.facts,true):=by unfold Fc;rw[bE ⟨h2,hf,hn,by omega⟩]
 have h3:=Jw hf h2 hn (by omega);obtain⟨t,e,e1,e2⟩:=XX f hb h3 ht;exact⟨t,by unfold IT;rw[ha,hb];simp[e],h3,e1,e2⟩
theorem Va{n:aI}{f:aF}(h:f∈n.facts):IT n f=(n,false):=by
 have ha:(Fc n.facts f).2=false:=by unfold Fc;rw[av (fun q=>q.2.2.1 h)]
 unfold IT;rw[ha,wU];rfl
theorem HY:∀ {a b:aJ} {p q:Option aF},chainB p a=true->chainB q b=true->(∀x,x∈a↔x∈b)->a=b
 | [],[],_,_,_,_,_=>rfl
 | [],y::ys,_,_,_,_,h=>absurd ((h y).2 (by simp)) (by simp)
 |x::xs,[],_,_,_,_,h=>absurd ((h x).1 (by simp)) (by simp)
 |x::xs,y::ys,p,q,ha,hb,h=>by
  obtain⟨_,_,h3⟩:=sy ha;obtain⟨_,_,k3⟩:=sy hb;have e:x=y:=by
   rcases bA.1 ((h x).1 (by simp))with e|hx
   ·exact e
   rcases bA.1 ((h y).2 (by simp))with e|hy
   ·exact e.symm
   exact absurd (HZ (uJ k3 x hx) (uJ h3 y hy)) (ym y)
  subst e;have:xs=ys:=HY h3 k3 fun z=>⟨fun hz=>by
   rcases bA.1 ((h z).1 (by simp[hz]))with rfl|q
   ·exact absurd (uJ h3 z hz) (ym z)
   ·exact q,fun hz=>by
   rcases bA.1 ((h z).2 (by simp[hz]))with rfl|q
   ·exact absurd (uJ k3 z hz) (ym z)
   ·exact q⟩
  rw[this]
theorem RH{a b:aJ}(ha:iK a=true)(hb:iK b=true)(h:∀x,x∈a↔x∈b):a=b:=by
 unfold iK at ha hb;simp only[aR]at ha hb;exact HY ha.1 hb.1 h
theorem WJ{n:aI}:∀(l:aJ) (c:Nat),(∀f∈l,f∈n.facts)->Lo l n c=(n,c)
 | [],_,_=>rfl
 |f::l,c,h=>by
  rw[Lo,Va (h f (by simp)),aS];exact WJ l c fun x hx=>h x (by simp[hx])
theorem Rc:∀(l:aJ) (n:aI) (c:Nat),NV n=true->(∀f∈l,og f=true)->l.Nodup->(∀f∈l,f∉n.facts)->n.facts.length+l.length<=24->n.cL+250000000*(l.length:Int)<=100000000000000000->
 ∃fs t,Lo l n c=(vY n.rules fs t,c+l.length)/\iK fs=true/\0<=t/\t<=n.cL+250000000*(l.length:Int)/\∀x,x∈fs↔x∈n.facts\/x∈l
 | [],n,c,hb,_,_,_,_,_=>by
  obtain⟨_,h2,h0,h3⟩:=G5 hb;exact⟨n.facts,n.cL,by rw[<-h3];rfl,h2,h0,by simp,by simp⟩
 |f::l,n,c,hb,hf,hd,hn,h24,ht=>by
  rw[aQ,AB,AD]at ht;rw[aQ]at h24;rw[di]at hd;obtain⟨h1,_,h0,_⟩:=G5 hb;obtain⟨t,e,h2,t1,t2⟩:=T5 hb (hf f (by simp)) (hn f (by simp)) (by omega) (by omega);have hb':NV (vY n.rules (tG f n.facts) t)=true:=by rw[KT h1 h2];exact bC (by omega)
  obtain⟨fs,t',e',k1,k2,k3,k4⟩:=Rc l (vY n.rules (tG f n.facts) t) (c+1) hb' (fun x hx=>hf x (by simp[hx])) hd.2 (fun x hx hq=>by
   rcases(Ey f n.facts x).1 hq with rfl|hq
   ·exact hd.1 hx
   ·exact hn x (by simp[hx]) hq) (by show(tG f n.facts).length+_<=_;rw[Ex];omega) (by show t+_<=_;omega)
  refine⟨fs,t',?_,k1,k2,?_,fun x=>?_⟩
  ·rw[Lo,e,aH,e',aQ];exact congrArg (Prod.mk _) (by omega)
  ·rw[aQ,AB,AD];have:t'<=t+250000000*(l.length:Int):=k3;omega
  ·rw[k4 x,bA];show x∈tG f n.facts\/_↔_;rw[Ey];constructor
   ·rintro((h|h)|h)<;>simp[h]
   ·rintro(h|h|h)<;>simp[h]
theorem P3(rs:ar)(fs:aJ)(t u:Int):Ka (vY rs fs t) (vY rs fs u)=true:=by
 unfold Ka vY;simp
theorem Sq{rs:ar}(h:rE rs=true):NV (vY rs [] 0)=true:=by rw[KT h J6];rfl
theorem Rb{rs:ar}{fs l:aJ}(h1:rE rs=true)(h2:iK fs=true)(hd:l.Nodup)(hl:∀x,x∈l↔x∈fs)(h24:l.length<=24):∃t,Lo l (vY rs [] 0) 0=(vY rs fs t,l.length)/\0<=t/\t<=6000000000:=by
 obtain⟨gs,t,e,k1,k2,k3,k4⟩:=Rc l (vY rs [] 0) 0 (Sq h1) (fun f hf=>zS h2 f ((hl f).1 hf)) hd (fun f _ h=>by cases h) (by show 0+_<=_;omega) (by show(0:Int)+_<=_;omega);have:gs=fs:=RH k1 h2 fun x=>by
  rw[k4 x,<-hl x];constructor
  ·rintro(h|h)
   ·cases h
   ·exact h
  ·exact .inr
 subst this;have:t<=0+250000000*(l.length:Int):=k3;exact⟨t,by rw[e,cV];rfl,k2,by omega⟩
end Go.Cx
namespace Go.Cx
open Go.RowKit Go.Proofs Tryz
end Go.Cx
namespace Go.Cx
open Go.RowKit Go.Proofs Tryz
structure Frg(rs:List aL)(f:aF):Prop where
 ne:f.rel≠[]
 cond:∀r∈rs,∀c∈r.conds,c.pat.rel≠f.rel
end Go.Cx
namespace Go.Cx
open Go.RowKit Go.Proofs Tryz
def eo(c:cS):Prop:=0<=c.i/\c.b.length<=4096
theorem OQ(x:Int):0<=DH .i64 x 255/\DH .i64 x 255<=255:=by
 unfold DH;have h:(BitVec.ofInt IntKind.i64.bits x&&& BitVec.ofInt IntKind.i64.bits 255).toNat<=255:=by
  rw[BitVec.toNat_and];exact dA Nat.and_le_right (by decide)
 rw[dG (n8.i64.2 (by omega))];omega
theorem a1H(c:cS)(h:eo c):∃c' x,mI c=some (c',x)/\eo c'/\0<=x/\x<=255:=by
 obtain⟨h1,h2⟩:=h;unfold mI;rw[ax];by_cases hi:c.i<(c.b.length:Int)
 ·have hlt:c.i.toNat<c.b.length:=by omega
  have e:iY c.b c.i=some c.b[c.i.toNat]:=by unfold iY;rw[bC h1,aH];exact aT hlt
  rw[bC hi,aH,e,aA];refine⟨_,_,rfl,⟨?_,h2⟩,OQ _⟩;show 0<=IntKind.i64.wrap (c.i+1);rw[dG (n8.i64.2 (by omega))];omega
 ·rw[bK hi,aS];exact⟨_,_,rfl,⟨h1,h2⟩,OQ _⟩
theorem xS(c:cS)(n:Int)(h:eo c)(h0:0<n)(h1:n<=256):∃c' r,eE c n=some (c',r)/\eo c'/\0<=r/\r<n:=by
 obtain⟨c',x,e,hc,hx,hx2⟩:=a1H c h;unfold eE;have e1:decide (n<=0)=false:=by simp;omega
 have e2:decide (n<=256)=true:=by simp;omega
 have e3:(decide (0<=x)&&decide (0<n))=true:=by simp;omega
 rw[e1,aS,e2,aH,e,aA,e3,aH];exact⟨_,_,rfl,hc,Int.emod_nonneg _ (by omega),Int.emod_lt_of_pos _ h0⟩
theorem TT(c:cS)(n:Int)(h:eo c)(h0:0<n)(h1:n<=256):∃c' b,ny c n=some (c',b)/\eo c':=by
 obtain⟨c',x,e,hc,_⟩:=xS c n h h0 h1;unfold ny;rw[e,aA];exact⟨_,_,rfl,hc⟩
theorem Z5(c:cS)(l:aG)(h:eo c)(h0:0<l.length)(h1:l.length<=256):∃c' s,rI c l=some (c',s)/\eo c'/\s∈l:=by
 obtain⟨c',x,e,hc,hx,hx2⟩:=xS c (l.length:Int) h (by omega) (by omega);unfold rI;rw[ax,e,aA];have hlt:x.toNat<l.length:=by omega
 have e2:iY l x=some l[x.toNat]:=by unfold iY;rw[bC hx,aH];exact aT hlt
 rw[e2,aA];exact⟨_,_,rfl,hc,mM hlt⟩
theorem TH(c:cS)(h:eo c):∃c' s,gh c=some (c',s)/\eo c'/\s.length<=16:=by
 unfold gh;obtain⟨c',s,e,hc,hs⟩:=Z5 c ([[97],[98],[99],[49],[50]]:aG) h (by decide) (by decide);rw[e,aA];have:∀s∈([[97],[98],[99],[49],[50]]:aG),s.length<=16:=by decide
 exact⟨_,_,rfl,hc,this s hs⟩
theorem Nx(c:cS)(h:eo c):∃c' s,mJ c=some (c',s)/\eo c'/\s.length<=16:=by
 unfold mJ;obtain⟨c1,b,e,hc⟩:=TT c 4 h (by decide) (by decide);rw[e,aA];cases b with
 |true=>
  obtain⟨c2,s,e2,K9,hs⟩:=TH c1 hc;rw[aH,e2,aA];exact⟨_,_,rfl,K9,hs⟩
 |false=>
  obtain⟨c2,s,e2,K9,hs⟩:=Z5 c1 ([[63,120],[63,121],[63,122]]:aG) hc (by decide) (by decide);rw[aS,e2,aA];have:∀s∈([[63,120],[63,121],[63,122]]:aG),s.length<=16:=by decide
  exact⟨_,_,rfl,K9,this s hs⟩
theorem a1W(c:cS)(h:eo c):∃c' r n,nY c=some (c',(r,n))/\eo c'/\r.length<=16/\0<=n/\n<=2:=by
 unfold nY;obtain⟨c1,x,e,hc,hx,hx2⟩:=xS c 6 h (by decide) (by decide);rw[e,aA];have key:x=0\/x=1\/x=2\/x=3\/x=4\/x=5:=by omega
 rcases key with rfl|rfl|rfl|rfl|rfl|rfl<;>exact⟨c1,_,_,rfl,hc,by decide,by decide,by decide⟩
def zR(k:Nat)(p:aF):Prop:=p.rel.length<=16/\p.args.length<=k/\∀x∈p.args,x.length<=16
theorem Ji:∀(l:aG),(∀x∈l,x.length<=16)->rp tw l<=17*l.length
 | [],_=>by simp[rp]
 |x::l,h=>by
  have h1:=Ji l fun y hy=>h y (by simp[hy])
  have h2:=h x (by simp);rw[lg,aQ];unfold tw at*;omega
theorem Vf(y:cS×(Bytes×Int))(k:b9->Int->Int->aG->Option (cS×aF)):∀(m:Nat) (fu:Nat) (v:Int) (c:cS) (w:aG),y.2.2-v=(m:Int)->m<fu->0<=v->y.2.2<=100->w.length+m<=1000->eo c->(∀x∈w,x.length<=16)->
 ∃c' w',jO y k fu v c.b c.i c.h w=k c'.b c'.i c'.h w'/\eo c'/\w'.length<=w.length+m/\∀x∈w',x.length<=16:=by
 intro m
 induction m with
 |zero=>
  intro fu v c w hv hf h0 hy hw hc hx;cases fu with
  |zero=>omega
  |succ fu=>
   have e:decide (v<y.2.2)=false:=by simp;omega
   rw[jO,e,aS];exact⟨c,w,rfl,hc,by omega,hx⟩
 |succ m ih=>
  intro fu v c w hv hf h0 hy hw hc hx;cases fu with
  |zero=>omega
  |succ fu=>
   have e:decide (v<y.2.2)=true:=by simp;omega
   obtain⟨c1,s,e2,hc1,hs⟩:=Nx c hc;have RZ:mJ (⟨c.b,c.i,c.h⟩:cS)=some (c1,s):=e2;have e3:IntKind.i64.wrap (v+1)=v+1:=dG (n8.i64.2 (by omega));rw[jO,e,aH,RZ,aA,hG (by omega) (by decide),aH,e3];obtain⟨c',w',q1,q2,q3,q4⟩:=ih fu (v+1) c1 (w++[s]) (by omega) (by omega) (by omega) hy (by simp;omega) hc1 (fun x V5=>by
    rcases aV.1 V5 with h|h
    ·exact hx x h
    ·simp at h;subst h;exact hs)
   exact⟨c',w',q1,q2,by simp at q3;omega,q4⟩
theorem Nv(c:cS)(h:eo c):∃c' p,iU c=some (c',p)/\eo c'/\zR 2 p:=by
 unfold iU;obtain⟨c1,r,n,e,hc,hr,hn,hn2⟩:=a1W c h;rw[e,aA];obtain⟨c',w',q1,q2,q3,q4⟩:=Vf (c1,(r,n)) (fun a b d q=>some ((⟨a,b,d⟩:cS),(⟨r,q⟩:aF))) n.toNat fuel 0 c1 [] (by simp;omega) (by unfold fuel;omega) (by omega) (by simp;omega) (by simp;omega) hc (by simp);exact⟨_,_,q1,q2,hr,by show w'.length<=2;simp at q3;omega,q4⟩
theorem a1R(code:b9)(h:code.length<=4096):∃c,tU code=some c/\eo c:=by
 unfold tU;have key:∀(k:Int->Option cS) (r:b9) (i:Nat) (v:Int),∃z,lQ code k r i v=k z:=by
  intro k r
  induction r with
  |nil=>intro i v;exact⟨v,rfl⟩
  |cons x r ih=>
   intro i v;rw[lQ];cases decide ((i:Int)<4000)with
   |true=>exact ih _ _
   |false=>exact⟨v,rfl⟩
 obtain⟨z,e⟩:=key (fun z=>some (⟨code,0,z⟩:cS)) code 0 (IntKind.i64.wrap (851207+(IntKind.i64.wrap (3*((code.map yx).length:Int)))));rw[rZ (by omega),aH,e];exact⟨_,rfl,by show(0:Int)<=0;omega,h⟩
end Go.Cx
namespace Go.Cx
open Go.RowKit Go.Proofs Tryz
theorem X8(c:cS)(l:b9)(h:eo c)(h0:0<l.length)(h1:l.length<=256):∃c' s,pF c l=some (c',s)/\eo c'/\s∈l:=by
 obtain⟨c',x,e,hc,hx,hx2⟩:=xS c (l.length:Int) h (by omega) (by omega);unfold pF;rw[ax,e,aA];have hlt:x.toNat<l.length:=by omega
 have e2:iY l x=some l[x.toNat]:=by unfold iY;rw[bC hx,aH];exact aT hlt
 rw[e2,aA];exact⟨_,_,rfl,hc,mM hlt⟩
def XY(j:Nat):Bytes:=if j<10 then [UInt8.ofNat (48+j)]else [UInt8.ofNat (48+j/10),UInt8.ofNat (48+j%10)]
theorem Ut{j:Nat}(h:j<100):Lib.decDigits j=XY j:=by
 unfold XY;by_cases h1:j<10
 ·rw[bE h1,Lib.decDigits,dif_pos h1]
 ·rw[av h1,Lib.decDigits,dif_neg h1,Lib.decDigits,dif_pos (by omega)];rfl
end Go.Cx
namespace Go.Cx
open Go.RowKit Go.Proofs Tryz
def B7(c:aM):Prop:=zR 4 c.pat/\c.left.length<=16/\c.right.length<=16
def Ju(a:Action):Prop:=zR 4 a.pat
def wg(n:Nat)(r:aL):Prop:=r.name.length<=16/\(r.conds.length<=n/\∀c∈r.conds,B7 c)/\(r.cR.length<=n/\∀a∈r.cR,Ju a)
theorem CQ{α:Type}{w:α->Nat}{B:Nat}:∀(l:List α),(∀x∈l,w x<=B)->rp w l<=(B+1)*l.length
 | [],_=>by simp[rp]
 |x::l,h=>by
  have h1:=CQ l fun y hy=>h y (by simp[hy])
  have h2:=h x (by simp);rw[lg,aQ,Nat.mul_add];omega
theorem zR.wt4{p:aF}(h:zR 4 p):tw p.rel+rp tw p.args<=100:=by
 have:=Ji p.args h.2.2;have h1:=h.1;have h2:=h.2.1;unfold tw at*;omega
theorem B7.wt{c:aM}(h:B7 c):c.wt<=200:=by
 have h1:=h.1.wt4;have h2:=h.2.1;have h3:=h.2.2;unfold aM.wt;unfold tw at*;omega
theorem Ju.wt{a:Action}(h:Ju a):a.wt<=200:=by
 have h1:=zR.wt4 h;unfold Action.wt;unfold tw at*;omega
theorem wg.wt{n:Nat}{r:aL}(h:wg n r)(hn:n<=1000):r.wt<=1048576:=by
 obtain⟨h1,⟨h2,h3⟩,h4,h5⟩:=h;have c1:=CQ (w:=aM.wt) (B:=200) r.conds (fun x hx=>(h3 x hx).wt);have c2:=CQ (w:=Action.wt) (B:=200) r.cR (fun x hx=>(h5 x hx).wt);have d1:(200+1)*r.conds.length<=201*1000:=dR _ (by omega);have d2:(200+1)*r.cR.length<=201*1000:=dR _ (by omega);unfold aL.wt;unfold tw at*;omega
def HM(p:aF):Bool:=decide (p.rel.length<=16)&&(decide (p.args.length<=4)&&p.args.all fun x=>decide (x.length<=16))
theorem Ja{p:aF}(h:HM p=true):zR 4 p:=by
 unfold HM at h;simp only[aR,bH,aj]at h;exact h
def L5(r:aL):Bool:=(decide (r.name.length<=16)&&((decide (r.conds.length<=4)&&r.conds.all fun c=>HM c.pat&&(decide (c.left.length<=16)&&decide (c.right.length<=16)))&&(decide (r.cR.length<=4)&&r.cR.all fun a=>HM a.pat)))&&(decide (1<=r.conds.length)&&decide (1<=r.cR.length))
theorem QO{r:aL}(h:L5 r=true):wg 4 r/\1<=r.conds.length/\1<=r.cR.length:=by
 unfold L5 at h;simp only[aR,bH,aj]at h;obtain⟨⟨h1,⟨h2,h3⟩,h4,h5⟩,h6,h7⟩:=h;exact⟨⟨h1,⟨h2,fun c hc=>⟨Ja (h3 c hc).1,(h3 c hc).2⟩⟩,h4,fun a ha=>Ja (h5 a ha)⟩,h6,h7⟩
theorem Z6(c:cS)(l r:Bytes)(h:eo c)(hl:l.length<=16)(hr:r.length<=16):∃c' x,sF c l r=some (c',x)/\eo c'/\B7 x:=by
 unfold sF;obtain⟨c1,k,e,hc,_⟩:=X8 c [3,4,4,5] h (by decide) (by decide);rw[e,aA];exact⟨_,_,rfl,hc,⟨by simp,by simp,by simp⟩,hl,hr⟩
theorem Ys(c:cS)(h:eo c):∃c' x,qA c=some (c',x)/\eo c'/\B7 x:=by
 unfold qA;obtain⟨c1,k,e,hc,_,_⟩:=xS c 5 h (by decide) (by decide);rw[e,aA];have one:∀k:Int,∃c' x,((iU c1).bind fun y4=>(some (y4.1,(⟨k,y4.2,[],[]⟩:aM))))=some (c',x)/\eo c'/\B7 x:=fun k=>by
  obtain⟨c2,p,e2,K9,hp⟩:=Nv c1 hc;rw[e2,aA];exact⟨_,_,rfl,K9,⟨hp.1,by have:=hp.2.1;show p.args.length<=4;omega,hp.2.2⟩,by simp,by simp⟩
 cases(k==(0:Int))with
 |true=>rw[aH];exact one 1
 |false=>
  rw[aS];cases(k==(1:Int))with
  |true=>rw[aH];exact one 1
  |false=>
   rw[aS];cases(k==(2:Int))with
   |true=>rw[aH];exact one 2
   |false=>
    obtain⟨c2,l,e2,K9,hl⟩:=Nx c1 hc;obtain⟨c3,r,e3,hc3,hr⟩:=Nx c2 K9;obtain⟨c4,x,e4,hc4,hx⟩:=Z6 c3 l r hc3 hl hr;rw[aS,e2,aA,e3,aA,e4,aA];exact⟨_,_,rfl,hc4,hx⟩
def Oz(s:Bytes):Bool:=match mW s with
 |some (r,_)=>L5 r&&hO r
 |none=>false
def LO(r:aL):Prop:=wg 4 r/\hO r=true/\1<=r.conds.length/\1<=r.cR.length
theorem Vg(K:aG)(c:cS)(m:Int)(h:eo c)(hm:0<m)(h0:0<K.length)(h1:K.length<=256)(hK:K.all Oz=true):
 ∃c' r,((eE c (KN m ((K.map tx).length:Int))).bind fun y1=>((iY K y1.2).bind fun x3=>((mW x3).bind fun y5=>(some (y1.1,y5.1)))))=some (c',r)/\eo c'/\LO r:=by
 have hlen:((K.map tx).length:Int)=(K.length:Int):=by simp
 have hmin:0<KN m ((K.map tx).length:Int)/\KN m ((K.map tx).length:Int)<=(K.length:Int):=by
  unfold KN;rw[hlen];split<;>omega
 obtain⟨c1,x,e,hc,hx,hx2⟩:=xS c _ h hmin.1 (by omega);have hlt:x.toNat<K.length:=by omega
 have e2:iY K x=some K[x.toNat]:=by unfold iY;rw[bC hx,aH];exact aT hlt
 have hk:=aj.1 hK _ (mM hlt);unfold Oz at hk;rw[e,aA,e2,aA];cases hp:mW K[x.toNat]with
 |none=>rw[hp]at hk;cases hk
 |some p=>
  rw[hp]at hk;simp only[aR]at hk;obtain⟨q1,q2,q3⟩:=QO hk.1;exact⟨_,_,rfl,hc,q1,hk.2,q2,q3⟩
theorem TQ(c:cS)(m:Int)(h:eo c)(hm:0<m):∃c' r,kp c m=some (c',r)/\eo c'/\LO r:=by
 unfold kp;refine Vg _ c m h hm ?_ ?_ ?_
 ·decide
 ·decide
 ·kernel_rfl
theorem Vi(y1:cS×Int):∀(m:Nat) (fu:Nat) (v:Int) (c:cS) (w:aq),v=(m:Int)->m<fu->m<=50->w.length+m<=100->eo c->(∀x∈w,B7 x)->
 ∃c' w',(∀k,gY y1 k fu v c.b c.i c.h w=k c'.b c'.i c'.h w')/\eo c'/\w'.length=w.length+m/\∀x∈w',B7 x:=by
 intro m
 induction m with
 |zero=>
  intro fu v c w hv hf hm hn hc hw;cases fu with
  |zero=>omega
  |succ fu=>
   have e:decide (v>0)=false:=by simp;omega
   exact⟨c,w,fun k=>by rw[gY,e,aS],hc,rfl,hw⟩
 |succ m ih=>
  intro fu v c w hv hf hm hn hc hw;cases fu with
  |zero=>omega
  |succ fu=>
   have e:decide (v>0)=true:=by simp;omega
   obtain⟨c1,x,e2,hc1,hx⟩:=Ys c hc;have RZ:qA (⟨c.b,c.i,c.h⟩:cS)=some (c1,x):=e2;have e3:IntKind.i64.wrap (v-1)=v-1:=dG (n8.i64.2 (by omega));obtain⟨c',w',q1,q2,q3,q4⟩:=ih fu (v-1) c1 (w++[x]) (by omega) (by omega) (by omega) (by simp;omega) hc1 (fun y hy=>by
    rcases aV.1 hy with h|h
    ·exact hw y h
    ·simp at h;subst h;exact hx)
   exact⟨c',w',fun k=>by rw[gY,e,aH,RZ,aA,hG (by omega) (by decide),aH,e3];exact q1 k,q2,by simp at q3;omega,q4⟩
theorem Vj(y1:cS×Int)(q:aq)(y:aG)(sv:cS×aF):∀(m:Nat) (fu:Nat) (v:Nat) (c:cS) (w:aG),w.length=v+m->m<fu->w.length<=100->eo c->(∀x∈w,x.length<=16)->
 ∃c' w',(∀k,cg y1 q y sv k fu (v:Int) c.b c.i c.h w=k c'.b c'.i c'.h w')/\eo c'/\w'.length=w.length/\∀x∈w',x.length<=16:=by
 intro m
 induction m with
 |zero=>
  intro fu v c w hv hf hm hc hw;cases fu with
  |zero=>omega
  |succ fu=>
   have e:decide ((v:Int)<((w.map tx).length:Int))=false:=by simp;omega
   exact⟨c,w,fun k=>by rw[cg,e,aS],hc,rfl,hw⟩
 |succ m ih=>
  intro fu v c w hv hf hm hc hw;cases fu with
  |zero=>omega
  |succ fu=>
   have e:decide ((v:Int)<((w.map tx).length:Int))=true:=by simp;omega
   have hlt:v<w.length:=by omega
   have e1:iY w (v:Int)=some w[v]:=by unfold iY;rw[bC (by omega),aH];exact aT hlt
   have hx:=hw w[v] (mM hlt);have e4:IntKind.i64.wrap ((v:Int)+1)=((v+1:Nat):Int):=by rw[dG (n8.i64.2 (by omega))];rfl
   have st:∀k,cg y1 q y sv k (fu+1) (v:Int) c.b c.i c.h w=(bif kz w[v]then(bif !(y.contains w[v])then((gh (⟨c.b,c.i,c.h⟩:cS)).bind fun y83=>cg y1 q y sv k fu ((v+1:Nat):Int) y83.1.b y83.1.i y83.1.h (w.set (v:Int).toNat y83.2))else cg y1 q y sv k fu ((v+1:Nat):Int) c.b c.i c.h w)else cg y1 q y sv k fu ((v+1:Nat):Int) c.b c.i c.h w):=by
    intro k;rw[cg,e,aH,e1,aA,Kz w[v] (by omega),aA,e4,QN,aA]
   obtain⟨c0,w0,p1,p2,p3,p4⟩:=ih fu (v+1) c w (by omega) (by omega) hm hc hw;cases hv1:kz w[v]with
   |false=>exact⟨c0,w0,fun k=>by rw[st k,hv1,aS];exact p1 k,p2,p3,p4⟩
   |true=>
    cases JN:y.contains w[v]with
    |true=>exact⟨c0,w0,fun k=>by rw[st k,hv1,JN,aH,bV,aS];exact p1 k,p2,p3,p4⟩
    |false=>
     obtain⟨c1,s,e2,hc1,hs⟩:=TH c hc;have RZ:gh (⟨c.b,c.i,c.h⟩:cS)=some (c1,s):=e2;obtain⟨c',w',q1,q2,q3,q4⟩:=ih fu (v+1) c1 (w.set (v:Int).toNat s) (by simp;omega) (by omega) (by simpa using hm) hc1 (fun x V5=>by
      rcases rV V5 with h|h
      ·exact hw x h
      ·subst h;exact hs)
     exact⟨c',w',fun k=>by rw[st k,hv1,JN,aH,cJ,aH,RZ,aA];exact q1 k,q2,by simpa using q3,q4⟩
theorem a1V(c:cS)(h:eo c):∃c' r,py c=some (c',r)/\eo c'/\LO r:=by
 unfold py;obtain⟨c1,n,e1,hc1,_,_⟩:=xS c 4 h (by decide) (by decide);obtain⟨c2,p,e2,K9,hp⟩:=Nv c1 hc1;obtain⟨c3,m,e3,hc3,hm,hm2⟩:=xS c2 3 K9 (by decide) (by decide);rw[e1,aA,e2,aA,e3,aA];have hp4:zR 4 p:=⟨hp.1,by have:=hp.2.1;omega,hp.2.2⟩
 obtain⟨c4,cs,q1,hc4,NG,hsm⟩:=Vi (c1,n) m.toNat fuel m c3 [(⟨1,p,[],[]⟩:aM)] (by omega) (by unfold fuel;omega) (by omega) (by simp;omega) hc3 (fun x hx=>by
  simp at hx;subst hx;exact⟨hp4,by simp,by simp⟩)
 have hcs:1<=cs.length/\cs.length<=3:=by simp at NG;omega
 rw[q1];dsimp only;have hw0:(⟨[114],n,cs,[]⟩:aL).wt<=1048576:=wg.wt (n:=4) ⟨by simp,⟨by show cs.length<=4;omega,hsm⟩,by simp,by simp⟩ (by decide);obtain⟨c5,q,e5,hc5,hq⟩:=Nv c4 hc4;have e5':iU (⟨c4.b,c4.i,c4.h⟩:cS)=some (c5,q):=e5;rw[Ns (⟨[114],n,cs,[]⟩:aL) _ hw0,aA,e5',aA];dsimp only;obtain⟨c6,qa,r1,hc6,r3,r4⟩:=Vj (c1,n) cs (eP (wj (⟨[114],n,cs,[]⟩:aL) ((cs.map aM.c).length:Int))) (c5,q) q.args.length fuel 0 c5 q.args (by simp) (by have:=hq.2.1;unfold fuel;omega) (by have:=hq.2.1;omega) hc5 hq.2.2;have r1':=r1;rw[show((0:Nat):Int)=0 from rfl]at r1';rw[r1'];obtain⟨c7,k,e7,hc7,_⟩:=X8 c6 [1,1,2] hc6 (by decide) (by decide);have e7':pF (⟨c6.b,c6.i,c6.h⟩:cS) [1,1,2]=some (c7,k):=e7;obtain⟨c8,b,e8,hc8⟩:=TT c7 6 hc7 (by decide) (by decide);have TE:∀n,n<=4->room n 48=true:=fun n hn=>DQ (by omega) (by decide)
 rw[e7',aA];dsimp only;rw[TE _ (by simp),aH,e8,aA];have hq4:zR 4 (⟨q.rel,qa⟩:aF):=⟨hq.1,by show qa.length<=4;have:=hq.2.1;omega,r4⟩
 have fin:∀(al:eG),1<=al.length->al.length<=2->(∀a∈al,Ju a)->∃c' r,((kX (⟨[114],n,cs,al⟩:aL)).bind fun y92=>(bif !(y92)then((kp c8 99).bind fun y95=>(some (y95.1,y95.2)))else(some (c8,(⟨[114],n,cs,al⟩:aL)))))=some (c',r)/\eo c'/\LO r:=by
  intro al ha1 ha2 ha;have hsr:wg 4 (⟨[114],n,cs,al⟩:aL):=⟨by simp,⟨by show cs.length<=4;omega,hsm⟩,by show al.length<=4;omega,ha⟩
  rw[XA _ (hsr.wt (by decide)),aA];cases hr:hO (⟨[114],n,cs,al⟩:aL)with
  |true=>exact⟨_,_,rfl,hc8,hsr,hr,hcs.1,ha1⟩
  |false=>
   obtain⟨c9,r,e9,hc9,hr9⟩:=TQ c8 99 hc8 (by decide);rw[cJ,aH,e9,aA];exact⟨_,_,rfl,hc9,hr9⟩
 cases b with
 |true=>
  dsimp only;rw[aH,TE _ (by simp),aH];exact fin _ (by simp) (by simp) (fun a ha=>by
   simp at ha;rcases ha with rfl|rfl
   ·exact hq4
   ·exact⟨by simp,by simp,by simp⟩)
 |false=>
  dsimp only;rw[aS];exact fin _ (by simp) (by simp) (fun a ha=>by
   simp at ha;subst ha;exact hq4)
theorem Yt(c:cS)(h:eo c):∃c' r,mK c=some (c',r)/\eo c'/\LO r:=by
 unfold mK;obtain⟨c1,b,e,hc⟩:=TT c 3 h (by decide) (by decide);rw[e,aA];cases b with
 |true=>
  obtain⟨c2,r,e2,K9,hr⟩:=a1V c1 hc;rw[aH,e2,aA];exact⟨_,_,rfl,K9,hr⟩
 |false=>
  obtain⟨c2,r,e2,K9,hr⟩:=TQ c1 99 hc (by decide);rw[aS,e2,aA];exact⟨_,_,rfl,K9,hr⟩
end Go.Cx
namespace Go.Cx
open Go.RowKit Go.Proofs Tryz
end Go.Cx
namespace Go.Cx
open Go.RowKit Go.Proofs Tryz
theorem Yp(c:cS)(h:eo c):∃c' s,gh c=some (c',s)/\eo c'/\jy s=true:=by
 unfold gh;obtain⟨c',s,e,hc,hs⟩:=Z5 c ([[97],[98],[99],[49],[50]]:aG) h (by decide) (by decide);rw[e,aA];have:∀s∈([[97],[98],[99],[49],[50]]:aG),jy s=true:=by decide
 exact⟨_,_,rfl,hc,this s hs⟩
theorem a1X(c:cS)(h:eo c):∃c' r n,nY c=some (c',(r,n))/\eo c'/\tZ r=true/\r.length<=2/\0<=n/\n<=2:=by
 unfold nY;obtain⟨c1,x,e,hc,hx,hx2⟩:=xS c 6 h (by decide) (by decide);rw[e,aA];have key:x=0\/x=1\/x=2\/x=3\/x=4\/x=5:=by omega
 rcases key with rfl|rfl|rfl|rfl|rfl|rfl<;>exact⟨c1,_,_,rfl,hc,by decide,by decide,by decide,by decide⟩
theorem TO(y:cS×(Bytes×Int))(k:b9->Int->Int->aG->Option (cS×aF)):∀(m:Nat) (fu:Nat) (v:Int) (c:cS) (w:aG),y.2.2-v=(m:Int)->m<fu->0<=v->y.2.2<=100->w.length+m<=1000->eo c->(∀x∈w,jy x=true)->
 ∃c' w',jN y k fu v c.b c.i c.h w=k c'.b c'.i c'.h w'/\eo c'/\w'.length<=w.length+m/\∀x∈w',jy x=true:=by
 intro m
 induction m with
 |zero=>
  intro fu v c w hv hf h0 hy hw hc hx;cases fu with
  |zero=>omega
  |succ fu=>
   have e:decide (v<y.2.2)=false:=by simp;omega
   rw[jN,e,aS];exact⟨c,w,rfl,hc,by omega,hx⟩
 |succ m ih=>
  intro fu v c w hv hf h0 hy hw hc hx;cases fu with
  |zero=>omega
  |succ fu=>
   have e:decide (v<y.2.2)=true:=by simp;omega
   obtain⟨c1,s,e2,hc1,hs⟩:=Yp c hc;have RZ:gh (⟨c.b,c.i,c.h⟩:cS)=some (c1,s):=e2;have e3:IntKind.i64.wrap (v+1)=v+1:=dG (n8.i64.2 (by omega));rw[jN,e,aH,RZ,aA,hG (by omega) (by decide),aH,e3];obtain⟨c',w',q1,q2,q3,q4⟩:=ih fu (v+1) c1 (w++[s]) (by omega) (by omega) (by omega) hy (by simp;omega) hc1 (fun x V5=>by
    rcases aV.1 V5 with h|h
    ·exact hx x h
    ·simp at h;subst h;exact hs)
   exact⟨c',w',q1,q2,by simp at q3;omega,q4⟩
theorem Ve(c:cS)(h:eo c):∃c' p,q9 c=some (c',p)/\eo c'/\og p=true/\p.rel.length<=2:=by
 unfold q9;obtain⟨c1,r,n,e,hc,hr,V0,hn,hn2⟩:=a1X c h;rw[e,aA];obtain⟨c',w',q1,q2,q3,q4⟩:=TO (c1,(r,n)) (fun a b d q=>some ((⟨a,b,d⟩:cS),(⟨r,q⟩:aF))) n.toNat fuel 0 c1 [] (by simp;omega) (by unfold fuel;omega) (by omega) (by simp;omega) (by simp;omega) hc (by simp);refine⟨_,_,q1,q2,?_,V0⟩;unfold og;simp only[aR,bH,aj];exact⟨q4,hr,by simp at q3;omega⟩
theorem X7(a:aJ)(f:aF)(K:Bool->aJ->Option aJ):∀(rest:aJ) (i:Nat) (w:aJ),(∀x∈rest,x.args.length<=1048576)->w.length+rest.length<=1048576->cN a f K rest i true w=K true (w++rest)
 | [],i,w,_,_=>by simp[cN]
 |x::xs,i,w,hs,hl=>by
  simp only[aQ]at hl;rw[cN,bV,aS,C7 x (by have:=hs x (by simp);omega),aA,hG (w:=w) (c:=aF.c) (y:=[D.str x.rel,D.sl (x.args.map tx)]) (b:=40) (by omega) (by decide),aH,X7 a f K xs (i+1) (w++[x]) (fun y hy=>hs y (by simp[hy])) (by simp;omega)];simp
theorem X6(a:aJ)(f:aF)(K:Bool->aJ->Option aJ):∀(rest:aJ) (p:Option aF) (i:Nat) (w:aJ),(∀x∈rest,x.args.length<=1048576)->w.length+rest.length<=1048576->chainB p rest=true->f∈rest->cN a f K rest i false w=K true (w++rest)
 | [],_,_,_,_,_,_,h=>by cases h
 |x::xs,p,i,w,hs,hl,hc,hm=>by
  simp only[aQ]at hl;obtain⟨_,_,h3⟩:=sy hc;have cx:=C7 x (by have:=hs x (by simp);omega);have rx:=hG (w:=w) (c:=aF.c) (y:=[D.str x.rel,D.sl (x.args.map tx)]) (b:=40) (by omega) (by decide);rw[cN,cJ,aH,TJ,aA];by_cases e:x=f
  ·rw[e,JD,<-e];rw[bC (by omega:(0:Int)>=0),aH,aA,bK (by omega:¬(0:Int)>0),aS,cx,aA,rx,aH,X7 a x K xs (i+1) (w++[x]) (fun y hy=>hs y (by simp[hy])) (by simp;omega)];simp
  ·have hxs:f∈xs:=by
    rcases bA.1 hm with q|q
    ·exact absurd q.symm e
    ·exact q
   have hlt:=uJ h3 f hxs;rw[bK (by omega),aS,cx,aA,rx,aH,X6 a f K xs (some x) (i+1) (w++[x]) (fun y hy=>hs y (by simp[hy])) (by simp;omega) h3 hxs];simp
theorem a1U{l:aJ}{f:aF}(hl:iK l=true)(hf:og f=true)(hn:l.length<24):∃l',pG l f=some l'/\iK l'=true/\l'.length<=l.length+1/\∀x∈l',x∈l\/x=f:=by
 have hargs:∀x∈l,x.args.length<=1048576:=fun x hx=>aF.dF (by have:=Ep (zS hl x hx);omega)
 by_cases hm:f∈l
 ·refine⟨l,?_,hl,by omega,fun x hx=>.inl hx⟩;have hc:chainB none l=true:=by
   unfold iK at hl;rw[aR]at hl;exact hl.1
  unfold pG;rw[X6 l f _ l none 0 [] hargs (by simp;omega) hc hm];rfl
 ·refine⟨tG f l,a1N l f (by have:=aF.dF (n:=1048576) (by have:=Ep hf;omega:f.wt<=1048576);omega) (fun x hx=>by have:=hargs x hx;omega) (by omega) hm,Jw hf hl hm (by omega),by rw[Ex];omega,fun x hx=>?_⟩;rcases(Ey f l x).1 hx with h|h
  ·exact .inr h
  ·exact .inl h
theorem Z3(k:b9->Int->Int->aJ->Option (cS×aJ)):∀(m:Nat) (fu:Nat) (v:Int) (c:cS) (w:aJ),v=(m:Int)->m<fu->w.length+m<=20->eo c->iK w=true->(∀x∈w,x.rel.length<=2)->
 ∃c' w',k8 k fu v c.b c.i c.h w=k c'.b c'.i c'.h w'/\eo c'/\iK w'=true/\w'.length<=w.length+m/\∀x∈w',x.rel.length<=2:=by
 intro m
 induction m with
 |zero=>
  intro fu v c w hv hf hm hc hw hr;cases fu with
  |zero=>omega
  |succ fu=>
   have e:decide (v>0)=false:=by simp;omega
   rw[k8,e,aS];exact⟨c,w,rfl,hc,hw,by omega,hr⟩
 |succ m ih=>
  intro fu v c w hv hf hm hc hw hr;cases fu with
  |zero=>omega
  |succ fu=>
   have e:decide (v>0)=true:=by simp;omega
   obtain⟨c1,f,e2,hc1,hf1,Xo⟩:=Ve c hc;have RZ:q9 (⟨c.b,c.i,c.h⟩:cS)=some (c1,f):=e2;obtain⟨w1,e4,hw1,hl1,hm1⟩:=a1U hw hf1 (by omega);have e3:IntKind.i64.wrap (v-1)=v-1:=dG (n8.i64.2 (by omega));rw[k8,e,aH,RZ,aA,e4,aA,e3];obtain⟨c',w',q1,q2,q3,q4,q5⟩:=ih fu (v-1) c1 w1 (by omega) (by omega) (by omega) hc1 hw1 (fun x hx=>by
    rcases hm1 x hx with h|h
    ·exact hr x h
    ·rw[h];exact Xo)
   exact⟨c',w',q1,q2,q3,by omega,q5⟩
theorem a1a(c:cS)(n:Int)(h:eo c)(h0:0<=n)(hn:n<=19):∃c' l,tV c n=some (c',l)/\eo c'/\iK l=true/\(l.length:Int)<=n/\∀x∈l,x.rel.length<=2:=by
 unfold tV;have e3:IntKind.i64.wrap (n+1)=n+1:=dG (n8.i64.2 (by omega));obtain⟨c1,x,e,hc,hx,hx2⟩:=xS c (n+1) h (by omega) (by omega);rw[e3,e,aA];obtain⟨c',w',q1,q2,q3,q4,q5⟩:=Z3 (fun a b d q=>some ((⟨a,b,d⟩:cS),q)) x.toNat fuel x c1 [] (by omega) (by unfold fuel;omega) (by simp;omega) hc rfl (by simp);exact⟨_,_,q1,q2,q3,by simp at q4;omega,q5⟩
theorem GN(r:aL)(n:Bytes):∀(cs:aq) (i:Nat),ot ⟨n,r.prio,r.conds,r.cR⟩ cs i=ot r cs i
 | [],_=>rfl
 |c::cs,i=>by
  rw[ot,ot,GN r n cs (i+1)];rfl
theorem Nr{r:aL}{n:Bytes}(h:hO r=true)(hn:tZ n=true):hO ⟨n,r.prio,r.conds,r.cR⟩=true:=by
 unfold hO at h⊢;dsimp only;rw[GN];simp only[aR]at h⊢;exact⟨⟨⟨⟨hn,h.1.1.1.2⟩,h.1.1.2⟩,h.1.2⟩,h.2.1,h.2.2.1,h.2.2.2⟩
theorem Lr:∀ {l:ar} {k i:Nat} {r:aL},(l.map aL.name).Nodup->l[i]?=some r->z7 r.name l k=((k+i:Nat):Int)
 | [],_,_,_,_,h=>by simp at h
 |x::xs,k,i,r,hn,h=>by
  rw[bO,di]at hn;cases i with
  |zero=>
   simp at h;subst h;rw[z7];simp
  |succ i=>
   have hx:xs[i]?=some r:=by simpa using h
   have hne:¬x.name=r.name:=fun e=>hn.1 (by rw[e];exact cH.2 ⟨r,aE hx,rfl⟩)
   rw[z7,show(x.name==r.name)=false from cy.2 hne,aS,Lr hn.2 hx]
   congr 1;omega
theorem OM{all:ar}(hn:(all.map aL.name).Nodup):∀(l:ar) (i:Nat),(∀r∈l,hO r=true)->(∀(j:Nat) r,l[j]?=some r->all[i+j]?=some r)->Gn all l i=true
 | [],_,_,_=>rfl
 |r::l,i,hv,ha=>by
  have h0:=Lr (k:=0) hn (ha 0 r rfl);rw[Gn,hv r (by simp),bC (by rw[h0];congr 1;omega),OM hn l (i+1) (fun x hx=>hv x (by simp[hx])) (fun j x hx=>by rw[show i+1+j=i+(j+1)by omega];exact ha (j+1) x (by simpa using hx))];rfl
theorem Uf{l:ar}(hn:(l.map aL.name).Nodup)(hv:∀r∈l,hO r=true)(h6:l.length<=6):rE l=true:=by
 unfold rE;rw[OM hn l 0 hv (fun j r hj=>by rw[cV];exact hj)];simp;omega
def UM(m:Nat):Bytes:=[114,UInt8.ofNat (48+m)]
theorem Ym:∀m,m<=7->tZ (UM m)=true/\∀j,j<=7->UM m=UM j->m=j:=by decide
theorem TD{m:Nat}(h:m<=7):([114]:Bytes)++Lib.itoa (m:Int)=UM m:=by
 have:Lib.itoa (m:Int)=Lib.decDigits m:=by unfold Lib.itoa;rw[av (by omega)];rfl
 rw[this,Ut (by omega)];unfold XY UM;rw[bE (by omega)];rfl
theorem Z2(k:b9->Int->Int->ar->Option (cS×ar))(P:aL->Prop)(hP:∀c c' r,eo c->mK c=some (c',r)->P r):∀(m:Nat) (fu:Nat) (v:Int) (c:cS) (w:ar),v=(m:Int)->m<fu->w.length+m<=6->eo c->(∀r∈w,hO r=true/\wg 4 r/\∃r0,P r0/\r.conds=r0.conds)->(w.map aL.name).Nodup->(∀r∈w,∃j,m<j/\j<=7/\r.name=UM j)->
 ∃c' w',k9 k fu v c.b c.i c.h w=k c'.b c'.i c'.h w'/\eo c'/\w'.length<=w.length+m/\(∀r∈w',hO r=true/\wg 4 r/\∃r0,P r0/\r.conds=r0.conds)/\(w'.map aL.name).Nodup:=by
 intro m
 induction m with
 |zero=>
  intro fu v c w hv hf hm hc hw hn hj;cases fu with
  |zero=>omega
  |succ fu=>
   have e:decide (v>0)=false:=by simp;omega
   rw[k9,e,aS];exact⟨c,w,rfl,hc,by omega,hw,hn⟩
 |succ m ih=>
  intro fu v c w hv hf hm hc hw hn hj;cases fu with
  |zero=>omega
  |succ fu=>
   have e:decide (v>0)=true:=by simp;omega
   obtain⟨c1,r,e2,hc1,hr⟩:=Yt c hc;have RZ:mK (⟨c.b,c.i,c.h⟩:cS)=some (c1,r):=e2;have e3:IntKind.i64.wrap (v-1)=v-1:=dG (n8.i64.2 (by omega));have e5:=Yu v (n8.i64.2 (by omega));have e6:([114]:Bytes)++Lib.itoa v=UM (m+1):=by rw[hv];exact TD (by omega)
   have e7:decide (([114]:Bytes).length+(Lib.itoa v).length<=maxLen)=true:=by
    have:=congrArg List.length e6;rw[b8]at this;rw[this];rfl
   have hnm:=Ym (m+1) (by omega);rw[k9,e,aH,RZ,aA,e5,aA,e7,aH,hG (by omega) (by decide),aH,e3,e6];have a0N:=Nr hr.2.1 hnm.1;obtain⟨c',w',q1,q2,q3,q4,q5⟩:=ih fu (v-1) c1 (w++[⟨UM (m+1),r.prio,r.conds,r.cR⟩]) (by omega) (by omega) (by simp;omega) hc1 (fun x hx=>by
    rcases aV.1 hx with h|h
    ·exact hw x h
    ·rw[cZ.1 h];exact⟨a0N,⟨by show(UM (m+1)).length<=16;unfold UM;simp,hr.1.2⟩,r,hP c c1 r hc e2,rfl⟩) (by
    rw[bP,bB];refine⟨hn,by simp,fun a ha b hb e=>?_⟩;simp at hb;obtain⟨x,hx,rfl⟩:=cH.1 ha;obtain⟨j,j1,j2,j3⟩:=hj x hx;have:=hnm.2 j j2 (by rw[<-j3,e,hb]);omega) (fun x hx=>by
    rcases aV.1 hx with h|h
    ·obtain⟨j,j1,j2,j3⟩:=hj x h;exact⟨j,by omega,j2,j3⟩
    ·rw[cZ.1 h];exact⟨m+1,by omega,by omega,rfl⟩)
   exact⟨c',w',q1,q2,by simp at q3;omega,q4,q5⟩
theorem wg.wt4{r:aL}(h:wg 4 r):r.wt<=10000:=by
 obtain⟨h1,⟨h2,h3⟩,h4,h5⟩:=h;have c1:=CQ (w:=aM.wt) (B:=200) r.conds (fun x hx=>(h3 x hx).wt);have c2:=CQ (w:=Action.wt) (B:=200) r.cR (fun x hx=>(h5 x hx).wt);have d1:(200+1)*r.conds.length<=201*4:=dR _ (by omega);have d2:(200+1)*r.cR.length<=201*4:=dR _ (by omega);unfold aL.wt;unfold tw at*;omega
theorem a1Y(P:aL->Prop)(hP:∀c c' r,eo c->mK c=some (c',r)->P r)(c:cS)(n:Int)(h:eo c)(h0:0<=n)(hn:n<=6):∃c' l,tW c n=some (c',l)/\eo c'/\rE l=true/\rp aL.wt l<=1048576/\∀r∈l,∃r0,P r0/\r.conds=r0.conds:=by
 unfold tW;have e3:IntKind.i64.wrap (n+1)=n+1:=dG (n8.i64.2 (by omega));obtain⟨c1,x,e,hc,hx,hx2⟩:=xS c (n+1) h (by omega) (by omega);rw[e3,e,aA];obtain⟨c',w',q1,q2,q3,q4,q5⟩:=Z2 (fun a b d q=>some ((⟨a,b,d⟩:cS),q)) P hP x.toNat fuel x c1 [] (by omega) (by unfold fuel;omega) (by simp;omega) hc (by simp) (by simp) (by simp);have h6:w'.length<=6:=by simp at q3;omega
 refine⟨_,_,q1,q2,Uf q5 (fun r hr=>(q4 r hr).1) h6,?_,fun r hr=>(q4 r hr).2.2⟩;have h1:=CQ (w:=aL.wt) (B:=10000) w' (fun r hr=>wg.wt4 (q4 r hr).2.1);have:(10000+1)*w'.length<=(10000+1)*6:=dR _ h6;omega
theorem TP(code:b9)(h:code.length<=4096):∃rs fs,lW code=some (rs,fs)/\rE rs=true/\rp aL.wt rs<=1048576/\iK fs=true/\fs.length<=6:=by
 unfold lW;obtain⟨c0,e0,h0⟩:=a1R code h;obtain⟨c1,rs,e1,h1,r1,r2,_⟩:=a1Y (fun _=>True) (fun _ _ _ _ _=>trivial) c0 3 h0 (by decide) (by decide);obtain⟨c2,fs,e2,h2,f1,f2,_⟩:=a1a c1 6 h1 (by decide) (by decide);rw[e0,aA,e1,aA,e2,aA];exact⟨_,_,rfl,r1,r2,f1,by have f2:(fs.length:Int)<=6:=f2;show fs.length<=6;omega⟩
end Go.Cx
namespace Go.Cx
open Go.RowKit Go.Proofs Tryz
set_option maxRecDepth 100000
variable{Γ:sQ}{N:Nat->St->Prop}
def zl(aB:b9):Option Bool:=(some (decide ((((aB.map yx).length:Int):Int)>4096)))
theorem AH{aB:b9}{r:Bool}(h:zl aB=some r):Good prog 10 [D.sl (aB.map yx)] (D.bool r):=by
 refine gd func10 [[none]] 6 fun hr Γ hΓ=>?_
 rw[zl]at h;cases h;exact aY.ret hΓ
end Go.Cx
namespace Go.Cx
open Go.RowKit Go.Proofs Tryz
set_option maxRecDepth 100000
variable{Γ:sQ}{N:Nat->St->Prop}
def fW(y4:ar×aJ)(y6:aI×Bool)(k1:aJ->Option Bool):Nat->Int->aJ->Option Bool
 |0,_,_=>none
 |n1+1,B0,jS=>(bif decide ((B0:Int)>=0)then((iY y4.2 B0).bind fun x21=>(bif room ((jS.map aF.c).length+([[D.str x21.rel,D.sl (x21.args.map tx)]]).length) 40 then(fW y4 y6 k1 n1 (IntKind.i64.wrap (B0-1)) (jS++([x21])))else none))else(k1 jS))
def qW(aB:b9):Option Bool:=((zl aB).bind fun y1=>(bif y1 then(some true)else((lW aB).bind fun y4=>((lU y4.1).bind fun y6=>(fW y4 y6 (fun(mC:aJ)=>((ic y6.1 y4.2).bind fun Mi=>((ic y6.1 mC).bind fun y26=>((ic Mi.1 mC).bind fun yY=>(bif y6.2 then(bif (Mi.2:Int)==((y4.2.map aF.c).length:Int)then(bif (y26.2:Int)==Mi.2 then(bif (yY.2:Int)==0 then((iC Mi.1 y26.1).bind fun Gi=>(bif Gi then((iC Mi.1 yY.1).bind fun Ig=>(bif Ig then((mQ Mi.1).bind fun Zg=>(some Zg))else(some false)))else(some false)))else(some false))else(some false))else(some false))else(some false)))))) fuel (IntKind.i64.wrap (((y4.2.map aF.c).length:Int)-1)) ([]:aJ))))))
def uz(y4:ar×aJ)(y6:aI×Bool)(B0:Int)(W1:List aK):St:=⟨[(4,D.acc 0),(5,D.ptr 1 0),(6,D.bool y6.2),(7,D.acc 2),(8,D.int .i64 B0)],[Ob.row .uq 37 2 (y4.2.map aF.c),Ob.box [D.acc 3,D.acc 4,D.acc 5,D.acc 6,D.acc 7,D.int .i64 y6.1.cL],Ob.row .sh 37 2 W1,Ob.row .uq 80 4 (y6.1.rules.map aL.c),Ob.row .uq 3 1 (y6.1.ends.map lZ),Ob.row .uq 93 3 (y6.1.bG.map ah.c),Ob.row .uq 50 8 (y6.1.nodes.map Node.c),Ob.row .uq 37 2 (y6.1.facts.map aF.c)]⟩
theorem Al(hΓ:Γ.nt=90){y4:ar×aJ}{y6:aI×Bool}{r:Bool}{k1:aJ->Option Bool}(gE:∀(mC:aJ),k1 mC=some r->Ax Γ N f3 (.q [[none]] (D.bool r)) [1,1,1,1,1,1] ⟨[(4,D.acc 0),(5,D.ptr 1 0),(6,D.bool y6.2),(7,D.acc 2)],[Ob.row .uq 37 2 (y4.2.map aF.c),Ob.box [D.acc 3,D.acc 4,D.acc 5,D.acc 6,D.acc 7,D.int .i64 y6.1.cL],Ob.row .sh 37 2 (mC.map aF.c),Ob.row .uq 80 4 (y6.1.rules.map aL.c),Ob.row .uq 3 1 (y6.1.ends.map lZ),Ob.row .uq 93 3 (y6.1.bG.map ah.c),Ob.row .uq 50 8 (y6.1.nodes.map Node.c),Ob.row .uq 37 2 (y6.1.facts.map aF.c)]⟩):∀(n1:Nat) (B0:Int) (jS:aJ),fW y4 y6 k1 n1 B0 jS=some r->Ar Γ N f3 (.q [[none]] (D.bool r)) [1,1,1,1,1,0,1,0] n1 (uz y4 y6 B0 (jS.map aF.c)):=by
 intro n
 induction n with
 |zero=>intro B0 jS h;simp[fW]at h
 |succ n1 ih1=>
  intro B0 jS h;rw[fW]at h;refine aX fun N1 dH cW=>?_
  obtain⟨h20,h⟩|⟨h20,h⟩:=aO h
  ·obtain⟨x21,h22,h⟩:=aD h;obtain⟨h23,h⟩:=bh h;exact(((((aY.b h20).i (iV aF.c 2 h22)).o 2 2 .uq (cP aF.c (fQ h22))).w (bz h23)).a [.cn [4,5,6,7,8] [0,1,9,3,4,5,6,7]]).cs hΓ cW (uz y4 y6 (IntKind.i64.wrap (B0-1)) ((jS.map aF.c)++([[D.str x21.rel,D.sl (x21.args.map tx)]]))) (by first| (simp only[mA]<;>rfl)| (simp only[mA,aF.c,aa.c,aM.c,Action.c,aL.c,aW.c,fH.c,ah.c,Node.c,aI.c,fP.c]<;>rfl)) (ih1 (IntKind.i64.wrap (B0-1)) (jS++([x21])) h)
  ·exact((aY.b h20).a [.hl 0 [4,5,6,7] [0,1,2,3,4,5,6,7]]).ex hΓ dH (gE jS h)
theorem zk{aB:b9}{r:Bool}(h:qW aB=some r):Good prog 3 [D.sl (aB.map yx)] (D.bool r):=by
 refine gd func3 [[none]] 90 fun hr Γ hΓ=>?_
 rw[qW]at h;obtain⟨y1,h2,h⟩:=aD h;obtain⟨h3,h⟩|⟨h3,h⟩:=aO h
 ·have h:=aN h;subst h;exact((aY.g (AH h2)).b h3).ret hΓ
 ·obtain⟨y4,h5,h⟩:=aD h;obtain⟨y6,h7,h⟩:=aD h;refine(((((aY.g (AH h2)).b h3).g (yN h5)).g (yK h7)).a [.sk 8,.cn [4,5,6,7,8] [1,7,8,2,3,4,5,6]]).lp hΓ (Al hΓ (fun mC h=>?_) fuel (IntKind.i64.wrap (((y4.2.map aF.c).length:Int)-1)) ([]:aJ) h);obtain⟨Mi,h25,h⟩:=aD h;obtain⟨y26,h27,h⟩:=aD h;obtain⟨yY,h29,h⟩:=aD h;have rj:=(((aY.g (oK h25)).g (oK h27)).g (oK h29))
  obtain⟨h30,h⟩|⟨h30,h⟩:=aO h
  ·have kW:=(rj.r 5 h30)
   obtain⟨h31,h⟩|⟨h31,h⟩:=aO h
   ·have kx:=(kW.r 4 h31)
    obtain⟨h32,h⟩|⟨h32,h⟩:=aO h
    ·have lJ:=(kx.r 3 h32)
     obtain⟨h33,h⟩|⟨h33,h⟩:=aO h
     ·obtain⟨Gi,h35,h⟩:=aD h;have tf:=(((lJ.r 3 h33).g (nu h35)).b h33)
      obtain⟨h36,h⟩|⟨h36,h⟩:=aO h
      ·obtain⟨Ig,h38,h⟩:=aD h;have xQ:=(((tf.r 3 h36).g (nu h38)).b h36)
       obtain⟨h39,h⟩|⟨h39,h⟩:=aO h
       ·obtain⟨Zg,h41,h⟩:=aD h;have h:=aN h;subst h;exact(((xQ.r 2 h39).g (qI h41)).b h39).ret hΓ
       ·have h:=aN h;subst h;exact(xQ.r 3 h39).ret hΓ
      ·have h:=aN h;subst h;exact((tf.r 4 h36).F 3).ret hΓ
     ·have h:=aN h;subst h;exact((lJ.r 4 h33).F 7).ret hΓ
    ·have h:=aN h;subst h;exact((kx.r 3 h32).F 11).ret hΓ
   ·have h:=aN h;subst h;exact((kW.r 4 h31).F 14).ret hΓ
  ·have h:=aN h;subst h;exact((rj.r 5 h30).F 18).ret hΓ
end Go.Cx
namespace Go.Cx
open Go.RowKit Go.Proofs Tryz
namespace LawFnAnyOrder
theorem RI{α:Type}{l:List α}{i:Nat}{x:α}(h:l[i]?=some x):iY l (i:Int)=some x:=by
 unfold iY;rw[bC (by omega),aH];exact h
theorem Zr(y4:ar×aJ)(y6:aI×Bool)(K:aJ->Option Bool)(h24:y4.2.length<=24):∀(m fu:Nat) (v:Int) (w:aJ),v+1=(m:Int)->m<fu->m<=y4.2.length->w=(y4.2.drop m).reverse->fW y4 y6 K fu v w=K y4.2.reverse:=by
 intro m
 induction m with
 |zero=>
  intro fu v w hv hf hm hw;cases fu with
  |zero=>omega
  |succ fu=>
   rw[fW,bK (by omega),aS,hw,wW]
 |succ m ih=>
  intro fu v w hv hf hm hw;cases fu with
  |zero=>omega
  |succ fu=>
   have hlt:m<y4.2.length:=by omega
   have e1:v=(m:Int):=by omega
   have e3:IntKind.i64.wrap (v-1)=v-1:=dG (n8.i64.2 (by omega));have hwl:w.length<=24:=by rw[hw];simp;omega
   rw[fW,bC (by omega),aH,e1,RI (aT hlt),aA,hG (by omega) (by decide),aH,<-e1,e3];refine ih fu (v-1) _ (by omega) (by omega) (by omega) ?_;rw[hw,nA hlt,List.reverse_cons]
theorem YY(code:b9):qW code=some true:=by
 unfold qW zl;rw[aA,ax];by_cases hc:code.length<=4096
 ·rw[bK (by omega),aS];obtain⟨rs,fs,e1,r1,r2,f1,f2⟩:=TP code hc;have hw:=EM f1;have Xe:=FS.JX (fs:=fs) (by omega);have hd:=GK f1;rw[e1,aA,V9 rs r2,r1,aH,aA];have e3:IntKind.i64.wrap (((fs.map aF.c).length:Int)-1)=(fs.length:Int)-1:=by rw[ax];exact dG (n8.i64.2 (by omega))
  rw[e3,Zr (rs,fs) _ _ (by show fs.length<=24;omega) fs.length fuel _ [] (by omega) (by unfold fuel;omega) (bJ _) (by simp)];dsimp only;have hn0:=Kf 0 r1 J6 r2;have hFr:FS fs.reverse:=⟨by rw[List.length_reverse];exact Xe.1,fun f hf=>Xe.2 f (cU.1 hf)⟩
  obtain⟨t,q1,t0,t1⟩:=Rb r1 f1 hd (fun _=>Iff.rfl) (by omega);obtain⟨u,q2,u0,u1⟩:=Rb (l:=fs.reverse) r1 f1 ((List.reverse_perm fs).nodup_iff.2 hd) (fun x=>cU) (by simp;omega);have hx:=Kf t r1 f1 r2;have q3:=WJ (n:=vY rs fs t) fs.reverse 0 (fun f hf=>cU.1 hf);rw[SN _ fs hn0 Xe,aA,SN _ fs.reverse hn0 hFr,aA,q1,q2];dsimp only;rw[SN _ fs.reverse hx hFr,aA,q3];dsimp only;simp only[aH,ax,List.length_reverse,oH];rw[YI,aA,P3,aH,YI,aA,P3,aH,SO _ r2 (show rp aF.wt fs<=1048576 by omega),aA,KT r1 f1,bC t0];rfl
 ·rw[bC (by omega),aH]
theorem Sc(code:b9):Good prog 3 [D.sl (code.map yx)] (.bool true):=zk (YY code)
end LawFnAnyOrder
end Go.Cx
namespace Go.Cx
open Go.RowKit
inductive Sh where
 |int (k:IntKind)
 |str
 |bool
 |sl (row:List Sh)
mutual
inductive Im:Sh->D->Prop
 |int (k:IntKind) (n:Int):Im (.int k) (.int k n)
 |str (s:Bytes):Im .str (.str s)
 |bool (b:Bool):Im .bool (.bool b)
 |sl (row:List Sh) (rows:List aK):(∀r∈rows,rW row r)->Im (.sl row) (.sl rows)
inductive rW:List Sh->List D->Prop
 |nil:rW [] []
 |cons (s:Sh) (ss:List Sh) (d:D) (ds:aK):Im s d->rW ss ds->rW (s::ss) (d::ds)
end
theorem rW.app{s1 s2:List Sh}{d1 d2:aK}(h1:rW s1 d1)(h2:rW s2 d2):rW (s1++s2) (d1++d2):=by
 induction s1 generalizing d1 with
 |nil=>cases h1;exact h2
 |cons s s1 ih=>cases h1 with|cons _ _ d ds h h'=>exact .cons _ _ _ _ h (ih h')
theorem rW.length{s:List Sh}{d:aK}(h:rW s d):d.length=s.length:=by
 induction s generalizing d with
 |nil=>cases h;rfl
 |cons s ss ih=>cases h with|cons _ _ d ds h h'=>simp[ih h']
def Ki(P:Program):Nat->List Field->List (List Sh)->Bool
 |_,[],[]=>true
 |off,f::fs,r::rs=>(f.offset==off)&&(r.length==P.cellsOf f.type)&&Ki P (off+r.length) fs rs
 |_,_,_=>false
def xy(P:Program):Nat->TypeId->Option (List Sh)
 |0,_=>none
 |n+1,t=>match P.underlying t with
  |some .bool=>some [.bool]
  |some (.int k)=>some [.int k]
  |some .string=>some [.str]
  |some (.slice e)=>(xy P n e).bind fun r=>if r.length=P.cellsOf e/\0<r.length then some [.sl r]else none
  |some (.struct fs)=>(fs.toList.mapM fun f=>xy P n f.type).bind fun rs=>if Ki P 0 fs.toList rs=true/\rs.flatten.length=P.cellsOf t then some rs.flatten else none
  |_=>none
theorem MG{α β:Type}{f:α->Option β}:∀ {l:List α} {ys:List β},l.mapM f=some ys->ys.length=l.length/\∀(i:Nat) x,l[i]?=some x->∃y,ys[i]?=some y/\f x=some y:=by
 intro l
 induction l with
 |nil=>intro ys h;simp at h;subst h;simp
 |cons a l ih=>
  intro ys h;simp only[B4,Option.bind_eq_bind,Option.pure_def]at h;cases ha:f a with
  |none=>simp[ha]at h
  |some b=>
   cases hl:l.mapM f with
   |none=>simp[ha,hl]at h
   |some bs=>
    simp[ha,hl]at h;subst h;obtain⟨h1,h2⟩:=ih hl;refine⟨by simp[h1],fun i x hx=>?_⟩;cases i with
    |zero=>simp at hx;subst hx;exact⟨b,by simp,ha⟩
    |succ i=>simp at hx;obtain⟨y,k1,k2⟩:=h2 i x hx;exact⟨y,by simpa using k1,k2⟩
section
variable{P:Program}{w:World}{H:Type}{enc:TypeId×Value->H}{base:Nat}{sp:Nat->Bool}{held:Bool}
theorem HX{a:Addr}{n:Nat}{cs:bW}(h:w.cells? base a n=some cs):cs.length=n/\∀(j:Nat) c,cs[j]?=some c->w.cell? (a.add j)=some c:=by
 unfold World.cells? at h;split at h
 ·obtain⟨h1,h2⟩:=MG h;refine⟨by simpa using h1,fun j c hj=>?_⟩;have hlt:j<n:=by have:=(aC.1 hj).1;rw[h1]at this;simpa using this
  obtain⟨y,k1,k2⟩:=h2 j j (by simp[hlt]);rw[hj]at k1;cases k1;exact k2
 ·cases h
theorem YZ{k:IntKind}{n:Int}(h:(Lit.int k n).wf=true):n8 k n:=by
 simpa[Lit.wf,n8]using h
theorem PJ:∀(fuel:Nat) {t:TypeId} {cs:bW} {d:DataW H} {ps:List MemPlace} {n:Nat} {Vp:List Sh},
 DataW.trod enc P w base sp held fuel t cs=some (d,ps)->xy P n t=some Vp->∃ds bs,jx w cs ds bs/\rW Vp ds:=by
 intro fuel
 induction fuel with
 |zero=>intro t cs d ps n Vp h;simp[DataW.trod]at h
 |succ fuel ih=>
  intro t cs d ps n Vp h hf;cases n with
  |zero=>simp[xy]at hf
  |succ n=>
   simp only[xy]at hf;simp only[DataW.trod]at h;split at hf
   ·rename_i hu;cases hf;simp only[hu]at h;split at h<;>rename_i h1<;>try(simp at h1;done)
    all_goals try(cases h;done)
    all_goals simp at h1
    exact⟨[.bool _],[],.cons _ _ _ _ [] [] rfl (.bool _) .nil,.cons _ _ _ _ (.bool _) .nil⟩
   ·rename_i k hu;cases hf;simp only[hu]at h;split at h<;>rename_i h1<;>try(simp at h1;done)
    all_goals try(cases h;done)
    all_goals simp at h1
    rename_i k1 k2 m _;subst h1;split at h
    ·rename_i hc;obtain⟨rfl,hwf⟩:=hc;exact⟨[.int _ _],[],.cons _ _ _ _ [] [] rfl (.int _ _ (YZ hwf)) .nil,.cons _ _ _ _ (.int _ _) .nil⟩
    ·cases h
   ·rename_i hu;cases hf;simp only[hu]at h;split at h<;>rename_i h1<;>try(simp at h1;done)
    all_goals try(cases h;done)
    all_goals simp at h1
    split at h
    ·rename_i hc;exact⟨[.str _],[],.cons _ _ _ _ [] [] rfl (.str _ hc) .nil,.cons _ _ _ _ (.str _) .nil⟩
    ·cases h
   ·rename_i e hu;cases hr:xy P n e with
    |none=>simp[hr]at hf
    |some r=>
     simp only[hr,aA]at hf;split at hf
     ·rename_i hsz;cases hf;simp only[hu]at h;split at h<;>rename_i h1<;>try(simp at h1;done)
      all_goals try(cases h;done)
      all_goals simp at h1
      ·exact⟨[.sl []],[],.cons _ _ _ _ [] [] rfl .w8 .nil,.cons _ _ _ _ (.sl _ _ (by simp)) .nil⟩
      ·rename_i a len cap
       try subst h1
       split at h
       ·rename_i hc;cases hm:(List.range len).mapM (fun i=>(w.cells? base (a.add (i*P.cellsOf e)) (P.cellsOf e)).bind (DataW.trod enc P w base sp held fuel e))with
        |none=>simp[hm]at h
        |some elems=>
         obtain⟨_,hall⟩:=MG hm;have hel:∀i,i<len->∃cs ds bs,w.cells? base (a.add (i*P.cellsOf e)) (P.cellsOf e)=some cs/\jx w cs ds bs/\rW r ds:=by
          intro i hi;obtain⟨y,_,hy⟩:=hall i i (by simp[hi]);obtain⟨cs,hcs,hy⟩:=l6.1 hy;obtain⟨ds,bs,k1,k2⟩:=ih (d:=y.1) (ps:=y.2) hy hr;exact⟨cs,ds,bs,hcs,k1,k2⟩
         by_cases hl0:len=0
         ·subst hl0;exact⟨[.sl []],[],.cons _ _ _ _ [] [] rfl (.mD a cap hc.2.2) .nil,.cons _ _ _ _ (.sl _ _ (by simp)) .nil⟩
         ·
          obtain⟨cs0,WI,bs0,NG,hr0,a5q⟩:=hel 0 (by omega);obtain⟨hl1,Uu⟩:=HX NG;have hpos:0<cs0.length:=by rw[hl1];omega
          have hc0:=Uu 0 cs0[0] (aT hpos);have ha0:(a.add (0*P.cellsOf e)).add 0=a:=by simp[Addr.add]
          rw[ha0]at hc0;obtain⟨b,off,spot⟩:=a;have a0Q:spot=none:=by
           cases spot with
           |none=>rfl
           |some x=>
            unfold World.cell? at hc0;split at hc0
            ·simp at hc0
            ·cases hc0
          subst a0Q;have hb:b<w.heap.size:=World.block_lt_of_cell? w _ hc0;have build:∀m,m<=len->∃(rows:List aK) (cs:bW) (bs:aP),rows.length=m/\cs.length=m*P.cellsOf e/\(∀(j:Nat) c,cs[j]?=some c->w.cell? ⟨b,off+j,none⟩=some c)/\
           jx w cs rows.flatten bs/\∀x∈rows,rW r x:=by
           intro m
           induction m with
           |zero=>intro _;exact⟨[],[],[],rfl,by simp,by simp,.nil,by simp⟩
           |succ m ihm=>
            intro hm1;obtain⟨rows,cs,bs,q1,q2,q3,q4,q5⟩:=ihm (by omega);obtain⟨cs',ds',bs',g1,g2,g3⟩:=hel m (by omega);obtain⟨g4,g5⟩:=HX g1;refine⟨rows++[ds'],cs++cs',bs++bs',by simp[q1],by simp[q2,g4,jA],?_,?_,?_⟩
            ·intro j c hj;by_cases hlt:j<cs.length
             ·rw[ai hlt]at hj;exact q3 j c hj
             ·rw[au (by omega)]at hj;have:=g5 _ c hj;rw[Addr.add_lit,Addr.add_lit,q2]at this;have e1:off+m*P.cellsOf e+(j-m*P.cellsOf e)=off+j:=by omega
              rw[e1]at this;exact this
            ·rw[jk];have:=q4.app g2;simpa using this
            ·intro x hx;rcases aV.1 hx with hx|hx
             ·exact q5 x hx
             ·simp at hx;subst hx;exact g3
          obtain⟨rows,cs,bs,q1,q2,q3,q4,q5⟩:=build len (bJ _);subst q1;refine⟨[.sl rows],b::bs,?_,.cons _ _ _ _ (.sl _ _ q5) .nil⟩;have:=jx.cons (w:=w) _ [] _ [] _ [] rfl (Rd.sl b off cap r.length rows cs bs hb hc.2.1 hc.2.2 (fun x hx=>(q5 x hx).length) q3 q4) .nil;simpa using this
       ·cases h
     ·cases hf
   ·rename_i fs hu;cases hr:fs.toList.mapM (fun f=>xy P n f.type)with
    |none=>simp[hr]at hf
    |some rs=>
     simp only[hr,aA]at hf;split at hf
     ·rename_i hok;cases hf;simp only[hu]at h;split at h
      ·rename_i hlen;cases hm:fs.toList.mapM (fun f=>DataW.trod enc P w base sp held fuel f.type ((cs.drop f.offset).take (P.cellsOf f.type)))with
       |none=>simp[hm]at h
       |some xs=>
        have go:∀(fl:List Field) (rl:List (List Sh)) (xl:List (DataW H×List MemPlace)) (off:Nat),fl.mapM (fun f=>xy P n f.type)=some rl->
         fl.mapM (fun f=>DataW.trod enc P w base sp held fuel f.type ((cs.drop f.offset).take (P.cellsOf f.type)))=some xl->Ki P off fl rl=true->
         ∃ds bs,jx w ((cs.drop off).take rl.flatten.length) ds bs/\rW rl.flatten ds:=by
         intro fl
         induction fl with
         |nil=>
          intro rl xl off h1 _ _;simp at h1;subst h1;exact⟨[],[],by simpa using jx.nil,.nil⟩
         |cons f fl ihf=>
          intro rl xl off h1 h2 h3;simp only[B4,Option.bind_eq_bind,Option.pure_def]at h1 h2;cases a1:xy P n f.type with
          |none=>simp[a1]at h1
          |some r1=>
           cases a2:fl.mapM (fun f=>xy P n f.type)with
           |none=>simp[a1,a2]at h1
           |some rl'=>
            simp[a1,a2]at h1;subst h1;cases b1:DataW.trod enc P w base sp held fuel f.type ((cs.drop f.offset).take (P.cellsOf f.type))with
            |none=>simp[b1]at h2
            |some x1=>
             cases b2:fl.mapM (fun f=>DataW.trod enc P w base sp held fuel f.type ((cs.drop f.offset).take (P.cellsOf f.type)))with
             |none=>simp[b1,b2]at h2
             |some xl'=>
              simp only[Ki,aR,cO]at h3;obtain⟨⟨o1,o2⟩,o3⟩:=h3;obtain⟨LI,WD,k1,k2⟩:=ih (d:=x1.1) (ps:=x1.2) b1 a1;obtain⟨ds2,UE,k3,k4⟩:=ihf rl' xl' (off+r1.length) a2 b2 o3;refine⟨LI++ds2,WD++UE,?_,by simpa using k2.app k4⟩;have e1:(cs.drop off).take (r1::rl').flatten.length=(cs.drop f.offset).take (P.cellsOf f.type)++(cs.drop (off+r1.length)).take rl'.flatten.length:=by
               rw[o1,<-o2,eW,b8,<-fp,List.take_add]
              rw[e1];exact k1.app k3
        obtain⟨ds,bs,k1,k2⟩:=go fs.toList rs xs 0 hr hm hok.1;rw[wW,hok.2,<-hlen,List.take_length]at k1;exact⟨ds,bs,k1,k2⟩
      ·cases h
     ·cases hf
   ·cases hf
def R8(P:Program)(n:Nat)(t:TypeId)(d:D):Prop:=
 (xU P t=some true/\∃Vp cells,xy P n t=some Vp/\d=.agg cells/\rW Vp cells)\/(xU P t=some false/\∃sh,xy P n t=some [sh]/\Im sh d)
inductive J4(P:Program)(n:Nat):List TypeId->List D->Prop
 |nil:J4 P n [] []
 |cons (t:TypeId) (ts:List TypeId) (d:D) (ds:aK):R8 P n t d->J4 P n ts ds->J4 P n (t::ts) (d::ds)
def LY(P:Program)(n:Nat)(t:TypeId):Bool:=
 match xU P t,xy P n t with
 |some true,some _=>(match P.underlying t with|some (.struct _)=>true|_=>false)
 |some false,some [_]=>true
 |_,_=>false
theorem Sy{n:Nat}{t:TypeId}{v:Value}{d:DataW H}{ps:List MemPlace}(hok:LY P n t=true)(hval:Value.okWide P w .any base t v)(h:DataW.Trod enc P w 0 sp held t v d ps):
 ∃x bs,Rd w v x bs/\R8 P n t x:=by
 obtain⟨fuel,h⟩:=h;unfold LY at hok;split at hok
 ·rename_i Vp ht hf;split at hok
  ·rename_i fs hu;unfold Value.okWide at hval;simp only[hu]at hval;obtain⟨cs,rfl,_⟩:=hval;obtain⟨ds,bs,k1,k2⟩:=PJ fuel h hf;refine⟨.agg ds,bs,?_,.inl ⟨ht,Vp,ds,hf,rfl,k2⟩⟩;have:=Rd.agg (w:=w) cs.toList ds bs k1;simpa using this
  ·cases hok
 ·rename_i sh ht hf;have hone:v.oneCell'=true:=by
   unfold xU at ht;split at ht<;>first
    | (cases ht;done)
    |skip
   rename_i dsc h1 h2 hu;unfold Value.okWide at hval;rw[hu]at hval;cases v with
   |agg cs=>
    cases dsc<;>first
     | (exfalso;exact h1 _ rfl)
     | (exfalso;exact h2 _ _ rfl)
     | (simp[Cell.okWide,Cell.ok,hu]at hval)
   |tuple vs=>
    cases dsc<;>first
     | (exfalso;exact h1 _ rfl)
     | (exfalso;exact h2 _ _ rfl)
     | (simp[Cell.okWide,Cell.ok,hu]at hval)
   |_=>rfl
  rw[JY hone]at h;obtain⟨ds,bs,k1,k2⟩:=PJ fuel h hf;cases k2 with
  |cons _ _ x ds' hx hn=>
   cases hn;cases k1 with
   |cons _ _ _ _ b1 b2 _ hrd hn=>exact⟨x,b1,hrd,.inr ⟨ht,sh,hf,hx⟩⟩
 ·cases hok
theorem QB{n:Nat}:∀ {ts:List TypeId} {vs:bW} {ds:List (DataW H)} {ps:List MemPlace},(∀t∈ts,LY P n t=true)->
 (∀(j:Nat) t v,ts[j]?=some t->vs[j]?=some v->Value.okWide P w .any base t v)->DataW.TrodAll enc P w 0 sp held ts vs ds ps->
 ∃xs bs,OH w vs xs bs/\J4 P n ts xs/\ds.length=ts.length:=by
 intro ts
 induction ts with
 |nil=>
  intro vs ds ps _ _ h;cases vs with
  |nil=>cases ds with
   |nil=>exact⟨[],[],.nil,.nil,rfl⟩
   |cons=>cases h
  |cons=>cases ds<;>cases h
 |cons t ts ih=>
  intro vs ds ps hok hval h;cases vs with
  |nil=>cases h
  |cons v vs=>
   cases ds with
   |nil=>cases h
   |cons d ds=>
    obtain⟨p,q,h1,h2,rfl⟩:=h;obtain⟨x,b1,k1,k2⟩:=Sy (hok t (by simp)) (hval 0 t v rfl rfl) h1;obtain⟨xs,b2,k3,k4,k5⟩:=ih (fun u hu=>hok u (by simp[hu])) (fun j u y hj hv=>hval (j+1) u y (by simpa using hj) (by simpa using hv)) h2;exact⟨x::xs,b1++b2,.cons _ _ _ _ _ _ k1 k3,.cons _ _ _ _ k2 k4,by simp[k5]⟩
theorem Iz{W W':World}(hl:laidOutB P=true)(hb:Below W.heap.size W W')(UP:Nat->Bool):∀ {ts:List TypeId} {vs:bW} {ds:List (DataW H)} {ps:List MemPlace},
 (∀t∈ts,P.readableRec t=true/\t<P.types.size)->DataW.TrodAll enc P W 0 (fun _=>true) true ts vs ds ps->(∀x∈ps,x.block<W.heap.size)->(∀x∈ps,UP x.block=true)->
 DataW.TrodAll enc P W' 0 UP true ts vs ds ps:=by
 intro ts
 induction ts with
 |nil=>intro vs ds ps _ h _ _;cases vs<;>cases ds<;>first|exact h|cases h
 |cons t ts ih=>
  intro vs ds ps ht h hlt hsp;cases vs with
  |nil=>cases h
  |cons v vs=>
   cases ds with
   |nil=>cases h
   |cons d ds=>
    obtain⟨p,q,h1,h2,rfl⟩:=h;refine⟨p,q,?_,ih (fun u hu=>ht u (by simp[hu])) h2 (fun x hx=>hlt x (by simp[hx])) (fun x hx=>hsp x (by simp[hx])),rfl⟩;exact WideElems.Trod_stays hl (ht t (by simp)).1 (ht t (by simp)).2 h1 (fun x hx=>hb.same (hlt x (by simp[hx]))) (fun x hx=>hsp x (by simp[hx]))
theorem yH.tN{w:World}{v:Value}{b:Bool}{bs ts us:aP}(h:yH w v (.bool b) bs ts us):v=.bool b:=by
 cases h with|v h=>cases h with|cell h=>cases h with|pure h=>cases h;rfl
theorem KV{f:FuncId}{fn:Func}{s:ChangeSpec}{n rt:Nat}{W:World}{args:Array Value}{ds gs:List (DataW H)}{before:List MemPlace}
 (hl:laidOutB P=true) (Oo:∀t∈fn.params.toList,LY P n t=true/\P.readableRec t=true/\t<P.types.size) (hres:fn.resultTypes= #[rt]) (hrt:P.underlying rt=some .bool)
 (hv:s.vars=[]) (hfn:∀ds:List (DataW H),ds.length=fn.params.toList.length->s.fn H ds= {results:=[.lit (.bool true)],args:=ds})
 (hvs:Io W fun _=>False) (kq:∀xs,J4 P n fn.params.toList xs->Good P f xs (.bool true))
 (hval:∀(j:Nat) t v,fn.params[j]?=some t->args[j]?=some v->Value.okWide P W .any base t v)
 (hW:DataW.Whole enc P fn.params.toList s.vars false W args.toList ds gs before):
 Calls P f args W fun e W'=>∃v,e=.returned v/\s.post enc P fn false true false false W args v W':=by
 have hW':=hW;obtain⟨p,q,hA,hV,hpq,hz,_⟩:=hW;have hgs:gs=[]/\q=[]:=by
  rw[hv]at hV;cases gs with
  |nil=>exact⟨rfl,hV⟩
  |cons=>cases hV
 obtain⟨rfl,rfl⟩:=hgs;rw[eR]at hpq;subst hpq;obtain⟨xs,bs,k1,k2,k3⟩:=QB (fun t ht=>(Oo t ht).1) (fun j t v hj hv=>hval j t v (by simpa using hj) (by simpa using hv)) hA;have hc:=(kq xs k2).2 W (fun _=>0) args.toList bs hvs k1 (fun _ _=>rfl) (fun b hb=>absurd rfl hb) (fun _=>B5 _);rw[j8]at hc;refine hc.mono ?_;rintro e W' ⟨v,bs',ts,us,rfl,hb,hr,_⟩;refine⟨v,rfl,?_⟩;obtain rfl:=hr.tN;have hlt:=hW'.lt;have hfd:=hfn ds k3;have S2:∀(b:Nat) (sp:Nat->Bool) (hd:Bool),DataW.TrodAll enc P W' b sp hd fn.resultTypes.toList ((Value.bool true).resultList fn.resultTypes.size) [.lit (.bool true)] []:=by
  intro b sp hd;rw[hres];exact⟨[],[],⟨1,by simp[DataW.trod,hrt,Value.cells]⟩,rfl,rfl⟩
 have hargs:∀UP:Nat->Bool,(∀x∈before,UP x.block=true)->DataW.TrodAll enc P W' 0 UP true fn.params.toList args.toList ds before:=
  fun UP hsp=>Iz hl hb UP (fun t ht=>(Oo t ht).2) hA hlt hsp
 have hvars:∀UP:Nat->Bool,DataW.TrodVars enc P W' UP s.vars [] []:=fun UP=>by rw[hv];rfl
 unfold ChangeSpec.post;refine⟨ds,[],before,[],before,[],hW',?_,?_,?_,hb.frame _,fun h=>by cases h⟩
 ·rw[eR,hfd];exact S2 _ _ _
 ·rw[eR,hfd];exact hargs _ (fun x hx=>by simpa using hlt x hx)
 ·rw[eR,hfd];exact hvars _
end
end Go.Cx
namespace Go.Cx
open Go.RowKit
abbrev vh:=List Sh
theorem Pe{α:Type}{c:α->aK}{row:vh}(hc:∀r,rW row r->∃x,r=c x):∀ {rows:List aK},(∀r∈rows,rW row r)->∃l:List α,rows=l.map c:=by
 intro rows
 induction rows with
 |nil=>intro _;exact⟨[],rfl⟩
 |cons r rows ih=>
  intro h;obtain⟨x,rfl⟩:=hc r (h r (by simp));obtain⟨l,rfl⟩:=ih (fun s hs=>h s (by simp[hs]));exact⟨x::l,rfl⟩
theorem Up{α:Type}{c:α->aK}{row:vh}(hc:∀r,rW row r->∃x,r=c x){d:D}(h:Im (.sl row) d):∃l:List α,d=.sl (l.map c):=by
 cases h with
 |sl _ rows hr=>
  obtain⟨l,rfl⟩:=Pe hc hr;exact⟨l,rfl⟩
theorem RU{k:IntKind}{d:D}(h:Im (.int k) d):∃n,d=.int k n:=by cases h;exact⟨_,rfl⟩
theorem N8{s:Sh}{ss:vh}{ds:aK}(h:rW (s::ss) ds):∃d r,ds=d::r/\Im s d/\rW ss r:=by
 cases h with|cons _ _ d r h1 h2=>exact⟨d,r,rfl,h1,h2⟩
theorem Pf{ds:aK}(h:rW [] ds):ds=[]:=by cases h;rfl
theorem Uq(r:aK)(h:rW [.int .u8] r):∃s,r=yx s:=by
 obtain⟨_,_,rfl,h1,h⟩:=N8 h;cases Pf h;obtain⟨s,rfl⟩:=RU h1;exact⟨s,rfl⟩
section
variable{P:Program}{n:Nat}{t:TypeId}{d:D}
theorem R8.cell{sh:Sh}(ha:xU P t=some false)(hf:xy P n t=some [sh])(h:R8 P n t d):Im sh d:=by
 rcases h with⟨h1,_⟩|⟨_,sh',h1,h2⟩
 ·rw[ha]at h1;cases h1
 ·rw[hf]at h1;cases h1;exact h2
end
end Go.Cx
namespace Go.Cx
open Go.ChangeShapes Go.WideShapes Go.ChangeAt Go.RowKit
def jp0(P:Program)(f:FuncId)(fn:Func)(s:ChangeSpec)(c:OpenClaim):Bool:=(c.wf (OpenSpec.ofChange s)&&laidOutB P&&mapsRowed P)
def jp1(P:Program)(f:FuncId)(fn:Func)(s:ChangeSpec)(c:OpenClaim):Bool:=(fn.params.all (P.readableRec ·)&&namedTie P c.named s.vars)&&((c.stops==[])&&(P.stops==[])&&(c.knobs==[])&&(P.stopKnobs==[]))&&((c.maps==(fn.params.toList++s.plain.varTypes P).any (P.mapsRec ·))&&(c.ifaces==(fn.params.toList++s.plain.varTypes P).any (P.ifacesRec ·))&&(c.mapsOut==P.mapsAmong fn.resultTypes.toList))&&((c.loops==(fn.params.toList++s.plain.varTypes P).any (P.loopsFrom ·))&&(c.wideKeys==(fn.params.toList++s.plain.varTypes P++fn.resultTypes.toList).any (P.wideKeysFrom ·)))&&(s.vars.all (P.varReadable ·)&&fn.resultTypes.all (fun t=>P.readableRec t&&decide (t<P.types.size))&&(c.ifacesOut==fn.resultTypes.toList.any (P.ifacesRec ·))&&(c.loopsOut==fn.resultTypes.toList.any (P.loopsFrom ·)))&&((c.kinds==(if c.domain.isEmpty then []else fn.params.toList.map fun t=>match P.underlying t with|some (.int k)=>some k|_=>none))&&(c.pinned==c.pinnedBy))&&((c.veiled==(fn.params.toList++s.plain.varTypes P++fn.resultTypes.toList).any (P.veiledRec ·))&&c.veiledFits P fn.params.toList (fn.params.toList++s.plain.varTypes P++fn.resultTypes.toList))
def jp2(P:Program)(f:FuncId)(fn:Func)(s:ChangeSpec)(c:OpenClaim):Bool:=(c.inPlace==P.inPlace f)&&(c.unfollowed==P.unfollowed f)&&(c.recurses==P.recurses f)&&(c.named==P.varsNamed f)
def jp3(P:Program)(f:FuncId)(fn:Func)(s:ChangeSpec)(c:OpenClaim):Bool:=(c.plainKeys==P.plainKeys)&&(c.shortTexts.isNone&&P.stopsHeard)&&P.mayEnter&&(c.lifted==P.liftsFinal)&&(P.make==some c.make)
theorem Py{P:Program}{f:FuncId}{fn:Func}{s:ChangeSpec}{c:OpenClaim}(h0:jp0 P f fn s c=true)(h1:jp1 P f fn s c=true)(h2:jp2 P f fn s c=true)(h3:jp3 P f fn s c=true):joinedFacts P f fn s c=true:=by
 unfold jp0 at h0;unfold jp1 at h1;unfold jp2 at h2;unfold jp3 at h3;unfold joinedFacts;simp only[aR]at h0 h1 h2 h3⊢;obtain⟨⟨a6a,a6b⟩,a6c⟩:=h0;obtain⟨⟨⟨⟨⟨⟨⟨a6d,a6e⟩,⟨⟨⟨a6f,a6g⟩,a6h⟩,a6i⟩⟩,⟨⟨a6n,a6o⟩,a6p⟩⟩,⟨a6q,a6r⟩⟩,⟨⟨⟨a6s,a6t⟩,a6u⟩,a6v⟩⟩,⟨a5D,a5E⟩⟩,⟨a5F,a5G⟩⟩:=h1;obtain⟨⟨⟨a6j,a6k⟩,a6l⟩,a6m⟩:=h2;obtain⟨⟨⟨⟨a56,⟨a57,a58⟩⟩,a5A⟩,a5B⟩,a5C⟩:=h3
 and_intros<;>assumption
end Go.Cx

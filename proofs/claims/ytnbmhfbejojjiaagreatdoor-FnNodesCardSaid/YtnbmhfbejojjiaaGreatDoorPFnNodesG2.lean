/- Regions whose order is drawn: where each operation of the head only computes or calls a function that leaves what was there as it was, every order gives the state of the text's order. No condition; plain lemmas. -/
import Derived.Test.YtnbmhfbejojjiaaGreatDoorPFnNodesG1
import Derived.StillTail
import Derived.MapKept
set_option linter.unusedVariables false
set_option linter.unusedSimpArgs false
namespace Go.Cx
open Go.RowKit
abbrev mc:=List Fs
section
variable{P:Program}{Γ:sO}{Q:Exit->St->Prop}{st:St}{κ:Nat->Option Value}{Θ:Nat->Nat}{a:Act}{w:World}{all:Array Oper}
def Ext(H H':bP):Prop:=∀(i:Nat) o,H[i]?=some o->H'[i]?=some o
theorem Mx(σ:List (Nat×D))(H H':bP)(x:Operand):St.ev ⟨σ,H⟩ x=St.ev ⟨σ,H'⟩ x:=by cases x<;>rfl
theorem MA{σ σ':List (Nat×D)}{H H':bP}{op:Op}{d:D}(hx:Ext H H')(he:∀x∈op.operands.toList,St.ev ⟨σ,H⟩ x=St.ev ⟨σ',H'⟩ x)(h:pv P ⟨σ,H⟩ op=some d):pv P ⟨σ',H'⟩ op=some d:=by
 have hm:∀(o:Option Operand),(∀x∈o.toArray.toList,St.ev ⟨σ,H⟩ x=St.ev ⟨σ',H'⟩ x)->o.map (St.ev ⟨σ,H⟩)=o.map (St.ev ⟨σ',H'⟩):=by
  intro o h;cases o with
  |none=>rfl
  |some x=>simp[h x (by simp)]
 cases op<;>simp only[pv]at h⊢ <;>(try cases h)
 case move x=>rw[he x (by simp[Op.operands])]at*
 case assign x=>rw[he x (by simp[Op.operands])]at*
 case nilCheck x=>rw[he x (by simp[Op.operands])]at h;exact h
 case pick c x y=>rw[he c (by simp[Op.operands]),he x (by simp[Op.operands]),he y (by simp[Op.operands])]at h;exact h
 case binOp op t x y t'=>rw[he x (by simp[Op.operands]),he y (by simp[Op.operands])]at h;exact h
 case unOp op t x=>cases op<;>simp only[pv]at h⊢ <;>(try cases h)<;>(rw[he x (by simp[Op.operands])]at h;exact h)
 case convert s d x=>rw[he x (by simp[Op.operands])]at h;exact h
 case field t x f=>rw[he x (by simp[Op.operands])]at h;exact h
 case fieldAddr t x f=>rw[he x (by simp[Op.operands])]at h;exact h
 case indexAddr t x i=>
  rw[he x (by simp[Op.operands]),he i (by simp[Op.operands])]at h;split at h
  ·rename_i e sz rows kk n h1 h2 h3
   (try simp only[h1,h2,h3]);exact h
  ·rename_i e sz id kk n h1 h2 h3
   (try simp only[h1,h2,h3])
   split at h
   ·rename_i k e' sz' rows hH;simp only[hx id _ hH];exact h
   ·cases h
  ·rename_i g o' kk n h1 h2
   (try simp only[h1,h2])
   generalize D2 P t=q at h⊢;cases q<;>exact h
  ·cases h
 case load t x=>
  rw[he x (by simp[Op.operands])]at h;split at h
  ·rename_i ag row off h1 h2
   (try simp only[h1,h2]);exact h
  ·rename_i ag id off h1 h2
   (try simp only[h1,h2])
   split at h
   ·rename_i cells hH;obtain⟨ob,hH,yQ⟩:=mJ.1 hH;simp only[hx id _ hH,aA,yQ];exact h
   ·cases h
  ·rename_i ag id i sz off h1 h2
   (try simp only[h1,h2])
   split at h
   ·rename_i k e' sz' rows hH;simp only[hx id _ hH];exact h
   ·cases h
  ·rename_i ag g o' h1 h2
   (try simp only[h1,h2]);exact h
  ·cases h
 case lookup T x i ok=>
  rw[he x (by simp[Op.operands]),he i (by simp[Op.operands])]at h;split at h
  ·rename_i id h1
   (try simp only[h1])
   split at h
   ·rename_i kv hH;simp only[hx id _ hH];exact h
   ·cases h
  ·cases h
 case extract x i=>rw[he x (by simp[Op.operands])]at h;exact h
 case index t x i=>rw[he x (by simp[Op.operands]),he i (by simp[Op.operands])]at h;exact h
 case slice t x lo hi mx=>
  cases mx with
  |none=>
   simp only[pv]at h⊢;rw[he x (by simp[Op.operands]),hm lo (fun y hy=>he y (by simp only[Op.operands,kM,aZ];exact .inl (.inl (.inr hy)))),
    hm hi (fun y hy=>he y (by simp only[Op.operands,kM,aZ];exact .inl (.inr hy)))]at h
   exact h
  |some m=>simp only[pv]at h;cases h
 case build t parts=>
  have:(parts.toList.map fun p=>(p.1,St.ev ⟨σ,H⟩ p.2))=parts.toList.map fun p=>(p.1,St.ev ⟨σ',H'⟩ p.2):=by
   apply me;intro p hp;rw[he p.2 (by simp only[Op.operands];simp;exact⟨p.1,by simpa using hp⟩)]
  rw[this]at h;exact h
 case call c=>
  split at h
  ·rename_i x t h1 h2 h3;have QH:x∈(Op.call c).operands.toList:=by
    simp only[Op.operands,Call.operands,kM,aZ,h2];exact .inr (by simp)
   (try simp only[h1,h2,h3])
   unfold Ww at h⊢;rw[he x QH]at h;split at h
   ·rename_i s hs;(try simp only[hs]);exact h
   ·rename_i rows hs;(try simp only[hs]);exact h
   ·rename_i hs;(try simp only[hs]);exact h
   ·rename_i id hs
    (try simp only[hs])
    split at h
    ·rename_i kk k e sz rows h4 h5;simp only[h4,hx id _ h5];exact h
    ·cases h
   ·cases h
  ·rename_i x y t t' h1 h2 h3;have QH:x∈(Op.call c).operands.toList:=by
    simp only[Op.operands,Call.operands,kM,aZ,h2];exact .inr (by simp)
   have hym:y∈(Op.call c).operands.toList:=by
    simp only[Op.operands,Call.operands,kM,aZ,h2];exact .inr (by simp)
   (try simp only[h1,h2,h3])
   rw[he x QH,he y hym]at h;exact h
  ·cases h
theorem Ns{H H':bP}(hx:Ext H H'){d e:D}{ms:aS}(h:SA H d=some (e,ms)):SA H' d=some (e,ms):=by
 cases d<;>simp only[SA]at h⊢ <;>(try exact h)
 split at h
 ·rename_i k e' sz rows hH;simp only[hx _ _ hH];exact h
 ·rename_i sz rows u hH;simp only[hx _ _ hH];exact h
 ·rename_i rows hH;simp only[hx _ _ hH];exact h
 ·cases h
theorem Rx{H H':bP}(hx:Ext H H'):∀ {ds es:aL} {ms:aS},Nt H ds=some (es,ms)->Nt H' ds=some (es,ms):=by
 intro ds
 induction ds with
 |nil=>intro es ms h;exact h
 |cons d ds ih=>
  intro es ms h;simp only[Nt]at h⊢;split at h
  ·rename_i e m es' ms' h1 h2;rw[Ns hx h1,ih h2];exact h
  ·cases h
theorem V8{H H':bP}(hx:Ext H H'){d e:D}{ms:aS}(h:V7 H d=some (e,ms)):V7 H' d=some (e,ms):=by
 by_cases rE:∃ds,d=.agg ds
 ·obtain⟨ds,rfl⟩:=rE;simp only[V7]at h⊢;split at h
  ·rename_i es ms' h1;rw[Rx hx h1];exact h
  ·cases h
 ·by_cases ht:∃vs,d=.iK vs
  ·obtain⟨vs,rfl⟩:=ht;simp[V7]at h
  ·have e1:∀H,V7 H d=SA H d:=by intro H;cases d<;>first|rfl|exact absurd ⟨_,rfl⟩ rE|exact absurd ⟨_,rfl⟩ ht
   rw[e1]at h⊢;exact Ns hx h
theorem Ry{H H':bP}(hx:Ext H H'):∀ {ds es:aL} {ms:aS},Du H ds=some (es,ms)->Du H' ds=some (es,ms):=by
 intro ds
 induction ds with
 |nil=>intro es ms h;exact h
 |cons d ds ih=>
  intro es ms h;simp only[Du]at h⊢;split at h
  ·rename_i e m es' ms' h1 h2;rw[V8 hx h1,ih h2];exact h
  ·cases h
structure Cp where
 t:Option Nat
 d:D
 r:Nat
 obs:bP
 up:Option (Nat×Ob)
def Looks(H:bP)(vs ds:aL)(ms:aS):Prop:=Du H vs=some (ds,ms)\/(vs.all Hy=true/\ds=vs/\ms=[])
def Gt(P:Program)(H:bP)(σ:List (Nat×D))(o:Oper)(p:Cp):Prop:=
 (pv P ⟨σ,H⟩ o.op=some p.d/\p.obs=[])\/∃(f:FuncId) (xs:Array Operand) (ts:Array TypeId) (ds:aL) (ms:aS) (d:D),o.op=.call {callee:=.value (.func f),args:=xs,argTypes:=ts}/\
  Looks H (xs.toList.map (St.ev ⟨σ,H⟩)) ds ms/\(ms=[]\/d.Jf=true)/\Good P f ds d/\(mi p.r d=(p.d,p.obs)\/(d.Zs=true/\p.d=d.Un/\p.obs=[]))
def LN(P:Program)(H:bP)(σ:List (Nat×D))(o:Oper)(p:Cp):Prop:=
 (∃T zs,o.op=.alloc T/\tz P T=some zs/\p.d=.ptr p.r 0/\p.obs=[.box zs])\/∃T x ds,o.op=.box T x/\(St.ev ⟨σ,H⟩ x).cellsOf=some ds/\p.d=.ptr p.r 0/\p.obs=[.box ds]
def LP(P:Program)(H:bP)(σ:List (Nat×D))(o:Oper)(p:Cp):Prop:=
 ∃T e sz len parts zs ds es,o.op=.buildSlice T len parts/\D2 P T=some (e,sz)/\tz P e=some zs/\0<sz/\len*sz<=16777216/\
  vU (qm len sz) (List.replicate len zs).flatten (parts.toList.map fun q=>(q.1,St.ev ⟨σ,H⟩ q.2))=some ds/\Gw H ds=some (es,[])/\p.d=.acc p.r/\p.obs=[.row (wW (ds.all (Ql H))) e sz (chunk sz len es)]
def LO(P:Program)(H:bP)(σ:List (Nat×D))(o:Oper)(p:Cp):Prop:=
 ∃T e sz len parts zs ds,o.op=.buildSlice T len parts/\D2 P T=some (e,sz)/\tz P e=some zs/\0<sz/\len*sz<=16777216/\
  vU (qm len sz) (List.replicate len zs).flatten (parts.toList.map fun q=>(q.1,St.ev ⟨σ,H⟩ q.2))=some ds/\ds.all D.MW=true/\ds.all D.flat=true/\p.d=.sl (chunk sz len ds)/\p.obs=[]
def FJ(P:Program)(H:bP)(σ:List (Nat×D))(o:Oper)(p:Cp):Prop:=Gt P H σ o p\/LN P H σ o p\/LP P H σ o p\/LO P H σ o p
def a13(P:Program)(Γ:sO)(all:Array Oper)(H:bP)(σ:List (Nat×D))(o:Oper)(p:Cp):Prop:=
 ∃t,p.t=some t/\p.up=none/\o.dst=some t/\t<Γ.nt/\((o.guard=none/\FJ P H σ o p)\/
  (∃(j s:Nat) (want b:Bool),o.guard=some (j,want)/\(all[j]?).bind (·.dst)=some s/\lk σ s=.bool b/\((b=want/\FJ P H σ o p)\/(b≠want/\p.d=.iK []/\p.obs=[])))\/
  ∃(j s:Nat) (want:Bool),o.guard=some (j,want)/\(all[j]?).bind (·.dst)=some s/\lk σ s=.iK []/\p.d=.iK []/\p.obs=[])
def a11(P:Program)(H:bP)(σ:List (Nat×D))(o:Oper)(p:Cp):Prop:=
 p.t=none/\p.obs=[]/\o.dst=none/\o.guard=none/\∃T x y id ds,o.op=.store T x y/\St.ev ⟨σ,H⟩ x=.ptr id 0/\H.length<=id/\(St.ev ⟨σ,H⟩ y).cellsOf=some ds/\MP P T=true/\ds.length=wk P T/\p.up=some (id,.box ds)
def rH(P:Program)(Γ:sO)(all:Array Oper)(H:bP)(σ:List (Nat×D))(o:Oper)(p:Cp):Prop:=a13 P Γ all H σ o p\/a11 P H σ o p
def Cp.slot(p:Cp)(σ:List (Nat×D)):List (Nat×D):=match p.t with|some t=>(t,p.d)::σ|none=>σ
def Cp.fill(n:Nat)(p:Cp)(acc:bP):bP:=match p.up with|some (id,ob)=>acc.set (id-n) ob|none=>acc++p.obs
def Cp.a33(n:Nat)(p:Cp)(U:aS)(acc:bP):Prop:=match p.up with|some (id,ob)=>id∉U/\n<=id/\∃zs ds,acc[id-n]?=some (.box zs)/\ob=.box ds/\zs.length=ds.length|none=>True
def Cp.ups(p:Cp)(U:aS):aS:=match p.up with|some (id,_)=>id::U|none=>U
def Ho(P:Program)(Γ:sO)(all:Array Oper)(H:bP)(K:List (Nat×D)->bP->Prop):List Oper->List (Nat×D)->bP->aS->Prop
 | [],σ,acc,_=>K σ acc
 |o::os,σ,acc,U=>∃p:Cp,p.r=H.length+acc.length/\rH P Γ all H σ o p/\p.a33 H.length U acc/\Ho P Γ all H K os (p.slot σ) (p.fill H.length acc) (p.ups U)
theorem xu{Q':Exit->Act->World->Prop}{ops:Array Oper}{i:Nat}{o:Oper}{K:Act->World->Prop}(hi:ops[i]?=some o)(hw:Region.wanted o (yielded ops a.tmps)=true)(h:o.wp P a w K Q'):wpOp P ops Q' i K a w:=by
 unfold wpOp;simp only[hi,hw,oc];exact .inl h
theorem dH.a0f(hs:dH Γ st κ Θ a w){ops:Array Oper}{j s:Nat}{b:Bool}(hj:(ops[j]?).bind (·.dst)=some s)(hb:lk st.σ s=.bool b):yielded ops a.tmps j=some b:=by
 obtain⟨bs,r,_⟩:=hs.slot s;rw[hb]at r;have hv:=r.uA;have hlt:s<a.tmps.size:=by
  rcases dX s a.tmps.size with h|h
  ·exact h
  ·exfalso;rw[bw,pT h]at hv;simp[undef]at hv
 have h1:a.tmps[s]?=some (.bool b):=by
  rw[bw,cE hlt]at hv;rw[cE hlt];simpa using hv
 simp[yielded,hj,h1]
theorem J4{st sn:St}{ops:Array Oper}{o:Oper}(h:∀t∈o.looksAt ops,lk st.σ t=lk sn.σ t):∀x∈o.op.operands.toList,st.ev x=sn.ev x:=by
 intro x hx;cases x with
 |tmp t=>
  refine h t ?_;unfold Oper.looksAt;exact aZ.2 (.inl (bt.2 ⟨.tmp t,hx,rfl⟩))
 |const v=>rfl
 |global g=>rfl
 |func f=>rfl
theorem CY(l:List (Nat×D))(σ:List (Nat×D))(t:Nat):(∀p∈l,p.1≠t)->lk (l++σ) t=lk σ t:=by
 induction l with
 |nil=>intro _;rfl
 |cons q l ih=>
  intro h;obtain⟨u,d⟩:=q;simp only[oo,lk];rw[b9 (fun e=>h (u,d) (by simp) e.symm)];exact ih (fun p hp=>h p (by simp[hp]))
theorem F1(l:List (Nat×D))(σ:List (Nat×D))(p:Nat×D)(hp:p∈l)(hd:∀q∈l,q.1=p.1->q=p):lk (l++σ) p.1=p.2:=by
 induction l with
 |nil=>cases hp
 |cons q l ih=>
  obtain⟨u,d⟩:=q;simp only[oo,lk];by_cases e:p.1=u
  ·rw[bN e];have:=hd (u,d) (by simp) e.symm;rw[<-this]
  ·rw[b9 e];rcases bH.1 hp with rfl|hp
   ·exact absurd rfl e
   ·exact ih hp (fun q hq=>hd q (by simp[hq]))
def Sl(ops:Array Oper)(n:Nat):Bool:=
 decide (n<=ops.size)&&(decide (n=ops.size)||(decide (n<ops.size)&&(Region.sinkB .any ops n&&Region.chainB .any ops n)))&&
 Region.seqB .any ops (ops.size-n) n (Array.replicate n true++Array.replicate (ops.size-n) false)&&
 (List.range n).all fun i=>match ops[i]? with
  |none=>false
  |some o=>(o.after.all fun e=> !Region.binds .any e||decide (e.on<i))&&
   ((o.looksAt ops).all fun t=>(List.range n).all fun j=>match ops[j]? with|some oj=> !(oj.dst==some t)||(decide (j<i)&&Region.waitsFor .any ops i j)|none=>true)&&
   (List.range n).all fun j=>j==i||(match ops[j]? with|some oj=> !(oj.dst==o.dst)||o.dst.isNone|none=>true)
def place(H:bP)(r:Nat)(obs:bP):bP:=H.take r++(obs++H.drop (r+obs.length))
theorem rp{H:bP}{r:Nat}{obs:bP}(h:r+obs.length<=H.length)(j:Nat):(place H r obs)[j]?=if j<r then H[j]? else if j<r+obs.length then obs[j-r]? else H[j]?:=by
 unfold place;have hl:(H.take r).length=r:=by rw[cF];omega
 by_cases h1:j<r
 ·rw[bN h1,aq (by omega),cG,bN h1]
 ·rw[b9 h1,ax (by omega),hl];by_cases h2:j<r+obs.length
  ·rw[bN h2,aq (by omega)]
  ·rw[b9 h2,ax (by omega),eH]
   congr 1;omega
theorem rq{H:bP}{r:Nat}{obs:bP}(h:r+obs.length<=H.length):(place H r obs).length=H.length:=by
 unfold place;simp;omega
theorem Gt.wp{Q':Exit->Act->World->Prop}{σ:List (Nat×D)}{H H':bP}{o:Oper}{p:Cp}{K:Act->World->Prop}(hs:dH Γ ⟨σ,H'⟩ κ Θ a w)(hx:Ext H H'){t:Nat}(hd:o.dst=some t)(ht:t<Γ.nt)(h:Gt P H σ o p)
 (hr:p.r+p.obs.length<=H'.length) (hfree:∀i,i<p.obs.length->κ (p.r+i)=none)
 (hK:∀κ' Θ' a' w',dH Γ ⟨(t,p.d)::σ,place H' p.r p.obs⟩ κ' Θ' a' w'->(∀j,(j<p.r\/p.r+p.obs.length<=j)->κ' j=κ j)->K a' w'):o.wp P a w K Q':=by
 rcases h with⟨h,hno⟩|⟨f,xs,ts,ds,ms,d,hop,hds,hsh,mD,hi⟩
 ·have h':=MA (σ:=σ) (σ':=σ) hx (fun x _=>Mx σ H H' x) h;obtain⟨v,bs,hrun,hrd,hz⟩:=Cc hs h';unfold Oper.wp;rw[hrun,Oper.upon_value,hd];have hp:place H' p.r p.obs=H':=by rw[hno];simp[place]
  exact hK κ Θ _ _ (by rw[hp];exact hs.set ht hrd hz) (fun _ _=>rfl)
 ·have hev:xs.toList.map (St.ev ⟨σ,H⟩)=xs.toList.map (St.ev ⟨σ,H'⟩):=me (fun x _=>Mx σ H H' x);have Z1:∃bs,Pg w (xs.toList.map a.eval) ds bs/\∀b∈bs,Seen Θ ms b:=by
   rcases hds with hds|⟨hk,rfl,rfl⟩
   ·have:=Ry hx hds;rw[hev]at this;exact Ij hs this
   ·rw[hev]at hk⊢;exact Kq hs hk
  obtain⟨bs,hargs,hz⟩:=Z1;let Θc:Nat->Nat:=fun b=>if Θ b=0\/ms.any (fun m=>Θ b==m+2)then 0 else 1
  have Hv:∀b,Seen Θ ms b->Θc b=0:=by
   intro b h;simp only[Θc];rw[bN];rcases h with h|⟨m,h1,h2⟩
   ·exact .inl h
   ·exact .inr (cP.2 ⟨m,h1,by simp[h2]⟩)
  have hc:=mD.2 w Θc _ bs hs.vok hargs (fun b hb=>Hv b (hz b hb)) (fun b hb=>hs.own b (fun e=>hb (Hv b (.inl e)))) (fun b=>by simp only[Θc];split<;>omega);unfold Oper.wp;rw[uN hop mD.1,Oper.upon_enter];have e:xs.map a.eval=(xs.toList.map a.eval).toArray:=by rw[<-gG,jN]
  rw[e];refine hc.mono ?_;rintro e w' ⟨v,bs',tb,ub,rfl,hb,hr',Ia,htb,hnd,hfr,hsub⟩;show K (a.put o.dst v) w';rw[hd];rcases hi with hi|⟨hown,Oc,MV⟩
  rotate_left
  ·cases hr' with
   |iK=>cases hown
   |v hv=>
    have CP:bs'=[]:=hv.own (by
     unfold D.Zs at hown;split at hown
     ·cases hown
     ·exact hown)
    obtain⟨b,q,s⟩:=hv.AX;have hp:place H' p.r p.obs=H':=by rw[MV];simp[place]
    refine hK κ Θ _ w' ?_ (fun _ _=>rfl);rw[hp,Oc];refine(hs.grow hb).set ht (.v (.cell (.pure q))) fun x hx'=>?_
    rcases s x hx' with h|h
    ·rw[CP]at h;cases h
    ·by_cases h0:Θ x=0
     ·exact h0
     ·have:=hs.own x h0;have:=(hfr x h).1;omega
  obtain⟨L,q1,q2,q3,q4,q5⟩:=hr'.inst p.r;rw[hi]at q1 q5;simp only at q1 q5;have hLl:L.length=p.obs.length:=by have:=congrArg List.length q1;simpa using this
  obtain⟨κ',Θ',hs',hnm,_,hno,hsame⟩:=hs.Kp hb L q2 (q3▸hnd) (fun b hb'=>hfr b (q3▸hb')) p.r (place H' p.r p.obs) (fun i hi'=>hfree i (by omega)) (by rw[rq hr];exact bL _) (by rw[rq hr];omega) (by
   intro j y hj;rw[rp hr]at hj;split at hj
   ·rename_i h1;exact .inr ⟨.inl h1,.inr hj⟩
   ·rename_i h1;split at hj
    ·rename_i h2;rw[<-q1,bU]at hj;cases hx':L[j-p.r]? with
     |none=>simp[hx']at hj
     |some x=>simp[hx']at hj;exact .inl ⟨j-p.r,x,by omega,hx',hj.symm⟩
    ·exact .inr ⟨.inr (by omega),.inr hj⟩)
  refine hK κ' Θ' _ w' (hs'.set (t:=t) ht (q5 κ' hnm) fun b hb'=>?_) (fun j hj=>hsame j (by omega));rw[hno b (q4▸htb b hb')];rcases hsh with JG|hown
  ·by_cases hlt:b<w.heap.size
   ·have h0:=Ia b hb' hlt;simp only[Θc,JG,FH]at h0;by_cases h1:Θ b=0
    ·exact h1
    ·simp[h1]at h0
   ·by_cases h0:Θ b=0
    ·exact h0
    ·exact absurd (hs.own b h0) hlt
  ·rw[hr'.own hown]at hb';cases hb'
theorem dH.NY{σ:List (Nat×D)}{H':bP}(hs:dH Γ ⟨σ,H'⟩ κ Θ a w){r:Nat}(hr:r+1<=H'.length)(hfree:κ r=none){cs:Array Value}{ds:aL}{bs:aS}(T:TypeId)(hrd:ey w κ cs.toList ds bs)(hz:∀b∈bs,Θ b=0):
 dH Γ ⟨σ,place H' r [.box ds]⟩ (vc κ r (some (.pointer (some ⟨w.heap.size,0,none⟩)))) (fun b=>if b=w.heap.size then r+2 else Θ b) a (w.alloc (.cells cs T)):=by
 have k:=hY.alloc hs (.cells cs T) (tag:=r+2) (by omega);have hn:=vB hfree (some (Value.pointer (some ⟨w.heap.size,0,none⟩)));obtain⟨h1,h2⟩:=ey.stay k hn hrd hz;obtain⟨ρ,hu⟩:=hs.qz;refine hs.put (id:=r) (o:=.box ds) [] ?_ hn ?_ ?_ k (hs.wh (fun b hb=>by by_cases e:b=w.heap.size<;>simp_all)) ?_ hu (by simp) (by intro e sz rows h;cases h)
 ·intro j y hj;rw[rp (by simpa using hr)]at hj;split at hj
  ·exact .inr ⟨by omega,hj⟩
  ·split at hj
   ·rename_i h2;simp only[aT,bW]at h2;have e:j=r:=by omega
    subst e;simp at hj;exact .inl ⟨rfl,hj.symm⟩
   ·rename_i h2;simp only[aT,bW]at h2;exact .inr ⟨by omega,hj⟩
 ·intro i hi;rw[rq (by simpa using hr)]at hi;unfold vc;rw[b9 (by omega)];exact hs.ni i hi
 ·intro i x hx;unfold vc at hx;split at hx
  ·cases hx;rfl
  ·exact hs.mw i x hx
 ·exact⟨w.heap.size,cs,T,by simp[vc],heap_alloc_new w _,by simp,bs,h1,h2⟩
theorem LN.wp{Q':Exit->Act->World->Prop}{σ:List (Nat×D)}{H H':bP}{o:Oper}{p:Cp}{K:Act->World->Prop}(hs:dH Γ ⟨σ,H'⟩ κ Θ a w){t:Nat}(hd:o.dst=some t)(ht:t<Γ.nt)(h:LN P H σ o p)
 (hr:p.r+p.obs.length<=H'.length) (hfree:∀i,i<p.obs.length->κ (p.r+i)=none)
 (hK:∀κ' Θ' a' w',dH Γ ⟨(t,p.d)::σ,place H' p.r p.obs⟩ κ' Θ' a' w'->(∀j,(j<p.r\/p.r+p.obs.length<=j)->κ' j=κ j)->K a' w'):o.wp P a w K Q':=by
 rcases h with⟨T,zs,hop,hz,Oc,MV⟩|⟨T,x,ds,hop,hc,Oc,MV⟩
 ·rw[MV]at hr hfree hK;rw[Oc]at hK;obtain⟨i,z,hi,vb,hsz,hlen,hone,rfl⟩:=uz hz;have hs':=hs.NY (r:=p.r) hr (by simpa using hfree 0 (by simp)) T (cs:=z.cells) (zf z.cells.toList hone) (by simp);unfold Oper.wp;have hrun:(execOp a.eval o).run P w=.ok (.value (.pointer (some ⟨w.heap.size,0,none⟩))) (w.alloc (.cells z.cells T)):=by
   simp[execOp,hop,Instr.alloc,zeroValue,typeInfo,hi,vb,newVar,newRow]
  rw[hrun,Oper.upon_value,hd];refine hK _ _ _ _ (hs'.set (t:=t) (d:=.ptr p.r 0) (bs:=[]) ht ?_ (by simp)) (fun j hj=>?_)
  ·exact(wZ.ptr p.r 0 w.heap.size (by simp[vc])).MQ
  ·unfold vc;simp only[aT,bW]at hj;rw[b9 (by omega)]
 ·rw[MV]at hr hfree hK;rw[Oc]at hK;obtain⟨bs,rr,hz⟩:=hs.ev x;rw[Mx σ H' H x]at rr;have hcs:=zD hs.mw rr hc;have hs':=hs.NY (r:=p.r) hr (by simpa using hfree 0 (by simp)) T hcs hz;unfold Oper.wp;have hrun:(execOp a.eval o).run P w=.ok (.value (.pointer (some ⟨w.heap.size,0,none⟩))) (w.alloc (.cells (a.eval x).cells T)):=by
   simp[execOp,hop,Instr.box,newVar,newRow]
  rw[hrun,Oper.upon_value,hd];refine hK _ _ _ _ (hs'.set (t:=t) (d:=.ptr p.r 0) (bs:=[]) ht ?_ (by simp)) (fun j hj=>?_)
  ·exact(wZ.ptr p.r 0 w.heap.size (by simp[vc])).MQ
  ·unfold vc;simp only[aT,bW]at hj;rw[b9 (by omega)]
theorem dH.U2{σ:List (Nat×D)}{H':bP}(hs:dH Γ ⟨σ,H'⟩ κ Θ a w){r:Nat}(hr:r+1<=H'.length)(hfree:κ r=none){u:Bool}{e sz cap:Nat}{rows:List aL}{bs:aS}(cur:Array Value)(hsz:0<sz)(hrl:∀x∈rows,x.length=sz)
 (JD:cur.size=cap*sz) (hn:rows.length<=cap) (hcap:cap<=maxLen) (hrd:jv w (cur.toList.take (rows.length*sz)) rows.flatten bs) (hz:∀b∈bs,Θ b=0) (hq:u=true->bs=[]):
 dH Γ ⟨σ,place H' r [.row (wW u) e sz rows]⟩ (vc κ r (some (.slice (some ⟨w.heap.size,0,none⟩) rows.length cap))) (fun b=>if b=w.heap.size then r+2 else Θ b) a (w.alloc (.cells cur e)):=by
 have k:=hY.alloc hs (.cells cur e) (tag:=r+2) (by omega);have hkn:=vB hfree (some (Value.slice (some ⟨w.heap.size,0,none⟩) rows.length cap));obtain⟨h1,h2⟩:=jv.over k hrd hz;have hlen:(cur.toList.take (rows.length*sz)).length=rows.length*sz:=by
  have:rows.length*sz<=cap*sz:=dG _ hn;have h3:cur.toList.length=cap*sz:=by rw[<-JD];simp
  rw[cF,h3,eg this]
 have hown:(w.alloc (.cells cur e)).ownsRow 0 e sz (.slice (some ⟨w.heap.size,0,none⟩) rows.length cap) rows.length (cur.toList.take (rows.length*sz)):=
  ⟨hlen,.inr ⟨w.heap.size,cap,cur,rfl,by omega,heap_alloc_new w _,hn,hcap,JD,rfl⟩⟩
 obtain⟨ρ,hu⟩:=hs.qz;refine hs.put (id:=r) (o:=.row (wW u) e sz rows) [] ?_ hkn ?_ ?_ k (hs.wh (fun b hb=>by by_cases e:b=w.heap.size<;>simp_all)) ?_ hu (by simp) ?_
 ·intro j y hj;rw[rp (by simpa using hr)]at hj;split at hj
  ·exact .inr ⟨by omega,hj⟩
  ·split at hj
   ·rename_i h2;simp only[aT,bW]at h2;have e:j=r:=by omega
    subst e;simp at hj;exact .inl ⟨rfl,hj.symm⟩
   ·rename_i h2;simp only[aT,bW]at h2;exact .inr ⟨by omega,hj⟩
 ·intro i hi;rw[rq (by simpa using hr)]at hi;unfold vc;rw[b9 (by omega)];exact hs.ni i hi
 ·intro i x hx;unfold vc at hx;split at hx
  ·cases hx;rfl
  ·exact hs.mw i x hx
 ·refine⟨hsz,hrl,_,_,bs,by simp[vc],hown,h1,?_,?_⟩
  ·intro g hg;simp only[Value.ownBlock,ah]at hg;subst hg;simp
  ·cases u<;>exact h2
 ·intro e' sz' cr he;cases u with
  |false=>simp[wW]at he
  |true=>
   simp only[wW,Ob.row.injEq,qE]at he;obtain⟨rfl,rfl,rfl⟩:=he;have:=hq rfl;subst this;exact⟨_,_,[],by simp[vc],hown,h1,by simp,by simp⟩
theorem LP.wp{Q':Exit->Act->World->Prop}{σ:List (Nat×D)}{H H':bP}{o:Oper}{p:Cp}{K:Act->World->Prop}(hs:dH Γ ⟨σ,H'⟩ κ Θ a w)(hx:Ext H H'){t:Nat}(hd:o.dst=some t)(ht:t<Γ.nt)(h:LP P H σ o p)
 (hr:p.r+p.obs.length<=H'.length) (hfree:∀i,i<p.obs.length->κ (p.r+i)=none)
 (hK:∀κ' Θ' a' w',dH Γ ⟨(t,p.d)::σ,place H' p.r p.obs⟩ κ' Θ' a' w'->(∀j,(j<p.r\/p.r+p.obs.length<=j)->κ' j=κ j)->K a' w'):o.wp P a w K Q':=by
 obtain⟨T,e,sz,len,parts,zs,ds,es,hop,hT,hz,hsz,hsmall,hf,habs,Oc,MV⟩:=h;rw[MV]at hr hfree hK;rw[Oc]at hK;have hf':vU (qm len sz) (List.replicate len zs).flatten (parts.toList.map fun q=>(q.1,St.ev ⟨σ,H'⟩ q.2))=some ds:=by
  rw[<-hf];congr 1
 obtain⟨arr,b0,hrun,KE,hb0,hal,hdl⟩:=xE (st:=⟨σ,H'⟩) hop hT hz hsz hsmall hf' hs;obtain⟨ρ,hu⟩:=hs.qz;obtain⟨bs,q1,q2,q3⟩:=OC (H:=H) (ρ:=ρ) habs (by simp) KE hb0 (by simp);have hel:es.length=len*sz:=by rw[<-q1.length,KE.length,hdl]
 obtain⟨c1,c2,c3⟩:=Bc sz len es hel;have hs':=hs.U2 (r:=p.r) hr (by simpa using hfree 0 (by simp)) (u:=ds.all (Ql H)) (e:=e) (sz:=sz) (cap:=len) (rows:=chunk sz len es) (bs:=bs) arr hsz c3 hal (by rw[c1];exact bL _)
  (by unfold maxLen;have:len*1<=len*sz:=dS _ hsz;omega) (by rw[c1,c2,pU (by simp[hal])];exact q1) q2
  (fun hq=>by
   obtain⟨_,h2⟩:=q3 hq;cases bs with
   |nil=>rfl
   |cons b bs=>obtain⟨m,hm,_⟩:=h2 b (by simp);cases hm)
 unfold Oper.wp;rw[hrun,Oper.upon_value,hd];rw[c1]at hs';refine hK _ _ _ _ (hs'.set (t:=t) (d:=.acc p.r) (bs:=[]) ht ?_ (by simp)) (fun j hj=>?_)
 ·exact(wZ.acc p.r _ (by simp[vc])).MQ
 ·unfold vc;simp only[aT,bW]at hj;rw[b9 (by omega)]
theorem LO.wp{Q':Exit->Act->World->Prop}{σ:List (Nat×D)}{H H':bP}{o:Oper}{p:Cp}{K:Act->World->Prop}(hs:dH Γ ⟨σ,H'⟩ κ Θ a w){t:Nat}(hd:o.dst=some t)(ht:t<Γ.nt)(h:LO P H σ o p)
 (hK:∀κ' Θ' a' w',dH Γ ⟨(t,p.d)::σ,place H' p.r p.obs⟩ κ' Θ' a' w'->(∀j,(j<p.r\/p.r+p.obs.length<=j)->κ' j=κ j)->K a' w'):o.wp P a w K Q':=by
 obtain⟨T,e,sz,len,parts,zs,ds,hop,hT,hz,hsz,hsmall,hf,a4X,a1O,Oc,MV⟩:=h;rw[MV]at hK;rw[Oc]at hK;have hf':vU (qm len sz) (List.replicate len zs).flatten (parts.toList.map fun q=>(q.1,St.ev ⟨σ,H'⟩ q.2))=some ds:=by
  rw[<-hf];congr 1
 obtain⟨arr,b0,hrun,KE,hb0,hal,hdl⟩:=xE (st:=⟨σ,H'⟩) hop hT hz hsz hsmall hf' hs;have hrd:=KE.pure a4X;have a4B:b0=[]:=hrd.flat a1O;subst a4B;obtain⟨c1,c2,c3⟩:=Bc sz len ds hdl;have JA:Below w.heap.size w (w.alloc (.cells arr e)):=by
  have k:=hY.alloc hs (.cells arr e) (tag:=2) (by omega);refine⟨k.os,k.tape,k.output,k.size,fun b hlt=>?_⟩;simp only[World.alloc];rw[Array.getElem?_push,b9 (by omega)]
 have hs':=hs.grow JA;unfold Oper.wp;rw[hrun,Oper.upon_value,hd];have hpl:place H' p.r ([]:bP)=H':=by simp[place]
 rw[hpl]at hK;refine hK _ _ _ _ (hs'.set (t:=t) (d:=.sl (chunk sz len ds)) (bs:=[w.heap.size]) ht ?_ ?_) (fun j hj=>rfl)
 ·have hcell:∀j c,arr.toList[j]?=some c->(w.alloc (.cells arr e)).cell? ⟨w.heap.size,0+j,none⟩=some c:=by
   intro j c hj;simp only[cv,World.cell?,heap_alloc_new w _];simpa using hj
  have hlt:w.heap.size<(w.alloc (.cells arr e)).heap.size:=(az.1 (heap_alloc_new w _)).1;have:=Rd.sl (w:=w.alloc (.cells arr e)) w.heap.size 0 len sz (chunk sz len ds) arr.toList [] hlt (by rw[c1];exact bL _) (by unfold maxLen;have:len*1<=len*sz:=dS _ hsz;omega) c3 hcell (by rw[c2];exact hrd.keep (by simp));rw[c1]at this;exact .of this
 ·intro b hb;simp only[cZ]at hb;subst hb;cases h:Θ w.heap.size with
  |zero=>rfl
  |succ m=>exact absurd (hs.own w.heap.size (by omega)) (by omega)
theorem FJ.wp{Q':Exit->Act->World->Prop}{σ:List (Nat×D)}{H H':bP}{o:Oper}{p:Cp}{K:Act->World->Prop}(hs:dH Γ ⟨σ,H'⟩ κ Θ a w)(hx:Ext H H'){t:Nat}(hd:o.dst=some t)(ht:t<Γ.nt)(h:FJ P H σ o p)
 (hr:p.r+p.obs.length<=H'.length) (hfree:∀i,i<p.obs.length->κ (p.r+i)=none)
 (hK:∀κ' Θ' a' w',dH Γ ⟨(t,p.d)::σ,place H' p.r p.obs⟩ κ' Θ' a' w'->(∀j,(j<p.r\/p.r+p.obs.length<=j)->κ' j=κ j)->K a' w'):o.wp P a w K Q':=by
 rcases h with h|h|h|h
 ·exact h.wp hs hx hd ht hr hfree hK
 ·exact h.wp hs hd ht hr hfree hK
 ·exact h.wp hs hx hd ht hr hfree hK
 ·exact h.wp hs hd ht hK
theorem dH.V1(hs:dH Γ st κ Θ a w){ops:Array Oper}{j s:Nat}(hj:(ops[j]?).bind (·.dst)=some s)(hb:lk st.σ s=.iK []):yielded ops a.tmps j=none:=by
 obtain⟨bs,r,_⟩:=hs.slot s;rw[hb]at r;have hv:=r.L7;rcases dX s a.tmps.size with hlt|hlt
 ·have h1:a.tmps[s]?=some (.tuple #[]):=by
   rw[bw,cE hlt]at hv;rw[cE hlt];simpa using hv
  simp[yielded,hj,h1]
 ·simp[yielded,hj,pT hlt]
def Cp.ym(p:Cp)(H':bP):bP:=match p.up with|some (id,ob)=>H'.set id ob|none=>place H' p.r p.obs
theorem rH.wp{Q':Exit->Act->World->Prop}{σ:List (Nat×D)}{H H':bP}{ops:Array Oper}{i:Nat}{o:Oper}{p:Cp}{K:Act->World->Prop}(hs:dH Γ ⟨σ,H'⟩ κ Θ a w)(hx:Ext H H')(hi:ops[i]?=some o)(h:rH P Γ ops H σ o p)
 (hr:p.r+p.obs.length<=H'.length) (hfree:∀i,i<p.obs.length->κ (p.r+i)=none) (O9:∀id ob,p.up=some (id,ob)->∃zs ds,H'[id]?=some (.box zs)/\ob=.box ds/\zs.length=ds.length)
 (hK:∀κ' Θ' a' w',dH Γ ⟨p.slot σ,p.ym H'⟩ κ' Θ' a' w'->(∀j,(j<p.r\/p.r+p.obs.length<=j)->κ' j=κ j)->K a' w'):wpOp P ops Q' i K a w:=by
 rcases h with⟨t,hpt,QE,hd,ht,h⟩|⟨hpt,MV,hd,hg,T,x,y,id,ds,hop,hev,hlen,hc,hT,hl,QE⟩
 ·have e1:p.slot σ=(t,p.d)::σ:=by simp[Cp.slot,hpt]
  have e2:p.ym H'=place H' p.r p.obs:=by simp[Cp.ym,QE]
  rw[e1,e2]at hK;rcases h with⟨hg,hc⟩|⟨j,s,want,b,hg,hj,hb,hc⟩|⟨j,s,want,hg,hj,hb,Z0,hno⟩
  ·exact xu hi (by simp[Region.wanted,hg]) (hc.wp hs hx hd ht hr hfree hK)
  ·have hy:=hs.a0f hj hb;rcases hc with⟨rfl,hc⟩|⟨hne,Z0,hno⟩
   ·exact xu hi (by simp[Region.wanted,hg,hy]) (hc.wp hs hx hd ht hr hfree hK)
   ·unfold wpOp;have hw:Region.wanted o (yielded ops a.tmps)=false:=by simp[Region.wanted,hg,hy,hne]
    simp only[hi,hw,wq,wz,hd];have hp:place H' p.r p.obs=H':=by rw[hno];simp[place]
    exact hK κ Θ _ _ (by rw[hp,Z0];exact hs.set ht (.iK [] [] [] .nil) (by simp)) (fun _ _=>rfl)
  ·have hy:=hs.V1 hj hb;unfold wpOp;have hw:Region.wanted o (yielded ops a.tmps)=false:=by simp[Region.wanted,hg,hy]
   simp only[hi,hw,wq,wz,hd];have hp:place H' p.r p.obs=H':=by rw[hno];simp[place]
   exact hK κ Θ _ _ (by rw[hp,Z0];exact hs.set ht (.iK [] [] [] .nil) (by simp)) (fun _ _=>rfl)
 ·have e1:p.slot σ=σ:=by simp[Cp.slot,hpt]
  have e2:p.ym H'=H'.set id (.box ds):=by simp[Cp.ym,QE]
  rw[e1,e2]at hK;obtain⟨zs,ds',hz,he,hzl⟩:=O9 id _ QE;cases he;obtain⟨w',hrun,hs'⟩:=L5 (st:=⟨σ,H'⟩) hop (by rw[Mx σ H' H x];exact hev) hz rfl (by rw[Mx σ H' H y];exact hc) hT hl (by omega) hs;refine xu hi (by simp[Region.wanted,hg]) ?_;unfold Oper.wp;rw[hrun,Oper.upon_skip,hd];have e3:zs.take 0++ds++zs.drop (0+ds.length)=ds:=by
   rw[zm (by omega)];simp
  rw[e3]at hs';exact hK κ Θ _ _ hs' (fun _ _=>rfl)
theorem Gt.congr{H:bP}{σ σ':List (Nat×D)}{o:Oper}{p:Cp}(he:∀x∈o.op.operands.toList,St.ev ⟨σ,H⟩ x=St.ev ⟨σ',H⟩ x)(h:Gt P H σ o p):Gt P H σ' o p:=by
 rcases h with⟨h,hno⟩|⟨f,xs,ts,ds,ms,d,hop,hds,hsh,mD,hi⟩
 ·exact .inl ⟨MA (fun _ _ h=>h) he h,hno⟩
 ·have hm:xs.toList.map (St.ev ⟨σ,H⟩)=xs.toList.map (St.ev ⟨σ',H⟩):=by
   apply me;intro x hx;refine he x ?_;rw[hop];simp only[Op.operands,Call.operands,kM,aZ];exact .inr hx
  rw[hm]at hds;exact .inr ⟨f,xs,ts,ds,ms,d,hop,hds,hsh,mD,hi⟩
theorem FJ.congr{H:bP}{σ σ':List (Nat×D)}{o:Oper}{p:Cp}(he:∀x∈o.op.operands.toList,St.ev ⟨σ,H⟩ x=St.ev ⟨σ',H⟩ x)(h:FJ P H σ o p):FJ P H σ' o p:=by
 rcases h with h| (h|⟨T,x,ds,hop,hc,Oc,MV⟩)|⟨T,e,sz,len,parts,zs,ds,es,hop,hT,hz,hsz,hsmall,hf,habs,Oc,MV⟩|⟨T,e,sz,len,parts,zs,ds,hop,hT,hz,hsz,hsmall,hf,habs,hfl,Oc,MV⟩
 ·exact .inl (h.congr he)
 ·exact .inr (.inl (.inl h))
 ·exact .inr (.inl (.inr ⟨T,x,ds,hop,by rw[<-he x (by rw[hop];simp[Op.operands])];exact hc,Oc,MV⟩))
 ·refine .inr (.inr (.inl ⟨T,e,sz,len,parts,zs,ds,es,hop,hT,hz,hsz,hsmall,?_,habs,Oc,MV⟩));rw[<-hf]
  congr 1
  apply me;intro q hq;rw[he q.2 ?_];rw[hop];simp only[Op.operands,gG];exact cJ.2 ⟨q,hq,rfl⟩
 ·refine .inr (.inr (.inr ⟨T,e,sz,len,parts,zs,ds,hop,hT,hz,hsz,hsmall,?_,habs,hfl,Oc,MV⟩));rw[<-hf]
  congr 1
  apply me;intro q hq;rw[he q.2 ?_];rw[hop];simp only[Op.operands,gG];exact cJ.2 ⟨q,hq,rfl⟩
theorem rH.congr{H:bP}{σ σ':List (Nat×D)}{ops:Array Oper}{o:Oper}{p:Cp}(he:∀t∈o.looksAt ops,lk σ t=lk σ' t)(h:rH P Γ ops H σ o p):rH P Γ ops H σ' o p:=by
 have hev:=J4 (st:=⟨σ,H⟩) (sn:=⟨σ',H⟩) he;have hgu:∀ {j s:Nat} {want:Bool},o.guard=some (j,want)->(ops[j]?).bind (·.dst)=some s->lk σ s=lk σ' s:=by
  intro j s want hg hj;refine he s ?_;unfold Oper.looksAt;refine aZ.2 (.inr ?_);simp[hg,hj]
 rcases h with⟨t,hpt,QE,hd,ht,h⟩|⟨hpt,MV,hd,hg,T,x,y,id,ds,hop,hx,hlen,hc,hT,hl,QE⟩
 ·refine .inl ⟨t,hpt,QE,hd,ht,?_⟩;rcases h with⟨hg,hc⟩|⟨j,s,want,b,hg,hj,hb,hc⟩|⟨j,s,want,hg,hj,hb,hc⟩
  ·exact .inl ⟨hg,hc.congr hev⟩
  ·refine .inr (.inl ⟨j,s,want,b,hg,hj,by rw[<-hgu hg hj];exact hb,?_⟩);rcases hc with⟨h1,hc⟩|hc
   ·exact .inl ⟨h1,hc.congr hev⟩
   ·exact .inr hc
  ·exact .inr (.inr ⟨j,s,want,hg,hj,by rw[<-hgu hg hj];exact hb,hc⟩)
 ·refine .inr ⟨hpt,MV,hd,hg,T,x,y,id,ds,hop,?_,hlen,?_,hT,hl,QE⟩
  ·rw[<-hev x (by rw[hop];simp[Op.operands])];exact hx
  ·rw[<-hev y (by rw[hop];simp[Op.operands])];exact hc
def Cp.sl(p:Cp):Option (Nat×D):=p.t.map fun t=>(t,p.d)
theorem Cp.XE(p:Cp)(σ:List (Nat×D)):p.slot σ=p.sl.toList++σ:=by
 unfold Cp.slot Cp.sl;cases p.t<;>rfl
theorem IY(p:Cp)(ps:List Cp)(σ:List (Nat×D)):((p::ps).filterMap Cp.sl).reverse++σ=(ps.filterMap Cp.sl).reverse++p.slot σ:=by
 rw[Cp.XE,w8];cases p.sl<;>simp
theorem rH.V3{H:bP}{σ:List (Nat×D)}{o:Oper}{p:Cp}(h:rH P Γ all H σ o p):p.up=none\/p.obs=[]:=by
 rcases h with⟨_,_,h,_⟩|⟨_,h,_⟩
 ·exact .inl h
 ·exact .inr h
theorem rH.slots{H:bP}{σ:List (Nat×D)}{o:Oper}{p:Cp}(h:rH P Γ all H σ o p):o.dst=p.t:=by
 rcases h with⟨t,h1,_,h2,_⟩|⟨h1,_,h2,_⟩
 ·rw[h1,h2]
 ·rw[h1,h2]
theorem Ho.unfold{H:bP}{K:List (Nat×D)->bP->Prop}:∀(l:List Oper) (σ:List (Nat×D)) (acc:bP) (U:aS),Ho P Γ all H K l σ acc U->
 ∃(ps:List Cp) (IB:bP),ps.length=l.length/\(∀(i:Nat) o p,l[i]?=some o->ps[i]?=some p->rH P Γ all H (((ps.take i).filterMap Cp.sl).reverse++σ) o p/\p.r=H.length+acc.length+((ps.take i).flatMap Cp.obs).length/\
  ∀id ob,p.up=some (id,ob)->id∉U/\H.length<=id/\(∃zs ds,ob=.box ds/\zs.length=ds.length/\(acc++(ps.take i).flatMap Cp.obs)[id-H.length]?=some (.box zs))/\∀(i2:Nat) q yz,i2<i->ps[i2]?=some q->q.up≠some (id,yz))/\
  K ((ps.filterMap Cp.sl).reverse++σ) IB/\IB.length=acc.length+(ps.flatMap Cp.obs).length/\
  (∀k,(∀(i:Nat) q ob,ps[i]?=some q->q.up≠some (H.length+k,ob))->IB[k]?=(acc++ps.flatMap Cp.obs)[k]?)/\
  ∀(i:Nat) q id ob,ps[i]?=some q->q.up=some (id,ob)->IB[id-H.length]?=some ob:=by
 intro l
 induction l with
 |nil=>
  intro σ acc U h;have h:K σ acc:=h;exact⟨[],acc,rfl,by simp,by simpa using h,by simp,by simp,by simp⟩
 |cons o l ih=>
  intro σ acc U h;obtain⟨p,hr,hc,hok,qc⟩:=h;obtain⟨ps,IB,h1,h2,h3,h4,h5,h6⟩:=ih _ _ _ qc;cases O9:p.up with
  |none=>
   have ef:p.fill H.length acc=acc++p.obs:=by simp[Cp.fill,O9]
   have eu:p.ups U=U:=by simp[Cp.ups,O9]
   rw[ef]at h2 h4 h5;rw[eu]at h2;refine⟨p::ps,IB,by simp[h1],?_,by rw[IY];exact h3,by rw[h4];simp;omega,?_,?_⟩
   ·intro i o' p' ho hp;cases i with
    |zero=>
     simp at ho hp;subst ho;subst hp;refine⟨by simpa using hc,by simpa using hr,?_⟩;intro id ob he;rw[O9]at he;cases he
    |succ i=>
     simp at ho hp;obtain⟨q1,q2,q3⟩:=h2 i o' p' ho hp;refine⟨by rw[sF,IY];exact q1,by rw[q2];simp;omega,?_⟩;intro id ob he;obtain⟨r1,r2,⟨zs,ds,r3,r4,r5⟩,r6⟩:=q3 id ob he;refine⟨r1,r2,⟨zs,ds,r3,r4,by rw[<-r5];simp⟩,?_⟩;intro i2 q yz hlt hq;cases i2 with
     |zero=>simp at hq;subst hq;rw[O9];simp
     |succ i2=>exact r6 i2 q yz (by omega) (by simpa using hq)
   ·intro k hk;rw[h5 k (fun i q ob hq=>hk (i+1) q ob (by simpa using hq))];simp
   ·intro i q id ob hq he;cases i with
    |zero=>simp at hq;subst hq;rw[O9]at he;cases he
    |succ i=>exact h6 i q id ob (by simpa using hq) he
  |some x=>
   obtain⟨QL,ob0⟩:=x;have ef:p.fill H.length acc=acc.set (QL-H.length) ob0:=by simp[Cp.fill,O9]
   have eu:p.ups U=QL::U:=by simp[Cp.ups,O9]
   have VL:p.obs=[]:=by
    rcases hc.V3 with h|h
    ·rw[h]at O9;cases O9
    ·exact h
   rw[ef]at h2 h4 h5;rw[eu]at h2;simp only[Cp.a33,O9]at hok;obtain⟨u1,u2,zs0,Vy,u3,u4,u5⟩:=hok;have oZ:∀(X:bP) (k:Nat),k≠QL-H.length->(acc.set (QL-H.length) ob0++X)[k]?=(acc++X)[k]?:=by
    intro X k hk;by_cases hl:k<acc.length
    ·rw[aq (by simpa using hl),aq hl,bu (pV hk)]
    ·rw[ax (by simpa using hl),ax (by omega)];simp
   have hno:∀(i:Nat) q yz,ps[i]?=some q->q.up≠some (QL,yz):=by
    intro i q yz hq he;have hlt:i<l.length:=by have:=(aE.1 hq).1;omega
    have:=(h2 i l[i] q (aV hlt) hq).2.2 QL yz he;exact this.1 (by simp)
   refine⟨p::ps,IB,by simp[h1],?_,by rw[IY];exact h3,by rw[h4];simp[VL],?_,?_⟩
   ·intro i o' p' ho hp;cases i with
    |zero=>
     simp at ho hp;subst ho;subst hp;refine⟨by simpa using hc,by simpa using hr,?_⟩;intro id ob he;rw[O9]at he;cases he;exact⟨u1,u2,⟨zs0,Vy,u4,u5,by simpa using u3⟩,by intro i2 q yz hlt;omega⟩
    |succ i=>
     simp at ho hp;obtain⟨q1,q2,q3⟩:=h2 i o' p' ho hp;refine⟨by rw[sF,IY];exact q1,by rw[q2];simp[VL],?_⟩;intro id ob he;obtain⟨r1,r2,⟨zs,ds,r3,r4,r5⟩,r6⟩:=q3 id ob he;have hne:id≠QL:=fun e=>r1 (by simp[e])
     refine⟨fun h=>r1 (by simp[h]),r2,⟨zs,ds,r3,r4,?_⟩,?_⟩
     ·rw[<-r5,oZ _ _ (by omega)];simp[VL]
     ·intro i2 q yz hlt hq;cases i2 with
      |zero=>simp at hq;subst hq;rw[O9];intro e;cases e;exact hne rfl
      |succ i2=>exact r6 i2 q yz (by omega) (by simpa using hq)
   ·intro k hk;rw[h5 k (fun i q ob hq=>hk (i+1) q ob (by simpa using hq))];have hne:k≠QL-H.length:=fun e=>hk 0 p ob0 rfl (by rw[O9,e,show H.length+(QL-H.length)=QL from by omega])
    rw[oZ _ _ hne];simp[VL]
   ·intro i q id ob hq he;cases i with
    |zero=>
     simp at hq;subst hq;rw[O9]at he;cases he;rw[h5 (QL-H.length) (fun i q yz hq=>by rw[show H.length+(QL-H.length)=QL from by omega];exact hno i q yz hq)];have hl:QL-H.length<acc.length:=(aE.1 u3).1;rw[aq (by simpa using hl),dD hl]
    |succ i=>exact h6 i q id ob (by simpa using hq) he
theorem dH.same{σ':List (Nat×D)}(h:∀t,lk st.σ t=lk σ' t)(hs:dH Γ st κ Θ a w):dH Γ ⟨σ',st.H⟩ κ Θ a w:=
 ⟨hs.defers,hs.size,hs.ni,hs.mw,fun t=>by show∃bs,pW w κ _ (lk σ' t) bs/\_;rw[<-h t];exact hs.slot t,hs.ob,hs.own,hs.old,hs.mine,hs.stays,hs.qz⟩
theorem dH.room(hs:dH Γ st κ Θ a w)(m:Nat):dH Γ ⟨st.σ,st.H++List.replicate m .gone⟩ κ Θ a w:=by
 have key:∀(j:Nat) y,(st.H++List.replicate m .gone)[j]?=some y->y=.gone\/st.H[j]?=some y:=by
  intro j y hj;by_cases hlt:j<st.H.length
  ·rw[aq hlt]at hj;exact .inr hj
  ·rw[ax (by omega)]at hj;rw[List.getElem?_replicate]at hj;split at hj
   ·cases hj;exact .inl rfl
   ·cases hj
 obtain⟨ρ,hu⟩:=hs.qz;refine⟨hs.defers,hs.size,fun i hi=>hs.ni i (by simp at hi;omega),hs.mw,hs.slot,?_,hs.own,hs.old,hs.mine,hs.stays,ρ,hu.free,?_,?_⟩
 ·intro j o hj;rcases key j o hj with rfl|h
  ·trivial
  ·exact hs.ob j o h
 ·intro id e sz rows hj;rcases key id _ hj with h|h
  ·cases h
  ·exact hu.rows id e sz rows h
 ·intro id o hj;rcases key id _ hj with h|h
  ·subst h;trivial
  ·exact hu.more id o h
theorem oY{ps:List Cp}{i:Nat}{p:Cp}(h:ps[i]?=some p):ps.flatMap Cp.obs=(ps.take i).flatMap Cp.obs++(p.obs++(ps.drop (i+1)).flatMap Cp.obs):=by
 have e:ps=ps.take i++(p::ps.drop (i+1)):=by
  obtain⟨hlt,rfl⟩:=aE.1 h;rw[zn,bz]
 conv=>lhs;rw[e]
 simp
theorem wT{ps:List Cp}:∀ {k:Nat},k<(ps.flatMap Cp.obs).length->∃(i:Nat) (p:Cp) (j:Nat),ps[i]?=some p/\j<p.obs.length/\k=((ps.take i).flatMap Cp.obs).length+j:=by
 induction ps with
 |nil=>intro k h;simp at h
 |cons p ps ih=>
  intro k h;by_cases hk:k<p.obs.length
  ·exact⟨0,p,k,rfl,hk,by simp⟩
  ·simp only[ei,av]at h;obtain⟨i,q,j,h1,h2,h3⟩:=ih (k:=k-p.obs.length) (by omega);refine⟨i+1,q,j,by simpa using h1,h2,?_⟩;rw[sF,ei,av];omega
theorem Ky{ps:List Cp}{i j:Nat}{p:Cp}(hp:ps[i]?=some p)(hij:i<j):((ps.take i).flatMap Cp.obs).length+p.obs.length<=((ps.take j).flatMap Cp.obs).length:=by
 have h:(ps.take j)[i]?=some p:=by rw[cG,bN hij];exact hp
 have:=oY h;rw[this];have e:(ps.take j).take i=ps.take i:=by rw[rF,eg (by omega)]
 rw[e];simp only[av];omega
theorem Vb{id:Nat}{l:List Oper}(n:Nat)(hm:P.follows .mixedOrders=true)(hB:Sl l.toArray n=true)
 (h:Ho P Γ l.toArray st.H (fun σ acc=>AO P Γ l.toArray (l.drop n) Q ⟨σ,st.H++acc⟩) (l.take n) st.σ [] []):AW P Γ (.region id l.toArray true) Q st:=by
 simp only[Sl,aY,mV,bK]at hB;obtain⟨⟨⟨hn,hsc⟩,WK⟩,Hu⟩:=hB;obtain⟨ps,IB,hlen,JC,hK,hFl,hFo,hFu⟩:=Ho.unfold _ _ _ _ h;simp only[dM,bW,wL,cv]at JC hK hFl hFo;have hn':n<=l.length:=by simpa using hn
 have hpl:ps.length=n:=by rw[hlen];simp;omega
 have hop:∀(i:Nat),i<n->∃o p,l.toArray[i]?=some o/\ps[i]?=some p/\o.dst=p.t/\rH P Γ l.toArray st.H (((ps.take i).filterMap Cp.sl).reverse++st.σ) o p/\p.r=st.H.length+((ps.take i).flatMap Cp.obs).length:=by
  intro i hi;have h1:l[i]?=some l[i]:=aV (by omega);have h2:ps[i]?=some ps[i]:=aV (by omega);have h3:=JC i l[i] ps[i] (by rw[cG,bN hi];exact h1) h2;exact⟨l[i],ps[i],by simp[ij,h1],h2,h3.1.slots,h3.1,h3.2.1⟩
 have Od:∀(i:Nat) p,ps[i]?=some p->p.r=st.H.length+((ps.take i).flatMap Cp.obs).length:=by
  intro i p hp;have hi:i<n:=by have:=(aE.1 hp).1;omega
  obtain⟨_,p',_,hp',_,_,hr⟩:=hop i hi;rw[hp]at hp';cases hp';exact hr
 have Lh:∀(i:Nat) p id ob,ps[i]?=some p->p.up=some (id,ob)->st.H.length<=id/\(∃zs ds,ob=.box ds/\zs.length=ds.length/\((ps.take i).flatMap Cp.obs)[id-st.H.length]?=some (.box zs))/\∀(i2:Nat) q yz,i2<i->ps[i2]?=some q->q.up≠some (id,yz):=by
  intro i p id ob hp he;have hi:i<n:=by have:=(aE.1 hp).1;omega
  have h1:l[i]?=some l[i]:=aV (by omega);have h3:=(JC i l[i] p (by rw[cG,bN hi];exact h1) hp).2.2 id ob he;exact⟨h3.2.1,h3.2.2.1,h3.2.2.2⟩
 have TL:∀(i j:Nat) p q id ob yz,ps[i]?=some p->ps[j]?=some q->p.up=some (id,ob)->q.up=some (id,yz)->i=j:=by
  intro i j p q id ob yz hp hq he Ez;rcases tr i j with h|h|h
  ·exact absurd he ((Lh j q id yz hq Ez).2.2 i p ob h hp)
  ·exact h
  ·exact absurd Ez ((Lh i p id ob hp he).2.2 j q yz h hq)
 have TM:∀(i:Nat) p id ob,ps[i]?=some p->p.up=some (id,ob)->p.obs=[]:=by
  intro i p id ob hp he;have hi:i<n:=by have:=(aE.1 hp).1;omega
  obtain⟨_,p',_,hp',_,hc,_⟩:=hop i hi;rw[hp]at hp';cases hp';rcases hc.V3 with h|h
  ·rw[h]at he;cases he
  ·exact h
 have hfit:∀(i:Nat) p,ps[i]?=some p->p.r+p.obs.length<=st.H.length+(ps.flatMap Cp.obs).length:=by
  intro i p hp;rw[Od i p hp,oY hp];simp only[av];omega
 have La:∀(i j:Nat) p q,ps[i]?=some p->ps[j]?=some q->i<j->p.r+p.obs.length<=q.r:=by
  intro i j p q hp hq hij;rw[Od i p hp,Od j q hq];have:=Ky hp hij;omega
 have hdist:∀(i j:Nat) p q t,ps[i]?=some p->ps[j]?=some q->p.t=some t->q.t=some t->i=j:=by
  intro i j p q t hp hq he1 Ez;have hi:i<n:=by have:=(aE.1 hp).1;omega
  have hj:j<n:=by have:=(aE.1 hq).1;omega
  obtain⟨oi,p',ho,hp',hdi,_⟩:=hop i hi;obtain⟨oj,q',vQ,KH,hdj,_⟩:=hop j hj;rw[hp]at hp';cases hp';rw[hq]at KH;cases KH;have:=aj.1 Hu i (bV.2 hi);simp only[ho,aY]at this;have:=aj.1 this.2 j (bV.2 hj);simp only[vQ,hdi,hdj,he1,Ez,rW,bn,qe,Option.isNone_some,qe,cQ]at this;exact this.symm
 have CQ:∀(i:Nat) p t,ps[i]?=some p->p.t=some t->∀q∈ps.filterMap Cp.sl,q.1=t->q=(t,p.d):=by
  intro i p t hp hpt q hq he;obtain⟨q',KH,HV⟩:=bt.1 hq;obtain⟨j,hj,rfl⟩:=dl.1 KH;have FD:ps[j]?=some ps[j]:=aV hj;unfold Cp.sl at HV;cases WI:ps[j].t with
  |none=>rw[WI]at HV;cases HV
  |some u=>
   rw[WI]at HV;simp only[cI,ah]at HV;subst HV;simp only at he;subst he;have:=hdist j i _ p u FD hp WI hpt;subst this;rw[hp]at FD;cases FD;rfl
 intro κ Θ a w hs;have main:∀(f:Nat) (listed:Array Bool) (σ':List (Nat×D)) (H':bP) (κ:Nat->Option Value) (Θ:Nat->Nat) (a:Act) (w:World),HeadInv .any l.toArray n listed->
  ((List.range n).filter fun i=> !listed.getD i false).length=f->
  (∀(i:Nat) p t,ps[i]?=some p->p.t=some t->listed.getD i false=true->lk σ' t=p.d)->
  (∀t,(∀(i:Nat) p,ps[i]?=some p->listed.getD i false=true->p.t≠some t)->lk σ' t=lk st.σ t)->
  H'.length=st.H.length+(ps.flatMap Cp.obs).length->Ext st.H H'->
  (∀(i:Nat) p,ps[i]?=some p->listed.getD i false=true->∀(j:Nat) o,p.obs[j]?=some o->(∀(i2:Nat) q ob,ps[i2]?=some q->listed.getD i2 false=true->q.up≠some (p.r+j,ob))->H'[p.r+j]?=some o)->
  (∀(i:Nat) q id ob,ps[i]?=some q->listed.getD i false=true->q.up=some (id,ob)->H'[id]?=some ob/\∃v,κ id=some v)->
  (∀(i:Nat) p,ps[i]?=some p->listed.getD i false=false->∀j,j<p.obs.length->κ (p.r+j)=none)->
  dH Γ ⟨σ',H'⟩ κ Θ a w->
  wpAny P .any l.toArray (fun e a' w'=>∃sn κ' Θ',dH Γ sn κ' Θ' a' w'/\Q e sn) (f+(l.toArray.size-n)) listed a w:=by
  intro f
  induction f with
  |zero=>
   intro listed σ' H' κ Θ a w inv mr hA hB Xd S6 QA VJ Q9 hs;have hall:∀i,i<n->listed.getD i false=true:=by
    intro i hi;have h0:=cM mr;cases hl:listed.getD i false with
    |true=>rfl
    |false=>
     have:i∈(List.range n).filter fun i=> !listed.getD i false:=gF.2 ⟨bV.2 hi,by simp[hl]⟩
     rw[h0]at this;cases this
   have T7:listed=Array.replicate n true++Array.replicate (l.toArray.size-n) false:=by
    apply Array.ext
    ·rw[inv.size];simp;simp at hn;omega
    ·intro i h1 h2;by_cases hi:i<n
     ·have:=hall i hi;rw[xx (by simpa using hi)];simp[h1]at this;simp[this]
     ·have hi':i<l.toArray.size:=by rw[<-inv.size];exact h1
      have:=inv.tail i (by omega) hi';rw[wm (by simpa using hi)];simp[h1]at this;simp[this]
   rw[cv];have HS:∀t,lk σ' t=lk ((ps.filterMap Cp.sl).reverse++st.σ) t:=by
    intro t;by_cases hex:∃(i:Nat) (p:Cp),ps[i]?=some p/\p.t=some t
    ·obtain⟨i,p,hp,hpt⟩:=hex;have hi:i<n:=by have:=(aE.1 hp).1;omega
     rw[hA i p t hp hpt (hall i hi)];have:=F1 (ps.filterMap Cp.sl).reverse st.σ (t,p.d) (by rw[dJ];exact bt.2 ⟨p,aD hp,by simp[Cp.sl,hpt]⟩) (fun q hq he=>CQ i p t hp hpt q (by simpa using hq) he);exact this.symm
    ·rw[hB t (fun i p hp _ he=>hex ⟨i,p,hp,he⟩),CY];intro q hq he;obtain⟨p,hp,hps⟩:=bt.1 (dJ.1 hq);obtain⟨i,hi,hpi⟩:=dl.1 hp;refine hex ⟨i,p,by rw[<-hpi];exact aV hi,?_⟩;unfold Cp.sl at hps;cases hpt:p.t with
     |none=>rw[hpt]at hps;cases hps
     |some u=>rw[hpt]at hps;simp only[cI,ah]at hps;subst hps;simp only at he;rw[he]
   have Su:H'=st.H++IB:=by
    apply mI;intro k;by_cases h1:k<st.H.length
    ·rw[aq h1];exact S6 k _ (aV h1)|>.trans (aV h1).symm
    ·rw[ax (by omega)];by_cases hex:∃(i:Nat) (q:Cp) (ob:Ob),ps[i]?=some q/\q.up=some (k,ob)
     ·obtain⟨i,q,ob,hq,he⟩:=hex;have hi:i<n:=by have:=(aE.1 hq).1;omega
      rw[(VJ i q k ob hq (hall i hi) he).1,hFu i q k ob hq he]
     ·have hno:∀(i:Nat) q ob,ps[i]?=some q->q.up≠some (k,ob):=fun i q ob hq he=>hex ⟨i,q,ob,hq,he⟩
      rw[hFo (k-st.H.length) (fun i q ob hq=>by rw[show st.H.length+(k-st.H.length)=k from by omega];exact hno i q ob hq)];by_cases h2:k-st.H.length<(ps.flatMap Cp.obs).length
      ·obtain⟨i,p,j,hp,hj,hk⟩:=wT h2;have hi:i<n:=by have:=(aE.1 hp).1;omega
       have e3:p.r+j=k:=by rw[Od i p hp];omega
       have h3:=QA i p hp (hall i hi) j _ (aV hj) (fun i2 q ob hq _=>by rw[e3];exact hno i2 q ob hq);rw[e3]at h3;rw[h3,oY hp,hk,ax (by omega),cq,aq hj,aV hj]
      ·rw[cB (by omega),cB (by omega)]
   have hs2:=dH.same (st:=⟨σ',H'⟩) (σ':=(ps.filterMap Cp.sl).reverse++st.σ) HS hs;simp only[Su]at hs2;have hwp:=hK κ Θ a w hs2;have hdl:(l.drop n).length=l.toArray.size-n:=by simp
   have:=wpAny_of_seq (md:=.any) (l.drop n) n listed a w (fun j=>by simp[eH]) (by rw[hdl,T7];exact WK) hwp
   rwa[hdl]at this
  |succ f ih=>
   intro listed σ' H' κ Θ a w inv mr hA hB Xd S6 QA VJ Q9 hs;have hun:∃i,i<n/\listed.getD i false=false:=by
    have hne:((List.range n).filter fun i=> !listed.getD i false)≠[]:=by
     intro h0;rw[h0]at mr;simp at mr
    obtain⟨i,hi⟩:=s6 _ hne;obtain⟨h1,h2⟩:=gF.1 hi;exact⟨i,bV.1 h1,by simpa using h2⟩
   have hsz:=inv.size;rw[show f+1+(l.toArray.size-n)=(f+(l.toArray.size-n))+1 from by omega];refine⟨fun h0=>?_,fun i hi=>?_⟩
   ·exfalso;obtain⟨i,⟨hin,O7⟩,hmin⟩:=exists_least (p:=fun i=>i<n/\listed.getD i false=false) hun;obtain⟨o,p,ho,_,_,_⟩:=hop i hin;have:i∈Region.ready .any l.toArray listed:=by
     refine mem_ready.2 ⟨getD_in (by rw[hsz];omega) O7,o,ho,fun e he hb=>?_⟩;have:=aj.1 Hu i (bV.2 hin);simp only[ho,aY]at this;have:=tB.1 this.1.1 e he;simp only[hb,bn,qd,bK]at this;cases hl:listed.getD e.on false with
     |true=>rfl
     |false=>
      have:=hmin e.on ⟨by omega,hl⟩;omega
    rw[h0]at this;cases this
   ·obtain⟨i0,hi0,hl0⟩:=hun;have hin:i<n:=by
     rcases dX i n with h|h
     ·exact h
     ·rcases hsc with he|⟨hn2,a1g,hchain⟩
      ·obtain⟨_,oi,hoi,_⟩:=mem_ready.1 hi;have:=(az.1 hoi).1;omega
      ·exact absurd hi (tail_waits a1g hchain hn2 inv _ i0 rfl hi0 (getD_in (by rw[hsz];omega) hl0) i h)
    obtain⟨o,p,ho,hp,hd,hc,_⟩:=hop i hin;obtain⟨O7,o',ho',hall⟩:=mem_ready.1 hi;rw[ho]at ho';cases ho';have yg:=getD_both O7;have WC:rH P Γ l.toArray st.H σ' o p:=by
     refine rH.congr (σ:=((ps.take i).filterMap Cp.sl).reverse++st.σ) (σ':=σ') ?_ hc;intro t ht;have GI:=aj.1 Hu i (bV.2 hin);simp only[ho,aY]at GI;have GI:=aj.1 GI.1.2 t ht;by_cases hex:∃(j:Nat) (q:Cp),ps[j]?=some q/\q.t=some t
     ·obtain⟨j,q,hq,IM⟩:=hex;have hj:j<n:=by have:=(aE.1 hq).1;omega
      obtain⟨oj,q',vQ,KH,hdj,_⟩:=hop j hj;rw[hq]at KH;cases KH;have:=aj.1 GI j (bV.2 hj);simp only[vQ,hdj,IM,rW,bn,qd,aY,bK]at this;obtain⟨hji,TO⟩:=this;obtain⟨oi',TE,e,he,hb,hon⟩:=Region.waitsFor_spec TO;rw[ho]at TE;cases TE;have hjl:=hall e he hb;rw[hon]at hjl;rw[hA j q t hq IM hjl];refine F1 ((ps.take i).filterMap Cp.sl).reverse st.σ (t,q.d) ?_ (fun q2 FD Ez=>CQ j q t hq IM q2 ?_ Ez)
      ·rw[dJ];exact bt.2 ⟨q,aD (i:=j) (by rw[cG,bN hji];exact hq),by simp[Cp.sl,IM]⟩
      ·obtain⟨q3,Oe,vR⟩:=bt.1 (dJ.1 FD);exact bt.2 ⟨q3,cD Oe,vR⟩
     ·rw[hB t (fun j q hq _ he=>hex ⟨j,q,hq,he⟩),CY];intro q hq he;obtain⟨q3,Oe,vR⟩:=bt.1 (dJ.1 hq);obtain⟨j,hj,hqj⟩:=dl.1 (cD Oe);refine hex ⟨j,q3,by rw[<-hqj];exact aV hj,?_⟩;unfold Cp.sl at vR;cases hpt:q3.t with
      |none=>rw[hpt]at vR;cases vR
      |some u=>rw[hpt]at vR;simp only[cI,ah]at vR;subst vR;simp only at he;rw[he]
    have hfp:=hfit i p hp;have T5:∀id ob,p.up=some (id,ob)->∃v,κ id=some v:=by
     intro id ob he;rcases WC with⟨_,_,h,_⟩|⟨_,_,_,_,T,x,y,id',ds,OY,hx',_,_,_,_,QE⟩
     ·rw[h]at he;cases he
     ·rw[QE]at he;cases he;obtain⟨b1,r1,_⟩:=hs.ev x;rw[Mx σ' H' st.H x,hx']at r1;obtain⟨g,hk,_⟩:=r1.wV;exact⟨_,hk⟩
    have TJ:∀id ob,p.up=some (id,ob)->∃zs ds,H'[id]?=some (.box zs)/\ob=.box ds/\zs.length=ds.length:=by
     intro id ob he;obtain⟨u1,⟨zs,ds,u2,u3,u4⟩,_⟩:=Lh i p id ob hp he;refine⟨zs,ds,?_,u2,u3⟩;obtain⟨i1,p1,j1,hp1,E5,hk1⟩:=wT (aE.1 u4).1;have Oa:ps[i1]?=some p1:=by
      have:=(aE.1 hp1).1;rw[cG]at hp1;split at hp1
      ·exact hp1
      ·cases hp1
     have hi1:i1<i:=by have:=(aE.1 hp1).1;simp at this;omega
     have et:(ps.take i).take i1=ps.take i1:=by rw[rF,eg (by omega)]
     rw[et]at hk1;have e1:p1.r+j1=id:=by rw[Od i1 p1 Oa];omega
     have yQ:p1.obs[j1]?=some (.box zs):=by
      rw[oY hp1,et,hk1,ax (by omega),cq,aq E5]at u4;exact u4
     have hl1:listed.getD i1 false=true:=by
      cases hl:listed.getD i1 false with
      |true=>rfl
      |false=>
       have h0:=Q9 i1 p1 Oa hl j1 E5;rw[e1]at h0;obtain⟨v,hv⟩:=T5 id ob he;rw[h0]at hv;cases hv
     have:=QA i1 p1 Oa hl1 j1 _ yQ (fun i2 q yz hq hl Ez=>by
      rw[e1]at Ez;have:=TL i i2 p q id ob yz hp hq he Ez;subst this;rw[yg]at hl;cases hl)
     rw[e1]at this;exact this
    refine WC.wp hs S6 ho (by omega) (fun j hj=>Q9 i p hp yg j hj) TJ fun κ' Θ' a' w' hs' hsame=>?_
    have oZ:∀(j:Nat),(listed.setIfInBounds i true).getD j false=true↔(j=i\/listed.getD j false=true):=by
     intro j;by_cases e:i=j
     ·subst e;have:i<listed.size:=by rw[hsz];omega
      simp[this]
     ·rw[getD_set_ne false e];constructor
      ·exact .inr
      ·rintro(rfl|h)
       ·exact absurd rfl e
       ·exact h
    have hput:(p.ym H').length=H'.length:=by
     unfold Cp.ym;split
     ·simp
     ·exact rq (by omega)
    have ZA:∀(k:Nat),k<st.H.length->(p.ym H')[k]?=H'[k]?:=by
     intro k hk;unfold Cp.ym;split
     ·rename_i id ob he;have:=(Lh i p id ob hp he).1;rw[bu (by omega)]
     ·rw[rp (by omega),bN (by rw[Od i p hp];omega)]
    refine ih (listed.setIfInBounds i true) (p.slot σ') (p.ym H') κ' Θ' a' w' (inv.set hi hin) ?_ ?_ ?_ (by rw[hput];exact Xd) ?_ ?_ ?_ ?_ hs'
    ·have RD:((List.range n).filter fun j=> !(listed.setIfInBounds i true).getD j false)=((List.range n).filter fun j=> !listed.getD j false).erase i:=by
      have hnd:((List.range n).filter fun j=> !listed.getD j false).Nodup:=vC _ z7;rw[hnd.erase_eq_filter,wu];apply yG;intro j _;by_cases e:j=i
      ·subst e;have:=(oZ j).2 (.inl rfl);rw[this];simp
      ·rw[getD_set_ne false (pV e)];simp[e]
     rw[RD,oQ (gF.2 ⟨bV.2 hin,by simp[yg]⟩),mr];rfl
    ·intro j q t hq IM hl;unfold Cp.slot;rcases(oZ j).1 hl with rfl|AS
     ·rw[hp]at hq;cases hq;rw[IM];simp[lk]
     ·cases hpt:p.t with
      |none=>exact hA j q t hq IM AS
      |some u=>
       simp only[lk];rw[b9,hA j q t hq IM AS];intro e;have:=hdist j i q p t hq hp IM (by rw[hpt,e]);subst this;rw[yg]at AS;cases AS
    ·intro t ht;unfold Cp.slot;have qc:=hB t (fun j q hq hl=>ht j q hq ((oZ j).2 (.inr hl)));cases hpt:p.t with
     |none=>exact qc
     |some u=>
      simp only[lk];rw[b9 (fun e=>ht i p hp ((oZ i).2 (.inl rfl)) (by rw[hpt,e]))];exact qc
    ·intro j y hj;rw[ZA j (aE.1 hj).1];exact S6 j y hj
    ·intro j q hq hl k y hy hno;have hkl:=(aE.1 hy).1;unfold Cp.ym;split
     ·rename_i id ob he;have hne:q.r+k≠id:=fun e=>hno i p ob hp ((oZ i).2 (.inl rfl)) (by rw[e];exact he)
      rw[bu (pV hne)];rcases(oZ j).1 hl with rfl|AS
      ·rw[hp]at hq;cases hq;rw[TM j p id ob hp he]at hy;simp at hy
      ·exact QA j q hq AS k y hy (fun i2 q2 yz FD Z8=>hno i2 q2 yz FD ((oZ i2).2 (.inr Z8)))
     ·rw[rp (by omega)];rcases(oZ j).1 hl with rfl|AS
      ·rw[hp]at hq;cases hq;rw[b9 (by omega),bN (by omega),cq];exact hy
      ·have hne:j≠i:=fun e=>by subst e;rw[yg]at AS;cases AS
       have h3:=QA j q hq AS k y hy (fun i2 q2 yz FD Z8=>hno i2 q2 yz FD ((oZ i2).2 (.inr Z8)));rcases tC hne with h|h
       ·have:=La j i q p hq hp h;rw[bN (by omega)];exact h3
       ·have:=La i j p q hp hq h;rw[b9 (by omega),b9 (by omega)];exact h3
    ·intro j q id ob hq hl he;rcases(oZ j).1 hl with rfl|AS
     ·rw[hp]at hq;cases hq;obtain⟨zs,ds,z1,_⟩:=TJ id ob he;have hlt:=(aE.1 z1).1;refine⟨by simp only[Cp.ym,he];rw[dD hlt],?_⟩;obtain⟨v,hv⟩:=T5 id ob he;refine⟨v,?_⟩;rw[hsame id (by rw[TM j p id ob hp he];simp;omega)];exact hv
     ·obtain⟨h1,v,hv⟩:=VJ j q id ob hq AS he;have hout:id<p.r\/p.r+p.obs.length<=id:=by
       rcases dX id p.r with h|h
       ·exact .inl h
       ·rcases dX id (p.r+p.obs.length)with h2|h2
        ·have:=Q9 i p hp yg (id-p.r) (by omega);rw[show p.r+(id-p.r)=id from by omega,hv]at this;cases this
        ·exact .inr h2
      refine⟨?_,v,by rw[hsame id hout];exact hv⟩;unfold Cp.ym;split
      ·rename_i id2 yz Ez;have hne:id2≠id:=fun e=>by
        subst e;have:=TL i j p q id2 yz ob hp hq Ez he;subst this;rw[yg]at AS;cases AS
       rw[bu hne];exact h1
      ·rw[rp (by omega)];rcases hout with h|h
       ·rw[bN h];exact h1
       ·rw[b9 (by omega),b9 (by omega)];exact h1
    ·intro j q hq hl k hk;have hne:j≠i:=fun e=>by
      subst e;have:=(oZ j).2 (.inl rfl);rw[this]at hl;cases hl
     have AS:listed.getD j false=false:=by
      cases h:listed.getD j false with
      |false=>rfl
      |true=>have:=(oZ j).2 (.inr h);rw[this]at hl;cases hl
     have h3:=Q9 j q hq AS k hk;rw[hsame,h3];rcases tC hne with h|h
     ·have:=La j i q p hq hp h;omega
     ·have:=La i j p q hp hq h;omega
 refine wp_region_any hm ?_;have Zg:HeadInv .any l.toArray n (Array.replicate l.toArray.size false):=
  ⟨by simp,fun j oj _ hl=>(by rw[getD_replicate_false]at hl;cases hl),fun t _ ht=>getD_in (by simpa using ht) (getD_replicate_false _ _)⟩
 have mr:((List.range n).filter fun i=> !(Array.replicate l.toArray.size false).getD i false).length=n:=by
  rw[List.filter_eq_self.2]
  ·simp
  ·intro i _;rw[getD_replicate_false];rfl
 have:=main n (Array.replicate l.toArray.size false) st.σ (st.H++List.replicate (ps.flatMap Cp.obs).length .gone) κ Θ a w.drew Zg mr (fun i p t _ _ hl=>by rw[getD_replicate_false]at hl;cases hl) (fun t _=>rfl)
  (by simp) (fun i o h=>by rw[aq (aE.1 h).1];exact h) (fun i p _ hl=>by rw[getD_replicate_false]at hl;cases hl)
  (fun i q id ob _ hl=>by rw[getD_replicate_false]at hl;cases hl)
  (fun i p hp _ j _=>hs.ni _ (by rw[Od i p hp];omega)) (hs.drew.room _)
 rw[show n+(l.toArray.size-n)=l.toArray.size from by omega]at this;exact this
end
end Go.Cx
namespace Go.Cx
open Go.RowKit
def pos(o:aS)(i:Nat):Option Nat:=ix (fun j=>j==i) o
def D.QX(o:aS)(d:D):D:=match d with
 | .acc i=>(match pos o i with|some j=>.acc j|none=>.any)
 | .ptr i off=>(match pos o i with|some j=>.ptr j off|none=>.any)
 | .op i a b c=>(match pos o i with|some j=>.op j a b c|none=>.any)
 |d=>d
def D.YP(o:aS)(d:D):D:=match d with
 | .agg cs=>.agg (cs.map (D.QX o))
 |d=>d.QX o
def D.QY(o:aS)(d:D):D:=match d with
 | .iK vs=>.iK (vs.map (D.YP o))
 |d=>d.YP o
def Ob.rn(o:aS)(x:Ob):Ob:=match x with
 | .box cells=>.box (cells.map (D.QX o))
 | .BQ cells v=>.BQ (cells.map (D.QX o)) v
 | .hole _ _ _ _ _=>.gone
 |x=>x
def St.Af(st:St)(K o:aS):St:=⟨K.map fun t=>(t,(lk st.σ t).QY o),o.map fun i=>((st.H[i]?).getD .gone).rn o⟩
section
variable{P:Program}{Γ:sO}{Q:Exit->St->Prop}{st:St}{κ κ':Nat->Option Value}{Θ Θ':Nat->Nat}{a:Act}{w:World}{o:aS}
theorem Ku:∀ {o:aS},o.Nodup->∀(i j x:Nat),o[i]?=some x->o[j]?=some x->i=j:=by
 intro o
 induction o with
 |nil=>intro _ i j x h;simp at h
 |cons y o ih=>
  intro hnd i j x hi hj;obtain⟨h1,h2⟩:=ed.1 hnd;cases i with
  |zero=>
   cases j with
   |zero=>rfl
   |succ j=>simp at hi hj;subst hi;exact absurd (aD hj) h1
  |succ i=>
   cases j with
   |zero=>simp at hi hj;subst hj;exact absurd (aD hi) h1
   |succ j=>simp at hi hj;rw[ih h2 i j x hi hj]
theorem M8{i j:Nat}(h:pos o i=some j):o[j]?=some i:=by
 obtain⟨x,h1,h2⟩:=wU h;simp only[cQ]at h2;subst h2;exact h1
theorem P6{i j:Nat}(hnd:o.Nodup)(h:o[j]?=some i):pos o i=some j:=
 CU h (by simp) (fun k y hk hy=>by
  simp only[cQ]at hy;subst hy;obtain⟨h1,h2⟩:=aE.1 h;obtain⟨h3,h4⟩:=aE.1 hk;exact Ku hnd k j _ hk h)
section
variable(hk:∀(i j:Nat) v,pos o i=some j->κ i=some v->κ' j=some v)(vb:∀b,Θ b=0->Θ' b=0)
include hk vb
theorem wZ.rn{v:Value}{d:D}{bs:aS}(h:wZ w κ v d bs)(hz:∀b∈bs,Θ b=0):∃b',wZ w κ' v (d.QX o) b'/\∀b∈b',Θ' b=0:=by
 cases h with
 |pure h=>
  have e:d.QX o=d:=by cases h<;>rfl
  rw[e];exact⟨bs,.pure h,fun b hb=>vb b (hz b hb)⟩
 |acc i v hi=>
  simp only[D.QX];cases hp:pos o i with
  |none=>exact⟨[],.pure (.any _),by simp⟩
  |some j=>exact⟨[],.acc j v (hk i j v hp hi),by simp⟩
 |ptr i off b hi=>
  simp only[D.QX];cases hp:pos o i with
  |none=>exact⟨[],.pure (.any _),by simp⟩
  |some j=>exact⟨[],.ptr j off b (hk i j _ hp hi),by simp⟩
 |op i x sz off b o0 len cap hi=>
  simp only[D.QX];cases hp:pos o i with
  |none=>exact⟨[],.pure (.any _),by simp⟩
  |some j=>exact⟨[],.op j x sz off b o0 len cap (hk i j _ hp hi),by simp⟩
theorem ey.rn{vs:bp}{ds:aL}{bs:aS}(h:ey w κ vs ds bs)(hz:∀b∈bs,Θ b=0):∃b',ey w κ' vs (ds.map (D.QX o)) b'/\∀b∈b',Θ' b=0:=by
 induction h with
 |nil=>exact⟨[],.nil,by simp⟩
 |cons v vs d ds b1 b2 h1 h2 _ ih=>
  obtain⟨c1,q1,q2⟩:=wZ.rn hk vb h2 (fun b hb=>hz b (by simp[hb]));obtain⟨c2,p1,p2⟩:=ih (fun b hb=>hz b (by simp[hb]));refine⟨c1++c2,.cons _ _ _ _ _ _ h1 q1 p1,fun b hb=>?_⟩;rcases aZ.1 hb with hb|hb
  ·exact q2 b hb
  ·exact p2 b hb
theorem Iq.rn{v:Value}{d:D}{bs:aS}(h:Iq w κ v d bs)(hz:∀b∈bs,Θ b=0):∃b',Iq w κ' v (d.YP o) b'/\∀b∈b',Θ' b=0:=by
 cases h with
 |cell h=>
  by_cases rE:∃ds,d=.agg ds
  ·obtain⟨ds,rfl⟩:=rE;cases h with
   |pure h=>
    cases h with
    |agg cs _ _ h=>
     obtain⟨b',q1,q2⟩:=ey.rn hk vb (ey.Am (κ:=κ) h) hz;exact⟨b',.agg _ _ _ q1,q2⟩
  ·have e:d.YP o=d.QX o:=by cases d<;>first|rfl|exact absurd ⟨_,rfl⟩ rE
   rw[e];obtain⟨b',q1,q2⟩:=wZ.rn hk vb h hz;exact⟨b',.cell q1,q2⟩
 |agg cs ds bs h=>
  obtain⟨b',q1,q2⟩:=ey.rn hk vb h hz;exact⟨b',.agg _ _ _ q1,q2⟩
theorem zw.rn{vs:bp}{ds:aL}{bs:aS}(h:zw w κ vs ds bs)(hz:∀b∈bs,Θ b=0):∃b',zw w κ' vs (ds.map (D.YP o)) b'/\∀b∈b',Θ' b=0:=by
 induction h with
 |nil=>exact⟨[],.nil,by simp⟩
 |cons v vs d ds b1 b2 h2 _ ih=>
  obtain⟨c1,q1,q2⟩:=Iq.rn hk vb h2 (fun b hb=>hz b (by simp[hb]));obtain⟨c2,p1,p2⟩:=ih (fun b hb=>hz b (by simp[hb]));refine⟨c1++c2,.cons _ _ _ _ _ _ q1 p1,fun b hb=>?_⟩;rcases aZ.1 hb with hb|hb
  ·exact q2 b hb
  ·exact p2 b hb
theorem pW.rn{v:Value}{d:D}{bs:aS}(h:pW w κ v d bs)(hz:∀b∈bs,Θ b=0):∃b',pW w κ' v (d.QY o) b'/\∀b∈b',Θ' b=0:=by
 cases h with
 |v h=>
  have hnt:∀vs,d≠ .iK vs:=by
   intro vs e;subst e;cases h with
   |cell h=>cases h with|pure h=>cases h
  have e:d.QY o=d.YP o:=by cases d<;>first|rfl|exact absurd rfl (hnt _)
  rw[e];obtain⟨b',q1,q2⟩:=Iq.rn hk vb h hz;exact⟨b',.v q1,q2⟩
 |iK vs ds bs h=>
  obtain⟨b',q1,q2⟩:=zw.rn hk vb h hz;exact⟨b',.iK _ _ _ q1,q2⟩
end
theorem Tt(σ:List (Nat×D))(K:aS)(f:D->D)(t:Nat):lk (K.map fun t=>(t,f (lk σ t))) t=if t∈K then f (lk σ t)else .any:=by
 induction K with
 |nil=>simp[lk]
 |cons u K ih=>
  simp only[bC,lk];by_cases e:t=u
  ·subst e;simp
  ·rw[b9 e,ih];simp[e]
theorem dH.Af(hs:dH Γ st κ Θ a w)(K o:aS)(hnd:o.Nodup):∃κ' Θ',dH Γ (st.Af K o) κ' Θ' a w:=by
 let κ':Nat->Option Value:=fun j=>(o[j]?).bind κ
 let Θ':Nat->Nat:=fun b=>if Θ b<=1 then Θ b else match pos o (Θ b-2)with|some j=>j+2|none=>1
 have vb:∀b,Θ b=0->Θ' b=0:=fun b h=>by simp[Θ',h]
 have hk:∀(i j:Nat) v,pos o i=some j->κ i=some v->κ' j=some v:=fun i j v h1 h2=>by simp[κ',M8 h1,h2]
 have hk2:∀(i j:Nat),o[j]?=some i->κ' j=κ i:=fun i j h=>by simp[κ',h]
 have KJ:∀b (i j:Nat),o[j]?=some i->Θ b=i+2->Θ' b=j+2:=by
  intro b i j hj h;simp only[Θ'];rw[b9 (by omega),h,wv,P6 hnd hj]
 have key:∀(j:Nat) x,(st.Af K o).H[j]?=some x->∃i,o[j]?=some i/\((st.H[i]?=none/\x=.gone)\/∃y,st.H[i]?=some y/\x=y.rn o):=by
  intro j x hj;simp only[St.Af,bU]at hj;cases ho:o[j]? with
  |none=>simp[ho]at hj
  |some i=>
   simp only[ho,cI,ah]at hj;refine⟨i,rfl,?_⟩;cases hH:st.H[i]? with
   |none=>rw[hH]at hj;exact .inl ⟨rfl,hj.symm⟩
   |some y=>rw[hH]at hj;exact .inr ⟨y,rfl,hj.symm⟩
 obtain⟨ρ,hu⟩:=hs.qz;let ρ':Nat->Nat:=fun b=>if ρ b=0 then 0 else match pos o (ρ b-1)with|some j=>j+1|none=>0
 refine⟨κ',Θ',hs.defers,hs.size,?_,?_,?_,?_,?_,?_,?_,hs.stays,ρ',?_,?_,?_⟩
 ·intro i hi;simp only[St.Af,ar]at hi;simp[κ',cB hi]
 ·intro i u uP;simp only[κ']at uP;cases ho:o[i]? with
  |none=>simp[ho]at uP
  |some j=>simp[ho]at uP;exact hs.mw j u uP
 ·intro t;show∃bs,pW w κ' _ (lk (K.map fun t=>(t,(lk st.σ t).QY o)) t) bs/\_;rw[Tt st.σ K (fun d=>d.QY o) t];split
  ·obtain⟨bs,hr,hz⟩:=hs.slot t;exact pW.rn hk vb hr hz
  ·exact⟨[],.of (.any _),by simp⟩
 ·intro j x hj;obtain⟨i,ho,⟨_,rfl⟩|⟨y,hH,rfl⟩⟩:=key j x hj
  ·trivial
  ·have yQ:=hs.ob i y hH;cases y with
   |gone=>trivial
   |hole=>trivial
   |tk rows=>
    obtain⟨v,bs,q1,q2,q3⟩:=yQ;exact⟨v,bs,by rw[hk2 i j ho];exact q1,q2,fun b hb=>vb b (q3 b hb)⟩
   |mp kv=>
    obtain⟨g,es,c,q1,q2,q3,q4⟩:=yQ;exact⟨g,es,c,by rw[hk2 i j ho];exact q1,q2,KJ g i j ho q3,q4⟩
   |uK sz rows u=>
    obtain⟨q1,q0,v,bs,q2,q3,q4,q5⟩:=yQ;exact⟨q1,fun x hx=>by rw[hk2 i j ho];exact q0 x hx,v,bs,by rw[hk2 i j ho];exact q2,q3,q4,fun b hb=>⟨KJ b i j ho (q5 b hb).1,(q5 b hb).2⟩⟩
   |box cells=>
    obtain⟨g,cs,T,q1,q2,q3,bs,q4,q5⟩:=yQ;obtain⟨b',p1,p2⟩:=ey.rn hk vb q4 q5;exact⟨g,cs,T,by rw[hk2 i j ho];exact q1,q2,KJ g i j ho q3,b',p1,p2⟩
   |BQ cells u=>
    obtain⟨q0,g,cs,T,q1,q2,q3,bs,q4,q5⟩:=yQ;obtain⟨b',p1,p2⟩:=ey.rn hk vb q4 q5;exact⟨by rw[hk2 i j ho];exact q0,g,cs,T,by rw[hk2 i j ho];exact q1,q2,KJ g i j ho q3,b',p1,p2⟩
   |row k e sz rows=>
    obtain⟨q1,q2,v,cs,bs,q3,q4,q5,q6,q7⟩:=yQ;refine⟨q1,q2,v,cs,bs,by rw[hk2 i j ho];exact q3,q4,q5,fun g hg=>KJ g i j ho (q6 g hg),?_⟩;cases k with
    |cl=>exact⟨q7.1,fun b hb=>⟨KJ b i j ho (q7.2.1 b hb).1,(q7.2.1 b hb).2⟩,q7.2.2⟩
    |sh=>exact fun b hb=>vb b (q7 b hb)
    |uq=>exact fun b hb=>vb b (q7 b hb)
    |mv n=>exact fun b hb=>vb b (q7 b hb)
 ·intro b hb;exact hs.own b (fun h=>hb (vb b h))
 ·intro b hb hx;obtain⟨h1,h2⟩:=hs.old b hb hx;simp only[Θ'];rw[bN h2];exact⟨h1,h2⟩
 ·intro b hb;refine hs.mine b ?_;simp only[Θ']at hb;split at hb<;>omega
 ·intro b hb;have hb':ρ b≠0:=fun h=>hb (by simp[ρ',h])
  obtain⟨h1,h2⟩:=hu.free b hb';exact⟨vb b h1,h2⟩
 ·intro j e sz rows hj;obtain⟨i,ho,⟨_,h⟩|⟨y,hH,h⟩⟩:=key j _ hj
  ·cases h
  ·have hy:y=.row .uq e sz rows:=by cases y<;>first| (simp only[Ob.rn]at h;exact h.symm)|cases h
   subst hy;obtain⟨v,cs,bs,q1,q2,q3,q4,q5⟩:=hu.rows i e sz rows hH;refine⟨v,cs,bs,by rw[hk2 i j ho];exact q1,q2,q3,q4,fun b hb=>?_⟩;simp only[ρ'];rw[q5 b hb,b9 (by omega),wv,P6 hnd ho]
 ·intro j x hj;obtain⟨i,ho,⟨_,h⟩|⟨y,hH,h⟩⟩:=key j _ hj
  ·subst h;trivial
  ·have hm:=hu.more i y hH;have a1o:∀b,ρ b=i+1->ρ' b=j+1:=fun b hb=>by
    simp only[ρ'];rw[hb,b9 (by omega),wv,P6 hnd ho]
   subst h;cases y with
   |tk rows=>
    obtain⟨v,bs,q1,q2,q3,q4⟩:=hm;exact⟨v,bs,by rw[hk2 i j ho];exact q1,q2,q3,fun b hb=>a1o b (q4 b hb)⟩
   |row k e sz rows=>
    cases k with
    |mv n=>
     obtain⟨v,cs,bs,q1,q2,q3,q4,q5⟩:=hm;exact⟨v,cs,bs,by rw[hk2 i j ho];exact q1,q2,q3,q4,fun b hb=>a1o b (q5 b hb)⟩
    |_=>trivial
   |_=>trivial
end
end Go.Cx
namespace Go.Cx
open Go.RowKit
abbrev Rw:=Nat×List (List D)
def Rw.ob(x:Rw)(v:Option Value):Ob:=.uK x.1 x.2 v
def E0(w:World)(κ:Nat->Option Value):Nat->List Rw->aS->Prop
 |_,[],us=>us=[]
 |n,x::xs,us=>∃v bs Yb,κ n=some v/\(∀r∈x.2,r.length=x.1)/\Rd w v (.sl x.2) bs/\us=bs++Yb/\E0 w κ (n+1) xs Yb
def XV(P:Program)(f:FuncId)(ds:aL)(ins outs:List Rw)(d:D):Prop:=
 (∃fn,P.funcs[f]?=some fn/\fn.body.isSome=true/\(fn.name== "runtime.NumGoroutine")=false)/\outs.length=ins.length/\d.flat=true/\
 ∀(w:World) (κ:Nat->Option Value) (args:bp) (us:aS),K9 w (fun b=>b∈us)->args.length=ds.length->(∀(i:Nat) d,ds[i]?=some d->∃v,args[i]?=some v/\pW w κ v d [])->
  (∀i,ins.length<=i->κ i=none)->(∀(i:Nat) u,κ i=some u->u.oneCell'=true)->E0 w κ 0 ins us->us.Nodup->(∀b∈us,Wr w b)->
  Calls P f args.toArray w (fun e w'=>∃v Yb,e=.returned v/\Rd w' v d []/\E0 w' κ 0 outs Yb/\Yb.Nodup/\(∀b∈Yb,(b∈us\/w.heap.size<=b)/\Wr w' b)/\
   w'.os=w.os/\w'.tape=w.tape/\w'.output=w.output/\w.heap.size<=w'.heap.size/\∀b,b<w.heap.size->b∉us->w'.heap[b]?=w.heap[b]?)
section
variable{P:Program}{Γ:sO}{Q:Exit->St->Prop}{st:St}{κ κ':Nat->Option Value}{Θ Θ':Nat->Nat}{a:Act}{w w':World}{all:Array Oper}{rest:List Oper}
theorem E0.parts:∀ {xs:List Rw} {n:Nat} {us:aS},E0 w κ n xs us->∃L:List aS,L.length=xs.length/\us=L.flatten/\∀(i:Nat) x bs,xs[i]?=some x->L[i]?=some bs->∃v,κ (n+i)=some v/\(∀r∈x.2,r.length=x.1)/\Rd w v (.sl x.2) bs:=by
 intro xs
 induction xs with
 |nil=>intro n us h;exact⟨[],rfl,by simpa[E0]using h,by simp⟩
 |cons y ys ih=>
  intro n us h;obtain⟨v,bs,Yb,h1,h2,h3,rfl,h5⟩:=h;obtain⟨L,q1,rfl,q3⟩:=ih h5;refine⟨bs::L,by simp[q1],by simp,?_⟩;intro i x b hx hb;cases i with
  |zero=>simp at hx hb;subst hx;subst hb;exact⟨v,h1,h2,h3⟩
  |succ i=>
   simp at hx hb;obtain⟨v',r1,r2,r3⟩:=q3 i x b hx hb;exact⟨v',by rw[<-r1];congr 1;omega,r2,r3⟩
theorem E0.of:∀ {xs:List Rw} {n:Nat} {L:List aS},L.length=xs.length->(∀(i:Nat) x bs,xs[i]?=some x->L[i]?=some bs->∃v,κ (n+i)=some v/\(∀r∈x.2,r.length=x.1)/\Rd w v (.sl x.2) bs)->E0 w κ n xs L.flatten:=by
 intro xs
 induction xs with
 |nil=>
  intro n L hl _;have:L=[]:=cM (by simpa using hl);subst this;rfl
 |cons y ys ih=>
  intro n L hl h;cases L with
  |nil=>simp at hl
  |cons bs L=>
   obtain⟨v,h1,h2,h3⟩:=h 0 y bs rfl rfl;refine⟨v,bs,L.flatten,h1,h2,h3,by simp,ih (by simpa using hl) ?_⟩;intro i x b hx hb;obtain⟨v',r1,r2,r3⟩:=h (i+1) x b (by simpa using hx) (by simpa using hb);exact⟨v',by rw[<-r1];congr 1;omega,r2,r3⟩
theorem dH.forget(hs:dH Γ st κ Θ a w)(ms:aS):dH Γ ⟨st.σ,kill st.H ms⟩ κ (fun b=>if ms.any (fun m=>Θ b==m+2)then st.H.length+2 else Θ b) a w:=by
 have h0:∀b,Θ b=0->(if ms.any (fun m=>Θ b==m+2)then st.H.length+2 else Θ b)=0:=by
  intro b hb;rw[b9,hb];intro h;obtain⟨m,_,hm⟩:=cP.1 h;simp[hb]at hm
 have hk:∀(j:Nat) o,(kill st.H ms)[j]?=some o->o=.gone\/(j∉ms/\st.H[j]?=some o):=fun j o h=>mj h
 have hold:∀b j,j∉ms->Θ b=j+2->(if ms.any (fun m=>Θ b==m+2)then st.H.length+2 else Θ b)=j+2:=by
  intro b j hj hb;rw[b9,hb];intro h;obtain⟨m,hm,he⟩:=cP.1 h;simp only[hb,cQ]at he;exact hj (by
   have:j=m:=by omega
   rw[this];exact hm)
 obtain⟨ρ,hu⟩:=hs.qz;refine⟨hs.defers,hs.size,fun i hi=>hs.ni i (by simpa[fH]using hi),hs.mw,?_,?_,?_,?_,?_,hs.stays,ρ,?_,?_,?_⟩
 ·intro t;obtain⟨bs,hr,hz⟩:=hs.slot t;exact⟨bs,hr,fun b hb=>h0 b (hz b hb)⟩
 ·intro j o hj;rcases hk j o hj with rfl|⟨hn,hj'⟩
  ·trivial
  ·have yQ:=hs.ob j o hj';cases o with
   |gone=>trivial
   |tk rows=>
    obtain⟨v,bs,q1,q2,q3⟩:=yQ;exact⟨v,bs,q1,q2,fun b hb=>h0 b (q3 b hb)⟩
   |box cells=>
    obtain⟨g,cs,T,q1,q2,q3,bs,q4,q5⟩:=yQ;exact⟨g,cs,T,q1,q2,hold g j hn q3,bs,q4,fun b hb=>h0 b (q5 b hb)⟩
   |BQ cells u=>
    obtain⟨q0,g,cs,T,q1,q2,q3,bs,q4,q5⟩:=yQ;exact⟨q0,g,cs,T,q1,q2,hold g j hn q3,bs,q4,fun b hb=>h0 b (q5 b hb)⟩
   |row k e sz rows=>
    obtain⟨q1,q2,v,cs,bs,q3,q4,q5,q6,q7⟩:=yQ;refine⟨q1,q2,v,cs,bs,q3,q4,q5,fun g hg=>hold g j hn (q6 g hg),?_⟩;cases k with
    |cl=>exact⟨q7.1,fun b hb=>⟨hold b j hn (q7.2.1 b hb).1,(q7.2.1 b hb).2⟩,q7.2.2⟩
    |sh=>exact fun b hb=>h0 b (q7 b hb)
    |uq=>exact fun b hb=>h0 b (q7 b hb)
    |mv n=>exact fun b hb=>h0 b (q7 b hb)
   |uK sz rows u=>
    obtain⟨q1,q0,v,bs,q2,q3,q4,q5⟩:=yQ;exact⟨q1,q0,v,bs,q2,q3,q4,fun b hb=>⟨hold b j hn (q5 b hb).1,(q5 b hb).2⟩⟩
   |hole sz rows u p n=>
    obtain⟨q1,q0,v,bs,q2,q3,q4,q5⟩:=yQ;exact⟨q1,q0,v,bs,q2,q3,q4,fun b hb=>⟨hold b j hn (q5 b hb).1,(q5 b hb).2⟩⟩
   |mp kv=>
    obtain⟨g,es,c,q1,q2,q3,q4⟩:=yQ;exact⟨g,es,c,q1,q2,hold g j hn q3,q4⟩
 ·intro b hb;refine hs.own b fun h=>hb ?_
  exact h0 b h
 ·intro b hb hx;obtain⟨h1,h2⟩:=hs.old b hb hx;have:(if ms.any (fun m=>Θ b==m+2)then st.H.length+2 else Θ b)=Θ b:=by
   rw[b9];intro h;obtain⟨m,_,hm⟩:=cP.1 h;simp only[cQ]at hm;omega
  show(if ms.any (fun m=>Θ b==m+2)then st.H.length+2 else Θ b)=_/\(if ms.any (fun m=>Θ b==m+2)then st.H.length+2 else Θ b)<=1;rw[this];exact⟨h1,h2⟩
 ·intro b hb;refine hs.mine b ?_;by_cases h:ms.any (fun m=>Θ b==m+2)=true
  ·obtain⟨m,_,hm⟩:=cP.1 h;simp only[cQ]at hm;omega
  ·simp only[h]at hb;simpa using hb
 ·intro b hb;obtain⟨h1,h2⟩:=hu.free b hb;exact⟨h0 b h1,h2⟩
 ·intro id e sz rows hj;rcases hk id _ hj with h|⟨_,h⟩
  ·cases h
  ·exact hu.rows id e sz rows h
 ·intro id o hj;rcases hk id _ hj with h|⟨_,h⟩
  ·subst h;trivial
  ·exact hu.more id o h
def lv(H:bP)(m:Nat):Option Value:=match H[m]? with|some (.uK _ _ v)=>v|_=>none
def M9:bP->aS->List Rw->bP
 |H,m::ms,x::xs=>M9 (H.set m (x.ob (lv H m))) ms xs
 |H,_,_=>H
theorem I3:∀(H:bP) (ms:aS) (xs:List Rw),(M9 H ms xs).length=H.length:=by
 intro H ms
 induction ms generalizing H with
 |nil=>intro xs;cases xs<;>rfl
 |cons m ms ih=>intro xs;cases xs with|nil=>rfl|cons x xs=>simp[M9,ih]
theorem UD:∀ {H:bP} {ms:aS} {xs:List Rw} {j:Nat} {y:Ob},ms.Nodup->xs.length=ms.length->(M9 H ms xs)[j]?=some y->(∃(i:Nat) (x:Rw),ms[i]?=some j/\xs[i]?=some x/\y=x.ob (lv H j))\/(j∉ms/\H[j]?=some y):=by
 intro H ms
 induction ms generalizing H with
 |nil=>intro xs j y _ _ h;cases xs<;>exact .inr ⟨by simp,h⟩
 |cons m ms ih=>
  intro xs j y hnd hl h;cases xs with
  |nil=>simp at hl
  |cons x xs=>
   obtain⟨n1,n2⟩:=ed.1 hnd;rcases ih n2 (by simpa using hl) h with⟨i,z,h1,h2,h3⟩|⟨h1,h2⟩
   ·refine .inl ⟨i+1,z,by simpa using h1,by simpa using h2,?_⟩;rw[h3];have hne:m≠j:=fun e=>n1 (by rw[e];exact aD h1)
    simp only[lv,bu hne]
   ·rcases wX j y h2 with⟨rfl,rfl⟩|⟨h3,h4⟩
    ·exact .inl ⟨0,x,rfl,rfl,rfl⟩
    ·exact .inr ⟨by simp[h1,h3],h4⟩
def JR(H:bP):aS->Option (List Rw)
 | []=>some []
 |m::ms=>match H[m]?,JR H ms with|some (.uK sz rows _),some xs=>some ((sz,rows)::xs)|_,_=>none
theorem Oo{H:bP}:∀ {ms:aS} {xs:List Rw},JR H ms=some xs->xs.length=ms.length/\∀(i m:Nat) x,ms[i]?=some m->xs[i]?=some x->∃v,H[m]?=some (x.ob v):=by
 intro ms
 induction ms with
 |nil=>intro xs h;cases h;simp
 |cons m ms ih=>
  intro xs h;simp only[JR]at h;split at h
  ·rename_i sz rows u ys h1 h2;cases h;obtain⟨q1,q2⟩:=ih h2;refine⟨by simp[q1],?_⟩;intro i m' x hm hx;cases i with
   |zero=>simp at hm hx;subst hm;subst hx;exact⟨u,h1⟩
   |succ i=>exact q2 i m' x (by simpa using hm) (by simpa using hx)
  ·cases h
def D.E2(d:D):Bool:=match d with
 | .acc _=>true
 |d=>d.flat
def D.bare(d:D):Bool:=match d with
 | .agg cs=>cs.all D.E2
 |d=>d.E2
theorem wZ.IV{v:Value}{d:D}{bs:aS}(h:wZ w κ v d bs)(hf:d.E2=true):bs=[]:=by
 cases h with
 |pure h=>
  refine h.flat ?_;cases h<;>exact hf
 |_=>rfl
theorem ey.IV{vs:bp}{ds:aL}{bs:aS}(h:ey w κ vs ds bs)(hf:ds.all D.E2=true):bs=[]:=by
 induction h with
 |nil=>rfl
 |cons v vs d ds b1 b2 h1 h2 _ ih=>
  simp only[dh,aY]at hf;rw[h2.IV hf.1,ih hf.2];rfl
theorem pW.Pp{v:Value}{d:D}{bs:aS}(h:pW w κ v d bs)(hf:d.bare=true):bs=[]:=by
 cases h with
 |v h=>
  cases h with
  |cell h=>
   cases h with
   |pure h=>
    cases h with
    |agg cs ds _ h=>exact ey.IV (ey.Am (κ:=κ) h) hf
    |_=>first|rfl|exact absurd hf (by simp[D.bare,D.E2,D.flat])
   |_=>rfl
  |agg cs ds bs h=>exact h.IV hf
 |iK=>simp[D.bare,D.E2,D.flat]at hf
theorem D.Sb(o:aS){c:D}(h:c.E2=true):(c.QX o).E2=true:=by
 cases c with
 |acc m=>simp only[D.QX];cases pos o m<;>rfl
 |_=>first|exact h| (simp[D.E2,D.flat]at h)
theorem D.Pq(o:aS){d:D}(h:d.bare=true):(d.QY o).bare=true:=by
 cases d with
 |agg cs=>
  simp only[D.QY,D.YP,D.bare,FG]at h⊢;rw[aj]at h⊢;intro c hcm;exact D.Sb o (h c hcm)
 |acc m=>simp only[D.QY,D.YP,D.QX];cases pos o m<;>rfl
 |_=>first|exact h| (simp[D.bare,D.E2,D.flat]at h)
theorem N6{L:List aS}(h:L.flatten.Nodup):∀(i j:Nat) x y b,L[i]?=some x->L[j]?=some y->b∈x->b∈y->i=j:=by
 intro i j x y b hi hj hx hy;have:=tY (f:=fun l:aS=>l) (l:=L) (by simpa[List.flatMap_id]using h);exact this i j x y b hi hj hx hy
theorem OS{L:List aS}(h:L.flatten.Nodup):∀x∈L,x.Nodup:=by
 induction L with
 |nil=>intro x hx;cases hx
 |cons y L ih=>
  intro x hx;simp only[eC]at h;obtain⟨h1,h2,_⟩:=bD.1 h;rcases bH.1 hx with rfl|hx
  ·exact h1
  ·exact ih h2 x hx
theorem KM:∀ {L:List aS},(∀x∈L,x.Nodup)->(∀(i j:Nat) x y b,L[i]?=some x->L[j]?=some y->b∈x->b∈y->i=j)->L.flatten.Nodup:=by
 intro L
 induction L with
 |nil=>intro _ _;simp
 |cons y L ih=>
  intro h1 h2;simp only[eC];refine bD.2 ⟨h1 y (by simp),ih (fun x hx=>h1 x (by simp[hx])) (fun i j x z b hi hj hx hz=>?_),?_⟩
  ·have:=h2 (i+1) (j+1) x z b (by simpa using hi) (by simpa using hj) hx hz;omega
  ·intro b hb c hc e;subst e;obtain⟨x,hx,yy⟩:=fN.1 hc;obtain⟨j,hj⟩:=di hx;have:=h2 0 (j+1) y x b rfl (by simpa using hj) hb yy;omega
theorem SK{o:Oper}{f t:Nat}{xs:Array Operand}{ts:Array TypeId}{ms:aS}{ins outs:List Rw}{d:D}(hop:o.op=.call {callee:=.value (.func f),args:=xs,argTypes:=ts})(hd:o.dst=some t)(hg:o.guard=none)
 (ht:t<Γ.nt) (hnd:ms.Nodup) (hins:JR st.H ms=some ins) (hb:((xs.toList.map st.ev).all D.bare)=true) (mD:XV P f ((xs.toList.map st.ev).map (D.QY ms)) ins outs d)
 (h:AO P Γ all rest Q ⟨(t,d)::st.σ,M9 st.H ms outs⟩):AO P Γ all (o::rest) Q st:=by
 intro κ Θ a w hs;obtain⟨O7,hig⟩:=Oo hins;obtain⟨hfn,hol,hfl,a1I⟩:=mD;let κc:Nat->Option Value:=fun j=>(ms[j]?).bind κ
 have hkc:∀(i m:Nat),ms[i]?=some m->κc i=κ m:=fun i m h=>by simp[κc,h]
 have yQ:∀(i m:Nat) x,ms[i]?=some m->ins[i]?=some x->∃v bs,κ m=some v/\(∀r∈x.2,r.length=x.1)/\Rd w v (.sl x.2) bs/\bs.Nodup/\∀b∈bs,Θ b=m+2/\Wr w b:=by
  intro i m x hm hx;obtain⟨u,hu⟩:=hig i m x hm hx;obtain⟨q1,_,v,bs,q2,q3,q4,q5⟩:=hs.ob m _ hu;exact⟨v,bs,q2,q1,q3,q4,q5⟩
 have hL:∃L:List aS,L.length=ins.length/\∀(i m:Nat) x bs,ms[i]?=some m->ins[i]?=some x->L[i]?=some bs->(∃v,κ m=some v/\(∀r∈x.2,r.length=x.1)/\Rd w v (.sl x.2) bs)/\bs.Nodup/\∀b∈bs,Θ b=m+2/\Wr w b:=by
  have key:∀(ms:aS) (ins:List Rw),ins.length=ms.length->(∀(i m:Nat) x,ms[i]?=some m->ins[i]?=some x->∃v bs,κ m=some v/\(∀r∈x.2,r.length=x.1)/\Rd w v (.sl x.2) bs/\bs.Nodup/\∀b∈bs,Θ b=m+2/\Wr w b)->
   ∃L:List aS,L.length=ins.length/\∀(i m:Nat) x bs,ms[i]?=some m->ins[i]?=some x->L[i]?=some bs->(∃v,κ m=some v/\(∀r∈x.2,r.length=x.1)/\Rd w v (.sl x.2) bs)/\bs.Nodup/\∀b∈bs,Θ b=m+2/\Wr w b:=by
   intro ms
   induction ms with
   |nil=>intro ins hl _;exact⟨[],by simpa using hl.symm,by simp⟩
   |cons m ms ih=>
    intro ins hl yQ;cases ins with
    |nil=>simp at hl
    |cons x ins=>
     obtain⟨L,q1,q2⟩:=ih ins (by simpa using hl) (fun i m' x' hm hx=>yQ (i+1) m' x' (by simpa using hm) (by simpa using hx));obtain⟨v,bs,r1,r2,r3,r4,r5⟩:=yQ 0 m x rfl rfl;refine⟨bs::L,by simp[q1],?_⟩;intro i m' x' b hm hx hb;cases i with
     |zero=>simp at hm hx hb;subst hm;subst hx;subst hb;exact⟨⟨v,r1,r2,r3⟩,r4,r5⟩
     |succ i=>exact q2 i m' x' b (by simpa using hm) (by simpa using hx) (by simpa using hb)
  exact key ms ins O7 yQ
 obtain⟨L,hLl,Yy⟩:=hL;have ZB:∀(i:Nat) bs,L[i]?=some bs->∃m x,ms[i]?=some m/\ins[i]?=some x:=by
  intro i bs hb';have hlt:=(aE.1 hb').1;exact⟨_,_,aV (by omega),aV (by omega)⟩
 have hmem:∀b∈L.flatten,∃m∈ms,Θ b=m+2:=by
  intro b hb';obtain⟨x,hx,yy⟩:=fN.1 hb';obtain⟨i,hi⟩:=di hx;obtain⟨m,y,h1,h2⟩:=ZB i x hi;exact⟨m,aD h1,((Yy i m y x h1 h2 hi).2.2 b yy).1⟩
 have qy:L.flatten.Nodup:=by
  refine KM (fun x hx=>?_) (fun i j x y b hi hj hx hy=>?_)
  ·obtain⟨i,hi⟩:=di hx;obtain⟨m,y,h1,h2⟩:=ZB i x hi;exact(Yy i m y x h1 h2 hi).2.1
  ·obtain⟨m1,y1,h1,h2⟩:=ZB i x hi;obtain⟨m2,y2,h3,h4⟩:=ZB j y hj;have e1:=((Yy i m1 y1 x h1 h2 hi).2.2 b hx).1;have e2:=((Yy j m2 y2 y h3 h4 hj).2.2 b hy).1;have:m1=m2:=by omega
   subst this;exact Ku hnd i j m1 h1 h3
 have Z9:E0 w κc 0 ins L.flatten:=E0.of hLl (fun i x bs hx hb'=>by
  obtain⟨m,y,h1,h2⟩:=ZB i bs hb';rw[hx]at h2;cases h2;obtain⟨⟨v,q1,q2,q3⟩,_⟩:=Yy i m x bs h1 hx hb';exact⟨v,by rw[cv,hkc i m h1];exact q1,q2,q3⟩)
 have hwr:∀b∈L.flatten,Wr w b:=by
  intro b hb';obtain⟨x,hx,yy⟩:=fN.1 hb';obtain⟨i,hi⟩:=di hx;obtain⟨m,y,h1,h2⟩:=ZB i x hi;exact((Yy i m y x h1 h2 hi).2.2 b yy).2
 have hargs:∀(i:Nat) d,((xs.toList.map st.ev).map (D.QY ms))[i]?=some d->∃v,(xs.toList.map a.eval)[i]?=some v/\pW w κc v d []:=by
  intro i d FC;rw[bU,bU]at FC;cases hx:xs.toList[i]? with
  |none=>rw[hx]at FC;cases FC
  |some x=>
   rw[hx]at FC;simp only[cI,ah]at FC;subst FC;refine⟨a.eval x,by rw[bU,hx];rfl,?_⟩;obtain⟨bs,r,hz⟩:=hs.ev x;have Sv:(st.ev x).bare=true:=aj.1 hb _ (cJ.2 ⟨x,aD hx,rfl⟩);obtain⟨b',r',_⟩:=pW.rn (o:=ms) (κ':=κc) (Θ:=fun _=>0) (Θ':=fun _=>0) (fun i j v h1 h2=>by simp[κc,M8 h1,h2]) (fun _ _=>rfl) r (fun _ _=>rfl);have:=r'.Pp (D.Pq ms Sv);subst this;exact r'
 have Li:K9 w fun b=>b∈L.flatten:=by
  obtain⟨B,v1,v2⟩:=hs.vsb;refine⟨B,v1,fun b hB=>⟨(v2 b hB).2.1,fun hb'=>?_⟩⟩;obtain⟨x,hx,yy⟩:=fN.1 hb';obtain⟨i,hi⟩:=di hx;obtain⟨m,y,h1,h2⟩:=ZB i x hi;have e1:=((Yy i m y x h1 h2 hi).2.2 b yy).1;rcases hs.mine b (by omega)with q|q
  ·have:=(v2 b hB).1;omega
  ·exact(v2 b hB).2.2 q
 have hc:=a1I w κc (xs.toList.map a.eval) L.flatten Li (by simp) hargs (fun i hi=>by simp[κc,cB (by omega:ms.length<=i)]) (fun i u hu=>by
  simp only[κc]at hu;cases hm:ms[i]? with
  |none=>rw[hm]at hu;cases hu
  |some m=>rw[hm]at hu;exact hs.mw m u hu) Z9 qy hwr
 refine wpList_plain hg fun K hK=>?_
 unfold Oper.wp;rw[uN hop hfn,Oper.upon_enter];have e:xs.map a.eval=(xs.toList.map a.eval).toArray:=by rw[<-gG,jN]
 rw[e];refine hc.mono ?_;rintro e w' ⟨v,Yb,rfl,hv,hl',Ds,KF,k1,k2,k3,k4,k5⟩;show K (a.put o.dst v) w';rw[hd];obtain⟨L',a6f,rfl,a44⟩:=hl'.parts;have a78:∀(i:Nat) bs,L'[i]?=some bs->∃m x,ms[i]?=some m/\outs[i]?=some x:=by
  intro i bs hb';have hlt:=(aE.1 hb').1;exact⟨_,_,aV (by omega),aV (by omega)⟩
 have hs1:=hs.forget ms;let Θ1:Nat->Nat:=fun b=>if ms.any (fun m=>Θ b==m+2)then st.H.length+2 else Θ b
 have a1n:∀b,b∈L.flatten->Θ1 b=st.H.length+2:=by
  intro b hb';obtain⟨m,hm,he⟩:=hmem b hb';simp only[Θ1];rw[bN (cP.2 ⟨m,hm,by simp[he]⟩)]
 let Θ2:Nat->Nat:=fun b=>match ix (fun x:aS=>x.contains b) L' with|some i=>(match ms[i]? with|some m=>m+2|none=>1)|none=>if Θ1 b=st.H.length+2 then 1 else Θ1 b
 have a55:∀(i m:Nat) bs b,ms[i]?=some m->L'[i]?=some bs->b∈bs->Θ2 b=m+2:=by
  intro i m bs b hm hi hb';have:ix (fun x:aS=>x.contains b) L'=some i:=CU hi (by simpa using hb') (fun j y hj hy=>N6 Ds j i y bs b hj hi (by simpa using hy) hb');simp only[Θ2,this,hm]
 have TR:∀b,b∉L'.flatten->Θ2 b=if Θ1 b=st.H.length+2 then 1 else Θ1 b:=by
  intro b hb';simp only[Θ2];cases h:ix (fun x:aS=>x.contains b) L' with
  |none=>rfl
  |some i=>
   obtain⟨x,hx,hp⟩:=wU h;exact absurd (fN.2 ⟨x,aD hx,by simpa using hp⟩) hb'
 have hlt':∀b∈L'.flatten,b<w'.heap.size:=fun b hb'=>by
  obtain⟨cs,T,hx⟩:=(KF b hb').2;exact(az.1 hx).1
 have kk:hY w w' Θ1 Θ2 (st.H.length+2):=by
  refine⟨by omega,k1,k2,k3,k4,fun b hlt hne=>k5 b hlt fun hb'=>hne (a1n b hb'),fun b hlt hne=>?_,fun b hb'=>?_⟩
  ·by_cases hin:b∈L'.flatten
   ·rcases(KF b hin).1 with h'|h'
    ·exact absurd (a1n b h') hne
    ·omega
   ·rw[TR b hin,b9 hne]
  ·by_cases hin:b∈L'.flatten
   ·exact hlt' b hin
   ·rw[TR b hin]at hb';refine cz (hs1.own b ?_) k4;intro h0;have h0':Θ1 b=0:=h0;rw[h0']at hb';rw[b9 (by omega)]at hb';exact hb' rfl
 have hm2:∀b,2<=Θ2 b->vg Γ b:=by
  intro b hb';by_cases hin:b∈L'.flatten
  ·rcases(KF b hin).1 with h'|h'
   ·obtain⟨m,_,he⟩:=hmem b h';exact hs.mine b (by omega)
   ·exact .inl (dK hs.base h')
  ·rw[TR b hin]at hb';split at hb'
   ·omega
   ·exact hs1.mine b hb'
 obtain⟨ρ,hu⟩:=hs1.qz;have ZI:=hs1.mm kk (κ':=κ) (fun _ _ h=>h) hu;have hkl:(kill st.H ms).length=st.H.length:=fH _ _;have hpk:∀(j:Nat) y,(M9 st.H ms outs)[j]?=some y->(∃(i:Nat) (x:Rw),ms[i]?=some j/\outs[i]?=some x/\y=x.ob (lv st.H j))\/(j∉ms/\(kill st.H ms)[j]?=some y):=by
  intro j y hj;rcases UD hnd (by omega) hj with h'|⟨h1,h2⟩
  ·exact .inl h'
  ·exact .inr ⟨h1,by rw[fW h1];exact h2⟩
 have JE:∀(j:Nat) y,(M9 st.H ms outs)[j]?=some y->j+2≠st.H.length+2:=fun j y hj=>by
  have:=(aE.1 hj).1;rw[I3]at this;omega
 have hs2:dH Γ ⟨st.σ,M9 st.H ms outs⟩ κ Θ2 a w':=by
  refine hs1.step kk hm2 (fun _ _ h=>h) (fun i hi=>hs.ni i (by rw[I3]at hi;exact hi)) hs.mw ?_ ⟨ρ,ZI.1,?_,?_⟩
  ·intro j y hj;have hjl:=JE j y hj;rcases hpk j y hj with⟨i,x,h1,h2,rfl⟩|⟨_,h2⟩
   ·right;right
    have hbi:∃bs,L'[i]?=some bs:=⟨_,aV (by have:=(aE.1 h2).1;omega)⟩
    obtain⟨bs,hbi⟩:=hbi;obtain⟨v',q1,q2,q3⟩:=a44 i x bs h2 hbi;rw[cv,hkc i j h1]at q1;refine⟨q2,fun x hx=>?_,v',bs,q1,q3,OS Ds bs (aD hbi),fun b hb'=>⟨a55 i j bs b h1 hbi hb',(KF b (fN.2 ⟨bs,aD hbi,hb'⟩)).2⟩⟩;unfold lv at hx;split at hx
    ·rename_i sz0 a67 u0 hH0;subst hx;obtain⟨_,q0,_⟩:=hs.ob j _ hH0;exact q0 x rfl
    ·cases hx
   ·exact .inr (.inl ⟨hjl,h2⟩)
  ·intro id e' sz' cr hj;have hjl:=JE id _ hj;rcases hpk id _ hj with⟨i,x,h1,h2,h3⟩|⟨_,h2⟩
   ·simp[Rw.ob]at h3
   ·exact ZI.2.1 id e' sz' cr hjl h2
  ·intro id y hj;have hjl:=JE id _ hj;rcases hpk id _ hj with⟨i,x,h1,h2,h3⟩|⟨_,h2⟩
   ·subst h3;exact Hp.uo rfl
   ·exact ZI.2.2 id y hjl h2
 have qC:pW w' κ v d []:=.of hv;exact hK _ _ (h κ Θ2 _ w' (hs2.set (t:=t) ht qC (by simp)))
def Ob.close:Ob->Ob
 | .row _ _ sz rows=>.uK sz rows none
 |o=>o
theorem dH.RO(hs:dH Γ st κ Θ a w)(hb:Below w.heap.size w w')(L:mc)(hL:∀x∈L,x.ok w')(hnd:(L.flatMap Fs.bl).Nodup)(hfr:∀b∈L.flatMap Fs.bl,w.heap.size<=b/\Wr w' b):
 ∃κ' Θ',dH Γ ⟨st.σ,st.H++(L.map Fs.ob).map Ob.close⟩ κ' Θ' a w'/\Names κ' st.H.length L:=by
 let n:=st.H.length
 let κ':Nat->Option Value:=fun j=>if j<n\/n+L.length<=j then κ j else(L[j-n]?).map Fs.v
 let Θ':Nat->Nat:=fun b=>match ix (fun x:Fs=>x.bl.contains b) L with|some i=>n+i+2|none=>Θ b
 have hu1:∀(i j:Nat) x y b,L[i]?=some x->L[j]?=some y->b∈x.bl->b∈y.bl->i=j:=fun i j x y b=>tY hnd i j x y b
 have hts:∀(i:Nat) x b,L[i]?=some x->b∈x.bl->Θ' b=n+i+2:=by
  intro i x b hi S9;have:ix (fun x:Fs=>x.bl.contains b) L=some i:=CU hi (by simpa using S9) (fun j y hj hy=>hu1 j i y x b hj hi (by simpa using hy) S9);simp only[Θ',this]
 have hno:∀b,b∉L.flatMap Fs.bl->Θ' b=Θ b:=by
  intro b hb';simp only[Θ'];cases h:ix (fun x:Fs=>x.bl.contains b) L with
  |none=>rfl
  |some i=>
   obtain⟨x,hx,hp⟩:=wU h;exact absurd (bq.2 ⟨x,aD hx,by simpa using hp⟩) hb'
 have hold:∀b,b<w.heap.size->Θ' b=Θ b:=fun b hlt=>hno b (fun h=>by have:=(hfr b h).1;omega)
 have hn:∀(j:Nat) v,κ j=some v->κ' j=some v:=by
  intro j v hj;have:j<n:=by
   rcases dX j n with h|h
   ·exact h
   ·have:=hs.ni j h;rw[hj]at this;cases this
  simp only[κ'];rw[bN (.inl this)];exact hj
 have tJ:Names κ' n L:=by
  intro i x hx;have hlt:=(aE.1 hx).1;simp only[κ'];rw[b9 (by omega),cq,hx];rfl
 have hlen:(st.H++(L.map Fs.ob).map Ob.close).length=n+L.length:=by simp[n]
 have k:hY w w' Θ Θ' (n+L.length+2):=by
  refine⟨by omega,hb.os,hb.tape,hb.output,hb.size,fun b hlt _=>hb.block b hlt,fun b hlt _=>hold b hlt,fun b h=>?_⟩;by_cases hin:b∈L.flatMap Fs.bl
  ·obtain⟨cs,T,hx⟩:=(hfr b hin).2;exact(az.1 hx).1
  ·rw[hno b hin]at h;exact cz (hs.own b h) hb.size
 have hm:∀b,2<=Θ' b->vg Γ b:=by
  intro b h;by_cases hin:b∈L.flatMap Fs.bl
  ·exact .inl (dK hs.base (hfr b hin).1)
  ·rw[hno b hin]at h;exact hs.mine b h
 have key:∀(j:Nat) y,(st.H++(L.map Fs.ob).map Ob.close)[j]?=some y->(∃i x,j=n+i/\L[i]?=some x/\y=.uK x.sz x.rows none)\/(j<n/\st.H[j]?=some y):=by
  intro j y hj;by_cases hlt:j<st.H.length
  ·rw[aq hlt]at hj;exact .inr ⟨hlt,hj⟩
  ·rw[ax (by omega),bU,bU]at hj;cases hx:L[j-st.H.length]? with
   |none=>simp[hx]at hj
   |some x=>simp[hx]at hj;exact .inl ⟨j-st.H.length,x,by omega,hx,hj.symm⟩
 have JE:∀(j:Nat) y,(st.H++(L.map Fs.ob).map Ob.close)[j]?=some y->j+2≠n+L.length+2:=fun j y hj=>by
  have:=(aE.1 hj).1;omega
 obtain⟨ρ,hu⟩:=hs.qz;have qy:=hs.mm k hn hu;refine⟨κ',Θ',hs.step k hm hn (fun i hi=>?_) (fun i u uP=>?_) (fun j y hj=>?_) ⟨ρ,qy.1,fun id e sz rows hj=>?_,fun id y hj=>?_⟩,tJ⟩
 ·rw[hlen]at hi;simp only[κ'];rw[bN (by omega)];exact hs.ni i (by omega)
 ·simp only[κ']at uP;split at uP
  ·exact hs.mw i u uP
  ·cases hx:L[i-n]? with
   |none=>simp[hx]at uP
   |some x=>simp[hx]at uP;subst uP;exact(hL x (aD hx)).2.2.2.2
 ·have hjl:=JE j y hj;rcases key j y hj with⟨i,x,rfl,hx,rfl⟩|⟨hlt,hy⟩
  ·right;right
   obtain⟨q1,q2,q3,q4,_⟩:=hL x (aD hx);have HU:x.bl.Nodup:=by
    have:∀(l:mc),(l.flatMap Fs.bl).Nodup->∀x∈l,x.bl.Nodup:=by
     intro l
     induction l with
     |nil=>intro _ x hx;cases hx
     |cons z r ih=>
      intro hnd x hx;simp only[ei]at hnd;obtain⟨n1,n2,_⟩:=bD.1 hnd;rcases bH.1 hx with rfl|hx
      ·exact n1
      ·exact ih n2 x hx
    exact this L hnd x (aD hx)
   exact⟨q2,by simp,x.v,x.bl,tJ i x hx,tK q2 q3 q4,HU,fun b hb'=>⟨hts i x b hx hb',(hfr b (bq.2 ⟨x,aD hx,hb'⟩)).2⟩⟩
  ·exact .inr (.inl ⟨hjl,hy⟩)
 ·have hjl:=JE id _ hj;rcases key id _ hj with⟨i,x,_,_,h⟩|⟨hlt,hy⟩
  ·cases h
  ·exact qy.2.1 id e sz rows hjl hy
 ·have hjl:=JE id _ hj;rcases key id _ hj with⟨i,x,_,_,h⟩|⟨hlt,hy⟩
  ·subst h;exact Hp.uo rfl
  ·exact qy.2.2 id y hjl hy
theorem SD{o:Oper}{f t:Nat}{xs:Array Operand}{ts:Array TypeId}{ds:aL}{ms:aS}{d:D}(hop:o.op=.call {callee:=.value (.func f),args:=xs,argTypes:=ts})(hd:o.dst=some t)(hg:o.guard=none)
 (ht:t<Γ.nt) (hds:Du st.H (xs.toList.map st.ev)=some (ds,ms)) (hown:d.Jf=true) (mD:Good P f ds d)
 (h:AO P Γ all rest Q ⟨(t,(mi st.H.length d).1)::st.σ,st.H++(mi st.H.length d).2.map Ob.close⟩):AO P Γ all (o::rest) Q st:=by
 intro κ Θ a w hs;obtain⟨bs,hargs,hz⟩:=Ij hs hds;let Θc:Nat->Nat:=fun b=>if Θ b=0\/ms.any (fun m=>Θ b==m+2)then 0 else 1
 have Hv:∀b,Seen Θ ms b->Θc b=0:=by
  intro b h;simp only[Θc];rw[bN];rcases h with h|⟨m,h1,h2⟩
  ·exact .inl h
  ·exact .inr (cP.2 ⟨m,h1,by simp[h2]⟩)
 have hc:=mD.2 w Θc _ bs hs.vok hargs (fun b hb=>Hv b (hz b hb)) (fun b hb=>hs.own b (fun e=>hb (Hv b (.inl e)))) (fun b=>by simp only[Θc];split<;>omega);refine wpList_plain hg fun K hK=>?_
 unfold Oper.wp;rw[uN hop mD.1,Oper.upon_enter];have e:xs.map a.eval=(xs.toList.map a.eval).toArray:=by rw[<-gG,jN]
 rw[e];refine hc.mono ?_;rintro e w' ⟨v,bs',tb,ub,rfl,hb,hr,Ia,htb,hnd,hfr,hsub⟩;show K (a.put o.dst v) w';rw[hd];obtain⟨L,q1,q2,q3,q4,q5⟩:=hr.inst st.H.length;obtain⟨κ',Θ',hs',hnm⟩:=hs.RO hb L q2 (q3▸hnd) (fun b hb'=>hfr b (q3▸hb'));rw[q1]at hs';refine hK _ _ (h κ' Θ' _ w' (hs'.set (t:=t) ht (q5 κ' hnm) fun b hb'=>?_));rw[hr.own hown]at hb';cases hb'
end
end Go.Cx
namespace Go.Cx
open Go.RowKit
section
variable{P:Program}{Γ:sO}{Q:Exit->St->Prop}{st:St}{κ κ':Nat->Option Value}{Θ Θ':Nat->Nat}{a:Act}{w w':World}{all:Array Oper}{rest:List Oper}
theorem dH.P9(hs:dH Γ st κ Θ a w)(ms:aS){H':bP}(h1:w'.os=w.os)(h2:w'.tape=w.tape)(h3:w'.output=w.output)(h4:w.heap.size<=w'.heap.size)
 (JB:∀b,b<w.heap.size->(∀m∈ms,Θ b≠m+2)->w'.heap[b]?=w.heap[b]?) (ZF:∀b,b<w.heap.size->(∀m∈ms,Θ b≠m+2)->Θ' b=Θ b) (hown:∀b,Θ' b≠0->b<w'.heap.size)
 (hm:∀b,2<=Θ' b->vg Γ b) (hn:∀(j:Nat) v,κ j=some v->κ' j=some v) (hko:∀i,H'.length<=i->κ' i=none) (hk1:∀(i:Nat) u,κ' i=some u->u.oneCell'=true)
 (yQ:∀(j:Nat) y,H'[j]?=some y->y=.gone\/(j∉ms/\st.H[j]?=some y)\/(u7 w' κ' Θ' j y/\y.Rv=false)):dH Γ ⟨st.σ,H'⟩ κ' Θ' a w':=by
 have hs1:=hs.forget ms;have hin:∀b,(ms.any (fun m=>Θ b==m+2))=false->∀m∈ms,Θ b≠m+2:=by
  intro b h m hm' he;have:ms.any (fun m=>Θ b==m+2)=true:=cP.2 ⟨m,hm',by simp[he]⟩;rw[h]at this;cases this
 have hlt2:∀b,(if ms.any (fun m=>Θ b==m+2)then st.H.length+2 else Θ b)≠st.H.length+2->(ms.any (fun m=>Θ b==m+2))=false:=by
  intro b h;cases hc:ms.any (fun m=>Θ b==m+2)with
  |false=>rfl
  |true=>simp[hc]at h
 have kk:hY w w' (fun b=>if ms.any (fun m=>Θ b==m+2)then st.H.length+2 else Θ b) Θ' (st.H.length+2):=by
  refine⟨by omega,h1,h2,h3,h4,fun b hb hne=>JB b hb (hin b (hlt2 b hne)),fun b hb hne=>?_,hown⟩;have hc:=hlt2 b hne;rw[ZF b hb (hin b hc)];simp[hc]
 obtain⟨ρ,hu⟩:=hs1.qz;have qy:=hs1.mm kk hn hu;refine hs1.step kk hm hn hko hk1 (fun j y hj=>?_) ⟨ρ,qy.1,fun id e sz rows hj=>?_,fun id y hj=>?_⟩
 ·rcases yQ j y hj with h|⟨h,hy⟩|⟨h,_⟩
  ·exact .inl h
  ·have:=(aE.1 hy).1;exact .inr (.inl ⟨by omega,by rw[fW h];exact hy⟩)
  ·exact .inr (.inr h)
 ·rcases yQ id _ hj with h|⟨h,hy⟩|⟨_,h⟩
  ·cases h
  ·have:=(aE.1 hy).1;exact qy.2.1 id e sz rows (by omega) (by rw[fW h];exact hy)
  ·simp[Ob.Rv]at h
 ·rcases yQ id _ hj with h|⟨h,hy⟩|⟨_,h⟩
  ·subst h;trivial
  ·have:=(aE.1 hy).1;exact qy.2.2 id y (by omega) (by rw[fW h];exact hy)
  ·exact Hp.plain h
theorem Rd.a0U{v:Value}{rows:List aL}{bs:aS}(h:Rd w v (.sl rows) bs):(∃q c,v=.slice q rows.length c)/\rows.length<=maxLen:=by
 cases h with
 |vW=>exact⟨⟨_,_,rfl⟩,by simp⟩
 |mT=>exact⟨⟨_,_,rfl⟩,by simp⟩
 |sl b off cap sz _ cs bs hb h1 h2=>exact⟨⟨_,_,rfl⟩,by omega⟩
theorem VY{o:Oper}{t T id sz:Nat}{x:Operand}{rows:List aL}{u:Option Value}(hop:o.op=.call {callee:=.builtin .len,args:= #[x],argTypes:= #[T]})(hd:o.dst=some t)(hg:o.guard=none)(ht:t<Γ.nt)
 (hT:(D2 P T).isSome=true) (hx:st.ev x=.acc id) (hH:st.H[id]?=some (.uK sz rows u)) (h:AO P Γ all rest Q ⟨(t,.int .i64 rows.length)::st.σ,st.H⟩):AO P Γ all (o::rest) Q st:=by
 intro κ Θ a w hs;obtain⟨b1,r1,_⟩:=hs.ev x;rw[hx]at r1;obtain⟨hk,_⟩:=r1.su;obtain⟨_,_,v,bs,hk2,hrd,_⟩:=hs.ob id _ hH;rw[hk]at hk2;cases hk2;obtain⟨⟨q,c,hv⟩,yB⟩:=hrd.a0U;obtain⟨⟨e,sz'⟩,hT⟩:=dw.1 hT;obtain⟨hu,_,_⟩:=nQ hT;refine wpList_plain hg fun K hK=>?_
 unfold Oper.wp;have hrun:(execOp a.eval o).run P w=.ok (.value (.int .i64 rows.length)) w:=by
  simp only[execOp,hop,resolve,invoke,builtin,nH,bC,bf,hv];simp[Builtin.len_,run_underlying hu,goInt]
 rw[hrun,Oper.upon_value,hd];exact hK _ _ (h κ Θ _ w (hs.set (d:=.int .i64 rows.length) (bs:=[]) ht (.of (.int _ _ (M3 yB))) (by simp)))
theorem Yh{o:Oper}{t T id sz e m:Nat}{x i:Operand}{rows:List aL}{u:Option Value}{k:IntKind}{n:Int}(hop:o.op=.indexAddr T x i)(hd:o.dst=some t)(hg:o.guard=none)(ht:t<Γ.nt)
 (hT:D2 P T=some (e,sz)) (hx:st.ev x=.acc id) (hi:st.ev i=.int k n) (hH:st.H[id]?=some (.uK sz rows u)) (hn:n=(m:Int)) (hm:m<rows.length) (h:AO P Γ all rest Q ⟨(t,.op id m sz 0)::st.σ,st.H⟩):AO P Γ all (o::rest) Q st:=by
 intro κ Θ a w hs;obtain⟨b1,r1,_⟩:=hs.ev x;obtain⟨b2,r2,_⟩:=hs.ev i;rw[hx]at r1;rw[hi]at r2;have hiv:=r2.ol;obtain⟨hk,_⟩:=r1.su;obtain⟨_,_,v,bs,hk2,hrd,_⟩:=hs.ob id _ hH;rw[hk]at hk2;cases hk2;obtain⟨hu,HT,GL⟩:=nQ hT;have hsz:=sj (P:=P) HT w;subst hn;generalize QG:a.eval x=vx at hrd hk;cases hrd with
 |vW=>simp at hm
 |mT=>simp at hm
 |sl b off cap sz' _ cs bs hb hcap yB hrl hc qC=>
  have hn':0<=(m:Int)/\(m:Int)<(rows.length:Int):=⟨by omega,by omega⟩
  refine wpList_plain hg fun K hK=>?_
  unfold Oper.wp;have hrun:(execOp a.eval o).run P w=.ok (.value (.pointer (some ⟨b,off+(m*sz+0),none⟩))) w:=by
   simp only[execOp,hop,QG,hiv];simp[Instr.indexAt,asIntOf,run_underlying hu,hn',hm,hsz,GL,Addr.add_lit]
  rw[hrun,Oper.upon_value,hd];exact hK _ _ (h κ Θ _ w (hs.set (d:=.op id m sz 0) (bs:=[]) ht (wZ.op id m sz 0 b off _ _ hk).MQ (by simp)))
theorem IW{rows:List aL}{sz i off:Nat}{r:aL}{d:D}(hrl:∀r∈rows,r.length=sz)(hr:rows[i]?=some r)(hd:r[off]?=some d):rows.flatten[i*sz+off]?=some d/\off<sz/\i*sz+off<rows.length*sz:=by
 have h1:=hrl r (aD hr);have h2:=(aE.1 hd).1;have hmid:=CK hrl hr;have hlt:=(aE.1 hr).1;have hle:(i+1)*sz<=rows.length*sz:=dG _ hlt;rw[gU,lq]at hle;refine⟨?_,by omega,by omega⟩;rw[<-hmid,cG,bN (by omega),eH]at hd;exact hd
theorem SL{o:Oper}{t T id i sz off:Nat}{x:Operand}{rows:List aL}{r:aL}{d:D}{u:Option Value}(hop:o.op=.load T x)(hd:o.dst=some t)(hg:o.guard=none)(ht:t<Γ.nt)
 (hT:xq P T=some false) (hx:st.ev x=.op id i sz off) (hH:st.H[id]?=some (.uK sz rows u)) (hr:rows[i]?=some r) (hc:r[off]?=some d) (hfl:d.flat=true) (h:AO P Γ all rest Q ⟨(t,d)::st.σ,st.H⟩):AO P Γ all (o::rest) Q st:=by
 intro κ Θ a w hs;obtain⟨b1,r1,_⟩:=hs.ev x;rw[hx]at r1;obtain⟨g,o0,len,Vm,hk,hv⟩:=r1.Cb;obtain⟨hrl,_,v,bs,hk2,hrd,_⟩:=hs.ob id _ hH;rw[hk]at hk2;cases hk2;obtain⟨hf,_,_⟩:=IW hrl hr hc;cases hrd with
 |mT=>simp at hr
 |sl _ _ _ sz' _ cs ns hb hcap yB IN hcs qC=>
  obtain⟨c,b',h1,h2,h3,h4⟩:=qC.at hf;have L:=nc (P:=P) (w:=w) hT (o:=i*sz+off) hcs;have hb':=h3.flat hfl;subst hb';refine wpList_plain hg fun K hK=>?_
  unfold Oper.wp;have hrun:(execOp a.eval o).run P w=.ok (.value c) w:=by
   simp only[execOp,hop,hv];simp[L.2 rfl c h1]
  rw[hrun,Oper.upon_value,hd];exact hK _ _ (h κ Θ _ w (hs.set (d:=d) (bs:=[]) ht (.of h3) (by simp)))
theorem jv.a2K{vs:bp}{ds:aL}{bs:aS}(h:jv w vs ds bs){p:Nat}{d:D}(hd:ds[p]?=some d):
 ∃c b1 b2 b3,vs[p]?=some c/\c.oneCell'=true/\Rd w c d b2/\bs=b1++(b2++b3)/\∀(e:D) (b4:aS),Rd w c e b4->jv w vs (ds.set p e) (b1++(b4++b3)):=by
 obtain⟨l,r,rfl,hl⟩:=Kt hd;obtain⟨v1,v2,c1,c2,rfl,rfl,k1,k2⟩:=h.split;cases k2 with
 |cons c vs _ _ b2 b3 h1 h2 h3=>
  have hl1:v1.length=p:=by rw[k1.length];exact hl
  refine⟨c,c1,b2,b3,by rw[ax (by omega),hl1];simp,h1,h2,rfl,fun e b4 he=>?_⟩;have e1:(l++d::r).set p e=l++e::r:=by rw[qo _ _ (by omega),hl];simp
  rw[e1];exact k1.app (.cons _ _ _ _ _ _ h1 he h3)
theorem GH{rows:List aL}{sz i off:Nat}{r:aL}{d e:D}(hrl:∀r∈rows,r.length=sz)(hr:rows[i]?=some r)(hd:r[off]?=some d):(rows.set i (r.set off e)).flatten=rows.flatten.set (i*sz+off) e:=by
 have hlt:=(aE.1 hd).1;have h1:=hrl r (aD hr);have:=CL (rows:=rows) (sz:=sz) (i:=i) (off:=off) (row:=r) (ds:=[e]) hrl hr (by simp;omega);have e1:r.set off e=r.take off++[e]++r.drop (off+[e].length):=by
  apply mI;intro j;rw[fX];simp only[cY,Av,aT,bW,cv];by_cases hj:j<off
  ·rw[b9 (by omega),aq (by simp;omega),cG,bN hj]
  ·rw[ax (by simp;omega),cF,eg (by omega)];by_cases he:off=j
   ·subst he;simp[hlt]
   ·rw[b9 he];obtain⟨m,hm⟩:∃m,j-off=m+1:=⟨j-off-1,by omega⟩
    rw[hm,fM,eH]
    congr 1;omega
 rw[e1,this];have hfl:=nG hrl;obtain⟨hf,_,hlt2⟩:=IW hrl hr hd;apply mI;intro j;rw[fX];simp only[cY,Av,aT,bW,cv];by_cases hj:j<i*sz+off
 ·rw[b9 (by omega),aq (by rw[cF];omega),cG,bN hj]
 ·rw[ax (by rw[cF];omega),cF,eg (by omega)];by_cases he:i*sz+off=j
  ·subst he;rw[bN rfl,bN (by omega),o6];rfl
  ·rw[b9 he];obtain⟨m,hm⟩:∃m,j-(i*sz+off)=m+1:=⟨j-(i*sz+off)-1,by omega⟩
   rw[hm,fM,eH]
   congr 1;omega
theorem Ie{rows:List aL}{sz i:Nat}{r:aL}(hrl:∀r∈rows,r.length=sz)(hr:r.length=sz):∀x∈rows.set i r,x.length=sz:=by
 intro x hx;rcases s7 hx with hx|rfl
 ·exact hrl x hx
 ·exact hr
theorem SN{o:Oper}{t T id i sz off PL:Nat}{x:Operand}{rows fI:List aL}{r:aL}{u:Option Value}(hop:o.op=.load T x)(hd:o.dst=some t)(hg:o.guard=none)(ht:t<Γ.nt)
 (hT:xq P T=some false) (hx:st.ev x=.op id i sz off) (hH:st.H[id]?=some (.uK sz rows u)) (hr:rows[i]?=some r) (hc:r[off]?=some (.sl fI)) (h2:∀q∈fI,q.length=PL)
 (h:AO P Γ all rest Q ⟨(t,.acc st.H.length)::st.σ,st.H.set id (.hole sz (rows.set i (r.set off .any)) u (i*sz+off) st.H.length)++[.uK PL fI none]⟩):AO P Γ all (o::rest) Q st:=by
 intro κ Θ a w hs;obtain⟨b1,r1,_⟩:=hs.ev x;rw[hx]at r1;obtain⟨g,o0,len,Vm,hk,hv⟩:=r1.Cb;obtain⟨hrl,WN,v,bs,hk2,hrd,hnd,CP⟩:=hs.ob id _ hH;rw[hk]at hk2;cases hk2;obtain⟨hf,hoff,_⟩:=IW hrl hr hc;cases hrd with
 |mT=>simp at hr
 |sl _ _ _ sz' _ cs ns hb hcap yB IN hcs qC=>
  obtain⟨c,c1,c2,c3,h1,h1c,h3,rfl,oZ⟩:=qC.a2K hf;have L:=nc (P:=P) (w:=w) hT (o:=i*sz+off) hcs;have a1Q:id<st.H.length:=(aE.1 hH).1;have hnew:=oZ .any [] (.any c);have Ds:=hnd;simp only[ed,aZ,BY]at Ds;obtain⟨⟨hg1,hg2,hg3⟩,HU⟩:=Ds;obtain⟨n1,n2,n3⟩:=bD.1 HU;obtain⟨n4,n5,n6⟩:=bD.1 n2;let Θ':Nat->Nat:=fun b=>if b∈c2 then st.H.length+2 else Θ b
  have hs':dH Γ ⟨st.σ,st.H.set id (.hole sz (rows.set i (r.set off .any)) u (i*sz+off) st.H.length)++[.uK PL fI none]⟩ (vc κ st.H.length (some c)) Θ' a w:=by
   have hn:=vB (hs.ni _ (bL _)) (some c);have KJ:∀b∈c2,Θ b=id+2:=fun b hb'=>(CP b (by simp[hb'])).1
   refine hs.P9 [id] rfl rfl rfl (bL _) (fun _ _ _=>rfl) (fun b _ hne=>?_) (fun b hb'=>?_) (fun b hb'=>?_) hn (fun j hj=>?_) (fun j y hy=>?_) (fun j y hj=>?_)
   ·simp only[Θ'];rw[b9];intro hin;exact hne id (by simp) (KJ b hin)
   ·simp only[Θ']at hb';split at hb'
    ·rename_i hin;exact hs.own b (by rw[KJ b hin];omega)
    ·exact hs.own b hb'
   ·simp only[Θ']at hb';split at hb'
    ·rename_i hin;exact hs.mine b (by rw[KJ b hin];omega)
    ·exact hs.mine b hb'
   ·simp only[av,nj,aT,bW]at hj;unfold vc;rw[b9 (by omega)];exact hs.ni j (by omega)
   ·unfold vc at hy;split at hy
    ·cases hy;exact h1c
    ·exact hs.mw j y hy
   ·rcases zg j y hj with⟨hjl,rfl⟩|⟨hjl,hy⟩
    ·right;right
     have hjn:j=st.H.length:=by rw[hjl];simp
     subst hjn;refine⟨⟨h2,by simp,c,c2,kK _ _ _,h3,n4,fun b hb'=>⟨by simp[Θ',hb'],(CP b (by simp[hb'])).2⟩⟩,rfl⟩
    ·rcases wX j y hy with⟨rfl,rfl⟩|⟨hne,hy'⟩
     ·right;right
      refine⟨⟨Ie hrl (by rw[nj];exact hrl r (aD hr)),fun z hz=>hn _ _ (WN z hz),_,g::(c1++([]++c3)),hn _ _ hk,⟨g,o0,Vm,cs,c1++([]++c3),by simp,hb,by simpa using hcap,yB,hcs,?_,rfl,c,h1,kK _ _ _⟩,?_,fun b hb'=>?_⟩,rfl⟩
      ·rw[GH hrl hr hc];exact hnew
      ·simp only[dM,ed,aZ,BY];exact⟨⟨hg1,hg3⟩,bD.2 ⟨n1,n5,fun x hx y hy e=>n3 x hx y (by simp[hy]) e⟩⟩
      ·have hbm:b∈g::(c1++(c2++c3)):=by
        simp only[dM,bH,aZ]at hb'⊢;rcases hb' with h|h|h<;>simp[h]
       refine⟨?_,(CP b hbm).2⟩;simp only[Θ'];rw[b9,(CP b hbm).1];intro hin;simp only[dM,bH,aZ]at hb';rcases hb' with h|h|h
       ·subst h;exact hg2 hin
       ·exact n3 b h b (by simp[hin]) rfl
       ·exact n6 b hin b h rfl
     ·exact .inr (.inl ⟨by simpa using hne,hy'⟩)
  refine wpList_plain hg fun K hK=>?_
  unfold Oper.wp;have hrun:(execOp a.eval o).run P w=.ok (.value c) w:=by
   simp only[execOp,hop,hv];simp[L.2 rfl c h1]
  rw[hrun,Oper.upon_value,hd];exact hK _ _ (h _ _ _ w (hs'.set (d:=.acc st.H.length) (bs:=[]) ht (wZ.acc st.H.length c (kK _ _ _)).MQ (by simp)))
theorem SM{id n i sz off PL:Nat}{rows fI:List aL}{r:aL}{d:D}{u u2:Option Value}(hH:st.H[id]?=some (.hole sz rows u (i*sz+off) n))(hN:st.H[n]?=some (.uK PL fI u2))(hr:rows[i]?=some r)(hc:r[off]?=some d)
 (h:AO P Γ all rest Q ⟨st.σ,(st.H.set n .gone).set id (.uK sz (rows.set i (r.set off (.sl fI))) u)⟩):AO P Γ all rest Q st:=by
 intro κ Θ a w hs;obtain⟨hrl,WN,v,bs,hk,⟨b,o0,cap,cs,ns,rfl,h1,h2,h3,h4,h5,rfl,c,h6,h7⟩,hnd,CP⟩:=hs.ob id _ hH;obtain⟨a7H,_,v2,VI,hk2,a4k,a4d,Sw⟩:=hs.ob n _ hN;rw[h7]at hk2;cases hk2;obtain⟨hf,hoff,_⟩:=IW hrl hr hc;obtain⟨c',c1,c2,c3,q1,q1c,q3,rfl,oZ⟩:=h5.a2K hf;rw[h6]at q1;cases q1;have hnew:=oZ (.sl fI) VI a4k;have hne:n≠id:=fun e=>by subst e;rw[hH]at hN;cases hN
 have a1Q:id<st.H.length:=(aE.1 hH).1;have Ds:=hnd;simp only[ed,aZ,BY]at Ds;obtain⟨⟨hg1,hg2,hg3⟩,HU⟩:=Ds;obtain⟨n1,n2,n3⟩:=bD.1 HU;obtain⟨n4,n5,n6⟩:=bD.1 n2;have Z5:∀x∈VI,∀y∈b::(c1++(c2++c3)),x≠y:=by
  intro x hx y hy e;subst e;have e1:=(Sw x hx).1;have e2:=(CP x hy).1;omega
 let Θ':Nat->Nat:=fun x=>if x∈VI then id+2 else if Θ x=n+2 then 1 else Θ x
 refine h κ Θ' a w (hs.P9 [id,n] rfl rfl rfl (bL _) (fun _ _ _=>rfl) (fun x _ hnx=>?_) (fun x hx=>?_) (fun x hx=>?_) (fun _ _ h=>h) (fun j hj=>hs.ni j (by simpa using hj)) hs.mw (fun j y hj=>?_))
 ·simp only[Θ'];rw[b9 (fun hin=>hnx n (by simp) (Sw x hin).1),b9 (hnx n (by simp))]
 ·simp only[Θ']at hx;split at hx
  ·rename_i hin;exact hs.own x (by rw[(Sw x hin).1];omega)
  ·split at hx
   ·rename_i he;exact hs.own x (by rw[he];omega)
   ·exact hs.own x hx
 ·simp only[Θ']at hx;split at hx
  ·rename_i hin;exact hs.mine x (by rw[(Sw x hin).1];omega)
  ·split at hx
   ·omega
   ·exact hs.mine x hx
 ·rcases wX j y hj with⟨rfl,rfl⟩|⟨E5,hy⟩
  ·right;right
   refine⟨⟨Ie hrl (by rw[nj];exact hrl r (aD hr)),WN,_,b::(c1++(VI++c3)),hk,?_,?_,fun x hx=>?_⟩,rfl⟩
   ·have hl:(rows.set i (r.set off (.sl fI))).length=rows.length:=by simp
    have:=Rd.sl (w:=w) b o0 cap sz (rows.set i (r.set off (.sl fI))) cs (c1++(VI++c3)) h1 (by rw[hl];exact h2) h3 (Ie hrl (by rw[nj];exact hrl r (aD hr))) h4 (by rw[GH hrl hr hc];exact hnew);rw[hl]at this;exact this
   ·simp only[ed,aZ,BY];refine⟨⟨hg1,fun hin=>Z5 b hin b (by simp) rfl,hg3⟩,bD.2 ⟨n1,bD.2 ⟨a4d,n5,fun x hx y hy e=>Z5 x hx y (by simp[hy]) e⟩,fun x hx y hy e=>?_⟩⟩;rcases aZ.1 hy with hy|hy
    ·exact Z5 y hy x (by simp[hx]) e.symm
    ·exact n3 x hx y (by simp[hy]) e
   ·by_cases hin:x∈VI
    ·exact⟨by simp[Θ',hin],(Sw x hin).2⟩
    ·have hbm:x∈b::(c1++(c2++c3)):=by
      simp only[bH,aZ]at hx⊢;rcases hx with h|h|h|h
      ·simp[h]
      ·simp[h]
      ·exact absurd h hin
      ·simp[h]
     refine⟨?_,(CP x hbm).2⟩;have e1:=(CP x hbm).1;simp only[Θ'];rw[b9 hin,b9 (by omega),e1]
  ·rcases wX j y hy with⟨rfl,rfl⟩|⟨hj2,hy'⟩
   ·exact .inl rfl
   ·exact .inr (.inl ⟨by simp[E5,hj2],hy'⟩)
theorem jv.setCells{vs:bp}{ds es:aL}{us:bp}{bs:aS}(h:jv w vs ds bs)(p:Nat)(hp:p+es.length<=ds.length)(hu:jv w us es []):
 ∃b',jv w (vs.take p++us++vs.drop (p+us.length)) (ds.take p++es++ds.drop (p+es.length)) b'/\(∀b∈b',b∈bs)/\(bs.Nodup->b'.Nodup):=by
 have e:ds=ds.take p++((ds.drop p).take es.length++(ds.drop p).drop es.length):=by rw[bz,bz]
 rw[e]at h;obtain⟨v1,v2,b1,b2,rfl,rfl,k1,k2⟩:=h.split;obtain⟨v3,v4,b3,b4,rfl,rfl,k3,k4⟩:=k2.split;have l1:v1.length=p:=by rw[k1.length];simp;omega
 have l3:v3.length=es.length:=by rw[k3.length];simp;omega
 have lu:=hu.length;have t1:(v1++(v3++v4)).take p=v1:=gw l1;have t2:(v1++(v3++v4)).drop (p+us.length)=v4:=by
  rw[<-gE,fL l1,lu,fL l3]
 rw[t1,t2];rw[gE]at k4;refine⟨b1++[]++b4,(k1.app hu).app k4,fun b hb=>?_,fun hnd=>?_⟩
 ·simp only[eA,aZ]at hb⊢;rcases hb with h|h<;>simp[h]
 ·obtain⟨n1,n2,n3⟩:=bD.1 hnd;obtain⟨_,n5,_⟩:=bD.1 n2;simp only[eA];exact bD.2 ⟨n1,n5,fun x hx y hy e=>n3 x hx y (by simp[hy]) e⟩
theorem Qs{o:Oper}{T id i sz off:Nat}{x y:Operand}{rows:List aL}{r ds:aL}{u:Option Value}(hop:o.op=.store T x y)(hd:o.dst=none)(hg:o.guard=none)
 (hx:st.ev x=.op id i sz off) (hH:st.H[id]?=some (.uK sz rows u)) (hr:rows[i]?=some r) (hc:(st.ev y).cellsOf=some ds) (hfl:ds.all D.flat=true) (hT:MP P T=true) (hl:ds.length=wk P T) (hpos:0<ds.length) (hfit:off+ds.length<=sz)
 (h:AO P Γ all rest Q ⟨st.σ,st.H.set id (.uK sz (rows.set i (r.take off++ds++r.drop (off+ds.length))) u)⟩):AO P Γ all (o::rest) Q st:=by
 intro κ Θ a w hs;obtain⟨b1,r1,_⟩:=hs.ev x;obtain⟨b2,r2,_⟩:=hs.ev y;rw[hx]at r1;obtain⟨g,o0,len,Vm,hk,hv⟩:=r1.Cb;obtain⟨hrl,WN,v,bs,hk2,hrd,hnd,CP⟩:=hs.ob id _ hH;rw[hk]at hk2;cases hk2;have OU:=zD hs.mw r2 hc;have hl1:=OU.length;have a4P:ds.all D.MW=true:=by
  rw[aj]at hfl⊢;intro d FC;have:=hfl d FC;cases d<;>first|rfl| (simp[D.flat]at this)
 have hcp:=OU.pure a4P;have O5:=hcp.flat hfl;subst O5;have hrow:=hrl r (aD hr);have hilt:=(aE.1 hr).1;have Z6:(i+1)*sz<=rows.length*sz:=dG _ hilt;rw[gU,lq]at Z6;cases hrd with
 |mT=>simp at hr
 |sl _ _ _ sz' _ cs ns hb hcap yB IN hcs qC=>
  obtain⟨hgT,hgw⟩:=CP g (by simp);obtain⟨cur,Tb,VK⟩:=hgw;have a1N:=nG hrl;have hcl:cs.length=rows.length*sz:=by rw[qC.length,a1N]
  have JD:∀j c,cs[j]?=some c->cur[o0+j]?=some c:=by
   intro j c hj;have:=hcs j c hj;simpa[World.cell?,VK]using this
  have a1M:o0+(i*sz+off)+(a.eval y).cells.size<=cur.size:=by
   have e1:(a.eval y).cells.size=ds.length:=by rw[<-hl1];simp
   rw[e1];have:=JD (i*sz+off+ds.length-1) cs[i*sz+off+ds.length-1] (aV (by omega));have:=(az.1 this).1;omega
  have ZH:(a.eval y).cells.size=wk P T:=by rw[<-hl,<-hl1];simp
  have hst:=Cd (P:=P) (T:=T) (off:=o0+(i*sz+off)) VK ZH (dw.1 hT) a1M OU.one;have hne:(a.eval y).cells.toList.length=ds.length:=hl1;let IF:Array Value:=(cur.toList.take (o0+(i*sz+off))++(a.eval y).cells.toList++cur.toList.drop (o0+(i*sz+off)+(a.eval y).cells.toList.length)).toArray
  have hw':∀x,x≠g->(w.setRow g IF).heap[x]?=w.heap[x]?:=fun x hx=>setRow_other w g x _ hx
  have hsame:∀x,x<w.heap.size->(∀m∈[id],Θ x≠m+2)->(w.setRow g IF).heap[x]?=w.heap[x]?:=fun x _ hx=>hw' x (fun e=>hx id (by simp) (by rw[e];exact hgT))
  simp only[ed]at hnd;have a4n:jv (w.setRow g IF) cs rows.flatten ns:=qC.keep fun b hb'=>hw' b (fun e=>hnd.1 (e▸hb'))
  have a4H:jv (w.setRow g IF) (a.eval y).cells.toList ds []:=hcp.keep (by simp);obtain⟨ns',q1,q2,q3⟩:=a4n.setCells (i*sz+off) (by rw[a1N];omega) a4H;have hfs:=CL (ds:=ds) (off:=off) hrl hr hfit;have hl4:(rows.set i (r.take off++ds++r.drop (off+ds.length))).length=rows.length:=by simp
  have a1e:∀z∈rows.set i (r.take off++ds++r.drop (off+ds.length)),z.length=sz:=Ie hrl (by simp;omega);have hcell:∀j c,(cs.take (i*sz+off)++(a.eval y).cells.toList++cs.drop (i*sz+off+(a.eval y).cells.toList.length))[j]?=some c->(w.setRow g IF).cell? ⟨g,o0+j,none⟩=some c:=by
   intro j c hj;have hgh:(w.setRow g IF).heap[g]?=some (.cells IF Tb (0,0)):=setRow_heap w g cur _ Tb _ VK;simp only[World.cell?,hgh];show IF[o0+j]?=some c;simp only[IF,ij,cY]at hj⊢;have hcz:o0+(i*sz+off)<=cur.toList.length:=by simp;omega
   by_cases E5:j<i*sz+off
   ·rw[aq (by simp;omega),cG,bN E5]at hj;rw[aq (by rw[cF];omega),cG,bN (by omega)];have:=JD j c hj;simpa using this
   ·rw[ax (by rw[cF];omega),cF,eg (by omega)]at hj;rw[ax (by rw[cF];omega),cF,eg hcz];rw[show o0+j-(o0+(i*sz+off))=j-(i*sz+off)from by omega];by_cases hj2:j-(i*sz+off)<(a.eval y).cells.toList.length
    ·rw[aq hj2]at hj⊢;exact hj
    ·rw[ax (by omega),eH]at hj⊢;have:=JD _ c hj;rw[<-qn]at this;rw[<-this];congr 1;omega
  refine wpList_plain hg fun K hK=>?_
  unfold Oper.wp;have hrun:(execOp a.eval o).run P w=.ok .skip (w.setRow g IF):=by
   simp only[execOp,hop,hv];simp[hst,IF]
  rw[hrun,Oper.upon_skip,hd];refine hK _ _ (h κ Θ _ _ (hs.P9 [id] rfl rfl rfl (by simp) hsame (fun _ _ _=>rfl) (fun b hb'=>by simpa using hs.own b hb') hs.mine (fun _ _ h=>h) (fun j hj=>hs.ni j (by simpa using hj)) hs.mw (fun j z hj=>?_)));rcases wX j z hj with⟨rfl,rfl⟩|⟨E5,hz⟩
  ·right;right
   refine⟨⟨a1e,WN,_,g::ns',hk,?_,?_,fun b hb'=>?_⟩,rfl⟩
   ·have:=Rd.sl (w:=w.setRow g IF) g o0 Vm sz (rows.set i (r.take off++ds++r.drop (off+ds.length))) _ ns' (by simpa using hb) (by rw[hl4];exact hcap) yB a1e hcell (by rw[hfs];exact q1);rw[hl4]at this;exact this
   ·simp only[ed];exact⟨fun hin=>hnd.1 (q2 g hin),q3 hnd.2⟩
   ·rcases bH.1 hb' with rfl|hin
    ·exact⟨hgT,⟨_,Tb,setRow_heap w b cur _ Tb _ VK⟩⟩
    ·have hm:=CP b (by simp[q2 b hin]);refine⟨hm.1,?_⟩;obtain⟨xs,T',hxs⟩:=hm.2;exact⟨xs,T',(hw' b (fun e=>hnd.1 (e▸q2 b hin))).trans hxs⟩
  ·exact .inr (.inl ⟨by simpa using E5,hz⟩)
end
end Go.Cx
namespace Go.Cx
open Go.RowKit
def Dz(P:Program)(f:FuncId)(ds:aL)(e sz:Nat)(rows cr:List aL):Prop:=
 (∃fn,P.funcs[f]?=some fn/\fn.body.isSome=true/\(fn.name== "runtime.NumGoroutine")=false)/\
 ∀(w:World) (κ:Nat->Option Value) (args:bp) (v:Value) (cs:bp),K9 w (fun b=>v.ownBlock=some b)->args.length=ds.length->(∀(i:Nat) d,ds[i]?=some d->∃u,args[i]?=some u/\pW w κ u d [])->
  κ 0=some v->(∀i,1<=i->κ i=none)->v.oneCell'=true->0<sz->(∀r∈rows,r.length=sz)->w.ownsRow 0 e sz v rows.length cs->jv w cs rows.flatten []->
  Calls P f args.toArray w (fun x w'=>∃v' cs',x=.returned v'/\v'.oneCell'=true/\(∀r∈cr,r.length=sz)/\w'.ownsRow 0 e sz v' cr.length cs'/\jv w' cs' cr.flatten []/\(∀g,v'.ownBlock=some g->w.heap.size<=g\/v.ownBlock=some g)/\
   w'.os=w.os/\w'.tape=w.tape/\w'.output=w.output/\w.heap.size<=w'.heap.size/\∀b,b<w.heap.size->v.ownBlock≠some b->w'.heap[b]?=w.heap[b]?)
section
variable{P:Program}{Γ:sO}{Q:Exit->St->Prop}{st:St}{κ κ':Nat->Option Value}{Θ Θ':Nat->Nat}{a:Act}{w w':World}{all:Array Oper}{rest:List Oper}
theorem LQ.out{fn:Func}{d:D}{e:Exit}{a':Act}{w':World}{K4:St}{κ0:Nat->Option Value}{Θ0:Nat->Nat}(hs0:dH Γ K4 κ0 Θ0 a' w')(TG:LQ P fn d e K4):
 (e=.ret\/e=.normal)/\a'.defers=[]/\Me Γ w'/\∃v bs ts us,(results fn a'.tmps).run P w'=.ok v w'/\wM w' v d bs ts us/\∀b∈ts,vg Γ b:=by
 obtain⟨yh,nz,Vy,es,ms,qs,hres,TH,JG,HV,rfl⟩:=TG;obtain⟨ρ0,WM⟩:=hs0.qz;have yC:=tZ TH;obtain⟨Θ1,ρ1,hs1,hu1,hm1,KK,RG⟩:=dH.Cw ms hs0 WM JG (fun m hm=>by
  obtain⟨e,sz,rows,hH⟩:=yC.1 m hm;exact⟨_,e,sz,rows,hH,rfl⟩)
 obtain⟨vs,bs',m1,m2,m3,m4,m5⟩:=zi hs0 hres;have hq:∀m e sz rows,K4.H[m]?=some (.row .uq e sz rows)->∃v cs ns,κ0 m=some v/\0<sz/\(∀r∈rows,r.length=sz)/\w'.ownsRow 0 e sz v rows.length cs/\jv w' cs rows.flatten ns/\ns.Nodup/\(∀b∈ns,ρ1 b=m+1)/\∀g,v.ownBlock=some g->Θ1 g=m+2:=by
  intro m e sz rows hH;have hnm:m∉ms:=fun hm=>by
   obtain⟨e',sz',cr,BP⟩:=yC.1 m hm;rw[hH]at BP;cases BP
  have K1:(kill K4.H ms)[m]?=some (.row .uq e sz rows):=by rw[fW hnm];exact hH
  obtain⟨v,cs,ns,r1,r2,r3,r4,r5⟩:=hu1.rows m e sz rows K1;obtain⟨p1,p2,v2,_,_,p3,_,_,p4,_⟩:=hs1.ob m _ K1;rw[r1]at p3;cases p3;exact⟨v,cs,ns,r1,p1,p2,r2,r3,r4,r5,p4⟩
 obtain⟨c,ts,us,zb,xb⟩:=wj (w:=w') (vs:=vs) (fun b hb=>(hu1.free b hb).1) hq hs0.mw TH HV (by omega) (fun i d hd=>by
  obtain⟨v,b,k1,k2,k3⟩:=m4 i d hd;exact⟨v,b,k1,k2,fun x hx=>KK x (m5 x (k3 x hx))⟩) hm1
 have HS:∃v,(results fn a'.tmps).run P w'=.ok v w'/\wM w' v (GY es) c ts us:=by
  have hrun:(results fn a'.tmps).run P w'=.ok (if h:vs.toArray.size=1 then vs.toArray[0]else .tuple vs.toArray) w':=by
   rw[results_eq,kz];simp[m1]
  cases zb with
  |nil=>exact⟨.tuple #[],by simpa using hrun,.iK [] [] [] [] [] .nil⟩
  |cons v vs d es b1 b2 t1 t2 u1 u2 hv qc=>
   cases qc with
   |nil=>
    simp only[eA];exact⟨v,by simpa using hrun,.v hv⟩
   |cons v2 vs d2 es b3 b4 t3 t4 u3 u4 K3 qc=>exact⟨.tuple (v::v2::vs).toArray,by simpa using hrun,.iK _ _ _ _ _ (.cons _ _ _ _ _ _ _ _ _ _ hv (.cons _ _ _ _ _ _ _ _ _ _ K3 qc))⟩
 obtain⟨v,Of,KI⟩:=HS;refine⟨yh,hs0.defers,hs0.stays,v,c,ts,us,Of,KI,fun b hb'=>?_⟩;obtain⟨⟨m,hm,hΘ⟩,_⟩:=xb.top b hb';exact hs1.mine b (by omega)
theorem Dz.of{f:FuncId}{fn:Func}{c:Code}{ds:aL}{e sz:Nat}{rows cr:List aL}(hf:P.funcs[f]?=some fn)(hb:fn.body=some c)(hn:(fn.name== "runtime.NumGoroutine")=false)
 (hl:ds.length<=fn.ntmps) (hfl:cr.flatten.all D.flat=true) (h:rows.length<=maxLen->∀Γ:sO,Γ.nt=fn.ntmps->AW P Γ c (LQ P fn (.fr e sz cr)) ⟨uW 0 ds,[.row .uq e sz rows]⟩):Dz P f ds e sz rows cr:=by
 refine⟨⟨fn,hf,by simp[hb],hn⟩,?_⟩;intro w κ args v cs Li hlen hargs hk0 hk1 hone hsz hrl hown hrd;refine calls_of_wp hf hb ?_;let Θ:Nat->Nat:=fun b=>if v.ownBlock=some b then 2 else if b<w.heap.size then 1 else 0
 let Γ:sO:=⟨w,Θ,fun b=>v.ownBlock=some b,fn.ntmps,fun _=>False,Li⟩
 have hlt:∀b,v.ownBlock=some b->b<w.heap.size:=fun b hb'=>(hown.lt b hb').2
 have yB:rows.length<=maxLen:=(j0.sl ⟨w,v,_,tK hrl hown hrd⟩).1;have hs:dH Γ ⟨uW 0 ds,[.row .uq e sz rows]⟩ κ Θ {tmps:=args.toArray++Array.replicate (fn.ntmps-args.toArray.size) undef,defers:=[]} w:=by
  refine⟨rfl,?_,fun i hi=>hk1 i (by simpa using hi),?_,?_,?_,?_,?_,?_,⟨rfl,rfl,rfl,bL _,fun _ _ _=>rfl⟩,⟨fun _=>0,by simp,?_,?_⟩⟩
  ·simp[Γ];omega
  ·intro id u hu;rcases Nat.eq_zero_or_pos id with rfl|hp
   ·rw[hk0]at hu;cases hu;exact hone
   ·rw[hk1 id hp]at hu;cases hu
  ·intro t;rw[CZ];simp only[sr,wz,tv];cases hd:ds[t]? with
   |none=>exact⟨[],.of (.any _),by simp⟩
   |some x=>
    obtain⟨u,k1,k2⟩:=hargs t x hd;refine⟨[],?_,by simp⟩;have hlt:t<args.length:=(aE.1 k1).1;have:(args.toArray++Array.replicate (fn.ntmps-args.toArray.size) undef).getD t undef=u:=by
     rw[bw,eG (by simpa using hlt)];simp[k1]
    rw[this];exact k2
  ·intro j o hj;cases j with
   |zero=>
    simp at hj;subst hj;exact⟨hsz,hrl,v,cs,[],hk0,hown,hrd,fun g hg=>by simp only[Θ];rw[bN hg],by simp⟩
   |succ j=>simp at hj
  ·intro b hb';simp only[Θ]at hb';split at hb'
   ·rename_i hv;exact hlt b hv
   ·split at hb'
    ·assumption
    ·exact absurd rfl hb'
  ·intro b hb' hx;refine⟨rfl,?_⟩;have hx':¬v.ownBlock=some b:=hx;simp only[Θ];rw[b9 hx'];split<;>omega
  ·intro b hb';simp only[Θ]at hb';split at hb'
   ·rename_i hv;exact .inr hv
   ·split at hb'<;>omega
  ·intro id e' sz' fI hj;cases id with
   |zero=>
    simp at hj;obtain⟨rfl,rfl,rfl⟩:=hj;exact⟨v,cs,[],hk0,hown,hrd,by simp,by simp⟩
   |succ j=>simp at hj
  ·intro id o hj;cases id with
   |zero=>simp at hj;subst hj;exact Hp.uo rfl
   |succ j=>simp at hj
 refine wp_mono (h yB Γ rfl _ _ _ _ hs) ?_;rintro x a' w' ⟨K4,κ0,Θ0,hs0,TG⟩;obtain⟨yh,hdf,hst,u,bs,ts,us,hrun,hres,Ko⟩:=LQ.out hs0 TG;have HS:∃u cs',(results fn a'.tmps).run P w'=.ok u w'/\u.oneCell'=true/\(∀r∈cr,r.length=sz)/\w'.ownsRow 0 e sz u cr.length cs'/\jv w' cs' cr.flatten []/\(∀g,u.ownBlock=some g->w.heap.size<=g\/v.ownBlock=some g)/\
  w'.os=w.os/\w'.tape=w.tape/\w'.output=w.output/\w.heap.size<=w'.heap.size/\∀b,b<w.heap.size->v.ownBlock≠some b->w'.heap[b]?=w.heap[b]?:=by
  cases hres with
  |v hv=>
   cases hv with
   |cell hc=>
    cases hc with
    |pure hc=>cases hc
    |fr _ _ _ cs' ns h1 h2 h3 h4 h5=>
     have:=h4.flat hfl;subst this;exact⟨u,cs',hrun,h5,h2,h3,h4,fun g hg=>Ko g (by simp[hg]),hst.os,hst.tape,hst.output,hst.size,fun b hb' hx=>hst.block b hb' hx⟩
 obtain⟨u,cs',q1,q2⟩:=HS;have post:a'.defers=[]/\∃v',(results fn a'.tmps).run P w'=.ok v' w'/\∃v2 cs2,Ending.returned v'=.returned v2/\v2.oneCell'=true/\(∀r∈cr,r.length=sz)/\w'.ownsRow 0 e sz v2 cr.length cs2/\jv w' cs2 cr.flatten []/\(∀g,v2.ownBlock=some g->w.heap.size<=g\/v.ownBlock=some g)/\
  w'.os=w.os/\w'.tape=w.tape/\w'.output=w.output/\w.heap.size<=w'.heap.size/\∀b,b<w.heap.size->v.ownBlock≠some b->w'.heap[b]?=w.heap[b]?:=⟨hdf,u,q1,u,cs',rfl,q2⟩
 rcases yh with rfl|rfl
 ·exact post
 ·exact post
theorem SI{o:Oper}{f t id:Nat}{xs:Array Operand}{ts:Array TypeId}{e sz:Nat}{rows cr:List aL}(hop:o.op=.call {callee:=.value (.func f),args:=xs,argTypes:=ts})(hd:o.dst=some t)(hg:o.guard=none)
 (ht:t<Γ.nt) (hH:st.H[id]?=some (.row .uq e sz rows)) (hfl:rows.flatten.all D.flat=true) (hb:((xs.toList.map st.ev).all D.bare)=true) (mD:Dz P f ((xs.toList.map st.ev).map (D.QY [id])) e sz rows cr)
 (h:AO P Γ all rest Q ⟨(t,.acc st.H.length)::st.σ,kill st.H [id]++[.row .uq e sz cr]⟩):AO P Γ all (o::rest) Q st:=by
 intro κ Θ a w hs;obtain⟨hsz,hrl,v,cs,bs,hk,hown,hrd,CR,_⟩:=hs.ob id _ hH;have CP:=hrd.flat hfl;subst CP;have RF:id<st.H.length:=(aE.1 hH).1;let κc:Nat->Option Value:=fun j=>if j=0 then some v else none
 have Li:K9 w fun b=>v.ownBlock=some b:=by
  obtain⟨B,v1,v2⟩:=hs.vsb;refine⟨B,v1,fun b hB=>⟨(v2 b hB).2.1,fun hb'=>?_⟩⟩;have e1:=CR b hb';rcases hs.mine b (by omega)with q|q
  ·have:=(v2 b hB).1;omega
  ·exact(v2 b hB).2.2 q
 have hargs:∀(i:Nat) d,((xs.toList.map st.ev).map (D.QY [id]))[i]?=some d->∃u,(xs.toList.map a.eval)[i]?=some u/\pW w κc u d []:=by
  intro i d FC;rw[bU,bU]at FC;cases hx:xs.toList[i]? with
  |none=>rw[hx]at FC;cases FC
  |some x=>
   rw[hx]at FC;simp only[cI,ah]at FC;subst FC;refine⟨a.eval x,by rw[bU,hx];rfl,?_⟩;obtain⟨bs,r,hz⟩:=hs.ev x;have Sv:(st.ev x).bare=true:=aj.1 hb _ (cJ.2 ⟨x,aD hx,rfl⟩);obtain⟨b',r',_⟩:=pW.rn (o:=[id]) (κ':=κc) (Θ:=fun _=>0) (Θ':=fun _=>0) (fun i j u h1 h2=>by
    have h3:=M8 h1;cases j with
    |zero=>simp at h3;subst h3;rw[hk]at h2;simpa[κc]using h2
    |succ j=>simp at h3) (fun _ _=>rfl) r (fun _ _=>rfl)
   have:=r'.Pp (D.Pq [id] Sv);subst this;exact r'
 have hc:=mD.2 w κc (xs.toList.map a.eval) v cs Li (by simp) hargs (by simp[κc]) (fun i hi=>by simp only[κc];rw[b9 (by omega)]) (hs.mw id v hk) hsz hrl hown hrd;refine wpList_plain hg fun K hK=>?_
 unfold Oper.wp;rw[uN hop mD.1,Oper.upon_enter];have e0:xs.map a.eval=(xs.toList.map a.eval).toArray:=by rw[<-gG,jN]
 rw[e0];refine hc.mono ?_;rintro x w' ⟨v',cs',rfl,hone,IN,GJ,JI,ND,h1,h2,h3,h4,JB⟩;show K (a.put o.dst v') w';rw[hd];let n:=st.H.length
 let Θ':Nat->Nat:=fun b=>if some b=v'.ownBlock then n+2 else Θ b
 have VO:∀g,v'.ownBlock=some g->Θ g=id+2\/w.heap.size<=g:=by
  intro g RE;rcases ND g RE with h|h
  ·exact .inr h
  ·exact .inl (CR g h)
 have k:hY w w' Θ Θ' (id+2):=by
  refine⟨by omega,h1,h2,h3,h4,fun b hb hne=>JB b hb (fun e=>hne (CR b e)),fun b hb hne=>?_,fun b hb=>?_⟩
  ·simp only[Θ'];rw[b9];intro e;rcases VO b e.symm with h|h
   ·exact hne h
   ·omega
  ·simp only[Θ']at hb;split at hb
   ·rename_i e;exact(GJ.lt b e.symm).2
   ·exact cz (hs.own b hb) h4
 have hm:∀b,2<=Θ' b->vg Γ b:=by
  intro b hb;simp only[Θ']at hb;split at hb
  ·rename_i e;rcases VO b e.symm with h|h
   ·exact hs.mine b (by omega)
   ·exact .inl (dK hs.base h)
  ·exact hs.mine b hb
 have hn:=vB (hs.ni n (bL _)) (some v');obtain⟨ρ,hu⟩:=hs.qz;have qy:=hs.mm k hn hu;have key:∀(j:Nat) y,(kill st.H [id]++[.row .uq e sz cr])[j]?=some y->(j=n/\y=.row .uq e sz cr)\/(j≠n/\(y=.gone\/(j∉[id]/\st.H[j]?=some y))):=by
  intro j y hj;rcases zg j y hj with⟨h1,h2⟩|⟨h1,h2⟩
  ·rw[fH]at h1;exact .inl ⟨h1,h2⟩
  ·rw[fH]at h1;exact .inr ⟨h1,mj h2⟩
 have hs':dH Γ ⟨st.σ,kill st.H [id]++[.row .uq e sz cr]⟩ (vc κ n (some v')) Θ' a w':=by
  refine hs.step k hm hn ?_ ?_ ?_ ⟨ρ,qy.1,fun j e' sz' fI hj=>?_,fun j y hj=>?_⟩
  ·intro i hi;simp only[av,aT,bW,fH]at hi;unfold vc;rw[b9 (by omega)];exact hs.ni i (by omega)
  ·intro i y hy;unfold vc at hy;split at hy
   ·cases hy;exact hone
   ·exact hs.mw i y hy
  ·intro j y hj;rcases key j y hj with⟨rfl,rfl⟩|⟨_,hy|⟨hjk,hy⟩⟩
   ·exact .inr (.inr ⟨hsz,IN,v',cs',[],kK _ _ _,GJ,JI,fun g RE=>by simp only[Θ'];rw[bN RE.symm],by simp⟩)
   ·exact .inl hy
   ·exact .inr (.inl ⟨fun e=>hjk (by simp;omega),hy⟩)
  ·rcases key j _ hj with⟨rfl,hy⟩|⟨_,hy|⟨hjk,hy⟩⟩
   ·simp only[Ob.row.injEq,qE]at hy;obtain⟨rfl,rfl,rfl⟩:=hy;exact⟨v',cs',[],kK _ _ _,GJ,JI,by simp,by simp⟩
   ·cases hy
   ·exact qy.2.1 j e' sz' fI (fun e=>hjk (by simp;omega)) hy
  ·rcases key j _ hj with⟨rfl,hy⟩|⟨_,hy|⟨hjk,hy⟩⟩
   ·subst hy;exact Hp.uo rfl
   ·subst hy;trivial
   ·exact qy.2.2 j y (fun e=>hjk (by simp;omega)) hy
 refine hK _ _ (h _ _ _ _ (hs'.set (t:=t) (d:=.acc n) (bs:=[]) ht ?_ (by simp)));exact(wZ.acc n _ (kK _ _ _)).MQ
end
end Go.Cx
namespace Go.Cx
open Go.RowKit
def jP(P:Program)(f:FuncId)(cells cells':aL)(ds:aL)(d:D):Prop:=
 (∃fn,P.funcs[f]?=some fn/\fn.body.isSome=true/\(fn.name== "runtime.NumGoroutine")=false)/\
 ∀(w:World) (Θ:Nat->Nat) (g:Nat) (cs:Array Value) (T:TypeId) (args:bp) (bs ts us:aS),
  K9 w (fun b=>b=g\/b∈ts)->w.heap[g]?=some (.cells cs T (0,0))->yH w (.agg cs::args) (.agg cells::ds) bs ts us->
  (∀b∈bs,Θ b=0)->(∀b,Θ b≠0->b<w.heap.size)->(∀b,Θ b<=1)->Θ g=1->(∀b∈ts,Θ b=1/\b∈us/\b≠g)->us.Nodup->(∀b∈us,(b∉ts->Θ b=0)/\Wr w b)->
  Calls P f (.pointer (some ⟨g,0,none⟩)::args).toArray w (fun e w'=>∃v cs' T' b2 t2 u2 b3 t3 u3,e=.returned v/\w'.os=w.os/\w'.tape=w.tape/\w'.output=w.output/\w.heap.size<=w'.heap.size/\
   (∀b,b<w.heap.size->b≠g->b∉ts->w'.heap[b]?=w.heap[b]?)/\w'.heap[g]?=some (.cells cs' T' (0,0))/\
   wM w' v d b2 t2 u2/\rI w' cs'.toList cells' b3 t3 u3/\(∀b∈b3++b2,(b<w.heap.size->Θ b=0\/b∈ts)/\b≠g/\b∉t3++t2)/\(u3++u2).Nodup/\
   (∀b∈u3++u2,(w.heap.size<=b\/b∈us)/\b≠g/\Wr w' b)/\∀b∈t3++t2,b∈u3++u2/\(w.heap.size<=b\/b∈ts))
section
variable{P:Program}{Γ:sO}{Q:Exit->St->Prop}{st:St}{κ κ':Nat->Option Value}{Θ Θ':Nat->Nat}{a:Act}{w w':World}{all:Array Oper}{rest:List Oper}
theorem D7.SX{cs:Array Value}{ds:aL}{bs ts us:aS}(h:D7 w (.agg cs) (.agg ds) bs ts us):rI w cs.toList ds bs ts us:=by
 generalize hv:Value.agg cs=v at h;cases h with
 |cell h=>
  cases h with
  |pure h=>
   cases h with
   |agg l _ _ h=>cases hv;simpa using rI.Am h
 |agg l _ _ _ _ h=>cases hv;simpa using h
theorem Iq.SX{cs:Array Value}{ds:aL}{bs:aS}(h:Iq w κ (.agg cs) (.agg ds) bs):ey w κ cs.toList ds bs:=by
 generalize hv:Value.agg cs=v at h;cases h with
 |cell h=>
  cases h with
  |pure h=>
   cases h with
   |agg l _ _ h=>cases hv;simpa using ey.Am h
 |agg l _ _ h=>cases hv;simpa using h
theorem D6.shown{v:Value}{d:D}{bs ts us:aS}(h:D6 w v d bs ts us):∃b,Rd w v d.VS b:=by
 cases h with
 |pure h=>
  have e:d.VS=d:=by cases h<;>rfl
  exact⟨_,e.symm▸h⟩
 |fr e sz rows cs ns h1 h2 h3 h4 h5=>exact⟨_,tK h2 h3 h4⟩
theorem rI.shown{vs:bp}{ds:aL}{bs ts us:aS}(h:rI w vs ds bs ts us):∃b,jv w vs (ds.map D.VS) b:=by
 induction h with
 |nil=>exact⟨_,.nil⟩
 |cons v vs d ds b1 b2 t1 t2 u1 u2 h1 h2 _ ih=>
  obtain⟨b,q⟩:=h2.shown;obtain⟨b',q'⟩:=ih;exact⟨_,.cons _ _ _ _ _ _ h1 q q'⟩
theorem D7.shown{v:Value}{d:D}{bs ts us:aS}(h:D7 w v d bs ts us):j0 d.Un:=by
 cases h with
 |cell h=>
  by_cases rE:∃ds,d=.agg ds
  ·obtain⟨ds,rfl⟩:=rE;cases h with
   |pure h=>cases h with
    |agg cs _ _ h=>
     obtain⟨b,q⟩:=(rI.Am h).shown;exact⟨w,_,_,.agg _ _ _ q⟩
  ·have e:d.Un=d.VS:=by cases d<;>first|rfl|exact absurd ⟨_,rfl⟩ rE
   rw[e];obtain⟨b,q⟩:=h.shown;exact⟨w,_,_,q⟩
 |agg cs ds bs ts us h=>
  obtain⟨b,q⟩:=h.shown;exact⟨w,_,_,.agg _ _ _ q⟩
theorem yH.shown{vs:bp}{ds:aL}{bs ts us:aS}(h:yH w vs ds bs ts us):∀d∈ds.map D.Un,j0 d:=by
 induction h with
 |nil=>intro d hd;cases hd
 |cons v vs d ds b1 b2 t1 t2 u1 u2 h2 _ ih=>
  intro x hx;rcases bH.1 hx with rfl|hx
  ·exact h2.shown
  ·exact ih x hx
def I9(L:mc)(b:Nat):Option Nat:=ix (fun x:Fs=>x.v.ownBlock==some b) L
def r9(L:mc)(b:Nat):Option Nat:=ix (fun x:Fs=>x.ns.contains b) L
theorem Gh{L:mc}(hnd:(L.flatMap Fs.bl).Nodup){i:Nat}{x:Fs}{b:Nat}(hi:L[i]?=some x)(hb:x.v.ownBlock=some b):I9 L b=some i:=
 CU hi (by simp[hb]) (fun j y hj hy=>by
  simp only[cQ]at hy;exact tY hnd j i y x b hj hi (by simp[Fs.bl,hy]) (by simp[Fs.bl,hb]))
theorem PR{L:mc}{b i:Nat}(h:I9 L b=some i):b∈L.flatMap Fs.ts:=by
 obtain⟨x,hx,hp⟩:=wU h;exact bq.2 ⟨x,aD hx,by simp only[cQ]at hp;simp[Fs.ts,hp]⟩
theorem ur{L:mc}{b:Nat}(h:b∉L.flatMap Fs.ts):I9 L b=none:=by
 cases hb:I9 L b with
 |none=>rfl
 |some i=>exact absurd (PR hb) h
theorem zy{L:mc}(hnd:(L.flatMap Fs.bl).Nodup){i:Nat}{x:Fs}{b:Nat}(hi:L[i]?=some x)(hb:b∈x.ns):r9 L b=some i:=
 CU hi (by simpa using hb) (fun j y hj hy=>tY hnd j i y x b hj hi (by simp only[Fs.bl];exact aZ.2 (.inr (by simpa using hy))) (by simp only[Fs.bl];exact aZ.2 (.inr hb)))
theorem rX{L:mc}{b i:Nat}(h:r9 L b=some i):∃x,L[i]?=some x/\b∈x.ns:=by
 obtain⟨x,hx,hp⟩:=wU h;exact⟨x,hx,by simpa using hp⟩
theorem Ba{L:mc}{b:Nat}(h:b∈L.flatMap Fs.ts):b∈L.flatMap Fs.bl:=by
 obtain⟨x,hx,yy⟩:=bq.1 h;exact bq.2 ⟨x,hx,by simp only[Fs.bl,Fs.ts]at yy⊢;exact aZ.2 (.inl yy)⟩
theorem qF{L:mc}{i b:Nat}{x:Fs}(h:L[i]?=some x)(hb:b∈x.ns):b∈L.flatMap Fs.bl:=
 bq.2 ⟨x,aD h,by simp only[Fs.bl];exact aZ.2 (.inr hb)⟩
theorem Mp{L:mc}(hnd:(L.flatMap Fs.bl).Nodup):∀x∈L,x.bl.Nodup:=by
 induction L with
 |nil=>intro x hx;cases hx
 |cons z r ih=>
  intro x hx;simp only[ei]at hnd;obtain⟨n1,n2,_⟩:=bD.1 hnd;rcases bH.1 hx with rfl|hx
  ·exact n1
  ·exact ih n2 x hx
theorem AT{L:mc}(hnd:(L.flatMap Fs.bl).Nodup){i b:Nat}{x:Fs}(h:L[i]?=some x)(hb:b∈x.ns):b∉L.flatMap Fs.ts:=by
 intro ht;obtain⟨y,hy,hby⟩:=bq.1 ht;obtain⟨j,hj⟩:=di hy;have:=tY hnd j i y x b hj h (by simp only[Fs.bl,Fs.ts]at hby⊢;exact aZ.2 (.inl hby)) (by simp only[Fs.bl];exact aZ.2 (.inr hb));subst this;rw[hj]at h;cases h;have HU:=Mp hnd x hy;simp only[Fs.bl]at HU;exact(bD.1 HU).2.2 b hby b hb rfl
theorem GW{L:mc}(hnd:(L.flatMap Fs.bl).Nodup){i:Nat}{x:Fs}(h:L[i]?=some x):x.ns.Nodup:=by
 have:=Mp hnd x (aD h);simp only[Fs.bl]at this;exact(bD.1 this).2.1
def SV(P:Program)(fn:Func)(v0:Value)(cells':aL)(d:D)(e:Exit)(st:St):Prop:=
 (e=.ret\/e=.normal)/\∃nz Vy LV es ms qs,E9 P st fn.results.toList=some Vy/\st.H[0]?=some (.BQ LV v0)/\
  xo st.H nz (.agg LV::Vy)=some (.agg cells'::es,ms,qs)/\ms.Nodup/\qs.Nodup/\GY es=d
theorem SV.out{fn:Func}{v0:Value}{cells':aL}{d:D}{e:Exit}{a':Act}{w':World}{K4:St}{κ0:Nat->Option Value}{Θ0:Nat->Nat}(hs0:dH Γ K4 κ0 Θ0 a' w')(TG:SV P fn v0 cells' d e K4):
 (e=.ret\/e=.normal)/\a'.defers=[]/\Me Γ w'/\∃v g cs' T b2 t2 u2 b3 t3 u3,(results fn a'.tmps).run P w'=.ok v w'/\v0=.pointer (some ⟨g,0,none⟩)/\w'.heap[g]?=some (.cells cs' T (0,0))/\
  wM w' v d b2 t2 u2/\rI w' cs'.toList cells' b3 t3 u3/\(∀b∈b3++b2,(b<Γ.W0.heap.size->¬Γ.X b->Γ.Θ0 b=0)/\b≠g/\b∉t3++t2)/\(u3++u2).Nodup/\
  (∀b∈u3++u2,Pe Γ b/\b≠g/\Wr w' b)/\∀b∈t3++t2,b∈u3++u2/\vg Γ b:=by
 obtain⟨yh,nz,Vy,LV,es,ms,qs,hres,hH0,TH,JG,HV,rfl⟩:=TG;obtain⟨ρ0,WM⟩:=hs0.qz;have yC:=tZ TH;obtain⟨Θ1,ρ1,hs1,hu1,hm1,KK,RG⟩:=dH.Cw ms hs0 WM JG (fun m hm=>by
  obtain⟨e,sz,rows,hH⟩:=yC.1 m hm;exact⟨_,e,sz,rows,hH,rfl⟩)
 obtain⟨vs,bs',m1,m2,m3,m4,m5⟩:=zi hs0 hres;have hq:∀m e sz rows,K4.H[m]?=some (.row .uq e sz rows)->∃v cs ns,κ0 m=some v/\0<sz/\(∀r∈rows,r.length=sz)/\w'.ownsRow 0 e sz v rows.length cs/\jv w' cs rows.flatten ns/\ns.Nodup/\(∀b∈ns,ρ1 b=m+1)/\∀g,v.ownBlock=some g->Θ1 g=m+2:=by
  intro m e sz rows hH;have hnm:m∉ms:=fun hm=>by
   obtain⟨e',sz',cr,BP⟩:=yC.1 m hm;rw[hH]at BP;cases BP
  have K1:(kill K4.H ms)[m]?=some (.row .uq e sz rows):=by rw[fW hnm];exact hH
  obtain⟨v,cs,ns,r1,r2,r3,r4,r5⟩:=hu1.rows m e sz rows K1;obtain⟨p1,p2,v2,_,_,p3,_,_,p4,_⟩:=hs1.ob m _ K1;rw[r1]at p3;cases p3;exact⟨v,cs,ns,r1,p1,p2,r2,r3,r4,r5,p4⟩
 have h0m:0∉ms:=fun hm=>by
  obtain⟨e',sz',cr,BP⟩:=yC.1 0 hm;rw[hH0]at BP;cases BP
 have h0q:0∉qs:=fun hm=>by
  obtain⟨e',sz',cr,BP⟩:=yC.2 0 hm;rw[hH0]at BP;cases BP
 obtain⟨hv0,g,cs',T,hk0,hg,Lm,bb,Z2,hbz⟩:=hs1.ob 0 _ (show(kill K4.H ms)[0]?=_ by rw[fW h0m];exact hH0);have e0:v0=.pointer (some ⟨g,0,none⟩):=by rw[hv0]at hk0;cases hk0;rfl
 have Lm:Θ1 g=2:=Lm;obtain⟨c,tt,uu,zb,xb⟩:=wj (w:=w') (vs:=.agg cs'::vs) (fun b hb=>(hu1.free b hb).1) hq hs0.mw TH HV (by simp;omega) (fun i d hd=>by
  cases i with
  |zero=>
   simp at hd;subst hd;have:=Iq.agg _ _ _ Z2;exact⟨_,bb,rfl,.v (by simpa using this),hbz⟩
  |succ i=>
   obtain⟨v,b,k1,k2,k3⟩:=m4 i d (by simpa using hd);exact⟨v,b,by simpa using k1,k2,fun x hx=>KK x (m5 x (k3 x hx))⟩) hm1
 cases zb with
 |cons _ _ _ _ b3 b2 t3 t2 u3 u2 WA qc=>
 have HS:∃v,(results fn a'.tmps).run P w'=.ok v w'/\wM w' v (GY es) b2 t2 u2:=by
  have hrun:(results fn a'.tmps).run P w'=.ok (if h:vs.toArray.size=1 then vs.toArray[0]else .tuple vs.toArray) w':=by
   rw[results_eq,kz];simp[m1]
  cases qc with
  |nil=>exact⟨.tuple #[],by simpa using hrun,.iK [] [] [] [] [] .nil⟩
  |cons v vs d es b1 b2 t1 t2 u1 u2 hv qc=>
   cases qc with
   |nil=>
    simp only[eA];exact⟨v,by simpa using hrun,.v hv⟩
   |cons v2 vs d2 es b3 b4 t3 t4 u3 u4 K3 qc=>exact⟨.tuple (v::v2::vs).toArray,by simpa using hrun,.iK _ _ _ _ _ (.cons _ _ _ _ _ _ _ _ _ _ hv (.cons _ _ _ _ _ _ _ _ _ _ K3 qc))⟩
 obtain⟨v,Of,KI⟩:=HS;have CR:∀b∈t3++t2,Wr w' b:=by
  intro b hb;rcases aZ.1 hb with hb|hb
  ·exact Is WA b hb
  ·exact Ir KI b hb
 refine⟨yh,hs0.defers,hs0.stays,v,g,cs',T,b2,t2,u2,b3,t3,u3,Of,e0,hg,KI,WA.SX,fun b hb=>⟨fun hlt hx=>?_,fun e=>?_,fun ht=>?_⟩,xb.nd,fun b hb=>?_,fun b hb=>?_⟩
 ·have:=xb.zero b hb;rw[<-(hs1.old b hlt hx).1];exact this
 ·have:=xb.zero b hb;subst e;omega
 ·obtain⟨⟨m,_,hΘ⟩,_⟩:=xb.top b ht;have:=xb.zero b hb;omega
 ·rcases xb.mem b hb with h|⟨m,hm,hρ⟩
  ·obtain⟨⟨m,hm,hΘ⟩,_⟩:=xb.top b h;refine⟨.inl (hs1.mine b (by omega)),fun e=>?_,CR b h⟩;subst e;rw[Lm]at hΘ;have:m=0:=by omega
   subst this;exact h0q hm
  ·have:=hu1.free b (by omega);refine⟨this.2.1,fun e=>?_,this.2.2⟩;have h0:=this.1;subst e;omega
 ·obtain⟨⟨m,hm,hΘ⟩,h2⟩:=xb.top b hb;exact⟨h2,hs1.mine b (by omega)⟩
theorem zw.len{vs:bp}{ds:aL}{bs:aS}(h:zw w κ vs ds bs):vs.length=ds.length:=by
 induction h with
 |nil=>rfl
 |cons v vs d ds b1 b2 h1 _ ih=>simp[ih]
theorem jP.of{f:FuncId}{fn:Func}{c:Code}{cells cells' Bb ds Jz:aL}{obs:bP}{d:D}(hf:P.funcs[f]?=some fn)(hb:fn.body=some c)(hn:(fn.name== "runtime.NumGoroutine")=false)
 (hI:xf 1 (.agg cells::ds)=(.agg Bb::Jz,obs)) (hl:Jz.length+1<=fn.ntmps)
 (h:(∀x∈(D.agg cells::ds).map D.Un,j0 x)->∀(v0:Value) (Γ:sO),Γ.nt=fn.ntmps->AW P Γ c (SV P fn v0 cells' d) ⟨uW 0 (.ptr 0 0::Jz),.BQ Bb v0::obs⟩):jP P f cells cells' ds d:=by
 refine⟨⟨fn,hf,by simp[hb],hn⟩,?_⟩;intro w Θ g cs T args bs ts us hvs hg hargs hz hown h1 hg1 hts hnd qy;have Og:=hargs.shown;obtain⟨L,q1,q2,rfl,rfl,q5⟩:=hargs.inst 1;rw[hI]at q1 q5;have q1:L.map Fs.ob=obs:=q1;refine calls_of_wp hf hb ?_;let v0:Value:=.pointer (some ⟨g,0,none⟩)
 let κ0:Nat->Option Value:=fun i=>if i=0 then some v0 else(L[i-1]?).map Fs.v
 let Θ0:Nat->Nat:=fun b=>if b=g then 2 else match I9 L b with|some i=>i+3|none=>Θ b
 let ρ0:Nat->Nat:=fun b=>match r9 L b with|some i=>i+2|none=>0
 let Γ:sO:=⟨w,Θ0,fun b=>b=g\/b∈L.flatMap Fs.ts,fn.ntmps,fun b=>b∈L.flatMap Fs.bl,hvs⟩
 have hgl:g<w.heap.size:=(az.1 hg).1;have hk0:κ0 0=some v0:=rfl;have Z7:∀i x,L[i]?=some x->κ0 (i+1)=some x.v:=fun i x hx=>by simp[κ0,hx]
 have hnm:Names κ0 1 L:=fun i x hx=>by rw[Nat.add_comm];exact Z7 i x hx
 have hrd:=q5 κ0 hnm;have hlen:=hrd.len;have Xl:∀(i:Nat) x b,L[i]?=some x->x.v.ownBlock=some b->b∈L.flatMap Fs.ts:=fun i x b hx hb'=>bq.2 ⟨x,aD hx,by simp[Fs.ts,hb']⟩
 have Oh:∀(i:Nat) x b,L[i]?=some x->x.v.ownBlock=some b->Θ0 b=i+3:=by
  intro i x b hx hb';have:=(hts b (Xl i x b hx hb')).2.2;simp only[Θ0,Gh hnd hx hb'];rw[b9 this]
 have RH:∀b,Θ b=0->Θ0 b=0:=by
  intro b h0;have e1:b≠g:=fun e=>by subst e;omega
  have e2:b∉L.flatMap Fs.ts:=fun e=>by have:=(hts b e).1;omega
  simp only[Θ0,ur e2];rw[b9 e1,h0]
 have TC:∀(i:Nat) x b,L[i]?=some x->b∈x.ns->Θ0 b=0:=fun i x b hx hb'=>RH b ((qy b (qF hx hb')).1 (AT hnd hx hb'))
 have xe:∀b,Θ0 b≠Θ b->b=g\/b∈L.flatMap Fs.ts:=by
  intro b hne;by_cases e:b=g
  ·exact .inl e
  ·refine .inr (cu fun ht=>hne ?_);simp only[Θ0,ur ht];rw[b9 e]
 have OX:∀(j:Nat) o,obs[j]?=some o->∃x,L[j]?=some x/\o=x.ob:=by
  intro j o hj;rw[<-q1,bU]at hj;cases hx:L[j]? with
  |none=>simp[hx]at hj
  |some x=>simp[hx]at hj;exact⟨x,rfl,hj.symm⟩
 have ZD:obs.length=L.length:=by rw[<-q1];simp
 have WA:∃b',ey w κ0 cs.toList Bb b'/\∀b∈b',Θ0 b=0:=by
  obtain⟨v,b',k1,k2,k3⟩:=hrd.at (i:=0) (d:=.agg Bb) rfl;simp at k1;subst k1;exact⟨b',k2.SX,fun b hb'=>RH b (hz b (k3 b hb'))⟩
 have hs:dH Γ ⟨uW 0 (.ptr 0 0::Jz),.BQ Bb v0::obs⟩ κ0 Θ0 {tmps:=(v0::args).toArray++Array.replicate (fn.ntmps-(v0::args).toArray.size) undef,defers:=[]} w:=by
  refine⟨rfl,?_,fun i hi=>?_,?_,?_,?_,?_,?_,?_,⟨rfl,rfl,rfl,bL _,fun _ _ _=>rfl⟩,⟨ρ0,?_,?_,?_⟩⟩
  ·simp only[aT]at hlen;simp[Γ];omega
  ·simp only[aT]at hi;simp only[κ0];rw[b9 (by omega),cB (by omega)];rfl
  ·intro id u hu;simp only[κ0]at hu;split at hu
   ·cases hu;rfl
   ·cases hx:L[id-1]? with
    |none=>simp[hx]at hu
    |some x=>simp[hx]at hu;subst hu;exact(q2 x (aD hx)).2.2.2.2
  ·intro t;rw[CZ];simp only[sr,wz,tv];have QC:∀v,(v0::args)[t]?=some v->((v0::args).toArray++Array.replicate (fn.ntmps-(v0::args).toArray.size) undef).getD t undef=v:=by
    intro v hv;have hlt:=(aE.1 hv).1;rw[bw,eG (by simpa using hlt)];simp only[ij,hv,rV]
   cases t with
   |zero=>
    refine⟨[],?_,by simp⟩;rw[QC v0 rfl];exact .v (.cell (.ptr 0 0 g hk0))
   |succ s=>
    rw[fM];cases hd:Jz[s]? with
    |none=>exact⟨[],.of (.any _),by simp⟩
    |some x=>
     obtain⟨v,b',k1,k2,k3⟩:=hrd.at (i:=s+1) (d:=x) (by simpa using hd);rw[QC v (by simpa using k1)];exact⟨b',.v k2,fun b hb'=>RH b (hz b (k3 b hb'))⟩
  ·intro j o hj;cases j with
   |zero=>
    simp at hj;subst hj;obtain⟨b',k1,k2⟩:=WA;exact⟨hk0,g,cs,T,hk0,hg,by simp[Θ0],b',k1,k2⟩
   |succ j=>
    obtain⟨x,hx,rfl⟩:=OX j o (by simpa using hj);obtain⟨p1,p2,p3,p4,_⟩:=q2 x (aD hx);exact⟨p1,p2,x.v,x.cs,x.ns,Z7 j x hx,p3,p4,fun b hb'=>Oh j x b hx hb',fun b hb'=>TC j x b hx hb'⟩
  ·intro b hb';by_cases e:Θ0 b=Θ b
   ·exact hown b (by rw[<-e];exact hb')
   ·rcases xe b e with rfl|ht
    ·exact hgl
    ·exact hown b (by have:=(hts b ht).1;omega)
  ·intro b hlt hx;refine⟨rfl,?_⟩;have e:Θ0 b=Θ b:=cu fun e=>hx (xe b e)
   rw[e];exact h1 b
  ·intro b hb';refine .inr (xe b fun e=>?_);have:=h1 b;omega
  ·intro b hb';cases S7:r9 L b with
   |none=>simp[ρ0,S7]at hb'
   |some i=>
    obtain⟨x,hx,yy⟩:=rX S7;exact⟨TC i x b hx yy,.inr (qF hx yy),(qy b (qF hx yy)).2⟩
  ·intro id e sz rows hj;cases id with
   |zero=>simp at hj
   |succ j=>
    obtain⟨x,hx,OZ⟩:=OX j _ (by simpa using hj);simp only[Fs.ob,Ob.row.injEq,qE]at OZ;obtain⟨rfl,rfl,rfl⟩:=OZ;obtain⟨p1,p2,p3,p4,_⟩:=q2 x (aD hx);exact⟨x.v,x.cs,x.ns,Z7 j x hx,p3,p4,GW hnd hx,fun b hb'=>by simp[ρ0,zy hnd hx hb']⟩
  ·intro id o hj;cases id with
   |zero=>simp at hj;subst hj;trivial
   |succ j=>
    obtain⟨x,hx,OZ⟩:=OX j _ (by simpa using hj);subst OZ;exact Hp.uo rfl
 refine wp_mono (h Og v0 Γ rfl _ _ _ _ hs) ?_;rintro x a' w' ⟨K4,κ1,Θ1,hs0,TG⟩;obtain⟨yh,hdf,hst,v,g',cs',T',b2,t2,u2,b3,t3,u3,hrun,e0,hg',hres,a4I,a4C,Ds,uP,ht'⟩:=SV.out hs0 TG;obtain rfl:g=g':=by
  have e1:Value.pointer (some ⟨g,0,none⟩)=.pointer (some ⟨g',0,none⟩):=e0;cases e1;rfl
 have post:a'.defers=[]/\∃v',(results fn a'.tmps).run P w'=.ok v' w'/\∃v cs' T' b2 t2 u2 b3 t3 u3,Ending.returned v'=.returned v/\w'.os=w.os/\w'.tape=w.tape/\w'.output=w.output/\w.heap.size<=w'.heap.size/\
  (∀b,b<w.heap.size->b≠g->b∉L.flatMap Fs.ts->w'.heap[b]?=w.heap[b]?)/\w'.heap[g]?=some (.cells cs' T' (0,0))/\
  wM w' v d b2 t2 u2/\rI w' cs'.toList cells' b3 t3 u3/\(∀b∈b3++b2,(b<w.heap.size->Θ b=0\/b∈L.flatMap Fs.ts)/\b≠g/\b∉t3++t2)/\(u3++u2).Nodup/\
  (∀b∈u3++u2,(w.heap.size<=b\/b∈L.flatMap Fs.bl)/\b≠g/\Wr w' b)/\∀b∈t3++t2,b∈u3++u2/\(w.heap.size<=b\/b∈L.flatMap Fs.ts):=by
  refine⟨hdf,v,hrun,v,cs',T',b2,t2,u2,b3,t3,u3,rfl,hst.os,hst.tape,hst.output,hst.size,fun b hlt hne hnt=>hst.block b hlt (fun hx=>hx.elim hne hnt),hg',hres,a4I,fun b hb'=>?_,Ds,fun b hb'=>?_,fun b hb'=>?_⟩
  ·obtain⟨k1,k2,k3⟩:=a4C b hb';refine⟨fun hlt=>?_,k2,k3⟩;by_cases ht:b∈L.flatMap Fs.ts
   ·exact .inr ht
   ·refine .inl ?_;have:=k1 hlt (fun hx=>hx.elim k2 ht);have e:Θ0 b=Θ b:=cu fun e=>(xe b e).elim k2 ht
    rw[<-e];exact this
  ·obtain⟨k1,k2,k3⟩:=uP b hb';refine⟨?_,k2,k3⟩;rcases k1 with(k1|k1|k1)|k1
   ·exact .inl k1
   ·exact absurd k1 k2
   ·exact .inr (Ba k1)
   ·exact .inr k1
  ·obtain⟨k1,k2⟩:=ht' b hb';refine⟨k1,?_⟩;have:=(uP b k1).2.1;rcases k2 with k2|k2|k2
   ·exact .inl k2
   ·exact absurd k2 this
   ·exact .inr k2
 rcases yh with rfl|rfl
 ·exact post
 ·exact post
theorem SJ{o:Oper}{f t id:Nat}{xs:Array Operand}{ty:Array TypeId}{x0:Operand}{xr:List Operand}{ob:Ob}{Gy cells cells' ds:aL}{d:D}{nz:List (List (Option (Nat×Nat)))}{ms qs:aS}
 (hop:o.op=.call {callee:=.value (.func f),args:=xs,argTypes:=ty}) (hd:o.dst=some t) (hg:o.guard=none) (ht:t<Γ.nt)
 (hxs:xs.toList=x0::xr) (hx0:st.ev x0=.ptr id 0) (hH:st.H[id]?=some ob) (yQ:ob.R5=some Gy)
 (yh:xo st.H nz (.agg Gy::xr.map st.ev)=some (.agg cells::ds,ms,qs)) (JG:ms.Nodup) (HV:qs.Nodup) (mD:jP P f cells cells' ds d)
 (h:AO P Γ all rest Q ⟨(t,(mi (st.H.length+(mE st.H.length cells').2.length) d).1)::st.σ,
  (kill st.H (ms++qs)).set id (ob.re (mE st.H.length cells').1)++((mE st.H.length cells').2++(mi (st.H.length+(mE st.H.length cells').2.length) d).2)⟩):AO P Γ all (o::rest) Q st:=by
 intro κ Θ a w hs;have yC:=tZ yh;obtain⟨ρ,hu⟩:=hs.qz;obtain⟨Θ1,ρ1,hs1,hu1,hm1,KK,RG⟩:=dH.Cw ms hs hu JG (fun m hm=>by
  obtain⟨e,sz,rows,hH⟩:=yC.1 m hm;exact⟨_,e,sz,rows,hH,rfl⟩)
 have RF:id<st.H.length:=(aE.1 hH).1;have hnr:∀k e sz rows,st.H[id]?≠some (.row k e sz rows):=fun k e sz rows e1=>by rw[hH]at e1;cases e1;cases yQ
 have a4V:id∉ms:=fun hm=>by obtain⟨e',sz',cr,BP⟩:=yC.1 id hm;exact hnr _ _ _ _ BP
 have a4W:id∉qs:=fun hm=>by obtain⟨e',sz',cr,BP⟩:=yC.2 id hm;exact hnr _ _ _ _ BP
 have K1:(kill st.H ms)[id]?=some ob:=by rw[fW a4V];exact hH
 have a1Y:=hs1.ob id _ K1;obtain⟨g,cs,T,hk0,VK,Lm,bb,Z2,hbz⟩:=a1Y.cs yQ;have hgl:g<w.heap.size:=(az.1 VK).1;have hq:∀m e sz rows,st.H[m]?=some (.row .uq e sz rows)->∃v cs ns,κ m=some v/\0<sz/\(∀r∈rows,r.length=sz)/\w.ownsRow 0 e sz v rows.length cs/\jv w cs rows.flatten ns/\ns.Nodup/\(∀b∈ns,ρ1 b=m+1)/\∀g,v.ownBlock=some g->Θ1 g=m+2:=by
  intro m e sz rows hH;have hnm:m∉ms:=fun hm=>by
   obtain⟨e',sz',cr,BP⟩:=yC.1 m hm;rw[hH]at BP;cases BP
  have K1:(kill st.H ms)[m]?=some (.row .uq e sz rows):=by rw[fW hnm];exact hH
  obtain⟨v,cs,ns,r1,r2,r3,r4,r5⟩:=hu1.rows m e sz rows K1;obtain⟨p1,p2,v2,_,_,p3,_,_,p4,_⟩:=hs1.ob m _ K1;rw[r1]at p3;cases p3;exact⟨v,cs,ns,r1,p1,p2,r2,r3,r4,r5,p4⟩
 obtain⟨bs,ts,us,zb,xb⟩:=wj (w:=w) (vs:=.agg cs::xr.map a.eval) (fun b hb=>(hu1.free b hb).1) hq hs.mw yh HV (by simp) (fun i d hd=>by
  cases i with
  |zero=>
   simp at hd;subst hd;have:=Iq.agg _ _ _ Z2;exact⟨_,bb,rfl,.v (by simpa using this),hbz⟩
  |succ i=>
   rw[fM,bU]at hd;cases hx:xr[i]? with
   |none=>rw[hx]at hd;cases hd
   |some x=>
    rw[hx]at hd;simp only[cI,ah]at hd;subst hd;obtain⟨b,r,z⟩:=hs.ev x;exact⟨a.eval x,b,by simp[hx],r,fun y hy=>KK y (z y hy)⟩) hm1
 let Θc:Nat->Nat:=fun b=>if Θ1 b=0 then 0 else 1
 have xe:∀b,Θc b=0↔Θ1 b=0:=fun b=>by simp only[Θc];split<;>simp_all
 have GK:∀b∈ts,∃m∈qs,Θ1 b=m+2:=fun b hb=>(xb.top b hb).1
 have a4v:∀b∈ts,b≠g:=fun b hb e=>by
  obtain⟨m,hm,hΘ⟩:=GK b hb;subst e;rw[Lm]at hΘ;exact a4W (by
   have:id=m:=by omega
   rw[this];exact hm)
 have Li:K9 w fun b=>b=g\/b∈ts:=by
  obtain⟨B,v1,v2⟩:=hs1.vsb;refine⟨B,v1,fun b hB=>⟨(v2 b hB).2.1,fun hb'=>?_⟩⟩;have hm:vg Γ b:=by
   rcases hb' with rfl|hb'
   ·exact hs1.mine b (by omega)
   ·obtain⟨m,hm,hΘ⟩:=GK b hb';exact hs1.mine b (by omega)
  rcases hm with q|q
  ·have:=(v2 b hB).1;omega
  ·exact(v2 b hB).2.2 q
 have hwr:∀b∈us,Wr w b:=by
  intro b hb;rcases xb.mem b hb with h|⟨m,hm,hρ⟩
  ·exact Gu zb b h
  ·exact(hu1.free b (by omega)).2.2
 have hc:=mD.2 w Θc g cs T (xr.map a.eval) bs ts us Li VK zb (fun b hb=>(xe b).2 (xb.zero b hb)) (fun b hb=>hs1.own b (fun e=>hb ((xe b).2 e))) (fun b=>by simp only[Θc];split<;>omega)
  (by simp only[Θc];rw[b9 (by omega)]) (fun b hb=>by
   obtain⟨m,hm,hΘ⟩:=GK b hb;exact⟨by simp only[Θc];rw[b9 (by omega)],(xb.top b hb).2,a4v b hb⟩) xb.nd (fun b hb=>⟨fun hnt=>by
   rcases xb.mem b hb with h|⟨m,hm,hρ⟩
   ·exact absurd h hnt
   ·exact(xe b).2 (hu1.free b (by omega)).1,hwr b hb⟩)
 refine wpList_plain hg fun K hK=>?_
 unfold Oper.wp;rw[uN hop mD.1,Oper.upon_enter];have e0:xs.map a.eval=(.pointer (some ⟨g,0,none⟩)::xr.map a.eval).toArray:=by
  obtain⟨b0,r0,_⟩:=hs.ev x0;rw[hx0]at r0;obtain⟨g',hk',hv⟩:=r0.wV;rw[hk0]at hk';cases hk';rw[<-om,gG,hxs];simp[hv]
 rw[e0];refine hc.mono ?_;rintro x w' ⟨v,cs',T',b2,t2,u2,b3,t3,u3,rfl,k1,k2,k3,k4,Om,kg,Zi,kcs,kb,VP,ku,kt⟩;show K (a.put o.dst v) w';rw[hd];let N:=st.H.length
 have hs2:=hs1.forget (id::qs);have hNl:(kill st.H ms).length=N:=fH _ _;simp only[hNl]at hs2;let Θ2:Nat->Nat:=fun b=>if(id::qs).any (fun m=>Θ1 b==m+2)then N+2 else Θ1 b
 have hs2:dH Γ ⟨st.σ,kill (kill st.H ms) (id::qs)⟩ κ Θ2 a w:=hs2;have JK:∀b,Θ1 b=0->Θ2 b=0:=fun b hb=>by
  simp only[Θ2];rw[b9,hb];intro h;obtain⟨m,_,hm⟩:=cP.1 h;simp[hb]at hm
 have CS:∀b,b=g\/b∈ts->Θ2 b=N+2:=by
  intro b hb;simp only[Θ2];rw[bN];rcases hb with rfl|hb
  ·exact cP.2 ⟨id,by simp,by simp[Lm]⟩
  ·obtain⟨m,hm,hΘ⟩:=GK b hb;exact cP.2 ⟨m,by simp[hm],by simp[hΘ]⟩
 have VN:xB Γ (kill (kill st.H ms) (id::qs)) κ Θ2 w ρ1:=by
  refine⟨fun b hb=>?_,fun j e sz rows hj=>?_,fun j o hj=>?_⟩
  ·obtain⟨q1,q2⟩:=hu1.free b hb;exact⟨JK b q1,q2⟩
  ·rcases mj hj with h|⟨_,h⟩
   ·cases h
   ·exact hu1.rows j e sz rows h
  ·rcases mj hj with h|⟨_,h⟩
   ·subst h;trivial
   ·exact hu1.more j o h
 obtain⟨Lb,a1,a2,a3,a4,a5⟩:=kcs.inst N;obtain⟨Ld,c1,c2,c3,c4,c5⟩:=Zi.inst (N+(mE N cells').2.length);have a43:Lb.length=(mE N cells').2.length:=by rw[<-a1];simp
 let L:=Lb++Ld
 have S7:u3++u2=L.flatMap Fs.bl:=by simp[L,a3,c3]
 have a4u:t3++t2=L.flatMap Fs.ts:=by simp[L,a4,c4]
 rw[S7]at VP ku kt;rw[a4u]at kt kb;have OT:∀x∈L,x.ok w':=fun x hx=>by
  rcases aZ.1 hx with hx|hx
  ·exact a2 x hx
  ·exact c2 x hx
 let κ':Nat->Option Value:=fun j=>if j<N then κ j else(L[j-N]?).map Fs.v
 let Θ':Nat->Nat:=fun b=>if b=g then id+2 else match I9 L b with|some i=>N+i+2|none=>if Θ2 b=N+2 then 0 else Θ2 b
 let ρ':Nat->Nat:=fun b=>match r9 L b with|some i=>N+i+1|none=>ρ1 b
 have hgt:g∉L.flatMap Fs.bl:=fun h=>(ku g h).2.1 rfl
 have a1m:Θ' g=id+2:=by simp[Θ']
 have Ll:∀(i:Nat) x b,L[i]?=some x->x.v.ownBlock=some b->Θ' b=N+i+2:=by
  intro i x b hx hb;have hb':b∈L.flatMap Fs.ts:=bq.2 ⟨x,aD hx,by simp[Fs.ts,hb]⟩;have hne:b≠g:=fun e=>hgt (e▸Ba hb')
  simp only[Θ',Gh VP hx hb];rw[b9 hne]
 have xd:∀b,b≠g->b∉L.flatMap Fs.ts->Θ' b=if Θ2 b=N+2 then 0 else Θ2 b:=by
  intro b h1 h2;simp only[Θ',ur h2];rw[b9 h1]
 have hzero:∀b,w.heap.size<=b->Θ2 b=0:=fun b hge=>by
  cases h:Θ2 b with
  |zero=>rfl
  |succ m=>exact absurd (hs2.own b (by omega)) (by omega)
 have WL:∀b∈b3++b2,Θ' b=0:=by
  intro b hb;obtain⟨p1,p2,p3⟩:=kb b hb;rw[xd b p2 p3];by_cases hlt:b<w.heap.size
  ·rcases p1 hlt with h|h
   ·rw[JK b ((xe b).1 h)];simp
   ·rw[bN (CS b (.inr h))]
  ·rw[hzero b (by omega)];simp
 have TD:∀(i:Nat) x b,L[i]?=some x->b∈x.ns->Θ' b=0:=by
  intro i x b hx hb;have hmem:=qF hx hb;rw[xd b (ku b hmem).2.1 (AT VP hx hb)];rcases(ku b hmem).1 with h|h
  ·rw[hzero b h];simp
  ·rcases xb.mem b h with h|⟨m,hm,hρ⟩
   ·rw[bN (CS b (.inr h))]
   ·rw[JK b (hu1.free b (by omega)).1];simp
 have hn:∀(j:Nat) v,κ j=some v->κ' j=some v:=by
  intro j v hj;have:j<N:=cu fun h=>by rw[hs.ni j (by omega)]at hj;cases hj
  simp only[κ'];rw[bN this];exact hj
 have tJ:Names κ' N L:=by
  intro i x hx;simp only[κ'];rw[b9 (by omega),cq,hx];rfl
 have T9:∀b∈L.flatMap Fs.ts,vg Γ b:=by
  intro b hb;rcases(kt b hb).2 with h|h
  ·exact .inl (dK hs.base h)
  ·obtain⟨m,hm,hΘ⟩:=GK b h;exact hs1.mine b (by omega)
 have k:hY w w' Θ2 Θ' (N+2):=by
  refine⟨by omega,k1,k2,k3,k4,fun b hlt hne=>Om b hlt (fun e=>hne (CS b (.inl e))) (fun e=>hne (CS b (.inr e))),fun b hlt hne=>?_,fun b hb=>?_⟩
  ·rw[xd b (fun e=>hne (CS b (.inl e))) (fun e=>?_),b9 hne];rcases(kt b e).2 with h|h
   ·omega
   ·exact hne (CS b (.inr h))
  ·by_cases e:b=g
   ·subst e;omega
   ·by_cases ht':b∈L.flatMap Fs.ts
    ·obtain⟨x,T,hx⟩:=(ku b (Ba ht')).2.2;exact(az.1 hx).1
    ·rw[xd b e ht']at hb;split at hb
     ·exact absurd rfl hb
     ·exact cz (hs2.own b hb) k4
 have hm:∀b,2<=Θ' b->vg Γ b:=by
  intro b hb;by_cases e:b=g
  ·subst e;exact hs1.mine b (by omega)
  ·by_cases ht':b∈L.flatMap Fs.ts
   ·exact T9 b ht'
   ·rw[xd b e ht']at hb;split at hb
    ·omega
    ·exact hs2.mine b hb
 have qy:=hs2.mm k hn VN;have Ey:((kill st.H (ms++qs)).set id (ob.re (mE N cells').1)).length=N:=by simp[fH,N]
 have a2F:∀(a_ bs:aS) (H:bP),kill H (a_++bs)=kill (kill H a_) bs:=by
  intro a_
  induction a_ with
  |nil=>intro bs H;rfl
  |cons x a_ ih=>intro bs H;simp only[oo,kill,ih]
 have a4e:(mE N cells').2++(mi (N+(mE N cells').2.length) d).2=L.map Fs.ob:=by simp[L,a1,c1]
 have key:∀(j:Nat) y,((kill st.H (ms++qs)).set id (ob.re (mE N cells').1)++L.map Fs.ob)[j]?=some y->(∃i x,j=N+i/\L[i]?=some x/\y=x.ob)\/(j=id/\y=ob.re (mE N cells').1)\/(j≠id/\j<N/\(y=.gone\/(kill (kill st.H ms) (id::qs))[j]?=some y)):=by
  intro j y hj;by_cases hlt:j<N
  ·rw[aq (by rw[Ey];exact hlt)]at hj;rcases wX j y hj with⟨rfl,rfl⟩|⟨h1,h2⟩
   ·exact .inr (.inl ⟨rfl,rfl⟩)
   ·refine .inr (.inr ⟨h1,hlt,?_⟩);rcases mj h2 with h|⟨h3,h4⟩
    ·exact .inl h
    ·refine .inr ?_;simp only[aZ,BY]at h3;rw[fW (by simp[h1,h3.2]),fW h3.1];exact h4
  ·rw[ax (by omega),Ey,bU]at hj;cases hx:L[j-N]? with
   |none=>simp[hx]at hj
   |some x=>simp[hx]at hj;exact .inl ⟨j-N,x,by omega,hx,hj.symm⟩
 have hs':dH Γ ⟨st.σ,(kill st.H (ms++qs)).set id (ob.re (mE N cells').1)++L.map Fs.ob⟩ κ' Θ' a w':=by
  have Hw:∀(j:Nat) y,(kill (kill st.H ms) (id::qs))[j]?=some y->y≠ .gone->∀b,ρ1 b=j+1->ρ' b=j+1:=by
   intro j y hy hyg b ZM;have hjk:j∉id::qs:=by
    rcases mj hy with h|h
    ·exact absurd h hyg
    ·exact h.1
   have hnb:r9 L b=none:=by
    cases hi:r9 L b with
    |none=>rfl
    |some i=>
     exfalso;obtain⟨x,hx,yy⟩:=rX hi;obtain⟨z0,_,a3t,T'',ZK⟩:=hu1.free b (by omega);rcases(ku b (qF hx yy)).1 with h|h
     ·have:=(az.1 ZK).1;omega
     ·rcases xb.mem b h with h|⟨m,hm',hρ⟩
      ·obtain⟨m,hm',hΘ⟩:=GK b h;omega
      ·exact hjk (by
        have:j=m:=by omega
        rw[this];simp[hm'])
   simp only[ρ',hnb];exact ZM
  refine hs2.step k hm hn ?_ ?_ ?_ ⟨ρ',?_,?_,?_⟩
  ·intro i hi;simp only[av,Ey,ar]at hi;simp only[κ'];rw[b9 (by omega),cB (by omega)];rfl
  ·intro i u uP;simp only[κ']at uP;split at uP
   ·exact hs.mw i u uP
   ·cases hx:L[i-N]? with
    |none=>simp[hx]at uP
    |some x=>simp[hx]at uP;subst uP;exact(OT x (aD hx)).2.2.2.2
  ·intro j y hj;rcases key j y hj with⟨i,x,rfl,hx,rfl⟩|⟨rfl,rfl⟩|⟨hji,hjl,hy|hy⟩
   ·obtain⟨q1,q2,q3,q4,_⟩:=OT x (aD hx);exact .inr (.inr ⟨q1,q2,x.v,x.cs,x.ns,tJ i x hx,q3,q4,fun g' hg'=>Ll i x g' hx hg',fun b hb'=>TD i x b hx hb'⟩)
   ·refine .inr (.inr (u7.a2X yQ a1Y (hn _) ⟨g,cs',T',hn _ _ hk0,kg,a1m,b3,a5 κ' tJ.left,fun b hb=>WL b (by simp[hb])⟩))
   ·exact .inl hy
   ·exact .inr (.inl ⟨by omega,hy⟩)
  ·intro b hb;cases KF:r9 L b with
   |some i=>
    obtain⟨x,hx,yy⟩:=rX KF;have hmem:=qF hx yy;refine⟨TD i x b hx yy,?_,(ku b hmem).2.2⟩;rcases(ku b hmem).1 with h|h
    ·exact .inl (.inl (dK hs.base h))
    ·rcases xb.mem b h with h|⟨m,hm',hρ⟩
     ·obtain⟨m,hm',hΘ⟩:=GK b h;exact .inl (hs1.mine b (by omega))
     ·exact(hu1.free b (by omega)).2.1
   |none=>
    simp only[ρ',KF]at hb;exact qy.1 b hb
  ·intro j e sz rows hj;rcases key j _ hj with⟨i,x,rfl,hx,hy⟩|⟨rfl,hy⟩|⟨hji,hjl,hy|hy⟩
   ·simp only[Fs.ob,Ob.row.injEq,qE]at hy;obtain⟨rfl,rfl,rfl⟩:=hy;obtain⟨q1,q2,q3,q4,_⟩:=OT x (aD hx);exact⟨x.v,x.cs,x.ns,tJ i x hx,q3,q4,GW VP hx,fun b hb'=>by simp only[ρ',zy VP hx hb']⟩
   ·cases ob<;>simp[Ob.re]at hy
   ·cases hy
   ·obtain⟨v',c',bs',r1,r2,r3,r4,r5⟩:=qy.2.1 j e sz rows (by omega) hy;exact⟨v',c',bs',r1,r2,r3,r4,fun b hb'=>Hw j _ hy (by simp) b (r5 b hb')⟩
  ·intro j y hj;rcases key j _ hj with⟨i,x,rfl,hx,hy⟩|⟨rfl,hy⟩|⟨hji,hjl,hy|hy⟩
   ·subst hy;exact Hp.uo rfl
   ·subst hy;cases ob<;>exact Hp.uo rfl
   ·subst hy;trivial
   ·by_cases hg:y=.gone
    ·subst hg;trivial
    ·exact(qy.2.2 j y (by omega) hy).re (Hw j y hy hg)
 rw[a4e]at h;refine hK _ _ (h _ _ _ _ (hs'.set (t:=t) ht (c5 κ' ?_) fun b hb=>WL b (by simp[hb])));rw[<-a43];exact tJ.right
def FL(P:Program)(f:FuncId)(ds cells:aL):Prop:=
 (∃fn,P.funcs[f]?=some fn/\fn.body.isSome=true/\(fn.name== "runtime.NumGoroutine")=false)/\
 ∀(w:World) (Θ:Nat->Nat) (args:bp) (bs:aS),K9 w (fun _=>False)->Pg w args ds bs->(∀b∈bs,Θ b=0)->(∀b,Θ b≠0->b<w.heap.size)->(∀b,Θ b<=1)->
  Calls P f args.toArray w (fun e w'=>∃g cs T bs',e=.returned (.pointer (some ⟨g,0,none⟩))/\Below w.heap.size w w'/\w.heap.size<=g/\w'.heap[g]?=some (.cells cs T (0,0))/\jv w' cs.toList cells bs'/\
   ∀b∈bs',(b<w.heap.size->Θ b=0)/\b≠g)
def a16(P:Program)(fn:Func)(cells:aL)(e:Exit)(st:St):Prop:=
 (e=.ret\/e=.normal)/\∃j,E9 P st fn.results.toList=some [.ptr j 0]/\st.H[j]?=some (.box cells)/\cells.all D.MW=true
theorem FL.of{f:FuncId}{fn:Func}{c:Code}{ds cells:aL}(hf:P.funcs[f]?=some fn)(hb:fn.body=some c)(hn:(fn.name== "runtime.NumGoroutine")=false)
 (hl:ds.length<=fn.ntmps) (h:(∀d∈ds,j0 d)->∀Γ:sO,Γ.nt=fn.ntmps->AW P Γ c (a16 P fn cells) ⟨uW 0 ds,[]⟩):FL P f ds cells:=by
 refine⟨⟨fn,hf,by simp[hb],hn⟩,?_⟩;intro w Θ args bs hvs hargs hz hown h1;obtain⟨hlen,ND⟩:=hargs.at;refine calls_of_wp hf hb ?_;let Γ:sO:=⟨w,Θ,fun _=>False,fn.ntmps,fun _=>False,hvs⟩
 have hs:dH Γ ⟨uW 0 ds,[]⟩ (fun _=>none) Θ {tmps:=args.toArray++Array.replicate (fn.ntmps-args.toArray.size) undef,defers:=[]} w:=by
  refine⟨rfl,?_,fun _ _=>rfl,by simp,?_,by simp,hown,fun b _ _=>⟨rfl,h1 b⟩,fun b hb=>by have:=h1 b;omega,⟨rfl,rfl,rfl,bL _,fun _ _ _=>rfl⟩,⟨fun _=>0,by simp,by simp,by simp⟩⟩
  ·simp[Γ];omega
  ·intro t;rw[CZ];simp only[sr,wz,tv];cases hd:ds[t]? with
   |none=>exact⟨[],.of (.any _),by simp⟩
   |some x=>
    obtain⟨v,b,k1,k2,k3⟩:=ND t x hd;refine⟨b,?_,fun y hy=>hz y (k3 y hy)⟩;have hlt:t<args.length:=(aE.1 k1).1;have:(args.toArray++Array.replicate (fn.ntmps-args.toArray.size) undef).getD t undef=v:=by
     rw[bw,eG (by simpa using hlt)];simp[k1]
    rw[this];exact .of k2
 refine wp_mono (h hargs.rdb Γ rfl _ _ _ _ hs) ?_;rintro e a' w' ⟨K4,κ0,Θ0,hs0,yh,j,hres,hH,hp⟩;obtain⟨vs,bs',m1,m2,m3,m4,m5⟩:=zi hs0 hres;obtain⟨v,b,n1,n2,_⟩:=m4 0 _ rfl;obtain⟨g,hk,hv⟩:=n2.wV;obtain⟨g',cs,T,hk',hg,hΘ,bb,Z2,hbz⟩:=hs0.ob j _ hH;rw[hk]at hk';cases hk';have a4z:vs=[v]:=by
  simp only[aT,bW]at m3
  match vs,m2,n1 with
  | [],_,n1=>simp at n1
  | [x],_,n1=>simp at n1;rw[n1]
  |x::y::r,m2,_=>simp only[aT]at m2;omega
 have hrun:(results fn a'.tmps).run P w'=.ok (.pointer (some ⟨g,0,none⟩)) w':=by
  rw[results_eq,kz];simp[m1,a4z,hv]
 have JA:Below w.heap.size w w':=⟨hs0.stays.os,hs0.stays.tape,hs0.stays.output,hs0.stays.size,fun b hb=>hs0.stays.block b hb (fun h=>h)⟩
 have hgm:w.heap.size<=g:=by
  rcases hs0.mine g (by omega)with q|q
  ·exact q
  ·exact q.elim
 have post:a'.defers=[]/\∃v,(results fn a'.tmps).run P w'=.ok v w'/\∃g cs T bs',Ending.returned v=.returned (.pointer (some ⟨g,0,none⟩))/\Below w.heap.size w w'/\w.heap.size<=g/\w'.heap[g]?=some (.cells cs T (0,0))/\jv w' cs.toList cells bs'/\
  ∀b∈bs',(b<w.heap.size->Θ b=0)/\b≠g:=by
  refine⟨hs0.defers,_,hrun,g,cs,T,bb,rfl,JA,hgm,hg,Z2.pure hp,fun b hb'=>⟨fun hlt=>?_,fun e=>?_⟩⟩
  ·exact(hs0.old b hlt (fun h=>h)).1.symm.trans (hbz b hb')
  ·have:=hbz b hb';subst e;omega
 rcases yh with rfl|rfl
 ·exact post
 ·exact post
theorem SH{o:Oper}{f t:Nat}{xs:Array Operand}{ts:Array TypeId}{ds cells:aL}(hop:o.op=.call {callee:=.value (.func f),args:=xs,argTypes:=ts})(hd:o.dst=some t)(hg:o.guard=none)
 (ht:t<Γ.nt) (hds:Du st.H (xs.toList.map st.ev)=some (ds,[])) (mD:FL P f ds cells)
 (h:AO P Γ all rest Q ⟨(t,.ptr st.H.length 0)::st.σ,st.H++[.box cells]⟩):AO P Γ all (o::rest) Q st:=by
 intro κ Θ a w hs;obtain⟨bs,hargs,hz⟩:=Ij hs hds;have vb:∀b∈bs,Θ b=0:=fun b hb=>(hz b hb).elim id (fun⟨m,h1,_⟩=>by cases h1)
 let Θc:Nat->Nat:=fun b=>if Θ b=0 then 0 else 1
 have xe:∀b,Θc b=0↔Θ b=0:=fun b=>by simp only[Θc];split<;>simp_all
 have hc:=mD.2 w Θc _ bs hs.vok hargs (fun b hb=>(xe b).2 (vb b hb)) (fun b hb=>hs.own b (fun e=>hb ((xe b).2 e))) (fun b=>by simp only[Θc];split<;>omega);refine wpList_plain hg fun K hK=>?_
 unfold Oper.wp;rw[uN hop mD.1,Oper.upon_enter];have e:xs.map a.eval=(xs.toList.map a.eval).toArray:=by rw[<-gG,jN]
 rw[e];refine hc.mono ?_;rintro e w' ⟨g,cs,T,bs',rfl,hb,hge,hg',hrd,Z2⟩;show K (a.put o.dst (.pointer (some ⟨g,0,none⟩))) w';rw[hd];let Θ':Nat->Nat:=fun b=>if b=g then st.H.length+2 else Θ b
 have k:hY w w' Θ Θ' (st.H.length+2):=by
  refine⟨by omega,hb.os,hb.tape,hb.output,hb.size,fun b hlt _=>hb.block b hlt,fun b hlt _=>?_,fun b hb'=>?_⟩
  ·simp only[Θ'];rw[b9 (by omega)]
  ·simp only[Θ']at hb';split at hb'
   ·rename_i e;subst e;exact(az.1 hg').1
   ·exact cz (hs.own b hb') hb.size
 have hbz:∀b∈bs',Θ' b=0:=by
  intro b hb';obtain⟨h1,h2⟩:=Z2 b hb';simp only[Θ'];rw[b9 h2];by_cases hlt:b<w.heap.size
  ·exact(xe b).1 (h1 hlt)
  ·cases h:Θ b with
   |zero=>rfl
   |succ m=>exact absurd (hs.own b (by omega)) hlt
 have hs':=hs.push (o:=.box cells) (v:=.pointer (some ⟨g,0,none⟩)) rfl k (hs.wh (fun b hb'=>by
  simp only[Θ']at hb';split at hb'
  ·rename_i e;subst e;exact .inr hge
  ·exact .inl hb')) ⟨g,cs,T,kK _ _ _,hg',by simp[Θ'],bs',ey.Am hrd,hbz⟩ rfl
 refine hK _ _ (h _ _ _ _ (hs'.set (t:=t) (d:=.ptr st.H.length 0) (bs:=[]) ht ?_ (by simp)));exact(wZ.ptr st.H.length 0 g (kK _ _ _)).MQ
theorem VX{o:Oper}{T t id e e' sz h:Nat}{kk:IntKind}{x hi:Operand}{rows:List aL}(hop:o.op=.slice T x none (some hi) none)(hd:o.dst=some t)(hg:o.guard=none)(ht:t<Γ.nt)
 (hT:D2 P T=some (e',sz)) (hx:st.ev x=.acc id) (hH:st.H[id]?=some (.row .uq e sz rows)) (hhi:st.ev hi=.int kk (h:Int)) (hle:h<=rows.length)
 (hn:AO P Γ all rest Q ⟨(t,.acc st.H.length)::st.σ,kill st.H [id]++[.row .uq e sz (rows.take h)]⟩):AO P Γ all (o::rest) Q st:=by
 intro κ Θ a w hs;obtain⟨hsz,hrl,v,cs0,bs0,hk,Xk,a7F,CR,vb⟩:=hs.ob id _ hH;obtain⟨ρ,hu⟩:=hs.qz;obtain⟨v2,cs,bs,hk2,hown,hrd,hnd,hρ⟩:=hu.rows id e sz rows hH;rw[hk]at hk2;cases hk2;obtain⟨bx,rx,_⟩:=hs.ev x;rw[hx]at rx;obtain⟨hkx,_⟩:=rx.su;have QG:a.eval x=v:=by rw[hk]at hkx;cases hkx;rfl
 let v':Value:=match v with| .slice q _ cap=>.slice q h cap|u=>u
 have hc:yE rows.length ((none:Option Operand).map st.ev) ((some hi).map st.ev)=some (0,h):=by
  simp[yE,hhi,hle]
 have hrun:∃q cap,v=.slice q rows.length cap/\v'=.slice q h cap/\(execOp a.eval o).run P w=.ok (.value v') w:=by
  obtain⟨uP,HT,GL⟩:=nQ hT;have main:∀(q:Option Addr) (cap:Nat),(∀b off sp,q=some ⟨b,off,sp⟩->off=0/\sp=none)->v=.slice q rows.length cap->rows.length<=cap->(execOp a.eval o).run P w=.ok (.value (.slice q h cap)) w:=by
   intro q cap hq0 hq hcap;obtain⟨hr,hl,hh⟩:=MF (P:=P) (isSlice:=true) (cap:=cap) hs hcap hc;have a6k:(if cap=0 then q else q.map (·.add (0*sz)))=q:=by
    split
    ·rfl
    ·cases q with
     |none=>rfl
     |some ad=>simp[Addr.add]
   simp only[ve,cI]at hr;simp only[execOp,hop,QG,hq];simp[Instr.sliceAt,Instr.slice,run_underlying uP,hr,sj (P:=P) HT w];intro hc0;cases q with
   |none=>rfl
   |some ad=>simp[Addr.add]
  rcases hown.2 with⟨rfl,h0⟩|⟨g,cap,cur,rfl,_,Lg,hnc,hcm,hcs,htk⟩
  ·exact⟨none,0,by rw[h0],rfl,main none 0 (by simp) (by rw[h0]) (by omega)⟩
  ·exact⟨some ⟨g,0,none⟩,cap,rfl,rfl,main _ _ (by simp) rfl hnc⟩
 obtain⟨q,cap,hvq,WO,hrun⟩:=hrun;have yQ:v'.ownBlock=v.ownBlock:=by rw[WO,hvq];cases q<;>rfl
 have hone:v'.oneCell'=true:=by
  have:=hs.mw id v hk;rw[hvq]at this;rw[WO];exact this
 have hsplit:∃cs' bs',w.ownsRow 0 e sz v' (rows.take h).length cs'/\jv w cs' (rows.take h).flatten bs'/\bs'.Nodup/\∀b∈bs',b∈bs:=by
  have e1:rows.flatten=(rows.take h).flatten++(rows.drop h).flatten:=by rw[<-kN,bz]
  have JI:=hrd;rw[e1]at JI;obtain⟨c1,c2,b1,b2,rfl,rfl,k1,k2⟩:=JI.split;have htl:(rows.take h).length=h:=by rw[cF];omega
  have hc1:c1.length=h*sz:=by rw[k1.length,nG (fun r hr=>hrl r (cD hr)),htl]
  refine⟨c1,b1,?_,k1,(bD.1 hnd).1,fun b hb=>by simp[hb]⟩;rw[htl];refine⟨hc1,?_⟩;rcases hown.2 with⟨hv0,h0⟩|⟨g,cap',cur,hvs,hbg,Lg,hnc,hcm,hcs,htk⟩
  ·left
   have:h=0:=by omega
   subst this;have e3:=hv0.symm.trans hvq;simp only[Value.slice.injEq]at e3;exact⟨by rw[WO,<-e3.1,<-e3.2.2],rfl⟩
  ·right
   have e3:=hvs.symm.trans hvq;simp only[Value.slice.injEq]at e3;refine⟨g,cap',cur,by rw[WO,<-e3.1,<-e3.2.2],hbg,Lg,by omega,hcm,hcs,?_⟩;have h3:(cur.toList.take (rows.length*sz)).take (h*sz)=(c1++c2).take (h*sz):=by rw[htk]
   rw[rF,eg (dG _ hle)]at h3;rw[h3];exact gw hc1
 obtain⟨cs',bs',p1,p2,p3,p4⟩:=hsplit;refine wpList_plain hg fun K hK=>?_
 unfold Oper.wp;rw[hrun,Oper.upon_value,hd];let n:=st.H.length
 have RF:id<n:=(aE.1 hH).1;let Θ':Nat->Nat:=fun b=>if some b=v'.ownBlock then n+2 else Θ b
 let ρ':Nat->Nat:=fun b=>if ρ b=id+1 then n+1 else ρ b
 have VO:∀g,v'.ownBlock=some g->Θ g=id+2:=fun g RE=>CR g (yQ▸RE)
 have k:hY w w Θ Θ' (id+2):=by
  refine⟨by omega,rfl,rfl,rfl,bL _,fun _ _ _=>rfl,fun b hb hne=>?_,fun b hb=>?_⟩
  ·simp only[Θ'];rw[b9 fun e=>hne (VO b e.symm)]
  ·simp only[Θ']at hb;split at hb
   ·rename_i e;exact hs.own b (by rw[VO b e.symm];omega)
   ·exact hs.own b hb
 have hm:∀b,2<=Θ' b->vg Γ b:=by
  intro b hb;simp only[Θ']at hb;split at hb
  ·rename_i e;exact hs.mine b (by rw[VO b e.symm];omega)
  ·exact hs.mine b hb
 have ZC:=vB (hs.ni n (bL _)) (some v');have qy:=hs.mm k ZC hu;have Ia:∀b∈bs',Θ' b=0:=by
  intro b hb;have h1:=(hu.free b (by rw[hρ b (p4 b hb)];omega)).1;simp only[Θ'];rw[b9 fun e=>by have:=VO b e.symm;omega];exact h1
 have key:∀(j:Nat) y,(kill st.H [id]++[.row .uq e sz (rows.take h)])[j]?=some y->(j=n/\y=.row .uq e sz (rows.take h))\/(j≠n/\(y=.gone\/(j∉[id]/\st.H[j]?=some y))):=by
  intro j y hj;rcases zg j y hj with⟨h1,h2⟩|⟨h1,h2⟩
  ·rw[fH]at h1;exact .inl ⟨h1,h2⟩
  ·rw[fH]at h1;exact .inr ⟨h1,mj h2⟩
 have hs':dH Γ ⟨st.σ,kill st.H [id]++[.row .uq e sz (rows.take h)]⟩ (vc κ n (some v')) Θ' a w:=by
  refine hs.step k hm ZC ?_ ?_ ?_ ⟨ρ',fun b hb=>?_,fun j e2 PL fI hj=>?_,fun j y hj=>?_⟩
  ·intro i hi;simp only[av,aT,bW,fH]at hi;unfold vc;rw[b9 (by omega)];exact hs.ni i (by omega)
  ·intro i y hy;unfold vc at hy;split at hy
   ·cases hy;exact hone
   ·exact hs.mw i y hy
  ·intro j y hj;rcases key j y hj with⟨rfl,rfl⟩|⟨_,hy|⟨hjk,hy⟩⟩
   ·exact .inr (.inr ⟨hsz,fun r hr=>hrl r (cD hr),v',cs',bs',kK _ _ _,p1,p2,fun g RE=>by simp only[Θ'];rw[bN RE.symm],Ia⟩)
   ·exact .inl hy
   ·exact .inr (.inl ⟨fun e=>hjk (by simp;omega),hy⟩)
  ·refine qy.1 b fun h0=>hb ?_
   simp only[ρ'];rw[b9 (by omega)];exact h0
  ·rcases key j _ hj with⟨rfl,hy⟩|⟨_,hy|⟨hjk,hy⟩⟩
   ·simp only[Ob.row.injEq,qE]at hy;obtain⟨rfl,rfl,rfl⟩:=hy;exact⟨v',cs',bs',kK _ _ _,p1,p2,p3,fun b hb=>by simp only[ρ'];rw[bN (hρ b (p4 b hb))]⟩
   ·cases hy
   ·obtain⟨v3,c3,b3,q1,q2,q3,q4,q5⟩:=qy.2.1 j e2 PL fI (fun e=>hjk (by simp;omega)) hy;refine⟨v3,c3,b3,q1,q2,q3,q4,fun b hb=>?_⟩;have hne:j≠id:=fun e=>hjk (by simp[e])
    simp only[ρ'];rw[b9 (by rw[q5 b hb];omega)];exact q5 b hb
  ·rcases key j _ hj with⟨rfl,hy⟩|⟨_,hy|⟨hjk,hy⟩⟩
   ·subst hy;exact Hp.uo rfl
   ·subst hy;trivial
   ·refine(qy.2.2 j y (fun e=>hjk (by simp;omega)) hy).re fun b hb=>?_
    have hne:j≠id:=fun e=>hjk (by simp[e])
    simp only[ρ'];rw[b9 (by omega)];exact hb
 refine hK _ _ (hn _ _ _ _ (hs'.set (t:=t) (d:=.acc n) (bs:=[]) ht ?_ (by simp)));exact(wZ.acc n _ (kK _ _ _)).MQ
end
end Go.Cx
namespace Go.Cx
open Go.RowKit
section
variable{P:Program}{Γ:sO}{Q:Exit->St->Prop}{st:St}{κ κ':Nat->Option Value}{Θ Θ':Nat->Nat}{a:Act}{w w':World}{all:Array Oper}{rest:List Oper}
theorem dH.Zq(hs:dH Γ st κ Θ a w):
 dH Γ ⟨st.σ,st.H++[.mp []]⟩ (vc κ st.H.length (some (.map (some w.heap.size)))) (fun b=>if b=w.heap.size then st.H.length+2 else Θ b) a (w.alloc (.map #[] 0)):=by
 have k:=hY.alloc hs (.map #[] 0) (tag:=st.H.length+2) (by omega);refine hs.push rfl k (hs.wh (fun b hb=>by by_cases e:b=w.heap.size<;>simp_all)) ?_ rfl;exact⟨w.heap.size,#[],0,by simp[vc],heap_alloc_new w _,by simp,rfl,by simp⟩
theorem OA{o:Oper}{T t:Nat}(hop:o.op=.makeMap T none)(hd:o.dst=some t)(hg:o.guard=none)(ht:t<Γ.nt)
 (h:AO P Γ all rest Q ⟨(t,.acc st.H.length)::st.σ,st.H++[.mp []]⟩):AO P Γ all (o::rest) Q st:=by
 intro κ Θ a w hs;have hs':=hs.Zq;refine wpList_plain hg fun K hK=>?_
 unfold Oper.wp;have hrun:(execOp a.eval o).run P w=.ok (.value (.map (some w.heap.size))) (w.alloc (.map #[] 0)):=by
  simp[execOp,hop,Instr.makeMap,newObj];rfl
 rw[hrun,Oper.upon_value,hd];refine hK _ _ (h _ _ _ _ (hs'.set (t:=t) (d:=.acc st.H.length) (bs:=[]) ht ?_ (by simp)));exact(wZ.acc st.H.length _ (kK _ _ _)).MQ
theorem w9.push{es:List MapEntry}{kv:List (D×D)}{k v:D}{u x:Value}(h:w9 w es kv)(hk:Rd w u k [])(hv:Rd w x v [])(c:Nat):w9 w (es++[{key:=u,val:=x,born:=c}]) (kv++[(k,v)]):=by
 refine⟨by simp[h.1],fun j e p h1 h2=>?_⟩;by_cases hj:j<es.length
 ·rw[aq hj]at h1;rw[aq (by rw[<-h.1];exact hj)]at h2;exact h.2 j e p h1 h2
 ·rw[ax (by omega)]at h1;rw[ax (by rw[<-h.1];omega),<-h.1]at h2;have e0:j-es.length=0:=by
   have:=(aE.1 h1).1;simp at this;omega
  rw[e0]at h1 h2;simp at h1 h2;subst h1;subst h2;exact⟨hk,hv⟩
theorem w9.put{es:List MapEntry}{kv:List (D×D)}{k v:D}{u x:Value}(h:w9 w es kv)(hk:Rd w u k [])(hv:Rd w x v [])(i:Nat){es':List MapEntry}(hl:es'.length=es.length)
 (he:∀(j:Nat) e,es'[j]?=some e->(j=i/\e.key=u/\e.val=x)\/(j≠i/\es[j]?=some e)):w9 w es' (kv.set i (k,v)):=by
 refine⟨by simp[hl,h.1],fun j e p h1 h2=>?_⟩;rcases he j e h1 with⟨rfl,h3,h4⟩|⟨hne,h3⟩
 ·have hlt:j<kv.length:=by
   have:=(aE.1 h2).1;simpa using this
  rw[dD hlt]at h2;cases h2;rw[h3,h4];exact⟨hk,hv⟩
 ·rw[bu (pV hne)]at h2;exact h.2 j e p h3 h2
theorem Zj{kd:TypeDesc}{k v:D}{u:Value}(KG:F0 kd k=true)(hu:Rd w u k []):∀ {es:List MapEntry} {kv kv':List (D×D)} (i:Nat),w9 w es kv->GO k v kv=some kv'->
 (Instr.findNow kd u es i=some none/\kv'=kv++[(k,v)])\/∃j x e,Instr.findNow kd u es i=some (some (i+j,x))/\es[j]?=some e/\e.key=u/\kv'=kv.set j (k,v):=by
 intro es
 induction es with
 |nil=>
  intro kv kv' i hr h;cases kv with
  |nil=>cases h;exact .inl ⟨rfl,rfl⟩
  |cons p kv=>exact absurd hr.1 (by simp)
 |cons e es ih=>
  intro kv kv' i hr h;cases kv with
  |nil=>exact absurd hr.1 (by simp)
  |cons p kv=>
   obtain⟨r1,r2,r3⟩:=hr.cons;simp only[GO]at h;split at h
   ·rename_i hq;cases h;have:=Ic KG hu r1 hq;exact .inr ⟨0,e.val,e,by simp[Instr.findNow,this.1],rfl,this.2 rfl,rfl⟩
   ·rename_i hq;have KH:=(Ic KG hu r1 hq).1;cases hk:GO k v kv with
    |none=>rw[hk]at h;cases h
    |some kv1=>
     rw[hk]at h;cases h;rcases ih (i+1) r3 hk with⟨h1,h2⟩|⟨j,x,e',h1,h2,h3,h4⟩
     ·exact .inl ⟨by simpa[Instr.findNow,KH]using h1,by rw[h2];rfl⟩
     ·exact .inr ⟨j+1,x,e',by simp only[Instr.findNow,KH];rw[h1];congr 3;omega,by simpa using h2,h3,by rw[h4];rfl⟩
   ·cases h
theorem MJ{kd:TypeDesc}{u:Value}(h:MapKept.IsKey kd u)(n:Nat):Instr.sameBits n u u=true:=by
 cases kd<;>cases u<;>simp[MapKept.IsKey]at h<;>simp[Instr.sameBits]
 all_goals first
  |exact(MapKept.bytes_beq _ _).2 rfl
  |rfl
def D.scalar:D->Bool
 | .str _=>true
 | .int _ _=>true
 | .bool _=>true
 |_=>false
theorem Nj{v:Value}{d:D}{bs:aS}(hd:d.scalar=true)(hu:pW w κ v d bs):Rd w v d []:=by
 cases d<;>simp[D.scalar]at hd
 all_goals cases hu with|v h=>cases h with|cell h=>cases h with|pure h=>cases h<;>(constructor<;>assumption)
theorem LL{o:Oper}{T id:Nat}{x i y:Operand}{kd:TypeDesc}{dz:D}{kv kv':List (D×D)}(hop:o.op=.mapUpdate T x i y)(hd:o.dst=none)(hg:o.guard=none)
 (hT:Rt P T=some (kd,dz)) (hx:st.ev x=.acc id) (hH:st.H[id]?=some (.mp kv)) (KG:F0 kd (st.ev i)=true) (hsc:(st.ev y).scalar=true) (hput:GO (st.ev i) (st.ev y) kv=some kv')
 (h:AO P Γ all rest Q ⟨st.σ,st.H.set id (.mp kv')⟩):AO P Γ all (o::rest) Q st:=by
 intro κ Θ a w hs;obtain⟨g,es,c,q1,q2,q3,q4⟩:=hs.ob id _ hH;obtain⟨bs,r,_⟩:=hs.ev x;rw[hx]at r;obtain⟨hk,_⟩:=r.su;rw[q1]at hk;have ZL:a.eval x=.map (some g):=(qD hk).symm;obtain⟨bi,ri,_⟩:=hs.ev i;obtain⟨by',ry,_⟩:=hs.ev y;have hu:=Ks KG ri;have hv:=Nj hsc ry;obtain⟨kt,et,z,t1,t2,t3,t4⟩:=Jv hT;have hik:=NM KG hu;have Z4:=MapKept.run_checkKey (P:=P) (w:=w) t2 hik false 9999;have a4S:g<w.heap.size:=(az.1 q2).1;have RF:id<st.H.length:=(aE.1 hH).1;have hrun:∃es' c',(execOp a.eval o).run P w=.ok .skip {w with heap:=w.heap.setIfInBounds g (.map es' c')}/\w9 w es'.toList kv':=by
  rcases Zj KG hu 0 q4 hput with⟨hn,rfl⟩|⟨j,x',e,hn,he,hek,rfl⟩
  ·have WH:=MapKept.run_findKey (P:=P) (w:=w) t2 hn;refine⟨es.push {key:=a.eval i,val:=a.eval y,born:=c},c+1,?_,?_⟩
   ·simp[execOp,hop,ZL,Instr.mapUpdate,run_underlying t1,MapKept.run_getObj_map q2,Z4,WH,MapKept.run_setObj_map _ q2]
   ·rw[Array.toList_push];exact q4.push hu hv c
  ·rw[cv]at hn;have WH:=MapKept.run_findKey (P:=P) (w:=w) t2 hn;have hej:es[j]?=some e:=by simpa using he
   have hst:(Instr.keyThatStays (((es[j]?).map (·.key)).getD (a.eval i)) (a.eval i)).run P w=.ok (a.eval i) w:=by
    rw[hej];simp[Instr.keyThatStays,hek,MJ hik]
   refine⟨es.modify j fun e=> {e with key:=a.eval i,val:=a.eval y},c,?_,?_⟩
   ·simp[execOp,hop,ZL,Instr.mapUpdate,run_underlying t1,MapKept.run_getObj_map q2,Z4,WH,hst,MapKept.run_setObj_map _ q2]
   ·refine q4.put hu hv j (by simp) fun m e' hm=>?_
    rw[qn,uS]at hm;by_cases hmj:j=m
    ·subst hmj;rw[bN rfl,hej]at hm;cases hm;exact .inl ⟨rfl,rfl,rfl⟩
    ·rw[b9 hmj]at hm;exact .inr ⟨pV hmj,by simpa using hm⟩
 obtain⟨es',c',hr,a4l⟩:=hrun;have ZE:∀b,b≠g->(w.heap.setIfInBounds g (.map es' c'))[b]?=w.heap[b]?:=fun b hb=>by simp[pV hb]
 have k:hY w {w with heap:=w.heap.setIfInBounds g (.map es' c')} Θ Θ (id+2):=by
  refine⟨by omega,rfl,rfl,rfl,by simp,fun b hb hne=>ZE b fun e=>hne (e▸q3),fun _ _ _=>rfl,fun b hb=>?_⟩;simpa using hs.own b hb
 have hs':dH Γ ⟨st.σ,st.H.set id (.mp kv')⟩ κ Θ a {w with heap:=w.heap.setIfInBounds g (.map es' c')}:=by
  obtain⟨ρ,uP⟩:=hs.qz;have qy:=hs.mm k (fun _ _ h=>h) uP;refine hs.step k hs.mine (fun _ _ h=>h) (fun i hi=>hs.ni i (by simpa using hi)) hs.mw ?_ ⟨ρ,qy.1,fun j e sz rows hj=>?_,fun j y hj=>?_⟩
  ·intro j y' hj;by_cases e:j=id
   ·subst e;rw[dD RF]at hj;cases hj;exact .inr (.inr ⟨g,es',c',q1,by simp[a4S],q3,a4l.stay⟩)
   ·rw[bu (pV e)]at hj;exact .inr (.inl ⟨by omega,hj⟩)
  ·by_cases e':j=id
   ·subst e';rw[dD RF]at hj;cases hj
   ·rw[bu (pV e')]at hj;exact qy.2.1 j e sz rows (by omega) hj
  ·by_cases e':j=id
   ·subst e';rw[dD RF]at hj;cases hj;trivial
   ·rw[bu (pV e')]at hj;exact qy.2.2 j y (by omega) hj
 refine wpList_plain hg fun K hK=>?_
 unfold Oper.wp;rw[hr,Oper.upon_skip,hd];exact hK _ _ (h _ _ _ _ hs')
end
end Go.Cx
namespace Go.Cx
open Go.RowKit
def FK(P:Program)(f:FuncId)(ds:aL)(d:D):Prop:=
 (∃fn,P.funcs[f]?=some fn/\fn.body.isSome=true/\(fn.name== "runtime.NumGoroutine")=false)/\
 ∀(w:World) (Θ:Nat->Nat) (args:bp) (bs ts us:aS),
  K9 w (fun b=>b∈ts)->yH w args ds bs ts us->
  (∀b∈bs,Θ b=0)->(∀b,Θ b≠0->b<w.heap.size)->(∀b,Θ b<=1)->(∀b∈ts,Θ b=1/\b∈us)->us.Nodup->(∀b∈us,(b∉ts->Θ b=0)/\Wr w b)->
  Calls P f args.toArray w (fun e w'=>∃v b2 t2 u2,e=.returned v/\w'.os=w.os/\w'.tape=w.tape/\w'.output=w.output/\w.heap.size<=w'.heap.size/\
   (∀b,b<w.heap.size->b∉ts->w'.heap[b]?=w.heap[b]?)/\
   wM w' v d b2 t2 u2/\(∀b∈b2,(b<w.heap.size->Θ b=0\/b∈ts)/\b∉t2)/\u2.Nodup/\
   (∀b∈u2,(w.heap.size<=b\/b∈us)/\Wr w' b)/\∀b∈t2,b∈u2/\(w.heap.size<=b\/b∈ts))
section
variable{P:Program}{Γ:sO}{Q:Exit->St->Prop}{st:St}{κ κ':Nat->Option Value}{Θ Θ':Nat->Nat}{a:Act}{w w':World}{all:Array Oper}{rest:List Oper}
theorem a3o.out{fn:Func}{d:D}{e:Exit}{a':Act}{w':World}{K4:St}{κ0:Nat->Option Value}{Θ0:Nat->Nat}(hs0:dH Γ K4 κ0 Θ0 a' w')(TG:LQ P fn d e K4):
 (e=.ret\/e=.normal)/\a'.defers=[]/\Me Γ w'/\∃v b2 t2 u2,(results fn a'.tmps).run P w'=.ok v w'/\
  wM w' v d b2 t2 u2/\(∀b∈b2,(b<Γ.W0.heap.size->¬Γ.X b->Γ.Θ0 b=0)/\b∉t2)/\u2.Nodup/\
  (∀b∈u2,Pe Γ b/\Wr w' b)/\∀b∈t2,b∈u2/\vg Γ b:=by
 obtain⟨yh,nz,Vy,es,ms,qs,hres,TH,JG,HV,rfl⟩:=TG;obtain⟨ρ0,WM⟩:=hs0.qz;have yC:=tZ TH;obtain⟨Θ1,ρ1,hs1,hu1,hm1,KK,RG⟩:=dH.Cw ms hs0 WM JG (fun m hm=>by
  obtain⟨e,sz,rows,hH⟩:=yC.1 m hm;exact⟨_,e,sz,rows,hH,rfl⟩)
 obtain⟨vs,bs',m1,m2,m3,m4,m5⟩:=zi hs0 hres;have hq:∀m e sz rows,K4.H[m]?=some (.row .uq e sz rows)->∃v cs ns,κ0 m=some v/\0<sz/\(∀r∈rows,r.length=sz)/\w'.ownsRow 0 e sz v rows.length cs/\jv w' cs rows.flatten ns/\ns.Nodup/\(∀b∈ns,ρ1 b=m+1)/\∀g,v.ownBlock=some g->Θ1 g=m+2:=by
  intro m e sz rows hH;have hnm:m∉ms:=fun hm=>by
   obtain⟨e',sz',cr,BP⟩:=yC.1 m hm;rw[hH]at BP;cases BP
  have K1:(kill K4.H ms)[m]?=some (.row .uq e sz rows):=by rw[fW hnm];exact hH
  obtain⟨v,cs,ns,r1,r2,r3,r4,r5⟩:=hu1.rows m e sz rows K1;obtain⟨p1,p2,v2,_,_,p3,_,_,p4,_⟩:=hs1.ob m _ K1;rw[r1]at p3;cases p3;exact⟨v,cs,ns,r1,p1,p2,r2,r3,r4,r5,p4⟩
 obtain⟨c,ts,us,zb,xb⟩:=wj (w:=w') (vs:=vs) (fun b hb=>(hu1.free b hb).1) hq hs0.mw TH HV (by omega) (fun i d hd=>by
  obtain⟨v,b,k1,k2,k3⟩:=m4 i d hd;exact⟨v,b,k1,k2,fun x hx=>KK x (m5 x (k3 x hx))⟩) hm1
 have HS:∃v,(results fn a'.tmps).run P w'=.ok v w'/\wM w' v (GY es) c ts us:=by
  have hrun:(results fn a'.tmps).run P w'=.ok (if h:vs.toArray.size=1 then vs.toArray[0]else .tuple vs.toArray) w':=by
   rw[results_eq,kz];simp[m1]
  cases zb with
  |nil=>exact⟨.tuple #[],by simpa using hrun,.iK [] [] [] [] [] .nil⟩
  |cons v vs d es b1 b2 t1 t2 u1 u2 hv qc=>
   cases qc with
   |nil=>
    simp only[eA];exact⟨v,by simpa using hrun,.v hv⟩
   |cons v2 vs d2 es b3 b4 t3 t4 u3 u4 K3 qc=>exact⟨.tuple (v::v2::vs).toArray,by simpa using hrun,.iK _ _ _ _ _ (.cons _ _ _ _ _ _ _ _ _ _ hv (.cons _ _ _ _ _ _ _ _ _ _ K3 qc))⟩
 obtain⟨v,Of,KI⟩:=HS;refine⟨yh,hs0.defers,hs0.stays,v,c,ts,us,Of,KI,fun b hb=>⟨fun hlt hx=>?_,fun ht=>?_⟩,xb.nd,fun b hb=>?_,fun b hb=>?_⟩
 ·have:=xb.zero b hb;rw[<-(hs1.old b hlt hx).1];exact this
 ·obtain⟨⟨m,_,hΘ⟩,_⟩:=xb.top b ht;have:=xb.zero b hb;omega
 ·rcases xb.mem b hb with h|⟨m,hm,hρ⟩
  ·obtain⟨⟨m,hm,hΘ⟩,_⟩:=xb.top b h;exact⟨.inl (hs1.mine b (by omega)),Ir KI b h⟩
  ·have:=hu1.free b (by omega);exact⟨this.2.1,this.2.2⟩
 ·obtain⟨⟨m,hm,hΘ⟩,h2⟩:=xb.top b hb;exact⟨h2,hs1.mine b (by omega)⟩
theorem FK.of{f:FuncId}{fn:Func}{c:Code}{ds Jz:aL}{obs:bP}{d:D}(hf:P.funcs[f]?=some fn)(hb:fn.body=some c)(hn:(fn.name== "runtime.NumGoroutine")=false)
 (hI:xf 0 ds=(Jz,obs)) (hl:Jz.length<=fn.ntmps)
 (h:(∀x∈ds.map D.Un,j0 x)->∀(Γ:sO),Γ.nt=fn.ntmps->AW P Γ c (LQ P fn d) ⟨uW 0 Jz,obs⟩):FK P f ds d:=by
 refine⟨⟨fn,hf,by simp[hb],hn⟩,?_⟩;intro w Θ args bs ts us hvs hargs hz hown h1 hts hnd qy;have Og:=hargs.shown;obtain⟨L,q1,q2,rfl,rfl,q5⟩:=hargs.inst 0;rw[hI]at q1 q5;have q1:L.map Fs.ob=obs:=q1;refine calls_of_wp hf hb ?_;let κ0:Nat->Option Value:=fun i=>(L[i]?).map Fs.v
 let Θ0:Nat->Nat:=fun b=>match I9 L b with|some i=>i+2|none=>Θ b
 let ρ0:Nat->Nat:=fun b=>match r9 L b with|some i=>i+1|none=>0
 let Γ:sO:=⟨w,Θ0,fun b=>b∈L.flatMap Fs.ts,fn.ntmps,fun b=>b∈L.flatMap Fs.bl,hvs⟩
 have Z7:∀i x,L[i]?=some x->κ0 i=some x.v:=fun i x hx=>by simp[κ0,hx]
 have hnm:Names κ0 0 L:=fun i x hx=>by rw[cv];exact Z7 i x hx
 have hrd:=q5 κ0 hnm;have hlen:args.length=Jz.length:=hrd.len;have Xl:∀(i:Nat) x b,L[i]?=some x->x.v.ownBlock=some b->b∈L.flatMap Fs.ts:=fun i x b hx hb'=>bq.2 ⟨x,aD hx,by simp[Fs.ts,hb']⟩
 have Oh:∀(i:Nat) x b,L[i]?=some x->x.v.ownBlock=some b->Θ0 b=i+2:=by
  intro i x b hx hb';simp only[Θ0,Gh hnd hx hb']
 have RH:∀b,Θ b=0->Θ0 b=0:=by
  intro b h0;have e2:b∉L.flatMap Fs.ts:=fun e=>by have:=(hts b e).1;omega
  simp only[Θ0,ur e2];exact h0
 have TC:∀(i:Nat) x b,L[i]?=some x->b∈x.ns->Θ0 b=0:=fun i x b hx hb'=>RH b ((qy b (qF hx hb')).1 (AT hnd hx hb'))
 have xe:∀b,Θ0 b≠Θ b->b∈L.flatMap Fs.ts:=by
  intro b hne;refine cu fun ht=>hne ?_
  simp only[Θ0,ur ht]
 have OX:∀(j:Nat) o,obs[j]?=some o->∃x,L[j]?=some x/\o=x.ob:=by
  intro j o hj;rw[<-q1,bU]at hj;cases hx:L[j]? with
  |none=>simp[hx]at hj
  |some x=>simp[hx]at hj;exact⟨x,rfl,hj.symm⟩
 have ZD:obs.length=L.length:=by rw[<-q1];simp
 have hs:dH Γ ⟨uW 0 Jz,obs⟩ κ0 Θ0 {tmps:=args.toArray++Array.replicate (fn.ntmps-args.toArray.size) undef,defers:=[]} w:=by
  refine⟨rfl,?_,fun i hi=>?_,?_,?_,?_,?_,?_,?_,⟨rfl,rfl,rfl,bL _,fun _ _ _=>rfl⟩,⟨ρ0,?_,?_,?_⟩⟩
  ·simp[Γ];omega
  ·have hi:obs.length<=i:=hi;simp only[κ0];rw[cB (by omega)];rfl
  ·intro id u hu;simp only[κ0]at hu;cases hx:L[id]? with
   |none=>simp[hx]at hu
   |some x=>simp[hx]at hu;subst hu;exact(q2 x (aD hx)).2.2.2.2
  ·intro t;rw[CZ];simp only[sr,wz,tv];have QC:∀v,args[t]?=some v->(args.toArray++Array.replicate (fn.ntmps-args.toArray.size) undef).getD t undef=v:=by
    intro v hv;have hlt:=(aE.1 hv).1;rw[bw,eG (by simpa using hlt)];simp only[ij,hv,rV]
   cases hd:Jz[t]? with
   |none=>exact⟨[],.of (.any _),by simp⟩
   |some x=>
    obtain⟨v,b',k1,k2,k3⟩:=hrd.at (i:=t) (d:=x) hd;rw[QC v k1];exact⟨b',.v k2,fun b hb'=>RH b (hz b (k3 b hb'))⟩
  ·intro j o hj;obtain⟨x,hx,rfl⟩:=OX j o hj;obtain⟨p1,p2,p3,p4,_⟩:=q2 x (aD hx);exact⟨p1,p2,x.v,x.cs,x.ns,Z7 j x hx,p3,p4,fun b hb'=>Oh j x b hx hb',fun b hb'=>TC j x b hx hb'⟩
  ·intro b hb';by_cases e:Θ0 b=Θ b
   ·exact hown b (by rw[<-e];exact hb')
   ·exact hown b (by have:=(hts b (xe b e)).1;omega)
  ·intro b hlt hx;refine⟨rfl,?_⟩;have e:Θ0 b=Θ b:=cu fun e=>hx (xe b e)
   rw[e];exact h1 b
  ·intro b hb';refine .inr (xe b fun e=>?_);have:=h1 b;omega
  ·intro b hb';cases S7:r9 L b with
   |none=>simp[ρ0,S7]at hb'
   |some i=>
    obtain⟨x,hx,yy⟩:=rX S7;exact⟨TC i x b hx yy,.inr (qF hx yy),(qy b (qF hx yy)).2⟩
  ·intro id e sz rows hj;obtain⟨x,hx,OZ⟩:=OX id _ hj;simp only[Fs.ob,Ob.row.injEq,qE]at OZ;obtain⟨rfl,rfl,rfl⟩:=OZ;obtain⟨p1,p2,p3,p4,_⟩:=q2 x (aD hx);exact⟨x.v,x.cs,x.ns,Z7 id x hx,p3,p4,GW hnd hx,fun b hb'=>by simp[ρ0,zy hnd hx hb']⟩
  ·intro id o hj;obtain⟨x,hx,OZ⟩:=OX id _ hj;subst OZ;exact Hp.uo rfl
 refine wp_mono (h Og Γ rfl _ _ _ _ hs) ?_;rintro x a' w' ⟨K4,κ1,Θ1,hs0,TG⟩;obtain⟨yh,hdf,hst,v,b2,t2,u2,hrun,hres,O5,Ds,uP,ht'⟩:=a3o.out hs0 TG;have post:a'.defers=[]/\∃v',(results fn a'.tmps).run P w'=.ok v' w'/\∃v b2 t2 u2,Ending.returned v'=.returned v/\w'.os=w.os/\w'.tape=w.tape/\w'.output=w.output/\w.heap.size<=w'.heap.size/\
  (∀b,b<w.heap.size->b∉L.flatMap Fs.ts->w'.heap[b]?=w.heap[b]?)/\
  wM w' v d b2 t2 u2/\(∀b∈b2,(b<w.heap.size->Θ b=0\/b∈L.flatMap Fs.ts)/\b∉t2)/\u2.Nodup/\
  (∀b∈u2,(w.heap.size<=b\/b∈L.flatMap Fs.bl)/\Wr w' b)/\∀b∈t2,b∈u2/\(w.heap.size<=b\/b∈L.flatMap Fs.ts):=by
  refine⟨hdf,v,hrun,v,b2,t2,u2,rfl,hst.os,hst.tape,hst.output,hst.size,fun b hlt hnt=>hst.block b hlt (fun hx=>hnt hx),hres,fun b hb'=>?_,Ds,fun b hb'=>?_,fun b hb'=>?_⟩
  ·obtain⟨k1,k3⟩:=O5 b hb';refine⟨fun hlt=>?_,k3⟩;by_cases ht:b∈L.flatMap Fs.ts
   ·exact .inr ht
   ·refine .inl ?_;have:=k1 hlt (fun hx=>ht hx);have e:Θ0 b=Θ b:=cu fun e=>ht (xe b e)
    rw[<-e];exact this
  ·obtain⟨k1,k3⟩:=uP b hb';refine⟨?_,k3⟩;rcases k1 with(k1|k1)|k1
   ·exact .inl k1
   ·exact .inr (Ba k1)
   ·exact .inr k1
  ·obtain⟨k1,k2⟩:=ht' b hb';exact⟨k1,k2⟩
 rcases yh with rfl|rfl
 ·exact post
 ·exact post
theorem SE{o:Oper}{f t:Nat}{xs:Array Operand}{ty:Array TypeId}{ds:aL}{d:D}{nz:List (List (Option (Nat×Nat)))}{ms qs:aS}
 (hop:o.op=.call {callee:=.value (.func f),args:=xs,argTypes:=ty}) (hd:o.dst=some t) (hg:o.guard=none) (ht:t<Γ.nt)
 (yh:xo st.H nz (xs.toList.map st.ev)=some (ds,ms,qs)) (JG:ms.Nodup) (HV:qs.Nodup) (mD:FK P f ds d)
 (h:AO P Γ all rest Q ⟨(t,(mi st.H.length d).1)::st.σ,kill st.H (ms++qs)++(mi st.H.length d).2⟩):AO P Γ all (o::rest) Q st:=by
 intro κ Θ a w hs;have yC:=tZ yh;obtain⟨ρ,hu⟩:=hs.qz;obtain⟨Θ1,ρ1,hs1,hu1,hm1,KK,RG⟩:=dH.Cw ms hs hu JG (fun m hm=>by
  obtain⟨e,sz,rows,hH⟩:=yC.1 m hm;exact⟨_,e,sz,rows,hH,rfl⟩)
 have hq:∀m e sz rows,st.H[m]?=some (.row .uq e sz rows)->∃v cs ns,κ m=some v/\0<sz/\(∀r∈rows,r.length=sz)/\w.ownsRow 0 e sz v rows.length cs/\jv w cs rows.flatten ns/\ns.Nodup/\(∀b∈ns,ρ1 b=m+1)/\∀g,v.ownBlock=some g->Θ1 g=m+2:=by
  intro m e sz rows hH;have hnm:m∉ms:=fun hm=>by
   obtain⟨e',sz',cr,BP⟩:=yC.1 m hm;rw[hH]at BP;cases BP
  have K1:(kill st.H ms)[m]?=some (.row .uq e sz rows):=by rw[fW hnm];exact hH
  obtain⟨v,cs,ns,r1,r2,r3,r4,r5⟩:=hu1.rows m e sz rows K1;obtain⟨p1,p2,v2,_,_,p3,_,_,p4,_⟩:=hs1.ob m _ K1;rw[r1]at p3;cases p3;exact⟨v,cs,ns,r1,p1,p2,r2,r3,r4,r5,p4⟩
 obtain⟨bs,ts,us,zb,xb⟩:=wj (w:=w) (vs:=xs.toList.map a.eval) (fun b hb=>(hu1.free b hb).1) hq hs.mw yh HV (by simp) (fun i d hd=>by
  rw[bU]at hd;cases hx:xs.toList[i]? with
  |none=>rw[hx]at hd;cases hd
  |some x=>
   rw[hx]at hd;simp only[cI,ah]at hd;subst hd;obtain⟨b,r,z⟩:=hs.ev x;exact⟨a.eval x,b,by rw[bU,hx];rfl,r,fun y hy=>KK y (z y hy)⟩) hm1
 let Θc:Nat->Nat:=fun b=>if Θ1 b=0 then 0 else 1
 have xe:∀b,Θc b=0↔Θ1 b=0:=fun b=>by simp only[Θc];split<;>simp_all
 have GK:∀b∈ts,∃m∈qs,Θ1 b=m+2:=fun b hb=>(xb.top b hb).1
 have Li:K9 w fun b=>b∈ts:=by
  obtain⟨B,v1,v2⟩:=hs1.vsb;refine⟨B,v1,fun b hB=>⟨(v2 b hB).2.1,fun hb'=>?_⟩⟩;have hm:vg Γ b:=by
   obtain⟨m,hm,hΘ⟩:=GK b hb';exact hs1.mine b (by omega)
  rcases hm with q|q
  ·have:=(v2 b hB).1;omega
  ·exact(v2 b hB).2.2 q
 have hwr:∀b∈us,Wr w b:=by
  intro b hb;rcases xb.mem b hb with h|⟨m,hm,hρ⟩
  ·exact Gu zb b h
  ·exact(hu1.free b (by omega)).2.2
 have hc:=mD.2 w Θc (xs.toList.map a.eval) bs ts us Li zb (fun b hb=>(xe b).2 (xb.zero b hb)) (fun b hb=>hs1.own b (fun e=>hb ((xe b).2 e))) (fun b=>by simp only[Θc];split<;>omega)
  (fun b hb=>by
   obtain⟨m,hm,hΘ⟩:=GK b hb;exact⟨by simp only[Θc];rw[b9 (by omega)],(xb.top b hb).2⟩) xb.nd (fun b hb=>⟨fun hnt=>by
   rcases xb.mem b hb with h|⟨m,hm,hρ⟩
   ·exact absurd h hnt
   ·exact(xe b).2 (hu1.free b (by omega)).1,hwr b hb⟩)
 refine wpList_plain hg fun K hK=>?_
 unfold Oper.wp;rw[uN hop mD.1,Oper.upon_enter];have e0:xs.map a.eval=(xs.toList.map a.eval).toArray:=by
  rw[<-om,gG]
 rw[e0];refine hc.mono ?_;rintro x w' ⟨v,b2,t2,u2,rfl,k1,k2,k3,k4,Om,Zi,kb,VP,ku,kt⟩;show K (a.put o.dst v) w';rw[hd];let N:=st.H.length
 have hs2:=hs1.forget qs;have hNl:(kill st.H ms).length=N:=fH _ _;simp only[hNl]at hs2;let Θ2:Nat->Nat:=fun b=>if qs.any (fun m=>Θ1 b==m+2)then N+2 else Θ1 b
 have hs2:dH Γ ⟨st.σ,kill (kill st.H ms) qs⟩ κ Θ2 a w:=hs2;have JK:∀b,Θ1 b=0->Θ2 b=0:=fun b hb=>by
  simp only[Θ2];rw[b9,hb];intro h;obtain⟨m,_,hm⟩:=cP.1 h;simp[hb]at hm
 have CS:∀b,b∈ts->Θ2 b=N+2:=by
  intro b hb;simp only[Θ2];rw[bN];obtain⟨m,hm,hΘ⟩:=GK b hb;exact cP.2 ⟨m,hm,by simp[hΘ]⟩
 have VN:xB Γ (kill (kill st.H ms) qs) κ Θ2 w ρ1:=by
  refine⟨fun b hb=>?_,fun j e sz rows hj=>?_,fun j o hj=>?_⟩
  ·obtain⟨q1,q2⟩:=hu1.free b hb;exact⟨JK b q1,q2⟩
  ·rcases mj hj with h|⟨_,h⟩
   ·cases h
   ·exact hu1.rows j e sz rows h
  ·rcases mj hj with h|⟨_,h⟩
   ·subst h;trivial
   ·exact hu1.more j o h
 obtain⟨L,c1,c2,c3,c4,c5⟩:=Zi.inst N;subst c3;subst c4;have OT:∀x∈L,x.ok w':=c2;let κ':Nat->Option Value:=fun j=>if j<N then κ j else(L[j-N]?).map Fs.v
 let Θ':Nat->Nat:=fun b=>match I9 L b with|some i=>N+i+2|none=>if Θ2 b=N+2 then 0 else Θ2 b
 let ρ':Nat->Nat:=fun b=>match r9 L b with|some i=>N+i+1|none=>ρ1 b
 have Ll:∀(i:Nat) x b,L[i]?=some x->x.v.ownBlock=some b->Θ' b=N+i+2:=by
  intro i x b hx hb;simp only[Θ',Gh VP hx hb]
 have xd:∀b,b∉L.flatMap Fs.ts->Θ' b=if Θ2 b=N+2 then 0 else Θ2 b:=by
  intro b h2;simp only[Θ',ur h2]
 have hzero:∀b,w.heap.size<=b->Θ2 b=0:=fun b hge=>by
  cases h:Θ2 b with
  |zero=>rfl
  |succ m=>exact absurd (hs2.own b (by omega)) (by omega)
 have WL:∀b∈b2,Θ' b=0:=by
  intro b hb;obtain⟨p1,p3⟩:=kb b hb;rw[xd b p3];by_cases hlt:b<w.heap.size
  ·rcases p1 hlt with h|h
   ·rw[JK b ((xe b).1 h)];simp
   ·rw[bN (CS b h)]
  ·rw[hzero b (by omega)];simp
 have TD:∀(i:Nat) x b,L[i]?=some x->b∈x.ns->Θ' b=0:=by
  intro i x b hx hb;have hmem:=qF hx hb;rw[xd b (AT VP hx hb)];rcases(ku b hmem).1 with h|h
  ·rw[hzero b h];simp
  ·rcases xb.mem b h with h|⟨m,hm,hρ⟩
   ·rw[bN (CS b h)]
   ·rw[JK b (hu1.free b (by omega)).1];simp
 have hn:∀(j:Nat) v,κ j=some v->κ' j=some v:=by
  intro j v hj;have:j<N:=cu fun h=>by rw[hs.ni j (by omega)]at hj;cases hj
  simp only[κ'];rw[bN this];exact hj
 have tJ:Names κ' N L:=by
  intro i x hx;simp only[κ'];rw[b9 (by omega),cq,hx];rfl
 have T9:∀b∈L.flatMap Fs.ts,vg Γ b:=by
  intro b hb;rcases(kt b hb).2 with h|h
  ·exact .inl (dK hs.base h)
  ·obtain⟨m,hm,hΘ⟩:=GK b h;exact hs1.mine b (by omega)
 have k:hY w w' Θ2 Θ' (N+2):=by
  refine⟨by omega,k1,k2,k3,k4,fun b hlt hne=>Om b hlt (fun e=>hne (CS b e)),fun b hlt hne=>?_,fun b hb=>?_⟩
  ·rw[xd b (fun e=>?_),b9 hne];rcases(kt b e).2 with h|h
   ·omega
   ·exact hne (CS b h)
  ·by_cases ht':b∈L.flatMap Fs.ts
   ·obtain⟨x,T,hx⟩:=(ku b (Ba ht')).2;exact(az.1 hx).1
   ·rw[xd b ht']at hb;split at hb
    ·exact absurd rfl hb
    ·exact cz (hs2.own b hb) k4
 have hm:∀b,2<=Θ' b->vg Γ b:=by
  intro b hb;by_cases ht':b∈L.flatMap Fs.ts
  ·exact T9 b ht'
  ·rw[xd b ht']at hb;split at hb
   ·omega
   ·exact hs2.mine b hb
 have qy:=hs2.mm k hn VN;have Ey:(kill st.H (ms++qs)).length=N:=by simp[fH,N]
 have key:∀(j:Nat) y,(kill st.H (ms++qs)++L.map Fs.ob)[j]?=some y->(∃i x,j=N+i/\L[i]?=some x/\y=x.ob)\/(j<N/\(y=.gone\/(kill (kill st.H ms) qs)[j]?=some y)):=by
  intro j y hj;by_cases hlt:j<N
  ·rw[aq (by rw[Ey];exact hlt)]at hj;refine .inr ⟨hlt,?_⟩;rcases mj hj with h|⟨h3,h4⟩
   ·exact .inl h
   ·refine .inr ?_;simp only[aZ,BY]at h3;rw[fW h3.2,fW h3.1];exact h4
  ·rw[ax (by omega),Ey,bU]at hj;cases hx:L[j-N]? with
   |none=>simp[hx]at hj
   |some x=>simp[hx]at hj;exact .inl ⟨j-N,x,by omega,hx,hj.symm⟩
 have hs':dH Γ ⟨st.σ,kill st.H (ms++qs)++L.map Fs.ob⟩ κ' Θ' a w':=by
  have Hw:∀(j:Nat) y,(kill (kill st.H ms) qs)[j]?=some y->y≠ .gone->∀b,ρ1 b=j+1->ρ' b=j+1:=by
   intro j y hy hyg b ZM;have hjk:j∉qs:=by
    rcases mj hy with h|h
    ·exact absurd h hyg
    ·exact h.1
   have hnb:r9 L b=none:=by
    cases hi:r9 L b with
    |none=>rfl
    |some i=>
     exfalso;obtain⟨x,hx,yy⟩:=rX hi;obtain⟨z0,_,a3t,T'',ZK⟩:=hu1.free b (by omega);rcases(ku b (qF hx yy)).1 with h|h
     ·have:=(az.1 ZK).1;omega
     ·rcases xb.mem b h with h|⟨m,hm',hρ⟩
      ·obtain⟨m,hm',hΘ⟩:=GK b h;omega
      ·exact hjk (by
        have:j=m:=by omega
        rw[this];exact hm')
   simp only[ρ',hnb];exact ZM
  refine hs2.step k hm hn ?_ ?_ ?_ ⟨ρ',?_,?_,?_⟩
  ·intro i hi;simp only[av,Ey,ar]at hi;simp only[κ'];rw[b9 (by omega),cB (by omega)];rfl
  ·intro i u uP;simp only[κ']at uP;split at uP
   ·exact hs.mw i u uP
   ·cases hx:L[i-N]? with
    |none=>simp[hx]at uP
    |some x=>simp[hx]at uP;subst uP;exact(OT x (aD hx)).2.2.2.2
  ·intro j y hj;rcases key j y hj with⟨i,x,rfl,hx,rfl⟩|⟨hjl,hy|hy⟩
   ·obtain⟨q1,q2,q3,q4,_⟩:=OT x (aD hx);exact .inr (.inr ⟨q1,q2,x.v,x.cs,x.ns,tJ i x hx,q3,q4,fun g' hg'=>Ll i x g' hx hg',fun b hb'=>TD i x b hx hb'⟩)
   ·exact .inl hy
   ·exact .inr (.inl ⟨by omega,hy⟩)
  ·intro b hb;cases KF:r9 L b with
   |some i=>
    obtain⟨x,hx,yy⟩:=rX KF;have hmem:=qF hx yy;refine⟨TD i x b hx yy,?_,(ku b hmem).2⟩;rcases(ku b hmem).1 with h|h
    ·exact .inl (.inl (dK hs.base h))
    ·rcases xb.mem b h with h|⟨m,hm',hρ⟩
     ·obtain⟨m,hm',hΘ⟩:=GK b h;exact .inl (hs1.mine b (by omega))
     ·exact(hu1.free b (by omega)).2.1
   |none=>
    simp only[ρ',KF]at hb;exact qy.1 b hb
  ·intro j e sz rows hj;rcases key j _ hj with⟨i,x,rfl,hx,hy⟩|⟨hjl,hy|hy⟩
   ·simp only[Fs.ob,Ob.row.injEq,qE]at hy;obtain⟨rfl,rfl,rfl⟩:=hy;obtain⟨q1,q2,q3,q4,_⟩:=OT x (aD hx);exact⟨x.v,x.cs,x.ns,tJ i x hx,q3,q4,GW VP hx,fun b hb'=>by simp only[ρ',zy VP hx hb']⟩
   ·cases hy
   ·obtain⟨v',c',bs',r1,r2,r3,r4,r5⟩:=qy.2.1 j e sz rows (by omega) hy;exact⟨v',c',bs',r1,r2,r3,r4,fun b hb'=>Hw j _ hy (by simp) b (r5 b hb')⟩
  ·intro j y hj;rcases key j _ hj with⟨i,x,rfl,hx,hy⟩|⟨hjl,hy|hy⟩
   ·subst hy;exact Hp.uo rfl
   ·subst hy;trivial
   ·by_cases hg:y=.gone
    ·subst hg;trivial
    ·exact(qy.2.2 j y (by omega) hy).re (Hw j y hy hg)
 rw[<-c1]at h;refine hK _ _ (h _ _ _ _ (hs'.set (t:=t) ht (c5 κ' tJ) fun b hb=>WL b hb))
end
end Go.Cx
namespace Go.Cx
open Go.RowKit
def Ma(P:Program)(f:FuncId)(e:TypeId)(sz:Nat)(rows cr:List aL):Prop:=
 (∃fn,P.funcs[f]?=some fn/\fn.body.isSome=true/\(fn.name== "runtime.NumGoroutine")=false)/\
 ∀(w:World) (v:Value) (cs:bp),0<sz->(∀r∈rows,r.length=sz)->w.ownsRow 0 e sz v rows.length cs->jv w cs rows.flatten []->
  Calls P f #[v] w (fun x w'=>x=.returned (.tuple #[])/\w'.os=w.os/\w'.tape=w.tape/\w'.output=w.output/\w.heap.size<=w'.heap.size/\
   (∀b,b<w.heap.size->v.ownBlock≠some b->w'.heap[b]?=w.heap[b]?)/\(∀r∈cr,r.length=sz)/\∃cs',w'.ownsRow 0 e sz v cr.length cs'/\jv w' cs' cr.flatten [])
section
variable{P:Program}{Γ:sO}{Q:Exit->St->Prop}{st:St}{κ:Nat->Option Value}{Θ:Nat->Nat}{a:Act}{w:World}{all:Array Oper}{rest:List Oper}
theorem SG{o:Oper}{f id e sz:Nat}{x:Operand}{ts:Array TypeId}{k0:RK}{rows cr:List aL}(hop:o.op=.call {callee:=.value (.func f),args:= #[x],argTypes:=ts})(hd:∀t,o.dst=some t->t<Γ.nt)(hg:o.guard=none)
 (hx:st.ev x=.acc id) (hH:st.H[id]?=some (.row k0 e sz rows)) (hk0:k0.hand=true) (hfl:rows.flatten.all D.flat=true) (mD:Ma P f e sz rows cr)
 (h:AO P Γ all rest Q (St.put ⟨st.σ,st.H.set id (.row k0 e sz cr)⟩ o.dst (.iK []))):AO P Γ all (o::rest) Q st:=by
 intro κ Θ a w hs;obtain⟨b1,r1,_⟩:=hs.ev x;rw[hx]at r1;obtain⟨hkv,_⟩:=r1.su;obtain⟨hsz,hrl,v,cs,bs,hk1,hown,hrd,CR,hz⟩:=hs.ob id _ hH;rw[hkv]at hk1;cases hk1;have CP:=hrd.flat hfl;subst CP;obtain⟨ρ,hu⟩:=hs.qz;refine wpList_plain hg fun K hK=>?_
 unfold Oper.wp;rw[uN hop mD.1,Oper.upon_enter];have e1:(#[x]:Array Operand).map a.eval= #[a.eval x]:=by simp
 rw[e1];refine(mD.2 w _ cs hsz hrl hown hrd).mono ?_;rintro e' w' ⟨rfl,k1,k2,k3,k4,k5,IN,cs',GJ,JI⟩;have kk:hY w w' Θ Θ (id+2):=⟨by omega,k1,k2,k3,k4,fun b hb ht=>k5 b hb fun e=>ht (CR b e),fun _ _ _=>rfl,fun b hb=>cz (hs.own b hb) k4⟩
 have hs':dH Γ ⟨st.σ,st.H.set id (.row k0 e sz cr)⟩ κ Θ a w':=by
  refine hs.put [] wX (fun _ _ h=>h) (fun i hi=>hs.ni i (by simpa using hi)) hs.mw kk hs.mine ?_ hu (by simp) ?_ ?_
  ·refine⟨hsz,IN,_,cs',[],hkv,GJ,JI,CR,?_⟩;cases k0 with
   |cl=>simp[RK.hand]at hk0
   |mv n=>simp[RK.hand]at hk0
   |sh=>simp
   |uq=>simp
  ·intro e2 PL fI he;cases he;exact⟨_,cs',[],hkv,GJ,JI,by simp,by simp⟩
  ·cases k0 with
   |mv n=>simp[RK.hand]at hk0
   |_=>rfl
 show K (a.put o.dst (.tuple #[])) w';refine hK _ _ (h κ Θ _ w' ?_);cases Le:o.dst with
 |none=>exact hs'
 |some t=>exact hs'.set (hd t Le) (.iK [] [] [] .nil) (by simp)
end
end Go.Cx

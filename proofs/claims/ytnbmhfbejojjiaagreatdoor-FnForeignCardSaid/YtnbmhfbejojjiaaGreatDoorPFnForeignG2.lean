/- Regions whose order is drawn: where each operation of the head only computes or calls a function that leaves what was there as it was, every order gives the state of the text's order. No condition; plain lemmas. -/
import Derived.Test.YtnbmhfbejojjiaaGreatDoorPFnForeignG1
import Derived.StillTail
import Derived.MapKept
set_option linter.unusedVariables false
set_option linter.unusedSimpArgs false
namespace Go.Cx
open Go.RowKit
abbrev o8:=List Fs
section
variable{P:Program}{Γ:ul}{Q:Exit->St->Prop}{st:St}{κ:Nat->Option Value}{Θ:Nat->Nat}{a:Act}{w:World}{all:Array Oper}
def Ext(H H':bW):Prop:=∀(i:Nat) o,H[i]?=some o->H'[i]?=some o
theorem QF(σ:List (Nat×D))(H H':bW)(x:Operand):St.ev ⟨σ,H⟩ x=St.ev ⟨σ,H'⟩ x:=by cases x<;>rfl
theorem P9{σ σ':List (Nat×D)}{H H':bW}{op:Op}{d:D}(hx:Ext H H')(he:∀x∈op.operands.toList,St.ev ⟨σ,H⟩ x=St.ev ⟨σ',H'⟩ x)(h:pv P ⟨σ,H⟩ op=some d):pv P ⟨σ',H'⟩ op=some d:=by
 have hm:∀(o:Option Operand),(∀x∈o.toArray.toList,St.ev ⟨σ,H⟩ x=St.ev ⟨σ',H'⟩ x)->o.map (St.ev ⟨σ,H⟩)=o.map (St.ev ⟨σ',H'⟩):=by
  intro o h;cases o with
  |none=>rfl
  |some x=>simp[h x (by simp)]
 cases op<;>simp only[pv]at h⊢ <;>(try cases h)
 case move x=>rw[he x (by simp[Op.operands])]at*
 case assign x=>rw[he x (by simp[Op.operands])]at*
 case nilCheck x=>rw[he x (by simp[Op.operands])]at h;exact h
 case pick c x y=>rw[he c (by simp[Op.operands]),he x (by simp[Op.operands]),he y (by simp[Op.operands])]at h;exact h
 case binOp op t x y t'=>rw[he x (by simp[Op.operands]),he y (by simp[Op.operands])]at h;exact h
 case unOp op t x=>cases op<;>simp only[pv]at h⊢ <;>(try cases h)<;>(rw[he x (by simp[Op.operands])]at h;exact h)
 case convert s d x=>rw[he x (by simp[Op.operands])]at h;exact h
 case field t x f=>rw[he x (by simp[Op.operands])]at h;exact h
 case fieldAddr t x f=>rw[he x (by simp[Op.operands])]at h;exact h
 case indexAddr t x i=>
  rw[he x (by simp[Op.operands]),he i (by simp[Op.operands])]at h;split at h
  ·rename_i e sz rows kk n h1 h2 h3
   (try simp only[h1,h2,h3]);exact h
  ·rename_i e sz id kk n h1 h2 h3
   (try simp only[h1,h2,h3])
   split at h
   ·rename_i k e' sz' rows hH;simp only[hx id _ hH];exact h
   ·cases h
  ·rename_i g o' kk n h1 h2
   (try simp only[h1,h2])
   generalize FG P t=q at h⊢;cases q<;>exact h
  ·cases h
 case load t x=>
  rw[he x (by simp[Op.operands])]at h;split at h
  ·rename_i ag row off h1 h2
   (try simp only[h1,h2]);exact h
  ·rename_i ag id off h1 h2
   (try simp only[h1,h2])
   split at h
   ·rename_i cells hH;obtain⟨ob,hH,Ac⟩:=b9.1 hH;simp only[hx id _ hH,aA,Ac];exact h
   ·cases h
  ·rename_i ag id i sz off h1 h2
   (try simp only[h1,h2])
   split at h
   ·rename_i k e' sz' rows hH;simp only[hx id _ hH];exact h
   ·cases h
  ·rename_i ag g o' h1 h2
   (try simp only[h1,h2]);exact h
  ·cases h
 case lookup T x i ok=>
  rw[he x (by simp[Op.operands]),he i (by simp[Op.operands])]at h;split at h
  ·rename_i id h1
   (try simp only[h1])
   split at h
   ·rename_i kv hH;simp only[hx id _ hH];exact h
   ·cases h
  ·cases h
 case extract x i=>rw[he x (by simp[Op.operands])]at h;exact h
 case index t x i=>rw[he x (by simp[Op.operands]),he i (by simp[Op.operands])]at h;exact h
 case slice t x lo hi mx=>
  cases mx with
  |none=>
   simp only[pv]at h⊢;rw[he x (by simp[Op.operands]),hm lo (fun y hy=>he y (by simp only[Op.operands,lR,af];exact .inl (.inl (.inr hy)))),
    hm hi (fun y hy=>he y (by simp only[Op.operands,lR,af];exact .inl (.inr hy)))]at h
   exact h
  |some m=>simp only[pv]at h;cases h
 case build t parts=>
  have:(parts.toList.map fun p=>(p.1,St.ev ⟨σ,H⟩ p.2))=parts.toList.map fun p=>(p.1,St.ev ⟨σ',H'⟩ p.2):=by
   apply o9;intro p hp;rw[he p.2 (by simp only[Op.operands];simp;exact⟨p.1,by simpa using hp⟩)]
  rw[this]at h;exact h
 case call c=>
  split at h
  ·rename_i x t h1 h2 h3;have Zz:x∈(Op.call c).operands.toList:=by
    simp only[Op.operands,Call.operands,lR,af,h2];exact .inr (by simp)
   (try simp only[h1,h2,h3])
   unfold a0W at h⊢;rw[he x Zz]at h;split at h
   ·rename_i s hs;(try simp only[hs]);exact h
   ·rename_i rows hs;(try simp only[hs]);exact h
   ·rename_i hs;(try simp only[hs]);exact h
   ·rename_i id hs
    (try simp only[hs])
    split at h
    ·rename_i kk k e sz rows h4 h5;simp only[h4,hx id _ h5];exact h
    ·cases h
   ·cases h
  ·rename_i x y t t' h1 h2 h3;have Zz:x∈(Op.call c).operands.toList:=by
    simp only[Op.operands,Call.operands,lR,af,h2];exact .inr (by simp)
   have hym:y∈(Op.call c).operands.toList:=by
    simp only[Op.operands,Call.operands,lR,af,h2];exact .inr (by simp)
   (try simp only[h1,h2,h3])
   rw[he x Zz,he y hym]at h;exact h
  ·cases h
theorem RM{H H':bW}(hx:Ext H H'){d e:D}{ms:aX}(h:VR H d=some (e,ms)):VR H' d=some (e,ms):=by
 cases d<;>simp only[VR]at h⊢ <;>(try exact h)
 split at h
 ·rename_i k e' sz rows hH;simp only[hx _ _ hH];exact h
 ·rename_i sz rows u hH;simp only[hx _ _ hH];exact h
 ·rename_i rows hH;simp only[hx _ _ hH];exact h
 ·cases h
theorem V9{H H':bW}(hx:Ext H H'):∀ {ds es:aP} {ms:aX},RN H ds=some (es,ms)->RN H' ds=some (es,ms):=by
 intro ds
 induction ds with
 |nil=>intro es ms h;exact h
 |cons d ds ih=>
  intro es ms h;simp only[RN]at h⊢;split at h
  ·rename_i e m es' ms' h1 h2;rw[RM hx h1,ih h2];exact h
  ·cases h
theorem Ym{H H':bW}(hx:Ext H H'){d e:D}{ms:aX}(h:Yl H d=some (e,ms)):Yl H' d=some (e,ms):=by
 by_cases tO:∃ds,d=.agg ds
 ·obtain⟨ds,rfl⟩:=tO;simp only[Yl]at h⊢;split at h
  ·rename_i es ms' h1;rw[V9 hx h1];exact h
  ·cases h
 ·by_cases ht:∃vs,d=.iE vs
  ·obtain⟨vs,rfl⟩:=ht;simp[Yl]at h
  ·have e1:∀H,Yl H d=VR H d:=by intro H;cases d<;>first|rfl|exact absurd ⟨_,rfl⟩ tO|exact absurd ⟨_,rfl⟩ ht
   rw[e1]at h⊢;exact RM hx h
theorem VA{H H':bW}(hx:Ext H H'):∀ {ds es:aP} {ms:aX},GF H ds=some (es,ms)->GF H' ds=some (es,ms):=by
 intro ds
 induction ds with
 |nil=>intro es ms h;exact h
 |cons d ds ih=>
  intro es ms h;simp only[GF]at h⊢;split at h
  ·rename_i e m es' ms' h1 h2;rw[Ym hx h1,ih h2];exact h
  ·cases h
structure Cp where
 t:Option Nat
 d:D
 r:Nat
 obs:bW
 up:Option (Nat×Ob)
def Looks(H:bW)(vs ds:aP)(ms:aX):Prop:=GF H vs=some (ds,ms)\/(vs.all Kf=true/\ds=vs/\ms=[])
def JW(P:Program)(H:bW)(σ:List (Nat×D))(o:Oper)(p:Cp):Prop:=
 (pv P ⟨σ,H⟩ o.op=some p.d/\p.obs=[])\/∃(f:FuncId) (xs:Array Operand) (ts:Array TypeId) (ds:aP) (ms:aX) (d:D),o.op=.call {callee:=.value (.func f),args:=xs,argTypes:=ts}/\
  Looks H (xs.toList.map (St.ev ⟨σ,H⟩)) ds ms/\(ms=[]\/d.MW=true)/\Good P f ds d/\(oC p.r d=(p.d,p.obs)\/(d.a3g=true/\p.d=d.YQ/\p.obs=[]))
def OG(P:Program)(H:bW)(σ:List (Nat×D))(o:Oper)(p:Cp):Prop:=
 (∃T zs,o.op=.alloc T/\tz P T=some zs/\p.d=.ptr p.r 0/\p.obs=[.box zs])\/∃T x ds,o.op=.box T x/\(St.ev ⟨σ,H⟩ x).cellsOf=some ds/\p.d=.ptr p.r 0/\p.obs=[.box ds]
def OI(P:Program)(H:bW)(σ:List (Nat×D))(o:Oper)(p:Cp):Prop:=
 ∃T e sz len parts zs ds es,o.op=.buildSlice T len parts/\FG P T=some (e,sz)/\tz P e=some zs/\0<sz/\len*sz<=16777216/\
  xu (sw len sz) (List.replicate len zs).flatten (parts.toList.map fun q=>(q.1,St.ev ⟨σ,H⟩ q.2))=some ds/\JZ H ds=some (es,[])/\p.d=.acc p.r/\p.obs=[.row (zA (ds.all (U3 H))) e sz (chunk sz len es)]
def OH(P:Program)(H:bW)(σ:List (Nat×D))(o:Oper)(p:Cp):Prop:=
 ∃T e sz len parts zs ds,o.op=.buildSlice T len parts/\FG P T=some (e,sz)/\tz P e=some zs/\0<sz/\len*sz<=16777216/\
  xu (sw len sz) (List.replicate len zs).flatten (parts.toList.map fun q=>(q.1,St.ev ⟨σ,H⟩ q.2))=some ds/\ds.all D.Pd=true/\ds.all D.flat=true/\p.d=.sl (chunk sz len ds)/\p.obs=[]
def Hw(P:Program)(H:bW)(σ:List (Nat×D))(o:Oper)(p:Cp):Prop:=JW P H σ o p\/OG P H σ o p\/OI P H σ o p\/OH P H σ o p
def a4q(P:Program)(Γ:ul)(all:Array Oper)(H:bW)(σ:List (Nat×D))(o:Oper)(p:Cp):Prop:=
 ∃t,p.t=some t/\p.up=none/\o.dst=some t/\t<Γ.nt/\((o.guard=none/\Hw P H σ o p)\/
  (∃(j s:Nat) (want b:Bool),o.guard=some (j,want)/\(all[j]?).bind (·.dst)=some s/\lk σ s=.bool b/\((b=want/\Hw P H σ o p)\/(b≠want/\p.d=.iE []/\p.obs=[])))\/
  ∃(j s:Nat) (want:Bool),o.guard=some (j,want)/\(all[j]?).bind (·.dst)=some s/\lk σ s=.iE []/\p.d=.iE []/\p.obs=[])
def a4p(P:Program)(H:bW)(σ:List (Nat×D))(o:Oper)(p:Cp):Prop:=
 p.t=none/\p.obs=[]/\o.dst=none/\o.guard=none/\∃T x y id ds,o.op=.store T x y/\St.ev ⟨σ,H⟩ x=.ptr id 0/\H.length<=id/\(St.ev ⟨σ,H⟩ y).cellsOf=some ds/\PS P T=true/\ds.length=zH P T/\p.up=some (id,.box ds)
def tV(P:Program)(Γ:ul)(all:Array Oper)(H:bW)(σ:List (Nat×D))(o:Oper)(p:Cp):Prop:=a4q P Γ all H σ o p\/a4p P H σ o p
def Cp.slot(p:Cp)(σ:List (Nat×D)):List (Nat×D):=match p.t with|some t=>(t,p.d)::σ|none=>σ
def Cp.fill(n:Nat)(p:Cp)(acc:bW):bW:=match p.up with|some (id,ob)=>acc.set (id-n) ob|none=>acc++p.obs
def Cp.a6x(n:Nat)(p:Cp)(U:aX)(acc:bW):Prop:=match p.up with|some (id,ob)=>id∉U/\n<=id/\∃zs ds,acc[id-n]?=some (.box zs)/\ob=.box ds/\zs.length=ds.length|none=>True
def Cp.ups(p:Cp)(U:aX):aX:=match p.up with|some (id,_)=>id::U|none=>U
def KN(P:Program)(Γ:ul)(all:Array Oper)(H:bW)(K:List (Nat×D)->bW->Prop):List Oper->List (Nat×D)->bW->aX->Prop
 | [],σ,acc,_=>K σ acc
 |o::os,σ,acc,U=>∃p:Cp,p.r=H.length+acc.length/\tV P Γ all H σ o p/\p.a6x H.length U acc/\KN P Γ all H K os (p.slot σ) (p.fill H.length acc) (p.ups U)
theorem AB{Q':Exit->Act->World->Prop}{ops:Array Oper}{i:Nat}{o:Oper}{K:Act->World->Prop}(hi:ops[i]?=some o)(hw:Region.wanted o (yielded ops a.tmps)=true)(h:o.wp P a w K Q'):wpOp P ops Q' i K a w:=by
 unfold wpOp;simp only[hi,hw,qd];exact .inl h
theorem dl.a4W(hs:dl Γ st κ Θ a w){ops:Array Oper}{j s:Nat}{b:Bool}(hj:(ops[j]?).bind (·.dst)=some s)(hb:lk st.σ s=.bool b):yielded ops a.tmps j=some b:=by
 obtain⟨bs,r,_⟩:=hs.slot s;rw[hb]at r;have hv:=r.wF;have hlt:s<a.tmps.size:=by
  rcases eO s a.tmps.size with h|h
  ·exact h
  ·exfalso;rw[cF,rR h]at hv;simp[undef]at hv
 have h1:a.tmps[s]?=some (.bool b):=by
  rw[cF,cP hlt]at hv;rw[cP hlt];simpa using hv
 simp[yielded,hj,h1]
theorem Lp{st vB:St}{ops:Array Oper}{o:Oper}(h:∀t∈o.looksAt ops,lk st.σ t=lk vB.σ t):∀x∈o.op.operands.toList,st.ev x=vB.ev x:=by
 intro x hx;cases x with
 |tmp t=>
  refine h t ?_;unfold Oper.looksAt;exact af.2 (.inl (cC.2 ⟨.tmp t,hx,rfl⟩))
 |const v=>rfl
 |global g=>rfl
 |func f=>rfl
theorem Ej(l:List (Nat×D))(σ:List (Nat×D))(t:Nat):(∀p∈l,p.1≠t)->lk (l++σ) t=lk σ t:=by
 induction l with
 |nil=>intro _;rfl
 |cons q l ih=>
  intro h;obtain⟨u,d⟩:=q;simp only[qm,lk];rw[az (fun e=>h (u,d) (by simp) e.symm)];exact ih (fun p hp=>h p (by simp[hp]))
theorem HZ(l:List (Nat×D))(σ:List (Nat×D))(p:Nat×D)(hp:p∈l)(hd:∀q∈l,q.1=p.1->q=p):lk (l++σ) p.1=p.2:=by
 induction l with
 |nil=>cases hp
 |cons q l ih=>
  obtain⟨u,d⟩:=q;simp only[qm,lk];by_cases e:p.1=u
  ·rw[bK e];have:=hd (u,d) (by simp) e.symm;rw[<-this]
  ·rw[az e];rcases bB.1 hp with rfl|hp
   ·exact absurd rfl e
   ·exact ih hp (fun q hq=>hd q (by simp[hq]))
def WI(ops:Array Oper)(n:Nat):Bool:=
 decide (n<=ops.size)&&(decide (n=ops.size)||(decide (n<ops.size)&&(Region.sinkB .any ops n&&Region.chainB .any ops n)))&&
 Region.seqB .any ops (ops.size-n) n (Array.replicate n true++Array.replicate (ops.size-n) false)&&
 (List.range n).all fun i=>match ops[i]? with
  |none=>false
  |some o=>(o.after.all fun e=> !Region.binds .any e||decide (e.on<i))&&
   ((o.looksAt ops).all fun t=>(List.range n).all fun j=>match ops[j]? with|some oj=> !(oj.dst==some t)||(decide (j<i)&&Region.waitsFor .any ops i j)|none=>true)&&
   (List.range n).all fun j=>j==i||(match ops[j]? with|some oj=> !(oj.dst==o.dst)||o.dst.isNone|none=>true)
def place(H:bW)(r:Nat)(obs:bW):bW:=H.take r++(obs++H.drop (r+obs.length))
theorem uP{H:bW}{r:Nat}{obs:bW}(h:r+obs.length<=H.length)(j:Nat):(place H r obs)[j]?=if j<r then H[j]? else if j<r+obs.length then obs[j-r]? else H[j]?:=by
 unfold place;have hl:(H.take r).length=r:=by rw[cQ];omega
 by_cases h1:j<r
 ·rw[bK h1,au (by omega),cR,bK h1]
 ·rw[az h1,bA (by omega),hl];by_cases h2:j<r+obs.length
  ·rw[bK h2,au (by omega)]
  ·rw[az h2,bA (by omega),eb]
   congr 1;omega
theorem uQ{H:bW}{r:Nat}{obs:bW}(h:r+obs.length<=H.length):(place H r obs).length=H.length:=by
 unfold place;simp;omega
theorem JW.wp{Q':Exit->Act->World->Prop}{σ:List (Nat×D)}{H H':bW}{o:Oper}{p:Cp}{K:Act->World->Prop}(hs:dl Γ ⟨σ,H'⟩ κ Θ a w)(hx:Ext H H'){t:Nat}(hd:o.dst=some t)(ht:t<Γ.nt)(h:JW P H σ o p)
 (hr:p.r+p.obs.length<=H'.length) (hfree:∀i,i<p.obs.length->κ (p.r+i)=none)
 (hK:∀κ' Θ' a' w',dl Γ ⟨(t,p.d)::σ,place H' p.r p.obs⟩ κ' Θ' a' w'->(∀j,(j<p.r\/p.r+p.obs.length<=j)->κ' j=κ j)->K a' w'):o.wp P a w K Q':=by
 rcases h with⟨h,hno⟩|⟨f,xs,ts,ds,ms,d,hop,hds,hsh,nL,hi⟩
 ·have h':=P9 (σ:=σ) (σ':=σ) hx (fun x _=>QF σ H H' x) h;obtain⟨v,bs,hrun,hrd,hz⟩:=Er hs h';unfold Oper.wp;rw[hrun,Oper.upon_value,hd];have hp:place H' p.r p.obs=H':=by rw[hno];simp[place]
  exact hK κ Θ _ _ (by rw[hp];exact hs.set ht hrd hz) (fun _ _=>rfl)
 ·have hev:xs.toList.map (St.ev ⟨σ,H⟩)=xs.toList.map (St.ev ⟨σ,H'⟩):=o9 (fun x _=>QF σ H H' x);have a2n:∃bs,T0 w (xs.toList.map a.eval) ds bs/\∀b∈bs,Seen Θ ms b:=by
   rcases hds with hds|⟨hk,rfl,rfl⟩
   ·have:=VA hx hds;rw[hev]at this;exact LQ hs this
   ·rw[hev]at hk⊢;exact Nq hs hk
  obtain⟨bs,hargs,hz⟩:=a2n;let Θc:Nat->Nat:=fun b=>if Θ b=0\/ms.any (fun m=>Θ b==m+2)then 0 else 1
  have Kb:∀b,Seen Θ ms b->Θc b=0:=by
   intro b h;simp only[Θc];rw[bK];rcases h with h|⟨m,h1,h2⟩
   ·exact .inl h
   ·exact .inr (cv.2 ⟨m,h1,by simp[h2]⟩)
  have hc:=nL.2 w Θc _ bs hs.vok hargs (fun b hb=>Kb b (hz b hb)) (fun b hb=>hs.own b (fun e=>hb (Kb b (.inl e)))) (fun b=>by simp only[Θc];split<;>omega);unfold Oper.wp;rw[wR hop nL.1,Oper.upon_enter];have e:xs.map a.eval=(xs.toList.map a.eval).toArray:=by rw[<-gu,k8]
  rw[e];refine hc.mono ?_;rintro e w' ⟨v,bs',tb,ub,rfl,hb,hr',Mw,htb,hnd,hfr,hsub⟩;show K (a.put o.dst v) w';rw[hd];rcases hi with hi|⟨hown,S2,Pc⟩
  rotate_left
  ·cases hr' with
   |iE=>cases hown
   |v hv=>
    have Eb:bs'=[]:=hv.own (by
     unfold D.a3g at hown;split at hown
     ·cases hown
     ·exact hown)
    obtain⟨b,q,s⟩:=hv.Cc;have hp:place H' p.r p.obs=H':=by rw[Pc];simp[place]
    refine hK κ Θ _ w' ?_ (fun _ _=>rfl);rw[hp,S2];refine(hs.grow hb).set ht (.v (.cell (.pure q))) fun x hx'=>?_
    rcases s x hx' with h|h
    ·rw[Eb]at h;cases h
    ·by_cases h0:Θ x=0
     ·exact h0
     ·have:=hs.own x h0;have:=(hfr x h).1;omega
  obtain⟨L,q1,q2,q3,q4,q5⟩:=hr'.inst p.r;rw[hi]at q1 q5;simp only at q1 q5;have hLl:L.length=p.obs.length:=by have:=congrArg List.length q1;simpa using this
  obtain⟨κ',Θ',hs',hnm,_,hno,hsame⟩:=hs.Np hb L q2 (q3▸hnd) (fun b hb'=>hfr b (q3▸hb')) p.r (place H' p.r p.obs) (fun i hi'=>hfree i (by omega)) (by rw[uQ hr];exact bR _) (by rw[uQ hr];omega) (by
   intro j y hj;rw[uP hr]at hj;split at hj
   ·rename_i h1;exact .inr ⟨.inl h1,.inr hj⟩
   ·rename_i h1;split at hj
    ·rename_i h2;rw[<-q1,bt]at hj;cases hx':L[j-p.r]? with
     |none=>simp[hx']at hj
     |some x=>simp[hx']at hj;exact .inl ⟨j-p.r,x,by omega,hx',hj.symm⟩
    ·exact .inr ⟨.inr (by omega),.inr hj⟩)
  refine hK κ' Θ' _ w' (hs'.set (t:=t) ht (q5 κ' hnm) fun b hb'=>?_) (fun j hj=>hsame j (by omega));rw[hno b (q4▸htb b hb')];rcases hsh with M5|hown
  ·by_cases hlt:b<w.heap.size
   ·have h0:=Mw b hb' hlt;simp only[Θc,M5,Hu]at h0;by_cases h1:Θ b=0
    ·exact h1
    ·simp[h1]at h0
   ·by_cases h0:Θ b=0
    ·exact h0
    ·exact absurd (hs.own b h0) hlt
  ·rw[hr'.own hown]at hb';cases hb'
theorem dl.Ql{σ:List (Nat×D)}{H':bW}(hs:dl Γ ⟨σ,H'⟩ κ Θ a w){r:Nat}(hr:r+1<=H'.length)(hfree:κ r=none){cs:Array Value}{ds:aP}{bs:aX}(T:TypeId)(hrd:fS w κ cs.toList ds bs)(hz:∀b∈bs,Θ b=0):
 dl Γ ⟨σ,place H' r [.box ds]⟩ (yD κ r (some (.pointer (some ⟨w.heap.size,0,none⟩)))) (fun b=>if b=w.heap.size then r+2 else Θ b) a (w.alloc (.cells cs T)):=by
 have k:=iy.alloc hs (.cells cs T) (tag:=r+2) (by omega);have hn:=xQ hfree (some (Value.pointer (some ⟨w.heap.size,0,none⟩)));obtain⟨h1,h2⟩:=fS.stay k hn hrd hz;obtain⟨ρ,hu⟩:=hs.tJ;refine hs.put (id:=r) (o:=.box ds) [] ?_ hn ?_ ?_ k (hs.zF (fun b hb=>by by_cases e:b=w.heap.size<;>simp_all)) ?_ hu (by simp) (by intro e sz rows h;cases h)
 ·intro j y hj;rw[uP (by simpa using hr)]at hj;split at hj
  ·exact .inr ⟨by omega,hj⟩
  ·split at hj
   ·rename_i h2;simp only[aV,br]at h2;have e:j=r:=by omega
    subst e;simp at hj;exact .inl ⟨rfl,hj.symm⟩
   ·rename_i h2;simp only[aV,br]at h2;exact .inr ⟨by omega,hj⟩
 ·intro i hi;rw[uQ (by simpa using hr)]at hi;unfold yD;rw[az (by omega)];exact hs.pK i hi
 ·intro i x hx;unfold yD at hx;split at hx
  ·cases hx;rfl
  ·exact hs.oM i x hx
 ·exact⟨w.heap.size,cs,T,by simp[yD],heap_alloc_new w _,by simp,bs,h1,h2⟩
theorem OG.wp{Q':Exit->Act->World->Prop}{σ:List (Nat×D)}{H H':bW}{o:Oper}{p:Cp}{K:Act->World->Prop}(hs:dl Γ ⟨σ,H'⟩ κ Θ a w){t:Nat}(hd:o.dst=some t)(ht:t<Γ.nt)(h:OG P H σ o p)
 (hr:p.r+p.obs.length<=H'.length) (hfree:∀i,i<p.obs.length->κ (p.r+i)=none)
 (hK:∀κ' Θ' a' w',dl Γ ⟨(t,p.d)::σ,place H' p.r p.obs⟩ κ' Θ' a' w'->(∀j,(j<p.r\/p.r+p.obs.length<=j)->κ' j=κ j)->K a' w'):o.wp P a w K Q':=by
 rcases h with⟨T,zs,hop,hz,S2,Pc⟩|⟨T,x,ds,hop,hc,S2,Pc⟩
 ·rw[Pc]at hr hfree hK;rw[S2]at hK;obtain⟨i,z,hi,yC,hsz,hlen,hone,rfl⟩:=xL hz;have hs':=hs.Ql (r:=p.r) hr (by simpa using hfree 0 (by simp)) T (cs:=z.cells) (Bo z.cells.toList hone) (by simp);unfold Oper.wp;have hrun:(execOp a.eval o).run P w=.ok (.value (.pointer (some ⟨w.heap.size,0,none⟩))) (w.alloc (.cells z.cells T)):=by
   simp[execOp,hop,Instr.alloc,zeroValue,typeInfo,hi,yC,newVar,newRow]
  rw[hrun,Oper.upon_value,hd];refine hK _ _ _ _ (hs'.set (t:=t) (d:=.ptr p.r 0) (bs:=[]) ht ?_ (by simp)) (fun j hj=>?_)
  ·exact(zC.ptr p.r 0 w.heap.size (by simp[yD])).PT
  ·unfold yD;simp only[aV,br]at hj;rw[az (by omega)]
 ·rw[Pc]at hr hfree hK;rw[S2]at hK;obtain⟨bs,rr,hz⟩:=hs.ev x;rw[QF σ H' H x]at rr;have hcs:=BG hs.oM rr hc;have hs':=hs.Ql (r:=p.r) hr (by simpa using hfree 0 (by simp)) T hcs hz;unfold Oper.wp;have hrun:(execOp a.eval o).run P w=.ok (.value (.pointer (some ⟨w.heap.size,0,none⟩))) (w.alloc (.cells (a.eval x).cells T)):=by
   simp[execOp,hop,Instr.box,newVar,newRow]
  rw[hrun,Oper.upon_value,hd];refine hK _ _ _ _ (hs'.set (t:=t) (d:=.ptr p.r 0) (bs:=[]) ht ?_ (by simp)) (fun j hj=>?_)
  ·exact(zC.ptr p.r 0 w.heap.size (by simp[yD])).PT
  ·unfold yD;simp only[aV,br]at hj;rw[az (by omega)]
theorem dl.Xd{σ:List (Nat×D)}{H':bW}(hs:dl Γ ⟨σ,H'⟩ κ Θ a w){r:Nat}(hr:r+1<=H'.length)(hfree:κ r=none){u:Bool}{e sz cap:Nat}{rows:List aP}{bs:aX}(cur:Array Value)(hsz:0<sz)(hrl:∀x∈rows,x.length=sz)
 (M2:cur.size=cap*sz) (hn:rows.length<=cap) (hcap:cap<=maxLen) (hrd:l6 w (cur.toList.take (rows.length*sz)) rows.flatten bs) (hz:∀b∈bs,Θ b=0) (hq:u=true->bs=[]):
 dl Γ ⟨σ,place H' r [.row (zA u) e sz rows]⟩ (yD κ r (some (.slice (some ⟨w.heap.size,0,none⟩) rows.length cap))) (fun b=>if b=w.heap.size then r+2 else Θ b) a (w.alloc (.cells cur e)):=by
 have k:=iy.alloc hs (.cells cur e) (tag:=r+2) (by omega);have hkn:=xQ hfree (some (Value.slice (some ⟨w.heap.size,0,none⟩) rows.length cap));obtain⟨h1,h2⟩:=l6.over k hrd hz;have hlen:(cur.toList.take (rows.length*sz)).length=rows.length*sz:=by
  have:rows.length*sz<=cap*sz:=dh _ hn;have h3:cur.toList.length=cap*sz:=by rw[<-M2];simp
  rw[cQ,h3,fJ this]
 have hown:(w.alloc (.cells cur e)).ownsRow 0 e sz (.slice (some ⟨w.heap.size,0,none⟩) rows.length cap) rows.length (cur.toList.take (rows.length*sz)):=
  ⟨hlen,.inr ⟨w.heap.size,cap,cur,rfl,by omega,heap_alloc_new w _,hn,hcap,M2,rfl⟩⟩
 obtain⟨ρ,hu⟩:=hs.tJ;refine hs.put (id:=r) (o:=.row (zA u) e sz rows) [] ?_ hkn ?_ ?_ k (hs.zF (fun b hb=>by by_cases e:b=w.heap.size<;>simp_all)) ?_ hu (by simp) ?_
 ·intro j y hj;rw[uP (by simpa using hr)]at hj;split at hj
  ·exact .inr ⟨by omega,hj⟩
  ·split at hj
   ·rename_i h2;simp only[aV,br]at h2;have e:j=r:=by omega
    subst e;simp at hj;exact .inl ⟨rfl,hj.symm⟩
   ·rename_i h2;simp only[aV,br]at h2;exact .inr ⟨by omega,hj⟩
 ·intro i hi;rw[uQ (by simpa using hr)]at hi;unfold yD;rw[az (by omega)];exact hs.pK i hi
 ·intro i x hx;unfold yD at hx;split at hx
  ·cases hx;rfl
  ·exact hs.oM i x hx
 ·refine⟨hsz,hrl,_,_,bs,by simp[yD],hown,h1,?_,?_⟩
  ·intro g hg;simp only[Value.ownBlock,aq]at hg;subst hg;simp
  ·cases u<;>exact h2
 ·intro e' sz' dN he;cases u with
  |false=>simp[zA]at he
  |true=>
   simp only[zA,Ob.row.injEq,sA]at he;obtain⟨rfl,rfl,rfl⟩:=he;have:=hq rfl;subst this;exact⟨_,_,[],by simp[yD],hown,h1,by simp,by simp⟩
theorem OI.wp{Q':Exit->Act->World->Prop}{σ:List (Nat×D)}{H H':bW}{o:Oper}{p:Cp}{K:Act->World->Prop}(hs:dl Γ ⟨σ,H'⟩ κ Θ a w)(hx:Ext H H'){t:Nat}(hd:o.dst=some t)(ht:t<Γ.nt)(h:OI P H σ o p)
 (hr:p.r+p.obs.length<=H'.length) (hfree:∀i,i<p.obs.length->κ (p.r+i)=none)
 (hK:∀κ' Θ' a' w',dl Γ ⟨(t,p.d)::σ,place H' p.r p.obs⟩ κ' Θ' a' w'->(∀j,(j<p.r\/p.r+p.obs.length<=j)->κ' j=κ j)->K a' w'):o.wp P a w K Q':=by
 obtain⟨T,e,sz,len,parts,zs,ds,es,hop,hT,hz,hsz,hsmall,hf,habs,S2,Pc⟩:=h;rw[Pc]at hr hfree hK;rw[S2]at hK;have hf':xu (sw len sz) (List.replicate len zs).flatten (parts.toList.map fun q=>(q.1,St.ev ⟨σ,H'⟩ q.2))=some ds:=by
  rw[<-hf];congr 1
 obtain⟨arr,b0,hrun,ND,hb0,hal,hdl⟩:=zU (st:=⟨σ,H'⟩) hop hT hz hsz hsmall hf' hs;obtain⟨ρ,hu⟩:=hs.tJ;obtain⟨bs,q1,q2,q3⟩:=Ra (H:=H) (ρ:=ρ) habs (by simp) ND hb0 (by simp);have hel:es.length=len*sz:=by rw[<-q1.length,ND.length,hdl]
 obtain⟨c1,c2,c3⟩:=Dl sz len es hel;have hs':=hs.Xd (r:=p.r) hr (by simpa using hfree 0 (by simp)) (u:=ds.all (U3 H)) (e:=e) (sz:=sz) (cap:=len) (rows:=chunk sz len es) (bs:=bs) arr hsz c3 hal (by rw[c1];exact bR _)
  (by unfold maxLen;have:len*1<=len*sz:=eN _ hsz;omega) (by rw[c1,c2,rT (by simp[hal])];exact q1) q2
  (fun hq=>by
   obtain⟨_,h2⟩:=q3 hq;cases bs with
   |nil=>rfl
   |cons b bs=>obtain⟨m,hm,_⟩:=h2 b (by simp);cases hm)
 unfold Oper.wp;rw[hrun,Oper.upon_value,hd];rw[c1]at hs';refine hK _ _ _ _ (hs'.set (t:=t) (d:=.acc p.r) (bs:=[]) ht ?_ (by simp)) (fun j hj=>?_)
 ·exact(zC.acc p.r _ (by simp[yD])).PT
 ·unfold yD;simp only[aV,br]at hj;rw[az (by omega)]
theorem OH.wp{Q':Exit->Act->World->Prop}{σ:List (Nat×D)}{H H':bW}{o:Oper}{p:Cp}{K:Act->World->Prop}(hs:dl Γ ⟨σ,H'⟩ κ Θ a w){t:Nat}(hd:o.dst=some t)(ht:t<Γ.nt)(h:OH P H σ o p)
 (hK:∀κ' Θ' a' w',dl Γ ⟨(t,p.d)::σ,place H' p.r p.obs⟩ κ' Θ' a' w'->(∀j,(j<p.r\/p.r+p.obs.length<=j)->κ' j=κ j)->K a' w'):o.wp P a w K Q':=by
 obtain⟨T,e,sz,len,parts,zs,ds,hop,hT,hz,hsz,hsmall,hf,a8X,a5I,S2,Pc⟩:=h;rw[Pc]at hK;rw[S2]at hK;have hf':xu (sw len sz) (List.replicate len zs).flatten (parts.toList.map fun q=>(q.1,St.ev ⟨σ,H'⟩ q.2))=some ds:=by
  rw[<-hf];congr 1
 obtain⟨arr,b0,hrun,ND,hb0,hal,hdl⟩:=zU (st:=⟨σ,H'⟩) hop hT hz hsz hsmall hf' hs;have hrd:=ND.pure a8X;have a8B:b0=[]:=hrd.flat a5I;subst a8B;obtain⟨c1,c2,c3⟩:=Dl sz len ds hdl;have Lz:Below w.heap.size w (w.alloc (.cells arr e)):=by
  have k:=iy.alloc hs (.cells arr e) (tag:=2) (by omega);refine⟨k.os,k.tape,k.output,k.size,fun b hlt=>?_⟩;simp only[World.alloc];rw[Array.getElem?_push,az (by omega)]
 have hs':=hs.grow Lz;unfold Oper.wp;rw[hrun,Oper.upon_value,hd];have hpl:place H' p.r ([]:bW)=H':=by simp[place]
 rw[hpl]at hK;refine hK _ _ _ _ (hs'.set (t:=t) (d:=.sl (chunk sz len ds)) (bs:=[w.heap.size]) ht ?_ ?_) (fun j hj=>rfl)
 ·have hcell:∀j c,arr.toList[j]?=some c->(w.alloc (.cells arr e)).cell? ⟨w.heap.size,0+j,none⟩=some c:=by
   intro j c hj;simp only[cY,World.cell?,heap_alloc_new w _];simpa using hj
  have hlt:w.heap.size<(w.alloc (.cells arr e)).heap.size:=(bI.1 (heap_alloc_new w _)).1;have:=Rd.sl (w:=w.alloc (.cells arr e)) w.heap.size 0 len sz (chunk sz len ds) arr.toList [] hlt (by rw[c1];exact bR _) (by unfold maxLen;have:len*1<=len*sz:=eN _ hsz;omega) c3 hcell (by rw[c2];exact hrd.keep (by simp));rw[c1]at this;exact .of this
 ·intro b hb;simp only[cA]at hb;subst hb;cases h:Θ w.heap.size with
  |zero=>rfl
  |succ m=>exact absurd (hs.own w.heap.size (by omega)) (by omega)
theorem Hw.wp{Q':Exit->Act->World->Prop}{σ:List (Nat×D)}{H H':bW}{o:Oper}{p:Cp}{K:Act->World->Prop}(hs:dl Γ ⟨σ,H'⟩ κ Θ a w)(hx:Ext H H'){t:Nat}(hd:o.dst=some t)(ht:t<Γ.nt)(h:Hw P H σ o p)
 (hr:p.r+p.obs.length<=H'.length) (hfree:∀i,i<p.obs.length->κ (p.r+i)=none)
 (hK:∀κ' Θ' a' w',dl Γ ⟨(t,p.d)::σ,place H' p.r p.obs⟩ κ' Θ' a' w'->(∀j,(j<p.r\/p.r+p.obs.length<=j)->κ' j=κ j)->K a' w'):o.wp P a w K Q':=by
 rcases h with h|h|h|h
 ·exact h.wp hs hx hd ht hr hfree hK
 ·exact h.wp hs hd ht hr hfree hK
 ·exact h.wp hs hx hd ht hr hfree hK
 ·exact h.wp hs hd ht hK
theorem dl.Yg(hs:dl Γ st κ Θ a w){ops:Array Oper}{j s:Nat}(hj:(ops[j]?).bind (·.dst)=some s)(hb:lk st.σ s=.iE []):yielded ops a.tmps j=none:=by
 obtain⟨bs,r,_⟩:=hs.slot s;rw[hb]at r;have hv:=r.O3;rcases eO s a.tmps.size with hlt|hlt
 ·have h1:a.tmps[s]?=some (.tuple #[]):=by
   rw[cF,cP hlt]at hv;rw[cP hlt];simpa using hv
  simp[yielded,hj,h1]
 ·simp[yielded,hj,rR hlt]
def Cp.B1(p:Cp)(H':bW):bW:=match p.up with|some (id,ob)=>H'.set id ob|none=>place H' p.r p.obs
theorem tV.wp{Q':Exit->Act->World->Prop}{σ:List (Nat×D)}{H H':bW}{ops:Array Oper}{i:Nat}{o:Oper}{p:Cp}{K:Act->World->Prop}(hs:dl Γ ⟨σ,H'⟩ κ Θ a w)(hx:Ext H H')(hi:ops[i]?=some o)(h:tV P Γ ops H σ o p)
 (hr:p.r+p.obs.length<=H'.length) (hfree:∀i,i<p.obs.length->κ (p.r+i)=none) (RW:∀id ob,p.up=some (id,ob)->∃zs ds,H'[id]?=some (.box zs)/\ob=.box ds/\zs.length=ds.length)
 (hK:∀κ' Θ' a' w',dl Γ ⟨p.slot σ,p.B1 H'⟩ κ' Θ' a' w'->(∀j,(j<p.r\/p.r+p.obs.length<=j)->κ' j=κ j)->K a' w'):wpOp P ops Q' i K a w:=by
 rcases h with⟨t,hpt,Ta,hd,ht,h⟩|⟨hpt,Pc,hd,hg,T,x,y,id,ds,hop,hev,hlen,hc,hT,hl,Ta⟩
 ·have e1:p.slot σ=(t,p.d)::σ:=by simp[Cp.slot,hpt]
  have e2:p.B1 H'=place H' p.r p.obs:=by simp[Cp.B1,Ta]
  rw[e1,e2]at hK;rcases h with⟨hg,hc⟩|⟨j,s,want,b,hg,hj,hb,hc⟩|⟨j,s,want,hg,hj,hb,a2m,hno⟩
  ·exact AB hi (by simp[Region.wanted,hg]) (hc.wp hs hx hd ht hr hfree hK)
  ·have hy:=hs.a4W hj hb;rcases hc with⟨rfl,hc⟩|⟨hne,a2m,hno⟩
   ·exact AB hi (by simp[Region.wanted,hg,hy]) (hc.wp hs hx hd ht hr hfree hK)
   ·unfold wpOp;have hw:Region.wanted o (yielded ops a.tmps)=false:=by simp[Region.wanted,hg,hy,hne]
    simp only[hi,hw,zJ,zN,hd];have hp:place H' p.r p.obs=H':=by rw[hno];simp[place]
    exact hK κ Θ _ _ (by rw[hp,a2m];exact hs.set ht (.iE [] [] [] .nil) (by simp)) (fun _ _=>rfl)
  ·have hy:=hs.Yg hj hb;unfold wpOp;have hw:Region.wanted o (yielded ops a.tmps)=false:=by simp[Region.wanted,hg,hy]
   simp only[hi,hw,zJ,zN,hd];have hp:place H' p.r p.obs=H':=by rw[hno];simp[place]
   exact hK κ Θ _ _ (by rw[hp,a2m];exact hs.set ht (.iE [] [] [] .nil) (by simp)) (fun _ _=>rfl)
 ·have e1:p.slot σ=σ:=by simp[Cp.slot,hpt]
  have e2:p.B1 H'=H'.set id (.box ds):=by simp[Cp.B1,Ta]
  rw[e1,e2]at hK;obtain⟨zs,ds',hz,he,hzl⟩:=RW id _ Ta;cases he;obtain⟨w',hrun,hs'⟩:=O1 (st:=⟨σ,H'⟩) hop (by rw[QF σ H' H x];exact hev) hz rfl (by rw[QF σ H' H y];exact hc) hT hl (by omega) hs;refine AB hi (by simp[Region.wanted,hg]) ?_;unfold Oper.wp;rw[hrun,Oper.upon_skip,hd];have e3:zs.take 0++ds++zs.drop (0+ds.length)=ds:=by
   rw[Bx (by omega)];simp
  rw[e3]at hs';exact hK κ Θ _ _ hs' (fun _ _=>rfl)
theorem JW.congr{H:bW}{σ σ':List (Nat×D)}{o:Oper}{p:Cp}(he:∀x∈o.op.operands.toList,St.ev ⟨σ,H⟩ x=St.ev ⟨σ',H⟩ x)(h:JW P H σ o p):JW P H σ' o p:=by
 rcases h with⟨h,hno⟩|⟨f,xs,ts,ds,ms,d,hop,hds,hsh,nL,hi⟩
 ·exact .inl ⟨P9 (fun _ _ h=>h) he h,hno⟩
 ·have hm:xs.toList.map (St.ev ⟨σ,H⟩)=xs.toList.map (St.ev ⟨σ',H⟩):=by
   apply o9;intro x hx;refine he x ?_;rw[hop];simp only[Op.operands,Call.operands,lR,af];exact .inr hx
  rw[hm]at hds;exact .inr ⟨f,xs,ts,ds,ms,d,hop,hds,hsh,nL,hi⟩
theorem Hw.congr{H:bW}{σ σ':List (Nat×D)}{o:Oper}{p:Cp}(he:∀x∈o.op.operands.toList,St.ev ⟨σ,H⟩ x=St.ev ⟨σ',H⟩ x)(h:Hw P H σ o p):Hw P H σ' o p:=by
 rcases h with h| (h|⟨T,x,ds,hop,hc,S2,Pc⟩)|⟨T,e,sz,len,parts,zs,ds,es,hop,hT,hz,hsz,hsmall,hf,habs,S2,Pc⟩|⟨T,e,sz,len,parts,zs,ds,hop,hT,hz,hsz,hsmall,hf,habs,hfl,S2,Pc⟩
 ·exact .inl (h.congr he)
 ·exact .inr (.inl (.inl h))
 ·exact .inr (.inl (.inr ⟨T,x,ds,hop,by rw[<-he x (by rw[hop];simp[Op.operands])];exact hc,S2,Pc⟩))
 ·refine .inr (.inr (.inl ⟨T,e,sz,len,parts,zs,ds,es,hop,hT,hz,hsz,hsmall,?_,habs,S2,Pc⟩));rw[<-hf]
  congr 1
  apply o9;intro q hq;rw[he q.2 ?_];rw[hop];simp only[Op.operands,gu];exact bu.2 ⟨q,hq,rfl⟩
 ·refine .inr (.inr (.inr ⟨T,e,sz,len,parts,zs,ds,hop,hT,hz,hsz,hsmall,?_,habs,hfl,S2,Pc⟩));rw[<-hf]
  congr 1
  apply o9;intro q hq;rw[he q.2 ?_];rw[hop];simp only[Op.operands,gu];exact bu.2 ⟨q,hq,rfl⟩
theorem tV.congr{H:bW}{σ σ':List (Nat×D)}{ops:Array Oper}{o:Oper}{p:Cp}(he:∀t∈o.looksAt ops,lk σ t=lk σ' t)(h:tV P Γ ops H σ o p):tV P Γ ops H σ' o p:=by
 have hev:=Lp (st:=⟨σ,H⟩) (vB:=⟨σ',H⟩) he;have hgu:∀ {j s:Nat} {want:Bool},o.guard=some (j,want)->(ops[j]?).bind (·.dst)=some s->lk σ s=lk σ' s:=by
  intro j s want hg hj;refine he s ?_;unfold Oper.looksAt;refine af.2 (.inr ?_);simp[hg,hj]
 rcases h with⟨t,hpt,Ta,hd,ht,h⟩|⟨hpt,Pc,hd,hg,T,x,y,id,ds,hop,hx,hlen,hc,hT,hl,Ta⟩
 ·refine .inl ⟨t,hpt,Ta,hd,ht,?_⟩;rcases h with⟨hg,hc⟩|⟨j,s,want,b,hg,hj,hb,hc⟩|⟨j,s,want,hg,hj,hb,hc⟩
  ·exact .inl ⟨hg,hc.congr hev⟩
  ·refine .inr (.inl ⟨j,s,want,b,hg,hj,by rw[<-hgu hg hj];exact hb,?_⟩);rcases hc with⟨h1,hc⟩|hc
   ·exact .inl ⟨h1,hc.congr hev⟩
   ·exact .inr hc
  ·exact .inr (.inr ⟨j,s,want,hg,hj,by rw[<-hgu hg hj];exact hb,hc⟩)
 ·refine .inr ⟨hpt,Pc,hd,hg,T,x,y,id,ds,hop,?_,hlen,?_,hT,hl,Ta⟩
  ·rw[<-hev x (by rw[hop];simp[Op.operands])];exact hx
  ·rw[<-hev y (by rw[hop];simp[Op.operands])];exact hc
def Cp.sl(p:Cp):Option (Nat×D):=p.t.map fun t=>(t,p.d)
theorem Cp.a0t(p:Cp)(σ:List (Nat×D)):p.slot σ=p.sl.toList++σ:=by
 unfold Cp.slot Cp.sl;cases p.t<;>rfl
theorem LG(p:Cp)(ps:List Cp)(σ:List (Nat×D)):((p::ps).filterMap Cp.sl).reverse++σ=(ps.filterMap Cp.sl).reverse++p.slot σ:=by
 rw[Cp.a0t,yW];cases p.sl<;>simp
theorem tV.Yi{H:bW}{σ:List (Nat×D)}{o:Oper}{p:Cp}(h:tV P Γ all H σ o p):p.up=none\/p.obs=[]:=by
 rcases h with⟨_,_,h,_⟩|⟨_,h,_⟩
 ·exact .inl h
 ·exact .inr h
theorem tV.slots{H:bW}{σ:List (Nat×D)}{o:Oper}{p:Cp}(h:tV P Γ all H σ o p):o.dst=p.t:=by
 rcases h with⟨t,h1,_,h2,_⟩|⟨h1,_,h2,_⟩
 ·rw[h1,h2]
 ·rw[h1,h2]
theorem KN.unfold{H:bW}{K:List (Nat×D)->bW->Prop}:∀(l:List Oper) (σ:List (Nat×D)) (acc:bW) (U:aX),KN P Γ all H K l σ acc U->
 ∃(ps:List Cp) (Kt:bW),ps.length=l.length/\(∀(i:Nat) o p,l[i]?=some o->ps[i]?=some p->tV P Γ all H (((ps.take i).filterMap Cp.sl).reverse++σ) o p/\p.r=H.length+acc.length+((ps.take i).flatMap Cp.obs).length/\
  ∀id ob,p.up=some (id,ob)->id∉U/\H.length<=id/\(∃zs ds,ob=.box ds/\zs.length=ds.length/\(acc++(ps.take i).flatMap Cp.obs)[id-H.length]?=some (.box zs))/\∀(i2:Nat) q B9,i2<i->ps[i2]?=some q->q.up≠some (id,B9))/\
  K ((ps.filterMap Cp.sl).reverse++σ) Kt/\Kt.length=acc.length+(ps.flatMap Cp.obs).length/\
  (∀k,(∀(i:Nat) q ob,ps[i]?=some q->q.up≠some (H.length+k,ob))->Kt[k]?=(acc++ps.flatMap Cp.obs)[k]?)/\
  ∀(i:Nat) q id ob,ps[i]?=some q->q.up=some (id,ob)->Kt[id-H.length]?=some ob:=by
 intro l
 induction l with
 |nil=>
  intro σ acc U h;have h:K σ acc:=h;exact⟨[],acc,rfl,by simp,by simpa using h,by simp,by simp,by simp⟩
 |cons o l ih=>
  intro σ acc U h;obtain⟨p,hr,hc,hok,sS⟩:=h;obtain⟨ps,Kt,h1,h2,h3,h4,h5,h6⟩:=ih _ _ _ sS;cases RW:p.up with
  |none=>
   have ef:p.fill H.length acc=acc++p.obs:=by simp[Cp.fill,RW]
   have eu:p.ups U=U:=by simp[Cp.ups,RW]
   rw[ef]at h2 h4 h5;rw[eu]at h2;refine⟨p::ps,Kt,by simp[h1],?_,by rw[LG];exact h3,by rw[h4];simp;omega,?_,?_⟩
   ·intro i o' p' ho hp;cases i with
    |zero=>
     simp at ho hp;subst ho;subst hp;refine⟨by simpa using hc,by simpa using hr,?_⟩;intro id ob he;rw[RW]at he;cases he
    |succ i=>
     simp at ho hp;obtain⟨q1,q2,q3⟩:=h2 i o' p' ho hp;refine⟨by rw[ud,LG];exact q1,by rw[q2];simp;omega,?_⟩;intro id ob he;obtain⟨r1,r2,⟨zs,ds,r3,r4,r5⟩,r6⟩:=q3 id ob he;refine⟨r1,r2,⟨zs,ds,r3,r4,by rw[<-r5];simp⟩,?_⟩;intro i2 q B9 hlt hq;cases i2 with
     |zero=>simp at hq;subst hq;rw[RW];simp
     |succ i2=>exact r6 i2 q B9 (by omega) (by simpa using hq)
   ·intro k hk;rw[h5 k (fun i q ob hq=>hk (i+1) q ob (by simpa using hq))];simp
   ·intro i q id ob hq he;cases i with
    |zero=>simp at hq;subst hq;rw[RW]at he;cases he
    |succ i=>exact h6 i q id ob (by simpa using hq) he
  |some x=>
   obtain⟨Th,ob0⟩:=x;have ef:p.fill H.length acc=acc.set (Th-H.length) ob0:=by simp[Cp.fill,RW]
   have eu:p.ups U=Th::U:=by simp[Cp.ups,RW]
   have Z1:p.obs=[]:=by
    rcases hc.Yi with h|h
    ·rw[h]at RW;cases RW
    ·exact h
   rw[ef]at h2 h4 h5;rw[eu]at h2;simp only[Cp.a6x,RW]at hok;obtain⟨u1,u2,zs0,Zk,u3,u4,u5⟩:=hok;have qc:∀(X:bW) (k:Nat),k≠Th-H.length->(acc.set (Th-H.length) ob0++X)[k]?=(acc++X)[k]?:=by
    intro X k hk;by_cases hl:k<acc.length
    ·rw[au (by simpa using hl),au hl,cE (rV hk)]
    ·rw[bA (by simpa using hl),bA (by omega)];simp
   have hno:∀(i:Nat) q B9,ps[i]?=some q->q.up≠some (Th,B9):=by
    intro i q B9 hq he;have hlt:i<l.length:=by have:=(aF.1 hq).1;omega
    have:=(h2 i l[i] q (aa hlt) hq).2.2 Th B9 he;exact this.1 (by simp)
   refine⟨p::ps,Kt,by simp[h1],?_,by rw[LG];exact h3,by rw[h4];simp[Z1],?_,?_⟩
   ·intro i o' p' ho hp;cases i with
    |zero=>
     simp at ho hp;subst ho;subst hp;refine⟨by simpa using hc,by simpa using hr,?_⟩;intro id ob he;rw[RW]at he;cases he;exact⟨u1,u2,⟨zs0,Zk,u4,u5,by simpa using u3⟩,by intro i2 q B9 hlt;omega⟩
    |succ i=>
     simp at ho hp;obtain⟨q1,q2,q3⟩:=h2 i o' p' ho hp;refine⟨by rw[ud,LG];exact q1,by rw[q2];simp[Z1],?_⟩;intro id ob he;obtain⟨r1,r2,⟨zs,ds,r3,r4,r5⟩,r6⟩:=q3 id ob he;have hne:id≠Th:=fun e=>r1 (by simp[e])
     refine⟨fun h=>r1 (by simp[h]),r2,⟨zs,ds,r3,r4,?_⟩,?_⟩
     ·rw[<-r5,qc _ _ (by omega)];simp[Z1]
     ·intro i2 q B9 hlt hq;cases i2 with
      |zero=>simp at hq;subst hq;rw[RW];intro e;cases e;exact hne rfl
      |succ i2=>exact r6 i2 q B9 (by omega) (by simpa using hq)
   ·intro k hk;rw[h5 k (fun i q ob hq=>hk (i+1) q ob (by simpa using hq))];have hne:k≠Th-H.length:=fun e=>hk 0 p ob0 rfl (by rw[RW,e,show H.length+(Th-H.length)=Th from by omega])
    rw[qc _ _ hne];simp[Z1]
   ·intro i q id ob hq he;cases i with
    |zero=>
     simp at hq;subst hq;rw[RW]at he;cases he;rw[h5 (Th-H.length) (fun i q B9 hq=>by rw[show H.length+(Th-H.length)=Th from by omega];exact hno i q B9 hq)];have hl:Th-H.length<acc.length:=(aF.1 u3).1;rw[au (by simpa using hl),dX hl]
    |succ i=>exact h6 i q id ob (by simpa using hq) he
theorem dl.same{σ':List (Nat×D)}(h:∀t,lk st.σ t=lk σ' t)(hs:dl Γ st κ Θ a w):dl Γ ⟨σ',st.H⟩ κ Θ a w:=
 ⟨hs.defers,hs.size,hs.pK,hs.oM,fun t=>by show∃bs,rW w κ _ (lk σ' t) bs/\_;rw[<-h t];exact hs.slot t,hs.ob,hs.own,hs.old,hs.mine,hs.stays,hs.tJ⟩
theorem dl.room(hs:dl Γ st κ Θ a w)(m:Nat):dl Γ ⟨st.σ,st.H++List.replicate m .gone⟩ κ Θ a w:=by
 have key:∀(j:Nat) y,(st.H++List.replicate m .gone)[j]?=some y->y=.gone\/st.H[j]?=some y:=by
  intro j y hj;by_cases hlt:j<st.H.length
  ·rw[au hlt]at hj;exact .inr hj
  ·rw[bA (by omega)]at hj;rw[List.getElem?_replicate]at hj;split at hj
   ·cases hj;exact .inl rfl
   ·cases hj
 obtain⟨ρ,hu⟩:=hs.tJ;refine⟨hs.defers,hs.size,fun i hi=>hs.pK i (by simp at hi;omega),hs.oM,hs.slot,?_,hs.own,hs.old,hs.mine,hs.stays,ρ,hu.free,?_,?_⟩
 ·intro j o hj;rcases key j o hj with rfl|h
  ·trivial
  ·exact hs.ob j o h
 ·intro id e sz rows hj;rcases key id _ hj with h|h
  ·cases h
  ·exact hu.rows id e sz rows h
 ·intro id o hj;rcases key id _ hj with h|h
  ·subst h;trivial
  ·exact hu.more id o h
theorem qZ{ps:List Cp}{i:Nat}{p:Cp}(h:ps[i]?=some p):ps.flatMap Cp.obs=(ps.take i).flatMap Cp.obs++(p.obs++(ps.drop (i+1)).flatMap Cp.obs):=by
 have e:ps=ps.take i++(p::ps.drop (i+1)):=by
  obtain⟨hlt,rfl⟩:=aF.1 h;rw[By,cD]
 conv=>lhs;rw[e]
 simp
theorem z6{ps:List Cp}:∀ {k:Nat},k<(ps.flatMap Cp.obs).length->∃(i:Nat) (p:Cp) (j:Nat),ps[i]?=some p/\j<p.obs.length/\k=((ps.take i).flatMap Cp.obs).length+j:=by
 induction ps with
 |nil=>intro k h;simp at h
 |cons p ps ih=>
  intro k h;by_cases hk:k<p.obs.length
  ·exact⟨0,p,k,rfl,hk,by simp⟩
  ·simp only[cH,bC]at h;obtain⟨i,q,j,h1,h2,h3⟩:=ih (k:=k-p.obs.length) (by omega);refine⟨i+1,q,j,by simpa using h1,h2,?_⟩;rw[ud,cH,bC];omega
theorem Nx{ps:List Cp}{i j:Nat}{p:Cp}(hp:ps[i]?=some p)(hij:i<j):((ps.take i).flatMap Cp.obs).length+p.obs.length<=((ps.take j).flatMap Cp.obs).length:=by
 have h:(ps.take j)[i]?=some p:=by rw[cR,bK hij];exact hp
 have:=qZ h;rw[this];have e:(ps.take j).take i=ps.take i:=by rw[tS,fJ (by omega)]
 rw[e];simp only[bC];omega
theorem ZI{id:Nat}{l:List Oper}(n:Nat)(hm:P.follows .mixedOrders=true)(hB:WI l.toArray n=true)
 (h:KN P Γ l.toArray st.H (fun σ acc=>AO P Γ l.toArray (l.drop n) Q ⟨σ,st.H++acc⟩) (l.take n) st.σ [] []):AW P Γ (.region id l.toArray true) Q st:=by
 simp only[WI,aS,nk,bD]at hB;obtain⟨⟨⟨hn,hsc⟩,Zu⟩,KZ⟩:=hB;obtain⟨ps,Kt,hlen,M1,hK,hFl,hFo,hFu⟩:=KN.unfold _ _ _ _ h;simp only[cw,br,rU,cY]at M1 hK hFl hFo;have hn':n<=l.length:=by simpa using hn
 have hpl:ps.length=n:=by rw[hlen];simp;omega
 have hop:∀(i:Nat),i<n->∃o p,l.toArray[i]?=some o/\ps[i]?=some p/\o.dst=p.t/\tV P Γ l.toArray st.H (((ps.take i).filterMap Cp.sl).reverse++st.σ) o p/\p.r=st.H.length+((ps.take i).flatMap Cp.obs).length:=by
  intro i hi;have h1:l[i]?=some l[i]:=aa (by omega);have h2:ps[i]?=some ps[i]:=aa (by omega);have h3:=M1 i l[i] ps[i] (by rw[cR,bK hi];exact h1) h2;exact⟨l[i],ps[i],by simp[jW,h1],h2,h3.1.slots,h3.1,h3.2.1⟩
 have S3:∀(i:Nat) p,ps[i]?=some p->p.r=st.H.length+((ps.take i).flatMap Cp.obs).length:=by
  intro i p hp;have hi:i<n:=by have:=(aF.1 hp).1;omega
  obtain⟨_,p',_,hp',_,_,hr⟩:=hop i hi;rw[hp]at hp';cases hp';exact hr
 have Oc:∀(i:Nat) p id ob,ps[i]?=some p->p.up=some (id,ob)->st.H.length<=id/\(∃zs ds,ob=.box ds/\zs.length=ds.length/\((ps.take i).flatMap Cp.obs)[id-st.H.length]?=some (.box zs))/\∀(i2:Nat) q B9,i2<i->ps[i2]?=some q->q.up≠some (id,B9):=by
  intro i p id ob hp he;have hi:i<n:=by have:=(aF.1 hp).1;omega
  have h1:l[i]?=some l[i]:=aa (by omega);have h3:=(M1 i l[i] p (by rw[cR,bK hi];exact h1) hp).2.2 id ob he;exact⟨h3.2.1,h3.2.2.1,h3.2.2.2⟩
 have Wp:∀(i j:Nat) p q id ob B9,ps[i]?=some p->ps[j]?=some q->p.up=some (id,ob)->q.up=some (id,B9)->i=j:=by
  intro i j p q id ob B9 hp hq he HX;rcases w9 i j with h|h|h
  ·exact absurd he ((Oc j q id B9 hq HX).2.2 i p ob h hp)
  ·exact h
  ·exact absurd HX ((Oc i p id ob hp he).2.2 j q B9 h hq)
 have Wq:∀(i:Nat) p id ob,ps[i]?=some p->p.up=some (id,ob)->p.obs=[]:=by
  intro i p id ob hp he;have hi:i<n:=by have:=(aF.1 hp).1;omega
  obtain⟨_,p',_,hp',_,hc,_⟩:=hop i hi;rw[hp]at hp';cases hp';rcases hc.Yi with h|h
  ·rw[h]at he;cases he
  ·exact h
 have hfit:∀(i:Nat) p,ps[i]?=some p->p.r+p.obs.length<=st.H.length+(ps.flatMap Cp.obs).length:=by
  intro i p hp;rw[S3 i p hp,qZ hp];simp only[bC];omega
 have OW:∀(i j:Nat) p q,ps[i]?=some p->ps[j]?=some q->i<j->p.r+p.obs.length<=q.r:=by
  intro i j p q hp hq hij;rw[S3 i p hp,S3 j q hq];have:=Nx hp hij;omega
 have hdist:∀(i j:Nat) p q t,ps[i]?=some p->ps[j]?=some q->p.t=some t->q.t=some t->i=j:=by
  intro i j p q t hp hq he1 HX;have hi:i<n:=by have:=(aF.1 hp).1;omega
  have hj:j<n:=by have:=(aF.1 hq).1;omega
  obtain⟨oi,p',ho,hp',hdi,_⟩:=hop i hi;obtain⟨oj,q',xj,NG,hdj,_⟩:=hop j hj;rw[hp]at hp';cases hp';rw[hq]at NG;cases NG;have:=aj.1 KZ i (bf.2 hi);simp only[ho,aS]at this;have:=aj.1 this.2 j (bf.2 hj);simp only[xj,hdi,hdj,he1,HX,qo,bQ,sY,Option.isNone_some,sY,cq]at this;exact this.symm
 have Ec:∀(i:Nat) p t,ps[i]?=some p->p.t=some t->∀q∈ps.filterMap Cp.sl,q.1=t->q=(t,p.d):=by
  intro i p t hp hpt q hq he;obtain⟨q',NG,K4⟩:=cC.1 hq;obtain⟨j,hj,rfl⟩:=eS.1 NG;have Hs:ps[j]?=some ps[j]:=aa hj;unfold Cp.sl at K4;cases Zs:ps[j].t with
  |none=>rw[Zs]at K4;cases K4
  |some u=>
   rw[Zs]at K4;simp only[cU,aq]at K4;subst K4;simp only at he;subst he;have:=hdist j i _ p u Hs hp Zs hpt;subst this;rw[hp]at Hs;cases Hs;rfl
 intro κ Θ a w hs;have main:∀(f:Nat) (listed:Array Bool) (σ':List (Nat×D)) (H':bW) (κ:Nat->Option Value) (Θ:Nat->Nat) (a:Act) (w:World),HeadInv .any l.toArray n listed->
  ((List.range n).filter fun i=> !listed.getD i false).length=f->
  (∀(i:Nat) p t,ps[i]?=some p->p.t=some t->listed.getD i false=true->lk σ' t=p.d)->
  (∀t,(∀(i:Nat) p,ps[i]?=some p->listed.getD i false=true->p.t≠some t)->lk σ' t=lk st.σ t)->
  H'.length=st.H.length+(ps.flatMap Cp.obs).length->Ext st.H H'->
  (∀(i:Nat) p,ps[i]?=some p->listed.getD i false=true->∀(j:Nat) o,p.obs[j]?=some o->(∀(i2:Nat) q ob,ps[i2]?=some q->listed.getD i2 false=true->q.up≠some (p.r+j,ob))->H'[p.r+j]?=some o)->
  (∀(i:Nat) q id ob,ps[i]?=some q->listed.getD i false=true->q.up=some (id,ob)->H'[id]?=some ob/\∃v,κ id=some v)->
  (∀(i:Nat) p,ps[i]?=some p->listed.getD i false=false->∀j,j<p.obs.length->κ (p.r+j)=none)->
  dl Γ ⟨σ',H'⟩ κ Θ a w->
  wpAny P .any l.toArray (fun e a' w'=>∃vB κ' Θ',dl Γ vB κ' Θ' a' w'/\Q e vB) (f+(l.toArray.size-n)) listed a w:=by
  intro f
  induction f with
  |zero=>
   intro listed σ' H' κ Θ a w inv oL hA hB hHl VN TW Yz TV hs;have hall:∀i,i<n->listed.getD i false=true:=by
    intro i hi;have h0:=cZ oL;cases hl:listed.getD i false with
    |true=>rfl
    |false=>
     have:i∈(List.range n).filter fun i=> !listed.getD i false:=gA.2 ⟨bf.2 hi,by simp[hl]⟩
     rw[h0]at this;cases this
   have Wa:listed=Array.replicate n true++Array.replicate (l.toArray.size-n) false:=by
    apply Array.ext
    ·rw[inv.size];simp;simp at hn;omega
    ·intro i h1 h2;by_cases hi:i<n
     ·have:=hall i hi;rw[AG (by simpa using hi)];simp[h1]at this;simp[this]
     ·have hi':i<l.toArray.size:=by rw[<-inv.size];exact h1
      have:=inv.tail i (by omega) hi';rw[zI (by simpa using hi)];simp[h1]at this;simp[this]
   rw[cY];have Jz:∀t,lk σ' t=lk ((ps.filterMap Cp.sl).reverse++st.σ) t:=by
    intro t;by_cases hex:∃(i:Nat) (p:Cp),ps[i]?=some p/\p.t=some t
    ·obtain⟨i,p,hp,hpt⟩:=hex;have hi:i<n:=by have:=(aF.1 hp).1;omega
     rw[hA i p t hp hpt (hall i hi)];have:=HZ (ps.filterMap Cp.sl).reverse st.σ (t,p.d) (by rw[dw];exact cC.2 ⟨p,aE hp,by simp[Cp.sl,hpt]⟩) (fun q hq he=>Ec i p t hp hpt q (by simpa using hq) he);exact this.symm
    ·rw[hB t (fun i p hp _ he=>hex ⟨i,p,hp,he⟩),Ej];intro q hq he;obtain⟨p,hp,hps⟩:=cC.1 (dw.1 hq);obtain⟨i,hi,hpi⟩:=eS.1 hp;refine hex ⟨i,p,by rw[<-hpi];exact aa hi,?_⟩;unfold Cp.sl at hps;cases hpt:p.t with
     |none=>rw[hpt]at hps;cases hps
     |some u=>rw[hpt]at hps;simp only[cU,aq]at hps;subst hps;simp only at he;rw[he]
   have WQ:H'=st.H++Kt:=by
    apply kw;intro k;by_cases h1:k<st.H.length
    ·rw[au h1];exact VN k _ (aa h1)|>.trans (aa h1).symm
    ·rw[bA (by omega)];by_cases hex:∃(i:Nat) (q:Cp) (ob:Ob),ps[i]?=some q/\q.up=some (k,ob)
     ·obtain⟨i,q,ob,hq,he⟩:=hex;have hi:i<n:=by have:=(aF.1 hq).1;omega
      rw[(Yz i q k ob hq (hall i hi) he).1,hFu i q k ob hq he]
     ·have hno:∀(i:Nat) q ob,ps[i]?=some q->q.up≠some (k,ob):=fun i q ob hq he=>hex ⟨i,q,ob,hq,he⟩
      rw[hFo (k-st.H.length) (fun i q ob hq=>by rw[show st.H.length+(k-st.H.length)=k from by omega];exact hno i q ob hq)];by_cases h2:k-st.H.length<(ps.flatMap Cp.obs).length
      ·obtain⟨i,p,j,hp,hj,hk⟩:=z6 h2;have hi:i<n:=by have:=(aF.1 hp).1;omega
       have e3:p.r+j=k:=by rw[S3 i p hp];omega
       have h3:=TW i p hp (hall i hi) j _ (aa hj) (fun i2 q ob hq _=>by rw[e3];exact hno i2 q ob hq);rw[e3]at h3;rw[h3,qZ hp,hk,bA (by omega),dM,au hj,aa hj]
      ·rw[cM (by omega),cM (by omega)]
   have hs2:=dl.same (st:=⟨σ',H'⟩) (σ':=(ps.filterMap Cp.sl).reverse++st.σ) Jz hs;simp only[WQ]at hs2;have hwp:=hK κ Θ a w hs2;have hdl:(l.drop n).length=l.toArray.size-n:=by simp
   have:=wpAny_of_seq (md:=.any) (l.drop n) n listed a w (fun j=>by simp[eb]) (by rw[hdl,Wa];exact Zu) hwp
   rwa[hdl]at this
  |succ f ih=>
   intro listed σ' H' κ Θ a w inv oL hA hB hHl VN TW Yz TV hs;have hun:∃i,i<n/\listed.getD i false=false:=by
    have hne:((List.range n).filter fun i=> !listed.getD i false)≠[]:=by
     intro h0;rw[h0]at oL;simp at oL
    obtain⟨i,hi⟩:=uV _ hne;obtain⟨h1,h2⟩:=gA.1 hi;exact⟨i,bf.1 h1,by simpa using h2⟩
   have hsz:=inv.size;rw[show f+1+(l.toArray.size-n)=(f+(l.toArray.size-n))+1 from by omega];refine⟨fun h0=>?_,fun i hi=>?_⟩
   ·exfalso;obtain⟨i,⟨hin,RU⟩,hmin⟩:=exists_least (p:=fun i=>i<n/\listed.getD i false=false) hun;obtain⟨o,p,ho,_,_,_⟩:=hop i hin;have:i∈Region.ready .any l.toArray listed:=by
     refine mem_ready.2 ⟨getD_in (by rw[hsz];omega) RU,o,ho,fun e he hb=>?_⟩;have:=aj.1 KZ i (bf.2 hin);simp only[ho,aS]at this;have:=vJ.1 this.1.1 e he;simp only[hb,bQ,sX,bD]at this;cases hl:listed.getD e.on false with
     |true=>rfl
     |false=>
      have:=hmin e.on ⟨by omega,hl⟩;omega
    rw[h0]at this;cases this
   ·obtain⟨i0,hi0,hl0⟩:=hun;have hin:i<n:=by
     rcases eO i n with h|h
     ·exact h
     ·rcases hsc with he|⟨hn2,a5X,hchain⟩
      ·obtain⟨_,oi,hoi,_⟩:=mem_ready.1 hi;have:=(bI.1 hoi).1;omega
      ·exact absurd hi (tail_waits a5X hchain hn2 inv _ i0 rfl hi0 (getD_in (by rw[hsz];omega) hl0) i h)
    obtain⟨o,p,ho,hp,hd,hc,_⟩:=hop i hin;obtain⟨RU,o',ho',hall⟩:=mem_ready.1 hi;rw[ho]at ho';cases ho';have Av:=getD_both RU;have Zo:tV P Γ l.toArray st.H σ' o p:=by
     refine tV.congr (σ:=((ps.take i).filterMap Cp.sl).reverse++st.σ) (σ':=σ') ?_ hc;intro t ht;have Is:=aj.1 KZ i (bf.2 hin);simp only[ho,aS]at Is;have Is:=aj.1 Is.1.2 t ht;by_cases hex:∃(j:Nat) (q:Cp),ps[j]?=some q/\q.t=some t
     ·obtain⟨j,q,hq,L5⟩:=hex;have hj:j<n:=by have:=(aF.1 hq).1;omega
      obtain⟨oj,q',xj,NG,hdj,_⟩:=hop j hj;rw[hq]at NG;cases NG;have:=aj.1 Is j (bf.2 hj);simp only[xj,hdj,L5,qo,bQ,sX,aS,bD]at this;obtain⟨hji,Wt⟩:=this;obtain⟨oi',Wi,e,he,hb,hon⟩:=Region.waitsFor_spec Wt;rw[ho]at Wi;cases Wi;have hjl:=hall e he hb;rw[hon]at hjl;rw[hA j q t hq L5 hjl];refine HZ ((ps.take i).filterMap Cp.sl).reverse st.σ (t,q.d) ?_ (fun q2 Hs HX=>Ec j q t hq L5 q2 ?_ HX)
      ·rw[dw];exact cC.2 ⟨q,aE (i:=j) (by rw[cR,bK hji];exact hq),by simp[Cp.sl,L5]⟩
      ·obtain⟨q3,S4,xk⟩:=cC.1 (dw.1 Hs);exact cC.2 ⟨q3,cI S4,xk⟩
     ·rw[hB t (fun j q hq _ he=>hex ⟨j,q,hq,he⟩),Ej];intro q hq he;obtain⟨q3,S4,xk⟩:=cC.1 (dw.1 hq);obtain⟨j,hj,hqj⟩:=eS.1 (cI S4);refine hex ⟨j,q3,by rw[<-hqj];exact aa hj,?_⟩;unfold Cp.sl at xk;cases hpt:q3.t with
      |none=>rw[hpt]at xk;cases xk
      |some u=>rw[hpt]at xk;simp only[cU,aq]at xk;subst xk;simp only at he;rw[he]
    have hfp:=hfit i p hp;have WZ:∀id ob,p.up=some (id,ob)->∃v,κ id=some v:=by
     intro id ob he;rcases Zo with⟨_,_,h,_⟩|⟨_,_,_,_,T,x,y,id',ds,Ry,hx',_,_,_,_,Ta⟩
     ·rw[h]at he;cases he
     ·rw[Ta]at he;cases he;obtain⟨b1,r1,_⟩:=hs.ev x;rw[QF σ' H' st.H x,hx']at r1;obtain⟨g,hk,_⟩:=r1.z8;exact⟨_,hk⟩
    have Wo:∀id ob,p.up=some (id,ob)->∃zs ds,H'[id]?=some (.box zs)/\ob=.box ds/\zs.length=ds.length:=by
     intro id ob he;obtain⟨u1,⟨zs,ds,u2,u3,u4⟩,_⟩:=Oc i p id ob hp he;refine⟨zs,ds,?_,u2,u3⟩;obtain⟨i1,p1,j1,hp1,GR,hk1⟩:=z6 (aF.1 u4).1;have S0:ps[i1]?=some p1:=by
      have:=(aF.1 hp1).1;rw[cR]at hp1;split at hp1
      ·exact hp1
      ·cases hp1
     have hi1:i1<i:=by have:=(aF.1 hp1).1;simp at this;omega
     have et:(ps.take i).take i1=ps.take i1:=by rw[tS,fJ (by omega)]
     rw[et]at hk1;have e1:p1.r+j1=id:=by rw[S3 i1 p1 S0];omega
     have Ac:p1.obs[j1]?=some (.box zs):=by
      rw[qZ hp1,et,hk1,bA (by omega),dM,au GR]at u4;exact u4
     have hl1:listed.getD i1 false=true:=by
      cases hl:listed.getD i1 false with
      |true=>rfl
      |false=>
       have h0:=TV i1 p1 S0 hl j1 GR;rw[e1]at h0;obtain⟨v,hv⟩:=WZ id ob he;rw[h0]at hv;cases hv
     have:=TW i1 p1 S0 hl1 j1 _ Ac (fun i2 q B9 hq hl HX=>by
      rw[e1]at HX;have:=Wp i i2 p q id ob B9 hp hq he HX;subst this;rw[Av]at hl;cases hl)
     rw[e1]at this;exact this
    refine Zo.wp hs VN ho (by omega) (fun j hj=>TV i p hp Av j hj) Wo fun κ' Θ' a' w' hs' hsame=>?_
    have qc:∀(j:Nat),(listed.setIfInBounds i true).getD j false=true↔(j=i\/listed.getD j false=true):=by
     intro j;by_cases e:i=j
     ·subst e;have:i<listed.size:=by rw[hsz];omega
      simp[this]
     ·rw[getD_set_ne false e];constructor
      ·exact .inr
      ·rintro(rfl|h)
       ·exact absurd rfl e
       ·exact h
    have hput:(p.B1 H').length=H'.length:=by
     unfold Cp.B1;split
     ·simp
     ·exact uQ (by omega)
    have a2x:∀(k:Nat),k<st.H.length->(p.B1 H')[k]?=H'[k]?:=by
     intro k hk;unfold Cp.B1;split
     ·rename_i id ob he;have:=(Oc i p id ob hp he).1;rw[cE (by omega)]
     ·rw[uP (by omega),bK (by rw[S3 i p hp];omega)]
    refine ih (listed.setIfInBounds i true) (p.slot σ') (p.B1 H') κ' Θ' a' w' (inv.set hi hin) ?_ ?_ ?_ (by rw[hput];exact hHl) ?_ ?_ ?_ ?_ hs'
    ·have UR:((List.range n).filter fun j=> !(listed.setIfInBounds i true).getD j false)=((List.range n).filter fun j=> !listed.getD j false).erase i:=by
      have hnd:((List.range n).filter fun j=> !listed.getD j false).Nodup:=xR _ BC;rw[hnd.erase_eq_filter,zL];apply AP;intro j _;by_cases e:j=i
      ·subst e;have:=(qc j).2 (.inl rfl);rw[this];simp
      ·rw[getD_set_ne false (rV e)];simp[e]
     rw[UR,qL (gA.2 ⟨bf.2 hin,by simp[Av]⟩),oL];rfl
    ·intro j q t hq L5 hl;unfold Cp.slot;rcases(qc j).1 hl with rfl|CW
     ·rw[hp]at hq;cases hq;rw[L5];simp[lk]
     ·cases hpt:p.t with
      |none=>exact hA j q t hq L5 CW
      |some u=>
       simp only[lk];rw[az,hA j q t hq L5 CW];intro e;have:=hdist j i q p t hq hp L5 (by rw[hpt,e]);subst this;rw[Av]at CW;cases CW
    ·intro t ht;unfold Cp.slot;have sS:=hB t (fun j q hq hl=>ht j q hq ((qc j).2 (.inr hl)));cases hpt:p.t with
     |none=>exact sS
     |some u=>
      simp only[lk];rw[az (fun e=>ht i p hp ((qc i).2 (.inl rfl)) (by rw[hpt,e]))];exact sS
    ·intro j y hj;rw[a2x j (aF.1 hj).1];exact VN j y hj
    ·intro j q hq hl k y hy hno;have hkl:=(aF.1 hy).1;unfold Cp.B1;split
     ·rename_i id ob he;have hne:q.r+k≠id:=fun e=>hno i p ob hp ((qc i).2 (.inl rfl)) (by rw[e];exact he)
      rw[cE (rV hne)];rcases(qc j).1 hl with rfl|CW
      ·rw[hp]at hq;cases hq;rw[Wq j p id ob hp he]at hy;simp at hy
      ·exact TW j q hq CW k y hy (fun i2 q2 B9 Hs hl3=>hno i2 q2 B9 Hs ((qc i2).2 (.inr hl3)))
     ·rw[uP (by omega)];rcases(qc j).1 hl with rfl|CW
      ·rw[hp]at hq;cases hq;rw[az (by omega),bK (by omega),dM];exact hy
      ·have hne:j≠i:=fun e=>by subst e;rw[Av]at CW;cases CW
       have h3:=TW j q hq CW k y hy (fun i2 q2 B9 Hs hl3=>hno i2 q2 B9 Hs ((qc i2).2 (.inr hl3)));rcases vK hne with h|h
       ·have:=OW j i q p hq hp h;rw[bK (by omega)];exact h3
       ·have:=OW i j p q hp hq h;rw[az (by omega),az (by omega)];exact h3
    ·intro j q id ob hq hl he;rcases(qc j).1 hl with rfl|CW
     ·rw[hp]at hq;cases hq;obtain⟨zs,ds,z1,_⟩:=Wo id ob he;have hlt:=(aF.1 z1).1;refine⟨by simp only[Cp.B1,he];rw[dX hlt],?_⟩;obtain⟨v,hv⟩:=WZ id ob he;refine⟨v,?_⟩;rw[hsame id (by rw[Wq j p id ob hp he];simp;omega)];exact hv
     ·obtain⟨h1,v,hv⟩:=Yz j q id ob hq CW he;have hout:id<p.r\/p.r+p.obs.length<=id:=by
       rcases eO id p.r with h|h
       ·exact .inl h
       ·rcases eO id (p.r+p.obs.length)with h2|h2
        ·have:=TV i p hp Av (id-p.r) (by omega);rw[show p.r+(id-p.r)=id from by omega,hv]at this;cases this
        ·exact .inr h2
      refine⟨?_,v,by rw[hsame id hout];exact hv⟩;unfold Cp.B1;split
      ·rename_i id2 B9 HX;have hne:id2≠id:=fun e=>by
        subst e;have:=Wp i j p q id2 B9 ob hp hq HX he;subst this;rw[Av]at CW;cases CW
       rw[cE hne];exact h1
      ·rw[uP (by omega)];rcases hout with h|h
       ·rw[bK h];exact h1
       ·rw[az (by omega),az (by omega)];exact h1
    ·intro j q hq hl k hk;have hne:j≠i:=fun e=>by
      subst e;have:=(qc j).2 (.inl rfl);rw[this]at hl;cases hl
     have CW:listed.getD j false=false:=by
      cases h:listed.getD j false with
      |false=>rfl
      |true=>have:=(qc j).2 (.inr h);rw[this]at hl;cases hl
     have h3:=TV j q hq CW k hk;rw[hsame,h3];rcases vK hne with h|h
     ·have:=OW j i q p hq hp h;omega
     ·have:=OW i j p q hp hq h;omega
 refine wp_region_any hm ?_;have a3U:HeadInv .any l.toArray n (Array.replicate l.toArray.size false):=
  ⟨by simp,fun j oj _ hl=>(by rw[getD_replicate_false]at hl;cases hl),fun t _ ht=>getD_in (by simpa using ht) (getD_replicate_false _ _)⟩
 have oL:((List.range n).filter fun i=> !(Array.replicate l.toArray.size false).getD i false).length=n:=by
  rw[yX.2]
  ·simp
  ·intro i _;rw[getD_replicate_false];rfl
 have:=main n (Array.replicate l.toArray.size false) st.σ (st.H++List.replicate (ps.flatMap Cp.obs).length .gone) κ Θ a w.drew a3U oL (fun i p t _ _ hl=>by rw[getD_replicate_false]at hl;cases hl) (fun t _=>rfl)
  (by simp) (fun i o h=>by rw[au (aF.1 h).1];exact h) (fun i p _ hl=>by rw[getD_replicate_false]at hl;cases hl)
  (fun i q id ob _ hl=>by rw[getD_replicate_false]at hl;cases hl)
  (fun i p hp _ j _=>hs.pK _ (by rw[S3 i p hp];omega)) (hs.drew.room _)
 rw[show n+(l.toArray.size-n)=l.toArray.size from by omega]at this;exact this
end
end Go.Cx
namespace Go.Cx
open Go.RowKit
def pos(o:aX)(i:Nat):Option Nat:=ix (fun j=>j==i) o
def D.KG(o:aX)(d:D):D:=match d with
 | .acc i=>(match pos o i with|some j=>.acc j|none=>.any)
 | .ptr i off=>(match pos o i with|some j=>.ptr j off|none=>.any)
 | .op i a b c=>(match pos o i with|some j=>.op j a b c|none=>.any)
 |d=>d
def D.rnV(o:aX)(d:D):D:=match d with
 | .agg cs=>.agg (cs.map (D.KG o))
 |d=>d.KG o
def D.Tr(o:aX)(d:D):D:=match d with
 | .iE vs=>.iE (vs.map (D.rnV o))
 |d=>d.rnV o
def Ob.rn(o:aX)(x:Ob):Ob:=match x with
 | .box cells=>.box (cells.map (D.KG o))
 | .DU cells v=>.DU (cells.map (D.KG o)) v
 | .hole _ _ _ _ _=>.gone
 |x=>x
def St.Cj(st:St)(K o:aX):St:=⟨K.map fun t=>(t,(lk st.σ t).Tr o),o.map fun i=>((st.H[i]?).getD .gone).rn o⟩
section
variable{P:Program}{Γ:ul}{Q:Exit->St->Prop}{st:St}{κ κ':Nat->Option Value}{Θ Θ':Nat->Nat}{a:Act}{w:World}{o:aX}
theorem Nv:∀ {o:aX},o.Nodup->∀(i j x:Nat),o[i]?=some x->o[j]?=some x->i=j:=by
 intro o
 induction o with
 |nil=>intro _ i j x h;simp at h
 |cons y o ih=>
  intro hnd i j x hi hj;obtain⟨h1,h2⟩:=dB.1 hnd;cases i with
  |zero=>
   cases j with
   |zero=>rfl
   |succ j=>simp at hi hj;subst hi;exact absurd (aE hj) h1
  |succ i=>
   cases j with
   |zero=>simp at hi hj;subst hj;exact absurd (aE hi) h1
   |succ j=>simp at hi hj;rw[ih h2 i j x hi hj]
theorem P7{i j:Nat}(h:pos o i=some j):o[j]?=some i:=by
 obtain⟨x,h1,h2⟩:=z7 h;simp only[cq]at h2;subst h2;exact h1
theorem SU{i j:Nat}(hnd:o.Nodup)(h:o[j]?=some i):pos o i=some j:=
 Ef h (by simp) (fun k y hk hy=>by
  simp only[cq]at hy;subst hy;obtain⟨h1,h2⟩:=aF.1 h;obtain⟨h3,h4⟩:=aF.1 hk;exact Nv hnd k j _ hk h)
section
variable(hk:∀(i j:Nat) v,pos o i=some j->κ i=some v->κ' j=some v)(yC:∀b,Θ b=0->Θ' b=0)
include hk yC
theorem zC.rn{v:Value}{d:D}{bs:aX}(h:zC w κ v d bs)(hz:∀b∈bs,Θ b=0):∃b',zC w κ' v (d.KG o) b'/\∀b∈b',Θ' b=0:=by
 cases h with
 |pure h=>
  have e:d.KG o=d:=by cases h<;>rfl
  rw[e];exact⟨bs,.pure h,fun b hb=>yC b (hz b hb)⟩
 |acc i v hi=>
  simp only[D.KG];cases hp:pos o i with
  |none=>exact⟨[],.pure (.any _),by simp⟩
  |some j=>exact⟨[],.acc j v (hk i j v hp hi),by simp⟩
 |ptr i off b hi=>
  simp only[D.KG];cases hp:pos o i with
  |none=>exact⟨[],.pure (.any _),by simp⟩
  |some j=>exact⟨[],.ptr j off b (hk i j _ hp hi),by simp⟩
 |op i x sz off b o0 len cap hi=>
  simp only[D.KG];cases hp:pos o i with
  |none=>exact⟨[],.pure (.any _),by simp⟩
  |some j=>exact⟨[],.op j x sz off b o0 len cap (hk i j _ hp hi),by simp⟩
theorem fS.rn{vs:bw}{ds:aP}{bs:aX}(h:fS w κ vs ds bs)(hz:∀b∈bs,Θ b=0):∃b',fS w κ' vs (ds.map (D.KG o)) b'/\∀b∈b',Θ' b=0:=by
 induction h with
 |nil=>exact⟨[],.nil,by simp⟩
 |cons v vs d ds b1 b2 h1 h2 _ ih=>
  obtain⟨c1,q1,q2⟩:=zC.rn hk yC h2 (fun b hb=>hz b (by simp[hb]));obtain⟨c2,p1,p2⟩:=ih (fun b hb=>hz b (by simp[hb]));refine⟨c1++c2,.cons _ _ _ _ _ _ h1 q1 p1,fun b hb=>?_⟩;rcases af.1 hb with hb|hb
  ·exact q2 b hb
  ·exact p2 b hb
theorem LV.rn{v:Value}{d:D}{bs:aX}(h:LV w κ v d bs)(hz:∀b∈bs,Θ b=0):∃b',LV w κ' v (d.rnV o) b'/\∀b∈b',Θ' b=0:=by
 cases h with
 |cell h=>
  by_cases tO:∃ds,d=.agg ds
  ·obtain⟨ds,rfl⟩:=tO;cases h with
   |pure h=>
    cases h with
    |agg cs _ _ h=>
     obtain⟨b',q1,q2⟩:=fS.rn hk yC (fS.Co (κ:=κ) h) hz;exact⟨b',.agg _ _ _ q1,q2⟩
  ·have e:d.rnV o=d.KG o:=by cases d<;>first|rfl|exact absurd ⟨_,rfl⟩ tO
   rw[e];obtain⟨b',q1,q2⟩:=zC.rn hk yC h hz;exact⟨b',.cell q1,q2⟩
 |agg cs ds bs h=>
  obtain⟨b',q1,q2⟩:=fS.rn hk yC h hz;exact⟨b',.agg _ _ _ q1,q2⟩
theorem C3.rn{vs:bw}{ds:aP}{bs:aX}(h:C3 w κ vs ds bs)(hz:∀b∈bs,Θ b=0):∃b',C3 w κ' vs (ds.map (D.rnV o)) b'/\∀b∈b',Θ' b=0:=by
 induction h with
 |nil=>exact⟨[],.nil,by simp⟩
 |cons v vs d ds b1 b2 h2 _ ih=>
  obtain⟨c1,q1,q2⟩:=LV.rn hk yC h2 (fun b hb=>hz b (by simp[hb]));obtain⟨c2,p1,p2⟩:=ih (fun b hb=>hz b (by simp[hb]));refine⟨c1++c2,.cons _ _ _ _ _ _ q1 p1,fun b hb=>?_⟩;rcases af.1 hb with hb|hb
  ·exact q2 b hb
  ·exact p2 b hb
theorem rW.rn{v:Value}{d:D}{bs:aX}(h:rW w κ v d bs)(hz:∀b∈bs,Θ b=0):∃b',rW w κ' v (d.Tr o) b'/\∀b∈b',Θ' b=0:=by
 cases h with
 |v h=>
  have hnt:∀vs,d≠ .iE vs:=by
   intro vs e;subst e;cases h with
   |cell h=>cases h with|pure h=>cases h
  have e:d.Tr o=d.rnV o:=by cases d<;>first|rfl|exact absurd rfl (hnt _)
  rw[e];obtain⟨b',q1,q2⟩:=LV.rn hk yC h hz;exact⟨b',.v q1,q2⟩
 |iE vs ds bs h=>
  obtain⟨b',q1,q2⟩:=C3.rn hk yC h hz;exact⟨b',.iE _ _ _ q1,q2⟩
end
theorem XT(σ:List (Nat×D))(K:aX)(f:D->D)(t:Nat):lk (K.map fun t=>(t,f (lk σ t))) t=if t∈K then f (lk σ t)else .any:=by
 induction K with
 |nil=>simp[lk]
 |cons u K ih=>
  simp only[av,lk];by_cases e:t=u
  ·subst e;simp
  ·rw[az e,ih];simp[e]
theorem dl.Cj(hs:dl Γ st κ Θ a w)(K o:aX)(hnd:o.Nodup):∃κ' Θ',dl Γ (st.Cj K o) κ' Θ' a w:=by
 let κ':Nat->Option Value:=fun j=>(o[j]?).bind κ
 let Θ':Nat->Nat:=fun b=>if Θ b<=1 then Θ b else match pos o (Θ b-2)with|some j=>j+2|none=>1
 have yC:∀b,Θ b=0->Θ' b=0:=fun b h=>by simp[Θ',h]
 have hk:∀(i j:Nat) v,pos o i=some j->κ i=some v->κ' j=some v:=fun i j v h1 h2=>by simp[κ',P7 h1,h2]
 have hk2:∀(i j:Nat),o[j]?=some i->κ' j=κ i:=fun i j h=>by simp[κ',h]
 have NI:∀b (i j:Nat),o[j]?=some i->Θ b=i+2->Θ' b=j+2:=by
  intro b i j hj h;simp only[Θ'];rw[az (by omega),h,zM,SU hnd hj]
 have key:∀(j:Nat) x,(st.Cj K o).H[j]?=some x->∃i,o[j]?=some i/\((st.H[i]?=none/\x=.gone)\/∃y,st.H[i]?=some y/\x=y.rn o):=by
  intro j x hj;simp only[St.Cj,bt]at hj;cases ho:o[j]? with
  |none=>simp[ho]at hj
  |some i=>
   simp only[ho,cU,aq]at hj;refine⟨i,rfl,?_⟩;cases hH:st.H[i]? with
   |none=>rw[hH]at hj;exact .inl ⟨rfl,hj.symm⟩
   |some y=>rw[hH]at hj;exact .inr ⟨y,rfl,hj.symm⟩
 obtain⟨ρ,hu⟩:=hs.tJ;let ρ':Nat->Nat:=fun b=>if ρ b=0 then 0 else match pos o (ρ b-1)with|some j=>j+1|none=>0
 refine⟨κ',Θ',hs.defers,hs.size,?_,?_,?_,?_,?_,?_,?_,hs.stays,ρ',?_,?_,?_⟩
 ·intro i hi;simp only[St.Cj,ax]at hi;simp[κ',cM hi]
 ·intro i u wS;simp only[κ']at wS;cases ho:o[i]? with
  |none=>simp[ho]at wS
  |some j=>simp[ho]at wS;exact hs.oM j u wS
 ·intro t;show∃bs,rW w κ' _ (lk (K.map fun t=>(t,(lk st.σ t).Tr o)) t) bs/\_;rw[XT st.σ K (fun d=>d.Tr o) t];split
  ·obtain⟨bs,hr,hz⟩:=hs.slot t;exact rW.rn hk yC hr hz
  ·exact⟨[],.of (.any _),by simp⟩
 ·intro j x hj;obtain⟨i,ho,⟨_,rfl⟩|⟨y,hH,rfl⟩⟩:=key j x hj
  ·trivial
  ·have Ac:=hs.ob i y hH;cases y with
   |gone=>trivial
   |hole=>trivial
   |tk rows=>
    obtain⟨v,bs,q1,q2,q3⟩:=Ac;exact⟨v,bs,by rw[hk2 i j ho];exact q1,q2,fun b hb=>yC b (q3 b hb)⟩
   |mp kv=>
    obtain⟨g,es,c,q1,q2,q3,q4⟩:=Ac;exact⟨g,es,c,by rw[hk2 i j ho];exact q1,q2,NI g i j ho q3,q4⟩
   |wP sz rows u=>
    obtain⟨q1,q0,v,bs,q2,q3,q4,q5⟩:=Ac;exact⟨q1,fun x hx=>by rw[hk2 i j ho];exact q0 x hx,v,bs,by rw[hk2 i j ho];exact q2,q3,q4,fun b hb=>⟨NI b i j ho (q5 b hb).1,(q5 b hb).2⟩⟩
   |box cells=>
    obtain⟨g,cs,T,q1,q2,q3,bs,q4,q5⟩:=Ac;obtain⟨b',p1,p2⟩:=fS.rn hk yC q4 q5;exact⟨g,cs,T,by rw[hk2 i j ho];exact q1,q2,NI g i j ho q3,b',p1,p2⟩
   |DU cells u=>
    obtain⟨q0,g,cs,T,q1,q2,q3,bs,q4,q5⟩:=Ac;obtain⟨b',p1,p2⟩:=fS.rn hk yC q4 q5;exact⟨by rw[hk2 i j ho];exact q0,g,cs,T,by rw[hk2 i j ho];exact q1,q2,NI g i j ho q3,b',p1,p2⟩
   |row k e sz rows=>
    obtain⟨q1,q2,v,cs,bs,q3,q4,q5,q6,q7⟩:=Ac;refine⟨q1,q2,v,cs,bs,by rw[hk2 i j ho];exact q3,q4,q5,fun g hg=>NI g i j ho (q6 g hg),?_⟩;cases k with
    |cl=>exact⟨q7.1,fun b hb=>⟨NI b i j ho (q7.2.1 b hb).1,(q7.2.1 b hb).2⟩,q7.2.2⟩
    |sh=>exact fun b hb=>yC b (q7 b hb)
    |uq=>exact fun b hb=>yC b (q7 b hb)
    |mv n=>exact fun b hb=>yC b (q7 b hb)
 ·intro b hb;exact hs.own b (fun h=>hb (yC b h))
 ·intro b hb hx;obtain⟨h1,h2⟩:=hs.old b hb hx;simp only[Θ'];rw[bK h2];exact⟨h1,h2⟩
 ·intro b hb;refine hs.mine b ?_;simp only[Θ']at hb;split at hb<;>omega
 ·intro b hb;have hb':ρ b≠0:=fun h=>hb (by simp[ρ',h])
  obtain⟨h1,h2⟩:=hu.free b hb';exact⟨yC b h1,h2⟩
 ·intro j e sz rows hj;obtain⟨i,ho,⟨_,h⟩|⟨y,hH,h⟩⟩:=key j _ hj
  ·cases h
  ·have hy:y=.row .uq e sz rows:=by cases y<;>first| (simp only[Ob.rn]at h;exact h.symm)|cases h
   subst hy;obtain⟨v,cs,bs,q1,q2,q3,q4,q5⟩:=hu.rows i e sz rows hH;refine⟨v,cs,bs,by rw[hk2 i j ho];exact q1,q2,q3,q4,fun b hb=>?_⟩;simp only[ρ'];rw[q5 b hb,az (by omega),zM,SU hnd ho]
 ·intro j x hj;obtain⟨i,ho,⟨_,h⟩|⟨y,hH,h⟩⟩:=key j _ hj
  ·subst h;trivial
  ·have hm:=hu.more i y hH;have a5e:∀b,ρ b=i+1->ρ' b=j+1:=fun b hb=>by
    simp only[ρ'];rw[hb,az (by omega),zM,SU hnd ho]
   subst h;cases y with
   |tk rows=>
    obtain⟨v,bs,q1,q2,q3,q4⟩:=hm;exact⟨v,bs,by rw[hk2 i j ho];exact q1,q2,q3,fun b hb=>a5e b (q4 b hb)⟩
   |row k e sz rows=>
    cases k with
    |mv n=>
     obtain⟨v,cs,bs,q1,q2,q3,q4,q5⟩:=hm;exact⟨v,cs,bs,by rw[hk2 i j ho];exact q1,q2,q3,q4,fun b hb=>a5e b (q5 b hb)⟩
    |_=>trivial
   |_=>trivial
end
end Go.Cx
namespace Go.Cx
open Go.RowKit
abbrev Rw:=Nat×List (List D)
def Rw.ob(x:Rw)(v:Option Value):Ob:=.wP x.1 x.2 v
def GK(w:World)(κ:Nat->Option Value):Nat->List Rw->aX->Prop
 |_,[],us=>us=[]
 |n,x::xs,us=>∃v bs us',κ n=some v/\(∀r∈x.2,r.length=x.1)/\Rd w v (.sl x.2) bs/\us=bs++us'/\GK w κ (n+1) xs us'
def a19(P:Program)(f:FuncId)(ds:aP)(ins outs:List Rw)(d:D):Prop:=
 (∃fn,P.funcs[f]?=some fn/\fn.body.isSome=true/\(fn.name== "runtime.NumGoroutine")=false)/\outs.length=ins.length/\d.flat=true/\
 ∀(w:World) (κ:Nat->Option Value) (args:bw) (us:aX),N9 w (fun b=>b∈us)->args.length=ds.length->(∀(i:Nat) d,ds[i]?=some d->∃v,args[i]?=some v/\rW w κ v d [])->
  (∀i,ins.length<=i->κ i=none)->(∀(i:Nat) u,κ i=some u->u.oneCell'=true)->GK w κ 0 ins us->us.Nodup->(∀b∈us,Wr w b)->
  Calls P f args.toArray w (fun e w'=>∃v us',e=.returned v/\Rd w' v d []/\GK w' κ 0 outs us'/\us'.Nodup/\(∀b∈us',(b∈us\/w.heap.size<=b)/\Wr w' b)/\
   w'.os=w.os/\w'.tape=w.tape/\w'.output=w.output/\w.heap.size<=w'.heap.size/\∀b,b<w.heap.size->b∉us->w'.heap[b]?=w.heap[b]?)
section
variable{P:Program}{Γ:ul}{Q:Exit->St->Prop}{st:St}{κ κ':Nat->Option Value}{Θ Θ':Nat->Nat}{a:Act}{w w':World}{all:Array Oper}{rest:List Oper}
theorem GK.parts:∀ {xs:List Rw} {n:Nat} {us:aX},GK w κ n xs us->∃L:List aX,L.length=xs.length/\us=L.flatten/\∀(i:Nat) x bs,xs[i]?=some x->L[i]?=some bs->∃v,κ (n+i)=some v/\(∀r∈x.2,r.length=x.1)/\Rd w v (.sl x.2) bs:=by
 intro xs
 induction xs with
 |nil=>intro n us h;exact⟨[],rfl,by simpa[GK]using h,by simp⟩
 |cons y ys ih=>
  intro n us h;obtain⟨v,bs,us',h1,h2,h3,rfl,h5⟩:=h;obtain⟨L,q1,rfl,q3⟩:=ih h5;refine⟨bs::L,by simp[q1],by simp,?_⟩;intro i x b hx hb;cases i with
  |zero=>simp at hx hb;subst hx;subst hb;exact⟨v,h1,h2,h3⟩
  |succ i=>
   simp at hx hb;obtain⟨v',r1,r2,r3⟩:=q3 i x b hx hb;exact⟨v',by rw[<-r1];congr 1;omega,r2,r3⟩
theorem GK.of:∀ {xs:List Rw} {n:Nat} {L:List aX},L.length=xs.length->(∀(i:Nat) x bs,xs[i]?=some x->L[i]?=some bs->∃v,κ (n+i)=some v/\(∀r∈x.2,r.length=x.1)/\Rd w v (.sl x.2) bs)->GK w κ n xs L.flatten:=by
 intro xs
 induction xs with
 |nil=>
  intro n L hl _;have:L=[]:=cZ (by simpa using hl);subst this;rfl
 |cons y ys ih=>
  intro n L hl h;cases L with
  |nil=>simp at hl
  |cons bs L=>
   obtain⟨v,h1,h2,h3⟩:=h 0 y bs rfl rfl;refine⟨v,bs,L.flatten,h1,h2,h3,by simp,ih (by simpa using hl) ?_⟩;intro i x b hx hb;obtain⟨v',r1,r2,r3⟩:=h (i+1) x b (by simpa using hx) (by simpa using hb);exact⟨v',by rw[<-r1];congr 1;omega,r2,r3⟩
theorem dl.forget(hs:dl Γ st κ Θ a w)(ms:aX):dl Γ ⟨st.σ,kill st.H ms⟩ κ (fun b=>if ms.any (fun m=>Θ b==m+2)then st.H.length+2 else Θ b) a w:=by
 have h0:∀b,Θ b=0->(if ms.any (fun m=>Θ b==m+2)then st.H.length+2 else Θ b)=0:=by
  intro b hb;rw[az,hb];intro h;obtain⟨m,_,hm⟩:=cv.1 h;simp[hb]at hm
 have hk:∀(j:Nat) o,(kill st.H ms)[j]?=some o->o=.gone\/(j∉ms/\st.H[j]?=some o):=fun j o h=>oD h
 have hold:∀b j,j∉ms->Θ b=j+2->(if ms.any (fun m=>Θ b==m+2)then st.H.length+2 else Θ b)=j+2:=by
  intro b j hj hb;rw[az,hb];intro h;obtain⟨m,hm,he⟩:=cv.1 h;simp only[hb,cq]at he;exact hj (by
   have:j=m:=by omega
   rw[this];exact hm)
 obtain⟨ρ,hu⟩:=hs.tJ;refine⟨hs.defers,hs.size,fun i hi=>hs.pK i (by simpa[fm]using hi),hs.oM,?_,?_,?_,?_,?_,hs.stays,ρ,?_,?_,?_⟩
 ·intro t;obtain⟨bs,hr,hz⟩:=hs.slot t;exact⟨bs,hr,fun b hb=>h0 b (hz b hb)⟩
 ·intro j o hj;rcases hk j o hj with rfl|⟨hn,hj'⟩
  ·trivial
  ·have Ac:=hs.ob j o hj';cases o with
   |gone=>trivial
   |tk rows=>
    obtain⟨v,bs,q1,q2,q3⟩:=Ac;exact⟨v,bs,q1,q2,fun b hb=>h0 b (q3 b hb)⟩
   |box cells=>
    obtain⟨g,cs,T,q1,q2,q3,bs,q4,q5⟩:=Ac;exact⟨g,cs,T,q1,q2,hold g j hn q3,bs,q4,fun b hb=>h0 b (q5 b hb)⟩
   |DU cells u=>
    obtain⟨q0,g,cs,T,q1,q2,q3,bs,q4,q5⟩:=Ac;exact⟨q0,g,cs,T,q1,q2,hold g j hn q3,bs,q4,fun b hb=>h0 b (q5 b hb)⟩
   |row k e sz rows=>
    obtain⟨q1,q2,v,cs,bs,q3,q4,q5,q6,q7⟩:=Ac;refine⟨q1,q2,v,cs,bs,q3,q4,q5,fun g hg=>hold g j hn (q6 g hg),?_⟩;cases k with
    |cl=>exact⟨q7.1,fun b hb=>⟨hold b j hn (q7.2.1 b hb).1,(q7.2.1 b hb).2⟩,q7.2.2⟩
    |sh=>exact fun b hb=>h0 b (q7 b hb)
    |uq=>exact fun b hb=>h0 b (q7 b hb)
    |mv n=>exact fun b hb=>h0 b (q7 b hb)
   |wP sz rows u=>
    obtain⟨q1,q0,v,bs,q2,q3,q4,q5⟩:=Ac;exact⟨q1,q0,v,bs,q2,q3,q4,fun b hb=>⟨hold b j hn (q5 b hb).1,(q5 b hb).2⟩⟩
   |hole sz rows u p n=>
    obtain⟨q1,q0,v,bs,q2,q3,q4,q5⟩:=Ac;exact⟨q1,q0,v,bs,q2,q3,q4,fun b hb=>⟨hold b j hn (q5 b hb).1,(q5 b hb).2⟩⟩
   |mp kv=>
    obtain⟨g,es,c,q1,q2,q3,q4⟩:=Ac;exact⟨g,es,c,q1,q2,hold g j hn q3,q4⟩
 ·intro b hb;refine hs.own b fun h=>hb ?_
  exact h0 b h
 ·intro b hb hx;obtain⟨h1,h2⟩:=hs.old b hb hx;have:(if ms.any (fun m=>Θ b==m+2)then st.H.length+2 else Θ b)=Θ b:=by
   rw[az];intro h;obtain⟨m,_,hm⟩:=cv.1 h;simp only[cq]at hm;omega
  show(if ms.any (fun m=>Θ b==m+2)then st.H.length+2 else Θ b)=_/\(if ms.any (fun m=>Θ b==m+2)then st.H.length+2 else Θ b)<=1;rw[this];exact⟨h1,h2⟩
 ·intro b hb;refine hs.mine b ?_;by_cases h:ms.any (fun m=>Θ b==m+2)=true
  ·obtain⟨m,_,hm⟩:=cv.1 h;simp only[cq]at hm;omega
  ·simp only[h]at hb;simpa using hb
 ·intro b hb;obtain⟨h1,h2⟩:=hu.free b hb;exact⟨h0 b h1,h2⟩
 ·intro id e sz rows hj;rcases hk id _ hj with h|⟨_,h⟩
  ·cases h
  ·exact hu.rows id e sz rows h
 ·intro id o hj;rcases hk id _ hj with h|⟨_,h⟩
  ·subst h;trivial
  ·exact hu.more id o h
def lv(H:bW)(m:Nat):Option Value:=match H[m]? with|some (.wP _ _ v)=>v|_=>none
def P8:bW->aX->List Rw->bW
 |H,m::ms,x::xs=>P8 (H.set m (x.ob (lv H m))) ms xs
 |H,_,_=>H
theorem Kk:∀(H:bW) (ms:aX) (xs:List Rw),(P8 H ms xs).length=H.length:=by
 intro H ms
 induction ms generalizing H with
 |nil=>intro xs;cases xs<;>rfl
 |cons m ms ih=>intro xs;cases xs with|nil=>rfl|cons x xs=>simp[P8,ih]
theorem Xk:∀ {H:bW} {ms:aX} {xs:List Rw} {j:Nat} {y:Ob},ms.Nodup->xs.length=ms.length->(P8 H ms xs)[j]?=some y->(∃(i:Nat) (x:Rw),ms[i]?=some j/\xs[i]?=some x/\y=x.ob (lv H j))\/(j∉ms/\H[j]?=some y):=by
 intro H ms
 induction ms generalizing H with
 |nil=>intro xs j y _ _ h;cases xs<;>exact .inr ⟨by simp,h⟩
 |cons m ms ih=>
  intro xs j y hnd hl h;cases xs with
  |nil=>simp at hl
  |cons x xs=>
   obtain⟨n1,n2⟩:=dB.1 hnd;rcases ih n2 (by simpa using hl) h with⟨i,z,h1,h2,h3⟩|⟨h1,h2⟩
   ·refine .inl ⟨i+1,z,by simpa using h1,by simpa using h2,?_⟩;rw[h3];have hne:m≠j:=fun e=>n1 (by rw[e];exact aE h1)
    simp only[lv,cE hne]
   ·rcases zB j y h2 with⟨rfl,rfl⟩|⟨h3,h4⟩
    ·exact .inl ⟨0,x,rfl,rfl,rfl⟩
    ·exact .inr ⟨by simp[h1,h3],h4⟩
def MH(H:bW):aX->Option (List Rw)
 | []=>some []
 |m::ms=>match H[m]?,MH H ms with|some (.wP sz rows _),some xs=>some ((sz,rows)::xs)|_,_=>none
theorem SF{H:bW}:∀ {ms:aX} {xs:List Rw},MH H ms=some xs->xs.length=ms.length/\∀(i m:Nat) x,ms[i]?=some m->xs[i]?=some x->∃v,H[m]?=some (x.ob v):=by
 intro ms
 induction ms with
 |nil=>intro xs h;cases h;simp
 |cons m ms ih=>
  intro xs h;simp only[MH]at h;split at h
  ·rename_i sz rows u ys h1 h2;cases h;obtain⟨q1,q2⟩:=ih h2;refine⟨by simp[q1],?_⟩;intro i m' x hm hx;cases i with
   |zero=>simp at hm hx;subst hm;subst hx;exact⟨u,h1⟩
   |succ i=>exact q2 i m' x (by simpa using hm) (by simpa using hx)
  ·cases h
def D.GM(d:D):Bool:=match d with
 | .acc _=>true
 |d=>d.flat
def D.bare(d:D):Bool:=match d with
 | .agg cs=>cs.all D.GM
 |d=>d.GM
theorem zC.LD{v:Value}{d:D}{bs:aX}(h:zC w κ v d bs)(hf:d.GM=true):bs=[]:=by
 cases h with
 |pure h=>
  refine h.flat ?_;cases h<;>exact hf
 |_=>rfl
theorem fS.LD{vs:bw}{ds:aP}{bs:aX}(h:fS w κ vs ds bs)(hf:ds.all D.GM=true):bs=[]:=by
 induction h with
 |nil=>rfl
 |cons v vs d ds b1 b2 h1 h2 _ ih=>
  simp only[dW,aS]at hf;rw[h2.LD hf.1,ih hf.2];rfl
theorem rW.TA{v:Value}{d:D}{bs:aX}(h:rW w κ v d bs)(hf:d.bare=true):bs=[]:=by
 cases h with
 |v h=>
  cases h with
  |cell h=>
   cases h with
   |pure h=>
    cases h with
    |agg cs ds _ h=>exact fS.LD (fS.Co (κ:=κ) h) hf
    |_=>first|rfl|exact absurd hf (by simp[D.bare,D.GM,D.flat])
   |_=>rfl
  |agg cs ds bs h=>exact h.LD hf
 |iE=>simp[D.bare,D.GM,D.flat]at hf
theorem D.Vv(o:aX){c:D}(h:c.GM=true):(c.KG o).GM=true:=by
 cases c with
 |acc m=>simp only[D.KG];cases pos o m<;>rfl
 |_=>first|exact h| (simp[D.GM,D.flat]at h)
theorem D.TB(o:aX){d:D}(h:d.bare=true):(d.Tr o).bare=true:=by
 cases d with
 |agg cs=>
  simp only[D.Tr,D.rnV,D.bare,Ht]at h⊢;rw[aj]at h⊢;intro c hcm;exact D.Vv o (h c hcm)
 |acc m=>simp only[D.Tr,D.rnV,D.KG];cases pos o m<;>rfl
 |_=>first|exact h| (simp[D.bare,D.GM,D.flat]at h)
theorem QJ{L:List aX}(h:L.flatten.Nodup):∀(i j:Nat) x y b,L[i]?=some x->L[j]?=some y->b∈x->b∈y->i=j:=by
 intro i j x y b hi hj hx hy;have:=vn (f:=fun l:aX=>l) (l:=L) (by simpa[List.flatMap_id]using h);exact this i j x y b hi hj hx hy
theorem Rp{L:List aX}(h:L.flatten.Nodup):∀x∈L,x.Nodup:=by
 induction L with
 |nil=>intro x hx;cases hx
 |cons y L ih=>
  intro x hx;simp only[eW]at h;obtain⟨h1,h2,_⟩:=bM.1 h;rcases bB.1 hx with rfl|hx
  ·exact h1
  ·exact ih h2 x hx
theorem NL:∀ {L:List aX},(∀x∈L,x.Nodup)->(∀(i j:Nat) x y b,L[i]?=some x->L[j]?=some y->b∈x->b∈y->i=j)->L.flatten.Nodup:=by
 intro L
 induction L with
 |nil=>intro _ _;simp
 |cons y L ih=>
  intro h1 h2;simp only[eW];refine bM.2 ⟨h1 y (by simp),ih (fun x hx=>h1 x (by simp[hx])) (fun i j x z b hi hj hx hz=>?_),?_⟩
  ·have:=h2 (i+1) (j+1) x z b (by simpa using hi) (by simpa using hj) hx hz;omega
  ·intro b hb c hc e;subst e;obtain⟨x,hx,B8⟩:=gC.1 hc;obtain⟨j,hj⟩:=dZ hx;have:=h2 0 (j+1) y x b rfl (by simpa using hj) hb B8;omega
theorem Vc{o:Oper}{f t:Nat}{xs:Array Operand}{ts:Array TypeId}{ms:aX}{ins outs:List Rw}{d:D}(hop:o.op=.call {callee:=.value (.func f),args:=xs,argTypes:=ts})(hd:o.dst=some t)(hg:o.guard=none)
 (ht:t<Γ.nt) (hnd:ms.Nodup) (hins:MH st.H ms=some ins) (hb:((xs.toList.map st.ev).all D.bare)=true) (nL:a19 P f ((xs.toList.map st.ev).map (D.Tr ms)) ins outs d)
 (h:AO P Γ all rest Q ⟨(t,d)::st.σ,P8 st.H ms outs⟩):AO P Γ all (o::rest) Q st:=by
 intro κ Θ a w hs;obtain⟨RU,hig⟩:=SF hins;obtain⟨hfn,hol,hfl,a5A⟩:=nL;let κc:Nat->Option Value:=fun j=>(ms[j]?).bind κ
 have hkc:∀(i m:Nat),ms[i]?=some m->κc i=κ m:=fun i m h=>by simp[κc,h]
 have Ac:∀(i m:Nat) x,ms[i]?=some m->ins[i]?=some x->∃v bs,κ m=some v/\(∀r∈x.2,r.length=x.1)/\Rd w v (.sl x.2) bs/\bs.Nodup/\∀b∈bs,Θ b=m+2/\Wr w b:=by
  intro i m x hm hx;obtain⟨u,hu⟩:=hig i m x hm hx;obtain⟨q1,_,v,bs,q2,q3,q4,q5⟩:=hs.ob m _ hu;exact⟨v,bs,q2,q1,q3,q4,q5⟩
 have hL:∃L:List aX,L.length=ins.length/\∀(i m:Nat) x bs,ms[i]?=some m->ins[i]?=some x->L[i]?=some bs->(∃v,κ m=some v/\(∀r∈x.2,r.length=x.1)/\Rd w v (.sl x.2) bs)/\bs.Nodup/\∀b∈bs,Θ b=m+2/\Wr w b:=by
  have key:∀(ms:aX) (ins:List Rw),ins.length=ms.length->(∀(i m:Nat) x,ms[i]?=some m->ins[i]?=some x->∃v bs,κ m=some v/\(∀r∈x.2,r.length=x.1)/\Rd w v (.sl x.2) bs/\bs.Nodup/\∀b∈bs,Θ b=m+2/\Wr w b)->
   ∃L:List aX,L.length=ins.length/\∀(i m:Nat) x bs,ms[i]?=some m->ins[i]?=some x->L[i]?=some bs->(∃v,κ m=some v/\(∀r∈x.2,r.length=x.1)/\Rd w v (.sl x.2) bs)/\bs.Nodup/\∀b∈bs,Θ b=m+2/\Wr w b:=by
   intro ms
   induction ms with
   |nil=>intro ins hl _;exact⟨[],by simpa using hl.symm,by simp⟩
   |cons m ms ih=>
    intro ins hl Ac;cases ins with
    |nil=>simp at hl
    |cons x ins=>
     obtain⟨L,q1,q2⟩:=ih ins (by simpa using hl) (fun i m' x' hm hx=>Ac (i+1) m' x' (by simpa using hm) (by simpa using hx));obtain⟨v,bs,r1,r2,r3,r4,r5⟩:=Ac 0 m x rfl rfl;refine⟨bs::L,by simp[q1],?_⟩;intro i m' x' b hm hx hb;cases i with
     |zero=>simp at hm hx hb;subst hm;subst hx;subst hb;exact⟨⟨v,r1,r2,r3⟩,r4,r5⟩
     |succ i=>exact q2 i m' x' b (by simpa using hm) (by simpa using hx) (by simpa using hb)
  exact key ms ins RU Ac
 obtain⟨L,hLl,hLi⟩:=hL;have hmi:∀(i:Nat) bs,L[i]?=some bs->∃m x,ms[i]?=some m/\ins[i]?=some x:=by
  intro i bs hb';have hlt:=(aF.1 hb').1;exact⟨_,_,aa (by omega),aa (by omega)⟩
 have hmem:∀b∈L.flatten,∃m∈ms,Θ b=m+2:=by
  intro b hb';obtain⟨x,hx,B8⟩:=gC.1 hb';obtain⟨i,hi⟩:=dZ hx;obtain⟨m,y,h1,h2⟩:=hmi i x hi;exact⟨m,aE h1,((hLi i m y x h1 h2 hi).2.2 b B8).1⟩
 have tI:L.flatten.Nodup:=by
  refine NL (fun x hx=>?_) (fun i j x y b hi hj hx hy=>?_)
  ·obtain⟨i,hi⟩:=dZ hx;obtain⟨m,y,h1,h2⟩:=hmi i x hi;exact(hLi i m y x h1 h2 hi).2.1
  ·obtain⟨m1,y1,h1,h2⟩:=hmi i x hi;obtain⟨m2,y2,h3,h4⟩:=hmi j y hj;have e1:=((hLi i m1 y1 x h1 h2 hi).2.2 b hx).1;have e2:=((hLi j m2 y2 y h3 h4 hj).2.2 b hy).1;have:m1=m2:=by omega
   subst this;exact Nv hnd i j m1 h1 h3
 have a2w:GK w κc 0 ins L.flatten:=GK.of hLl (fun i x bs hx hb'=>by
  obtain⟨m,y,h1,h2⟩:=hmi i bs hb';rw[hx]at h2;cases h2;obtain⟨⟨v,q1,q2,q3⟩,_⟩:=hLi i m x bs h1 hx hb';exact⟨v,by rw[cY,hkc i m h1];exact q1,q2,q3⟩)
 have hwr:∀b∈L.flatten,Wr w b:=by
  intro b hb';obtain⟨x,hx,B8⟩:=gC.1 hb';obtain⟨i,hi⟩:=dZ hx;obtain⟨m,y,h1,h2⟩:=hmi i x hi;exact((hLi i m y x h1 h2 hi).2.2 b B8).2
 have hargs:∀(i:Nat) d,((xs.toList.map st.ev).map (D.Tr ms))[i]?=some d->∃v,(xs.toList.map a.eval)[i]?=some v/\rW w κc v d []:=by
  intro i d Hr;rw[bt,bt]at Hr;cases hx:xs.toList[i]? with
  |none=>rw[hx]at Hr;cases Hr
  |some x=>
   rw[hx]at Hr;simp only[cU,aq]at Hr;subst Hr;refine⟨a.eval x,by rw[bt,hx];rfl,?_⟩;obtain⟨bs,r,hz⟩:=hs.ev x;have WR:(st.ev x).bare=true:=aj.1 hb _ (bu.2 ⟨x,aE hx,rfl⟩);obtain⟨b',r',_⟩:=rW.rn (o:=ms) (κ':=κc) (Θ:=fun _=>0) (Θ':=fun _=>0) (fun i j v h1 h2=>by simp[κc,P7 h1,h2]) (fun _ _=>rfl) r (fun _ _=>rfl);have:=r'.TA (D.TB ms WR);subst this;exact r'
 have Od:N9 w fun b=>b∈L.flatten:=by
  obtain⟨B,v1,v2⟩:=hs.vsb;refine⟨B,v1,fun b hB=>⟨(v2 b hB).2.1,fun hb'=>?_⟩⟩;obtain⟨x,hx,B8⟩:=gC.1 hb';obtain⟨i,hi⟩:=dZ hx;obtain⟨m,y,h1,h2⟩:=hmi i x hi;have e1:=((hLi i m y x h1 h2 hi).2.2 b B8).1;rcases hs.mine b (by omega)with q|q
  ·have:=(v2 b hB).1;omega
  ·exact(v2 b hB).2.2 q
 have hc:=a5A w κc (xs.toList.map a.eval) L.flatten Od (by simp) hargs (fun i hi=>by simp[κc,cM (by omega:ms.length<=i)]) (fun i u hu=>by
  simp only[κc]at hu;cases hm:ms[i]? with
  |none=>rw[hm]at hu;cases hu
  |some m=>rw[hm]at hu;exact hs.oM m u hu) a2w tI hwr
 refine wpList_plain hg fun K hK=>?_
 unfold Oper.wp;rw[wR hop hfn,Oper.upon_enter];have e:xs.map a.eval=(xs.toList.map a.eval).toArray:=by rw[<-gu,k8]
 rw[e];refine hc.mono ?_;rintro e w' ⟨v,us',rfl,hv,hl',GC,NE,k1,k2,k3,k4,k5⟩;show K (a.put o.dst v) w';rw[hd];obtain⟨L',aAs,rfl,a84⟩:=hl'.parts;have aBM:∀(i:Nat) bs,L'[i]?=some bs->∃m x,ms[i]?=some m/\outs[i]?=some x:=by
  intro i bs hb';have hlt:=(aF.1 hb').1;exact⟨_,_,aa (by omega),aa (by omega)⟩
 have hs1:=hs.forget ms;let Θ1:Nat->Nat:=fun b=>if ms.any (fun m=>Θ b==m+2)then st.H.length+2 else Θ b
 have a5d:∀b,b∈L.flatten->Θ1 b=st.H.length+2:=by
  intro b hb';obtain⟨m,hm,he⟩:=hmem b hb';simp only[Θ1];rw[bK (cv.2 ⟨m,hm,by simp[he]⟩)]
 let Θ2:Nat->Nat:=fun b=>match ix (fun x:aX=>x.contains b) L' with|some i=>(match ms[i]? with|some m=>m+2|none=>1)|none=>if Θ1 b=st.H.length+2 then 1 else Θ1 b
 have a9A:∀(i m:Nat) bs b,ms[i]?=some m->L'[i]?=some bs->b∈bs->Θ2 b=m+2:=by
  intro i m bs b hm hi hb';have:ix (fun x:aX=>x.contains b) L'=some i:=Ef hi (by simpa using hb') (fun j y hj hy=>QJ GC j i y bs b hj hi (by simpa using hy) hb');simp only[Θ2,this,hm]
 have Ww:∀b,b∉L'.flatten->Θ2 b=if Θ1 b=st.H.length+2 then 1 else Θ1 b:=by
  intro b hb';simp only[Θ2];cases h:ix (fun x:aX=>x.contains b) L' with
  |none=>rfl
  |some i=>
   obtain⟨x,hx,hp⟩:=z7 h;exact absurd (gC.2 ⟨x,aE hx,by simpa using hp⟩) hb'
 have hlt':∀b∈L'.flatten,b<w'.heap.size:=fun b hb'=>by
  obtain⟨cs,T,hx⟩:=(NE b hb').2;exact(bI.1 hx).1
 have kk:iy w w' Θ1 Θ2 (st.H.length+2):=by
  refine⟨by omega,k1,k2,k3,k4,fun b hlt hne=>k5 b hlt fun hb'=>hne (a5d b hb'),fun b hlt hne=>?_,fun b hb'=>?_⟩
  ·by_cases hin:b∈L'.flatten
   ·rcases(NE b hin).1 with h'|h'
    ·exact absurd (a5d b h') hne
    ·omega
   ·rw[Ww b hin,az hne]
  ·by_cases hin:b∈L'.flatten
   ·exact hlt' b hin
   ·rw[Ww b hin]at hb';refine dS (hs1.own b ?_) k4;intro h0;have h0':Θ1 b=0:=h0;rw[h0']at hb';rw[az (by omega)]at hb';exact hb' rfl
 have hm2:∀b,2<=Θ2 b->yH Γ b:=by
  intro b hb';by_cases hin:b∈L'.flatten
  ·rcases(NE b hin).1 with h'|h'
   ·obtain⟨m,_,he⟩:=hmem b h';exact hs.mine b (by omega)
   ·exact .inl (dY hs.base h')
  ·rw[Ww b hin]at hb';split at hb'
   ·omega
   ·exact hs1.mine b hb'
 obtain⟨ρ,hu⟩:=hs1.tJ;have a39:=hs1.oF kk (κ':=κ) (fun _ _ h=>h) hu;have hkl:(kill st.H ms).length=st.H.length:=fm _ _;have hpk:∀(j:Nat) y,(P8 st.H ms outs)[j]?=some y->(∃(i:Nat) (x:Rw),ms[i]?=some j/\outs[i]?=some x/\y=x.ob (lv st.H j))\/(j∉ms/\(kill st.H ms)[j]?=some y):=by
  intro j y hj;rcases Xk hnd (by omega) hj with h'|⟨h1,h2⟩
  ·exact .inl h'
  ·exact .inr ⟨h1,by rw[gM h1];exact h2⟩
 have M4:∀(j:Nat) y,(P8 st.H ms outs)[j]?=some y->j+2≠st.H.length+2:=fun j y hj=>by
  have:=(aF.1 hj).1;rw[Kk]at this;omega
 have hs2:dl Γ ⟨st.σ,P8 st.H ms outs⟩ κ Θ2 a w':=by
  refine hs1.step kk hm2 (fun _ _ h=>h) (fun i hi=>hs.pK i (by rw[Kk]at hi;exact hi)) hs.oM ?_ ⟨ρ,a39.1,?_,?_⟩
  ·intro j y hj;have hjl:=M4 j y hj;rcases hpk j y hj with⟨i,x,h1,h2,rfl⟩|⟨_,h2⟩
   ·right;right
    have hbi:∃bs,L'[i]?=some bs:=⟨_,aa (by have:=(aF.1 h2).1;omega)⟩
    obtain⟨bs,hbi⟩:=hbi;obtain⟨v',q1,q2,q3⟩:=a84 i x bs h2 hbi;rw[cY,hkc i j h1]at q1;refine⟨q2,fun x hx=>?_,v',bs,q1,q3,Rp GC bs (aE hbi),fun b hb'=>⟨a9A i j bs b h1 hbi hb',(NE b (gC.2 ⟨bs,aE hbi,hb'⟩)).2⟩⟩;unfold lv at hx;split at hx
    ·rename_i sz0 aAH u0 hH0;subst hx;obtain⟨_,q0,_⟩:=hs.ob j _ hH0;exact q0 x rfl
    ·cases hx
   ·exact .inr (.inl ⟨hjl,h2⟩)
  ·intro id e' sz' dN hj;have hjl:=M4 id _ hj;rcases hpk id _ hj with⟨i,x,h1,h2,h3⟩|⟨_,h2⟩
   ·simp[Rw.ob]at h3
   ·exact a39.2.1 id e' sz' dN hjl h2
  ·intro id y hj;have hjl:=M4 id _ hj;rcases hpk id _ hj with⟨i,x,h1,h2,h3⟩|⟨_,h2⟩
   ·subst h3;exact KO.xF rfl
   ·exact a39.2.2 id y hjl h2
 have sv:rW w' κ v d []:=.of hv;exact hK _ _ (h κ Θ2 _ w' (hs2.set (t:=t) ht sv (by simp)))
def Ob.close:Ob->Ob
 | .row _ _ sz rows=>.wP sz rows none
 |o=>o
theorem dl.Ua(hs:dl Γ st κ Θ a w)(hb:Below w.heap.size w w')(L:o8)(hL:∀x∈L,x.ok w')(hnd:(L.flatMap Fs.bl).Nodup)(hfr:∀b∈L.flatMap Fs.bl,w.heap.size<=b/\Wr w' b):
 ∃κ' Θ',dl Γ ⟨st.σ,st.H++(L.map Fs.ob).map Ob.close⟩ κ' Θ' a w'/\Names κ' st.H.length L:=by
 let n:=st.H.length
 let κ':Nat->Option Value:=fun j=>if j<n\/n+L.length<=j then κ j else(L[j-n]?).map Fs.v
 let Θ':Nat->Nat:=fun b=>match ix (fun x:Fs=>x.bl.contains b) L with|some i=>n+i+2|none=>Θ b
 have hu1:∀(i j:Nat) x y b,L[i]?=some x->L[j]?=some y->b∈x.bl->b∈y.bl->i=j:=fun i j x y b=>vn hnd i j x y b
 have hts:∀(i:Nat) x b,L[i]?=some x->b∈x.bl->Θ' b=n+i+2:=by
  intro i x b hi VQ;have:ix (fun x:Fs=>x.bl.contains b) L=some i:=Ef hi (by simpa using VQ) (fun j y hj hy=>hu1 j i y x b hj hi (by simpa using hy) VQ);simp only[Θ',this]
 have hno:∀b,b∉L.flatMap Fs.bl->Θ' b=Θ b:=by
  intro b hb';simp only[Θ'];cases h:ix (fun x:Fs=>x.bl.contains b) L with
  |none=>rfl
  |some i=>
   obtain⟨x,hx,hp⟩:=z7 h;exact absurd (bg.2 ⟨x,aE hx,by simpa using hp⟩) hb'
 have hold:∀b,b<w.heap.size->Θ' b=Θ b:=fun b hlt=>hno b (fun h=>by have:=(hfr b h).1;omega)
 have hn:∀(j:Nat) v,κ j=some v->κ' j=some v:=by
  intro j v hj;have:j<n:=by
   rcases eO j n with h|h
   ·exact h
   ·have:=hs.pK j h;rw[hj]at this;cases this
  simp only[κ'];rw[bK (.inl this)];exact hj
 have vS:Names κ' n L:=by
  intro i x hx;have hlt:=(aF.1 hx).1;simp only[κ'];rw[az (by omega),dM,hx];rfl
 have hlen:(st.H++(L.map Fs.ob).map Ob.close).length=n+L.length:=by simp[n]
 have k:iy w w' Θ Θ' (n+L.length+2):=by
  refine⟨by omega,hb.os,hb.tape,hb.output,hb.size,fun b hlt _=>hb.block b hlt,fun b hlt _=>hold b hlt,fun b h=>?_⟩;by_cases hin:b∈L.flatMap Fs.bl
  ·obtain⟨cs,T,hx⟩:=(hfr b hin).2;exact(bI.1 hx).1
  ·rw[hno b hin]at h;exact dS (hs.own b h) hb.size
 have hm:∀b,2<=Θ' b->yH Γ b:=by
  intro b h;by_cases hin:b∈L.flatMap Fs.bl
  ·exact .inl (dY hs.base (hfr b hin).1)
  ·rw[hno b hin]at h;exact hs.mine b h
 have key:∀(j:Nat) y,(st.H++(L.map Fs.ob).map Ob.close)[j]?=some y->(∃i x,j=n+i/\L[i]?=some x/\y=.wP x.sz x.rows none)\/(j<n/\st.H[j]?=some y):=by
  intro j y hj;by_cases hlt:j<st.H.length
  ·rw[au hlt]at hj;exact .inr ⟨hlt,hj⟩
  ·rw[bA (by omega),bt,bt]at hj;cases hx:L[j-st.H.length]? with
   |none=>simp[hx]at hj
   |some x=>simp[hx]at hj;exact .inl ⟨j-st.H.length,x,by omega,hx,hj.symm⟩
 have M4:∀(j:Nat) y,(st.H++(L.map Fs.ob).map Ob.close)[j]?=some y->j+2≠n+L.length+2:=fun j y hj=>by
  have:=(aF.1 hj).1;omega
 obtain⟨ρ,hu⟩:=hs.tJ;have tI:=hs.oF k hn hu;refine⟨κ',Θ',hs.step k hm hn (fun i hi=>?_) (fun i u wS=>?_) (fun j y hj=>?_) ⟨ρ,tI.1,fun id e sz rows hj=>?_,fun id y hj=>?_⟩,vS⟩
 ·rw[hlen]at hi;simp only[κ'];rw[bK (by omega)];exact hs.pK i (by omega)
 ·simp only[κ']at wS;split at wS
  ·exact hs.oM i u wS
  ·cases hx:L[i-n]? with
   |none=>simp[hx]at wS
   |some x=>simp[hx]at wS;subst wS;exact(hL x (aE hx)).2.2.2.2
 ·have hjl:=M4 j y hj;rcases key j y hj with⟨i,x,rfl,hx,rfl⟩|⟨hlt,hy⟩
  ·right;right
   obtain⟨q1,q2,q3,q4,_⟩:=hL x (aE hx);have K3:x.bl.Nodup:=by
    have:∀(l:o8),(l.flatMap Fs.bl).Nodup->∀x∈l,x.bl.Nodup:=by
     intro l
     induction l with
     |nil=>intro _ x hx;cases hx
     |cons z r ih=>
      intro hnd x hx;simp only[cH]at hnd;obtain⟨n1,n2,_⟩:=bM.1 hnd;rcases bB.1 hx with rfl|hx
      ·exact n1
      ·exact ih n2 x hx
    exact this L hnd x (aE hx)
   exact⟨q2,by simp,x.v,x.bl,vS i x hx,vT q2 q3 q4,K3,fun b hb'=>⟨hts i x b hx hb',(hfr b (bg.2 ⟨x,aE hx,hb'⟩)).2⟩⟩
  ·exact .inr (.inl ⟨hjl,hy⟩)
 ·have hjl:=M4 id _ hj;rcases key id _ hj with⟨i,x,_,_,h⟩|⟨hlt,hy⟩
  ·cases h
  ·exact tI.2.1 id e sz rows hjl hy
 ·have hjl:=M4 id _ hj;rcases key id _ hj with⟨i,x,_,_,h⟩|⟨hlt,hy⟩
  ·subst h;exact KO.xF rfl
  ·exact tI.2.2 id y hjl hy
theorem VV{o:Oper}{f t:Nat}{xs:Array Operand}{ts:Array TypeId}{ds:aP}{ms:aX}{d:D}(hop:o.op=.call {callee:=.value (.func f),args:=xs,argTypes:=ts})(hd:o.dst=some t)(hg:o.guard=none)
 (ht:t<Γ.nt) (hds:GF st.H (xs.toList.map st.ev)=some (ds,ms)) (hown:d.MW=true) (nL:Good P f ds d)
 (h:AO P Γ all rest Q ⟨(t,(oC st.H.length d).1)::st.σ,st.H++(oC st.H.length d).2.map Ob.close⟩):AO P Γ all (o::rest) Q st:=by
 intro κ Θ a w hs;obtain⟨bs,hargs,hz⟩:=LQ hs hds;let Θc:Nat->Nat:=fun b=>if Θ b=0\/ms.any (fun m=>Θ b==m+2)then 0 else 1
 have Kb:∀b,Seen Θ ms b->Θc b=0:=by
  intro b h;simp only[Θc];rw[bK];rcases h with h|⟨m,h1,h2⟩
  ·exact .inl h
  ·exact .inr (cv.2 ⟨m,h1,by simp[h2]⟩)
 have hc:=nL.2 w Θc _ bs hs.vok hargs (fun b hb=>Kb b (hz b hb)) (fun b hb=>hs.own b (fun e=>hb (Kb b (.inl e)))) (fun b=>by simp only[Θc];split<;>omega);refine wpList_plain hg fun K hK=>?_
 unfold Oper.wp;rw[wR hop nL.1,Oper.upon_enter];have e:xs.map a.eval=(xs.toList.map a.eval).toArray:=by rw[<-gu,k8]
 rw[e];refine hc.mono ?_;rintro e w' ⟨v,bs',tb,ub,rfl,hb,hr,Mw,htb,hnd,hfr,hsub⟩;show K (a.put o.dst v) w';rw[hd];obtain⟨L,q1,q2,q3,q4,q5⟩:=hr.inst st.H.length;obtain⟨κ',Θ',hs',hnm⟩:=hs.Ua hb L q2 (q3▸hnd) (fun b hb'=>hfr b (q3▸hb'));rw[q1]at hs';refine hK _ _ (h κ' Θ' _ w' (hs'.set (t:=t) ht (q5 κ' hnm) fun b hb'=>?_));rw[hr.own hown]at hb';cases hb'
end
end Go.Cx
namespace Go.Cx
open Go.RowKit
section
variable{P:Program}{Γ:ul}{Q:Exit->St->Prop}{st:St}{κ κ':Nat->Option Value}{Θ Θ':Nat->Nat}{a:Act}{w w':World}{all:Array Oper}{rest:List Oper}
theorem dl.SX(hs:dl Γ st κ Θ a w)(ms:aX){H':bW}(h1:w'.os=w.os)(h2:w'.tape=w.tape)(h3:w'.output=w.output)(h4:w.heap.size<=w'.heap.size)
 (M0:∀b,b<w.heap.size->(∀m∈ms,Θ b≠m+2)->w'.heap[b]?=w.heap[b]?) (a34:∀b,b<w.heap.size->(∀m∈ms,Θ b≠m+2)->Θ' b=Θ b) (hown:∀b,Θ' b≠0->b<w'.heap.size)
 (hm:∀b,2<=Θ' b->yH Γ b) (hn:∀(j:Nat) v,κ j=some v->κ' j=some v) (hko:∀i,H'.length<=i->κ' i=none) (hk1:∀(i:Nat) u,κ' i=some u->u.oneCell'=true)
 (Ac:∀(j:Nat) y,H'[j]?=some y->y=.gone\/(j∉ms/\st.H[j]?=some y)\/(wC w' κ' Θ' j y/\y.V8=false)):dl Γ ⟨st.σ,H'⟩ κ' Θ' a w':=by
 have hs1:=hs.forget ms;have hin:∀b,(ms.any (fun m=>Θ b==m+2))=false->∀m∈ms,Θ b≠m+2:=by
  intro b h m hm' he;have:ms.any (fun m=>Θ b==m+2)=true:=cv.2 ⟨m,hm',by simp[he]⟩;rw[h]at this;cases this
 have hlt2:∀b,(if ms.any (fun m=>Θ b==m+2)then st.H.length+2 else Θ b)≠st.H.length+2->(ms.any (fun m=>Θ b==m+2))=false:=by
  intro b h;cases hc:ms.any (fun m=>Θ b==m+2)with
  |false=>rfl
  |true=>simp[hc]at h
 have kk:iy w w' (fun b=>if ms.any (fun m=>Θ b==m+2)then st.H.length+2 else Θ b) Θ' (st.H.length+2):=by
  refine⟨by omega,h1,h2,h3,h4,fun b hb hne=>M0 b hb (hin b (hlt2 b hne)),fun b hb hne=>?_,hown⟩;have hc:=hlt2 b hne;rw[a34 b hb (hin b hc)];simp[hc]
 obtain⟨ρ,hu⟩:=hs1.tJ;have tI:=hs1.oF kk hn hu;refine hs1.step kk hm hn hko hk1 (fun j y hj=>?_) ⟨ρ,tI.1,fun id e sz rows hj=>?_,fun id y hj=>?_⟩
 ·rcases Ac j y hj with h|⟨h,hy⟩|⟨h,_⟩
  ·exact .inl h
  ·have:=(aF.1 hy).1;exact .inr (.inl ⟨by omega,by rw[gM h];exact hy⟩)
  ·exact .inr (.inr h)
 ·rcases Ac id _ hj with h|⟨h,hy⟩|⟨_,h⟩
  ·cases h
  ·have:=(aF.1 hy).1;exact tI.2.1 id e sz rows (by omega) (by rw[gM h];exact hy)
  ·simp[Ob.V8]at h
 ·rcases Ac id _ hj with h|⟨h,hy⟩|⟨_,h⟩
  ·subst h;trivial
  ·have:=(aF.1 hy).1;exact tI.2.2 id y (by omega) (by rw[gM h];exact hy)
  ·exact KO.plain h
theorem Rd.a4J{v:Value}{rows:List aP}{bs:aX}(h:Rd w v (.sl rows) bs):(∃q c,v=.slice q rows.length c)/\rows.length<=maxLen:=by
 cases h with
 |yp=>exact⟨⟨_,_,rfl⟩,by simp⟩
 |oO=>exact⟨⟨_,_,rfl⟩,by simp⟩
 |sl b off cap sz _ cs bs hb h1 h2=>exact⟨⟨_,_,rfl⟩,by omega⟩
theorem ZF{o:Oper}{t T id sz:Nat}{x:Operand}{rows:List aP}{u:Option Value}(hop:o.op=.call {callee:=.builtin .len,args:= #[x],argTypes:= #[T]})(hd:o.dst=some t)(hg:o.guard=none)(ht:t<Γ.nt)
 (hT:(FG P T).isSome=true) (hx:st.ev x=.acc id) (hH:st.H[id]?=some (.wP sz rows u)) (h:AO P Γ all rest Q ⟨(t,.int .i64 rows.length)::st.σ,st.H⟩):AO P Γ all (o::rest) Q st:=by
 intro κ Θ a w hs;obtain⟨b1,r1,_⟩:=hs.ev x;rw[hx]at r1;obtain⟨hk,_⟩:=r1.vD;obtain⟨_,_,v,bs,hk2,hrd,_⟩:=hs.ob id _ hH;rw[hk]at hk2;cases hk2;obtain⟨⟨q,c,hv⟩,CX⟩:=hrd.a4J;obtain⟨⟨e,sz'⟩,hT⟩:=eT.1 hT;obtain⟨hu,_,_⟩:=ou hT;refine wpList_plain hg fun K hK=>?_
 unfold Oper.wp;have hrun:(execOp a.eval o).run P w=.ok (.value (.int .i64 rows.length)) w:=by
  simp only[execOp,hop,resolve,invoke,builtin,oZ,av,bZ,hv];simp[Builtin.len_,run_underlying hu,goInt]
 rw[hrun,Oper.upon_value,hd];exact hK _ _ (h κ Θ _ w (hs.set (d:=.int .i64 rows.length) (bs:=[]) ht (.of (.int _ _ (Oz CX))) (by simp)))
theorem a2R{o:Oper}{t T id sz e m:Nat}{x i:Operand}{rows:List aP}{u:Option Value}{k:IntKind}{n:Int}(hop:o.op=.indexAddr T x i)(hd:o.dst=some t)(hg:o.guard=none)(ht:t<Γ.nt)
 (hT:FG P T=some (e,sz)) (hx:st.ev x=.acc id) (hi:st.ev i=.int k n) (hH:st.H[id]?=some (.wP sz rows u)) (hn:n=(m:Int)) (hm:m<rows.length) (h:AO P Γ all rest Q ⟨(t,.op id m sz 0)::st.σ,st.H⟩):AO P Γ all (o::rest) Q st:=by
 intro κ Θ a w hs;obtain⟨b1,r1,_⟩:=hs.ev x;obtain⟨b2,r2,_⟩:=hs.ev i;rw[hx]at r1;rw[hi]at r2;have hiv:=r2.qj;obtain⟨hk,_⟩:=r1.vD;obtain⟨_,_,v,bs,hk2,hrd,_⟩:=hs.ob id _ hH;rw[hk]at hk2;cases hk2;obtain⟨hu,K1,Iv⟩:=ou hT;have hsz:=vA (P:=P) K1 w;subst hn;generalize Td:a.eval x=vx at hrd hk;cases hrd with
 |yp=>simp at hm
 |oO=>simp at hm
 |sl b off cap sz' _ cs bs hb hcap CX hrl hc sv=>
  have hn':0<=(m:Int)/\(m:Int)<(rows.length:Int):=⟨by omega,by omega⟩
  refine wpList_plain hg fun K hK=>?_
  unfold Oper.wp;have hrun:(execOp a.eval o).run P w=.ok (.value (.pointer (some ⟨b,off+(m*sz+0),none⟩))) w:=by
   simp only[execOp,hop,Td,hiv];simp[Instr.indexAt,asIntOf,run_underlying hu,hn',hm,hsz,Iv,Addr.add_lit]
  rw[hrun,Oper.upon_value,hd];exact hK _ _ (h κ Θ _ w (hs.set (d:=.op id m sz 0) (bs:=[]) ht (zC.op id m sz 0 b off _ _ hk).PT (by simp)))
theorem LF{rows:List aP}{sz i off:Nat}{r:aP}{d:D}(hrl:∀r∈rows,r.length=sz)(hr:rows[i]?=some r)(hd:r[off]?=some d):rows.flatten[i*sz+off]?=some d/\off<sz/\i*sz+off<rows.length*sz:=by
 have h1:=hrl r (aE hr);have h2:=(aF.1 hd).1;have hmid:=EW hrl hr;have hlt:=(aF.1 hr).1;have hle:(i+1)*sz<=rows.length*sz:=dh _ hlt;rw[k9,nE]at hle;refine⟨?_,by omega,by omega⟩;rw[<-hmid,cR,bK (by omega),eb]at hd;exact hd
theorem Vd{o:Oper}{t T id i sz off:Nat}{x:Operand}{rows:List aP}{r:aP}{d:D}{u:Option Value}(hop:o.op=.load T x)(hd:o.dst=some t)(hg:o.guard=none)(ht:t<Γ.nt)
 (hT:AA P T=some false) (hx:st.ev x=.op id i sz off) (hH:st.H[id]?=some (.wP sz rows u)) (hr:rows[i]?=some r) (hc:r[off]?=some d) (hfl:d.flat=true) (h:AO P Γ all rest Q ⟨(t,d)::st.σ,st.H⟩):AO P Γ all (o::rest) Q st:=by
 intro κ Θ a w hs;obtain⟨b1,r1,_⟩:=hs.ev x;rw[hx]at r1;obtain⟨g,o0,len,ZV,hk,hv⟩:=r1.En;obtain⟨hrl,_,v,bs,hk2,hrd,_⟩:=hs.ob id _ hH;rw[hk]at hk2;cases hk2;obtain⟨hf,_,_⟩:=LF hrl hr hc;cases hrd with
 |oO=>simp at hr
 |sl _ _ _ sz' _ cs ns hb hcap CX L6 hcs sv=>
  obtain⟨c,b',h1,h2,h3,h4⟩:=sv.at hf;have L:=pE (P:=P) (w:=w) hT (o:=i*sz+off) hcs;have hb':=h3.flat hfl;subst hb';refine wpList_plain hg fun K hK=>?_
  unfold Oper.wp;have hrun:(execOp a.eval o).run P w=.ok (.value c) w:=by
   simp only[execOp,hop,hv];simp[L.2 rfl c h1]
  rw[hrun,Oper.upon_value,hd];exact hK _ _ (h κ Θ _ w (hs.set (d:=d) (bs:=[]) ht (.of h3) (by simp)))
theorem l6.a6D{vs:bw}{ds:aP}{bs:aX}(h:l6 w vs ds bs){p:Nat}{d:D}(hd:ds[p]?=some d):
 ∃c b1 b2 b3,vs[p]?=some c/\c.oneCell'=true/\Rd w c d b2/\bs=b1++(b2++b3)/\∀(e:D) (b4:aX),Rd w c e b4->l6 w vs (ds.set p e) (b1++(b4++b3)):=by
 obtain⟨l,r,rfl,hl⟩:=Nt hd;obtain⟨v1,v2,c1,c2,rfl,rfl,k1,k2⟩:=h.split;cases k2 with
 |cons c vs _ _ b2 b3 h1 h2 h3=>
  have hl1:v1.length=p:=by rw[k1.length];exact hl
  refine⟨c,c1,b2,b3,by rw[bA (by omega),hl1];simp,h1,h2,rfl,fun e b4 he=>?_⟩;have e1:(l++d::r).set p e=l++e::r:=by rw[tA _ _ (by omega),hl];simp
  rw[e1];exact k1.app (.cons _ _ _ _ _ _ h1 he h3)
theorem Ir{rows:List aP}{sz i off:Nat}{r:aP}{d e:D}(hrl:∀r∈rows,r.length=sz)(hr:rows[i]?=some r)(hd:r[off]?=some d):(rows.set i (r.set off e)).flatten=rows.flatten.set (i*sz+off) e:=by
 have hlt:=(aF.1 hd).1;have h1:=hrl r (aE hr);have:=EX (rows:=rows) (sz:=sz) (i:=i) (off:=off) (row:=r) (ds:=[e]) hrl hr (by simp;omega);have e1:r.set off e=r.take off++[e]++r.drop (off+[e].length):=by
  apply kw;intro j;rw[gO];simp only[cu,Cv,aV,br,cY];by_cases hj:j<off
  ·rw[az (by omega),au (by simp;omega),cR,bK hj]
  ·rw[bA (by simp;omega),cQ,fJ (by omega)];by_cases he:off=j
   ·subst he;simp[hlt]
   ·rw[az he];obtain⟨m,hm⟩:∃m,j-off=m+1:=⟨j-off-1,by omega⟩
    rw[hm,gB,eb]
    congr 1;omega
 rw[e1,this];have hfl:=oX hrl;obtain⟨hf,_,hlt2⟩:=LF hrl hr hd;apply kw;intro j;rw[gO];simp only[cu,Cv,aV,br,cY];by_cases hj:j<i*sz+off
 ·rw[az (by omega),au (by rw[cQ];omega),cR,bK hj]
 ·rw[bA (by rw[cQ];omega),cQ,fJ (by omega)];by_cases he:i*sz+off=j
  ·subst he;rw[bK rfl,bK (by omega),pY];rfl
  ·rw[az he];obtain⟨m,hm⟩:∃m,j-(i*sz+off)=m+1:=⟨j-(i*sz+off)-1,by omega⟩
   rw[hm,gB,eb]
   congr 1;omega
theorem LO{rows:List aP}{sz i:Nat}{r:aP}(hrl:∀r∈rows,r.length=sz)(hr:r.length=sz):∀x∈rows.set i r,x.length=sz:=by
 intro x hx;rcases uW hx with hx|rfl
 ·exact hrl x hx
 ·exact hr
theorem Vf{o:Oper}{t T id i sz off Si:Nat}{x:Operand}{rows fo:List aP}{r:aP}{u:Option Value}(hop:o.op=.load T x)(hd:o.dst=some t)(hg:o.guard=none)(ht:t<Γ.nt)
 (hT:AA P T=some false) (hx:st.ev x=.op id i sz off) (hH:st.H[id]?=some (.wP sz rows u)) (hr:rows[i]?=some r) (hc:r[off]?=some (.sl fo)) (h2:∀q∈fo,q.length=Si)
 (h:AO P Γ all rest Q ⟨(t,.acc st.H.length)::st.σ,st.H.set id (.hole sz (rows.set i (r.set off .any)) u (i*sz+off) st.H.length)++[.wP Si fo none]⟩):AO P Γ all (o::rest) Q st:=by
 intro κ Θ a w hs;obtain⟨b1,r1,_⟩:=hs.ev x;rw[hx]at r1;obtain⟨g,o0,len,ZV,hk,hv⟩:=r1.En;obtain⟨hrl,Zx,v,bs,hk2,hrd,hnd,Eb⟩:=hs.ob id _ hH;rw[hk]at hk2;cases hk2;obtain⟨hf,hoff,_⟩:=LF hrl hr hc;cases hrd with
 |oO=>simp at hr
 |sl _ _ _ sz' _ cs ns hb hcap CX L6 hcs sv=>
  obtain⟨c,c1,c2,c3,h1,h1c,h3,rfl,qc⟩:=sv.a6D hf;have L:=pE (P:=P) (w:=w) hT (o:=i*sz+off) hcs;have a5K:id<st.H.length:=(aF.1 hH).1;have hnew:=qc .any [] (.any c);have GC:=hnd;simp only[dB,af,yF]at GC;obtain⟨⟨hg1,hg2,hg3⟩,K3⟩:=GC;obtain⟨n1,n2,n3⟩:=bM.1 K3;obtain⟨n4,n5,n6⟩:=bM.1 n2;let Θ':Nat->Nat:=fun b=>if b∈c2 then st.H.length+2 else Θ b
  have hs':dl Γ ⟨st.σ,st.H.set id (.hole sz (rows.set i (r.set off .any)) u (i*sz+off) st.H.length)++[.wP Si fo none]⟩ (yD κ st.H.length (some c)) Θ' a w:=by
   have hn:=xQ (hs.pK _ (bR _)) (some c);have NI:∀b∈c2,Θ b=id+2:=fun b hb'=>(Eb b (by simp[hb'])).1
   refine hs.SX [id] rfl rfl rfl (bR _) (fun _ _ _=>rfl) (fun b _ hne=>?_) (fun b hb'=>?_) (fun b hb'=>?_) hn (fun j hj=>?_) (fun j y hy=>?_) (fun j y hj=>?_)
   ·simp only[Θ'];rw[az];intro hin;exact hne id (by simp) (NI b hin)
   ·simp only[Θ']at hb';split at hb'
    ·rename_i hin;exact hs.own b (by rw[NI b hin];omega)
    ·exact hs.own b hb'
   ·simp only[Θ']at hb';split at hb'
    ·rename_i hin;exact hs.mine b (by rw[NI b hin];omega)
    ·exact hs.mine b hb'
   ·simp only[bC,pL,aV,br]at hj;unfold yD;rw[az (by omega)];exact hs.pK j (by omega)
   ·unfold yD at hy;split at hy
    ·cases hy;exact h1c
    ·exact hs.oM j y hy
   ·rcases Bp j y hj with⟨hjl,rfl⟩|⟨hjl,hy⟩
    ·right;right
     have hjn:j=st.H.length:=by rw[hjl];simp
     subst hjn;refine⟨⟨h2,by simp,c,c2,lP _ _ _,h3,n4,fun b hb'=>⟨by simp[Θ',hb'],(Eb b (by simp[hb'])).2⟩⟩,rfl⟩
    ·rcases zB j y hy with⟨rfl,rfl⟩|⟨hne,hy'⟩
     ·right;right
      refine⟨⟨LO hrl (by rw[pL];exact hrl r (aE hr)),fun z hz=>hn _ _ (Zx z hz),_,g::(c1++([]++c3)),hn _ _ hk,⟨g,o0,ZV,cs,c1++([]++c3),by simp,hb,by simpa using hcap,CX,hcs,?_,rfl,c,h1,lP _ _ _⟩,?_,fun b hb'=>?_⟩,rfl⟩
      ·rw[Ir hrl hr hc];exact hnew
      ·simp only[cw,dB,af,yF];exact⟨⟨hg1,hg3⟩,bM.2 ⟨n1,n5,fun x hx y hy e=>n3 x hx y (by simp[hy]) e⟩⟩
      ·have hbm:b∈g::(c1++(c2++c3)):=by
        simp only[cw,bB,af]at hb'⊢;rcases hb' with h|h|h<;>simp[h]
       refine⟨?_,(Eb b hbm).2⟩;simp only[Θ'];rw[az,(Eb b hbm).1];intro hin;simp only[cw,bB,af]at hb';rcases hb' with h|h|h
       ·subst h;exact hg2 hin
       ·exact n3 b h b (by simp[hin]) rfl
       ·exact n6 b hin b h rfl
     ·exact .inr (.inl ⟨by simpa using hne,hy'⟩)
  refine wpList_plain hg fun K hK=>?_
  unfold Oper.wp;have hrun:(execOp a.eval o).run P w=.ok (.value c) w:=by
   simp only[execOp,hop,hv];simp[L.2 rfl c h1]
  rw[hrun,Oper.upon_value,hd];exact hK _ _ (h _ _ _ w (hs'.set (d:=.acc st.H.length) (bs:=[]) ht (zC.acc st.H.length c (lP _ _ _)).PT (by simp)))
theorem Ve{id n i sz off Si:Nat}{rows fo:List aP}{r:aP}{d:D}{u u2:Option Value}(hH:st.H[id]?=some (.hole sz rows u (i*sz+off) n))(hN:st.H[n]?=some (.wP Si fo u2))(hr:rows[i]?=some r)(hc:r[off]?=some d)
 (h:AO P Γ all rest Q ⟨st.σ,(st.H.set n .gone).set id (.wP sz (rows.set i (r.set off (.sl fo))) u)⟩):AO P Γ all rest Q st:=by
 intro κ Θ a w hs;obtain⟨hrl,Zx,v,bs,hk,⟨b,o0,cap,cs,ns,rfl,h1,h2,h3,h4,h5,rfl,c,h6,h7⟩,hnd,Eb⟩:=hs.ob id _ hH;obtain⟨aBU,_,v2,Yw,hk2,a8n,a8e,WS⟩:=hs.ob n _ hN;rw[h7]at hk2;cases hk2;obtain⟨hf,hoff,_⟩:=LF hrl hr hc;obtain⟨c',c1,c2,c3,q1,q1c,q3,rfl,qc⟩:=h5.a6D hf;rw[h6]at q1;cases q1;have hnew:=qc (.sl fo) Yw a8n;have hne:n≠id:=fun e=>by subst e;rw[hH]at hN;cases hN
 have a5K:id<st.H.length:=(aF.1 hH).1;have GC:=hnd;simp only[dB,af,yF]at GC;obtain⟨⟨hg1,hg2,hg3⟩,K3⟩:=GC;obtain⟨n1,n2,n3⟩:=bM.1 K3;obtain⟨n4,n5,n6⟩:=bM.1 n2;have a2s:∀x∈Yw,∀y∈b::(c1++(c2++c3)),x≠y:=by
  intro x hx y hy e;subst e;have e1:=(WS x hx).1;have e2:=(Eb x hy).1;omega
 let Θ':Nat->Nat:=fun x=>if x∈Yw then id+2 else if Θ x=n+2 then 1 else Θ x
 refine h κ Θ' a w (hs.SX [id,n] rfl rfl rfl (bR _) (fun _ _ _=>rfl) (fun x _ hnx=>?_) (fun x hx=>?_) (fun x hx=>?_) (fun _ _ h=>h) (fun j hj=>hs.pK j (by simpa using hj)) hs.oM (fun j y hj=>?_))
 ·simp only[Θ'];rw[az (fun hin=>hnx n (by simp) (WS x hin).1),az (hnx n (by simp))]
 ·simp only[Θ']at hx;split at hx
  ·rename_i hin;exact hs.own x (by rw[(WS x hin).1];omega)
  ·split at hx
   ·rename_i he;exact hs.own x (by rw[he];omega)
   ·exact hs.own x hx
 ·simp only[Θ']at hx;split at hx
  ·rename_i hin;exact hs.mine x (by rw[(WS x hin).1];omega)
  ·split at hx
   ·omega
   ·exact hs.mine x hx
 ·rcases zB j y hj with⟨rfl,rfl⟩|⟨GR,hy⟩
  ·right;right
   refine⟨⟨LO hrl (by rw[pL];exact hrl r (aE hr)),Zx,_,b::(c1++(Yw++c3)),hk,?_,?_,fun x hx=>?_⟩,rfl⟩
   ·have hl:(rows.set i (r.set off (.sl fo))).length=rows.length:=by simp
    have:=Rd.sl (w:=w) b o0 cap sz (rows.set i (r.set off (.sl fo))) cs (c1++(Yw++c3)) h1 (by rw[hl];exact h2) h3 (LO hrl (by rw[pL];exact hrl r (aE hr))) h4 (by rw[Ir hrl hr hc];exact hnew);rw[hl]at this;exact this
   ·simp only[dB,af,yF];refine⟨⟨hg1,fun hin=>a2s b hin b (by simp) rfl,hg3⟩,bM.2 ⟨n1,bM.2 ⟨a8e,n5,fun x hx y hy e=>a2s x hx y (by simp[hy]) e⟩,fun x hx y hy e=>?_⟩⟩;rcases af.1 hy with hy|hy
    ·exact a2s y hy x (by simp[hx]) e.symm
    ·exact n3 x hx y (by simp[hy]) e
   ·by_cases hin:x∈Yw
    ·exact⟨by simp[Θ',hin],(WS x hin).2⟩
    ·have hbm:x∈b::(c1++(c2++c3)):=by
      simp only[bB,af]at hx⊢;rcases hx with h|h|h|h
      ·simp[h]
      ·simp[h]
      ·exact absurd h hin
      ·simp[h]
     refine⟨?_,(Eb x hbm).2⟩;have e1:=(Eb x hbm).1;simp only[Θ'];rw[az hin,az (by omega),e1]
  ·rcases zB j y hy with⟨rfl,rfl⟩|⟨hj2,hy'⟩
   ·exact .inl rfl
   ·exact .inr (.inl ⟨by simp[GR,hj2],hy'⟩)
theorem l6.setCells{vs:bw}{ds es:aP}{us:bw}{bs:aX}(h:l6 w vs ds bs)(p:Nat)(hp:p+es.length<=ds.length)(hu:l6 w us es []):
 ∃b',l6 w (vs.take p++us++vs.drop (p+us.length)) (ds.take p++es++ds.drop (p+es.length)) b'/\(∀b∈b',b∈bs)/\(bs.Nodup->b'.Nodup):=by
 have e:ds=ds.take p++((ds.drop p).take es.length++(ds.drop p).drop es.length):=by rw[cD,cD]
 rw[e]at h;obtain⟨v1,v2,b1,b2,rfl,rfl,k1,k2⟩:=h.split;obtain⟨v3,v4,b3,b4,rfl,rfl,k3,k4⟩:=k2.split;have l1:v1.length=p:=by rw[k1.length];simp;omega
 have l3:v3.length=es.length:=by rw[k3.length];simp;omega
 have lu:=hu.length;have t1:(v1++(v3++v4)).take p=v1:=ig l1;have t2:(v1++(v3++v4)).drop (p+us.length)=v4:=by
  rw[<-gm,fy l1,lu,fy l3]
 rw[t1,t2];rw[gm]at k4;refine⟨b1++[]++b4,(k1.app hu).app k4,fun b hb=>?_,fun hnd=>?_⟩
 ·simp only[dA,af]at hb⊢;rcases hb with h|h<;>simp[h]
 ·obtain⟨n1,n2,n3⟩:=bM.1 hnd;obtain⟨_,n5,_⟩:=bM.1 n2;simp only[dA];exact bM.2 ⟨n1,n5,fun x hx y hy e=>n3 x hx y (by simp[hy]) e⟩
theorem UA{o:Oper}{T id i sz off:Nat}{x y:Operand}{rows:List aP}{r ds:aP}{u:Option Value}(hop:o.op=.store T x y)(hd:o.dst=none)(hg:o.guard=none)
 (hx:st.ev x=.op id i sz off) (hH:st.H[id]?=some (.wP sz rows u)) (hr:rows[i]?=some r) (hc:(st.ev y).cellsOf=some ds) (hfl:ds.all D.flat=true) (hT:PS P T=true) (hl:ds.length=zH P T) (hpos:0<ds.length) (hfit:off+ds.length<=sz)
 (h:AO P Γ all rest Q ⟨st.σ,st.H.set id (.wP sz (rows.set i (r.take off++ds++r.drop (off+ds.length))) u)⟩):AO P Γ all (o::rest) Q st:=by
 intro κ Θ a w hs;obtain⟨b1,r1,_⟩:=hs.ev x;obtain⟨b2,r2,_⟩:=hs.ev y;rw[hx]at r1;obtain⟨g,o0,len,ZV,hk,hv⟩:=r1.En;obtain⟨hrl,Zx,v,bs,hk2,hrd,hnd,Eb⟩:=hs.ob id _ hH;rw[hk]at hk2;cases hk2;have Rs:=BG hs.oM r2 hc;have hl1:=Rs.length;have a8P:ds.all D.Pd=true:=by
  rw[aj]at hfl⊢;intro d Hr;have:=hfl d Hr;cases d<;>first|rfl| (simp[D.flat]at this)
 have hcp:=Rs.pure a8P;have Mv:=hcp.flat hfl;subst Mv;have hrow:=hrl r (aE hr);have hilt:=(aF.1 hr).1;have a2t:(i+1)*sz<=rows.length*sz:=dh _ hilt;rw[k9,nE]at a2t;cases hrd with
 |oO=>simp at hr
 |sl _ _ _ sz' _ cs ns hb hcap CX L6 hcs sv=>
  obtain⟨hgT,hgw⟩:=Eb g (by simp);obtain⟨cur,Tb,Z0⟩:=hgw;have a5H:=oX hrl;have hcl:cs.length=rows.length*sz:=by rw[sv.length,a5H]
  have M2:∀j c,cs[j]?=some c->cur[o0+j]?=some c:=by
   intro j c hj;have:=hcs j c hj;simpa[World.cell?,Z0]using this
  have a5G:o0+(i*sz+off)+(a.eval y).cells.size<=cur.size:=by
   have e1:(a.eval y).cells.size=ds.length:=by rw[<-hl1];simp
   rw[e1];have:=M2 (i*sz+off+ds.length-1) cs[i*sz+off+ds.length-1] (aa (by omega));have:=(bI.1 this).1;omega
  have a38:(a.eval y).cells.size=zH P T:=by rw[<-hl,<-hl1];simp
  have hst:=Et (P:=P) (T:=T) (off:=o0+(i*sz+off)) Z0 a38 (eT.1 hT) a5G Rs.one;have hne:(a.eval y).cells.toList.length=ds.length:=hl1;let Kw:Array Value:=(cur.toList.take (o0+(i*sz+off))++(a.eval y).cells.toList++cur.toList.drop (o0+(i*sz+off)+(a.eval y).cells.toList.length)).toArray
  have hw':∀x,x≠g->(w.setRow g Kw).heap[x]?=w.heap[x]?:=fun x hx=>setRow_other w g x _ hx
  have hsame:∀x,x<w.heap.size->(∀m∈[id],Θ x≠m+2)->(w.setRow g Kw).heap[x]?=w.heap[x]?:=fun x _ hx=>hw' x (fun e=>hx id (by simp) (by rw[e];exact hgT))
  simp only[dB]at hnd;have a8r:l6 (w.setRow g Kw) cs rows.flatten ns:=sv.keep fun b hb'=>hw' b (fun e=>hnd.1 (e▸hb'))
  have a8H:l6 (w.setRow g Kw) (a.eval y).cells.toList ds []:=hcp.keep (by simp);obtain⟨ns',q1,q2,q3⟩:=a8r.setCells (i*sz+off) (by rw[a5H];omega) a8H;have hfs:=EX (ds:=ds) (off:=off) hrl hr hfit;have hl4:(rows.set i (r.take off++ds++r.drop (off+ds.length))).length=rows.length:=by simp
  have a5V:∀z∈rows.set i (r.take off++ds++r.drop (off+ds.length)),z.length=sz:=LO hrl (by simp;omega);have hcell:∀j c,(cs.take (i*sz+off)++(a.eval y).cells.toList++cs.drop (i*sz+off+(a.eval y).cells.toList.length))[j]?=some c->(w.setRow g Kw).cell? ⟨g,o0+j,none⟩=some c:=by
   intro j c hj;have hgh:(w.setRow g Kw).heap[g]?=some (.cells Kw Tb (0,0)):=setRow_heap w g cur _ Tb _ Z0;simp only[World.cell?,hgh];show Kw[o0+j]?=some c;simp only[Kw,jW,cu]at hj⊢;have hcz:o0+(i*sz+off)<=cur.toList.length:=by simp;omega
   by_cases GR:j<i*sz+off
   ·rw[au (by simp;omega),cR,bK GR]at hj;rw[au (by rw[cQ];omega),cR,bK (by omega)];have:=M2 j c hj;simpa using this
   ·rw[bA (by rw[cQ];omega),cQ,fJ (by omega)]at hj;rw[bA (by rw[cQ];omega),cQ,fJ hcz];rw[show o0+j-(o0+(i*sz+off))=j-(i*sz+off)from by omega];by_cases hj2:j-(i*sz+off)<(a.eval y).cells.toList.length
    ·rw[au hj2]at hj⊢;exact hj
    ·rw[bA (by omega),eb]at hj⊢;have:=M2 _ c hj;rw[<-sx]at this;rw[<-this];congr 1;omega
  refine wpList_plain hg fun K hK=>?_
  unfold Oper.wp;have hrun:(execOp a.eval o).run P w=.ok .skip (w.setRow g Kw):=by
   simp only[execOp,hop,hv];simp[hst,Kw]
  rw[hrun,Oper.upon_skip,hd];refine hK _ _ (h κ Θ _ _ (hs.SX [id] rfl rfl rfl (by simp) hsame (fun _ _ _=>rfl) (fun b hb'=>by simpa using hs.own b hb') hs.mine (fun _ _ h=>h) (fun j hj=>hs.pK j (by simpa using hj)) hs.oM (fun j z hj=>?_)));rcases zB j z hj with⟨rfl,rfl⟩|⟨GR,hz⟩
  ·right;right
   refine⟨⟨a5V,Zx,_,g::ns',hk,?_,?_,fun b hb'=>?_⟩,rfl⟩
   ·have:=Rd.sl (w:=w.setRow g Kw) g o0 ZV sz (rows.set i (r.take off++ds++r.drop (off+ds.length))) _ ns' (by simpa using hb) (by rw[hl4];exact hcap) CX a5V hcell (by rw[hfs];exact q1);rw[hl4]at this;exact this
   ·simp only[dB];exact⟨fun hin=>hnd.1 (q2 g hin),q3 hnd.2⟩
   ·rcases bB.1 hb' with rfl|hin
    ·exact⟨hgT,⟨_,Tb,setRow_heap w b cur _ Tb _ Z0⟩⟩
    ·have hm:=Eb b (by simp[q2 b hin]);refine⟨hm.1,?_⟩;obtain⟨xs,T',hxs⟩:=hm.2;exact⟨xs,T',(hw' b (fun e=>hnd.1 (e▸q2 b hin))).trans hxs⟩
  ·exact .inr (.inl ⟨by simpa using GR,hz⟩)
end
end Go.Cx
namespace Go.Cx
open Go.RowKit
def GJ(P:Program)(f:FuncId)(ds:aP)(e sz:Nat)(rows dN:List aP):Prop:=
 (∃fn,P.funcs[f]?=some fn/\fn.body.isSome=true/\(fn.name== "runtime.NumGoroutine")=false)/\
 ∀(w:World) (κ:Nat->Option Value) (args:bw) (v:Value) (cs:bw),N9 w (fun b=>v.ownBlock=some b)->args.length=ds.length->(∀(i:Nat) d,ds[i]?=some d->∃u,args[i]?=some u/\rW w κ u d [])->
  κ 0=some v->(∀i,1<=i->κ i=none)->v.oneCell'=true->0<sz->(∀r∈rows,r.length=sz)->w.ownsRow 0 e sz v rows.length cs->l6 w cs rows.flatten []->
  Calls P f args.toArray w (fun x w'=>∃v' cs',x=.returned v'/\v'.oneCell'=true/\(∀r∈dN,r.length=sz)/\w'.ownsRow 0 e sz v' dN.length cs'/\l6 w' cs' dN.flatten []/\(∀g,v'.ownBlock=some g->w.heap.size<=g\/v.ownBlock=some g)/\
   w'.os=w.os/\w'.tape=w.tape/\w'.output=w.output/\w.heap.size<=w'.heap.size/\∀b,b<w.heap.size->v.ownBlock≠some b->w'.heap[b]?=w.heap[b]?)
section
variable{P:Program}{Γ:ul}{Q:Exit->St->Prop}{st:St}{κ κ':Nat->Option Value}{Θ Θ':Nat->Nat}{a:Act}{w w':World}{all:Array Oper}{rest:List Oper}
theorem OJ.out{fn:Func}{d:D}{e:Exit}{a':Act}{w':World}{Mx:St}{κ0:Nat->Option Value}{Θ0:Nat->Nat}(hs0:dl Γ Mx κ0 Θ0 a' w')(Wl:OJ P fn d e Mx):
 (e=.ret\/e=.normal)/\a'.defers=[]/\Pp Γ w'/\∃v bs ts us,(results fn a'.tmps).run P w'=.ok v w'/\zQ w' v d bs ts us/\∀b∈ts,yH Γ b:=by
 obtain⟨Ay,nz,Zk,es,ms,qs,hres,Wm,M5,K4,rfl⟩:=Wl;obtain⟨ρ0,Zw⟩:=hs0.tJ;have AM:=vo Wm;obtain⟨Θ1,ρ1,hs1,hu1,hm1,NJ,UU⟩:=dl.FB ms hs0 Zw M5 (fun m hm=>by
  obtain⟨e,sz,rows,hH⟩:=AM.1 m hm;exact⟨_,e,sz,rows,hH,rfl⟩)
 obtain⟨vs,bs',m1,m2,m3,m4,m5⟩:=Br hs0 hres;have hq:∀m e sz rows,Mx.H[m]?=some (.row .uq e sz rows)->∃v cs ns,κ0 m=some v/\0<sz/\(∀r∈rows,r.length=sz)/\w'.ownsRow 0 e sz v rows.length cs/\l6 w' cs rows.flatten ns/\ns.Nodup/\(∀b∈ns,ρ1 b=m+1)/\∀g,v.ownBlock=some g->Θ1 g=m+2:=by
  intro m e sz rows hH;have hnm:m∉ms:=fun hm=>by
   obtain⟨e',sz',dN,DS⟩:=AM.1 m hm;rw[hH]at DS;cases DS
  have Mu:(kill Mx.H ms)[m]?=some (.row .uq e sz rows):=by rw[gM hnm];exact hH
  obtain⟨v,cs,ns,r1,r2,r3,r4,r5⟩:=hu1.rows m e sz rows Mu;obtain⟨p1,p2,v2,_,_,p3,_,_,p4,_⟩:=hs1.ob m _ Mu;rw[r1]at p3;cases p3;exact⟨v,cs,ns,r1,p1,p2,r2,r3,r4,r5,p4⟩
 obtain⟨c,ts,us,Bj,zw⟩:=zG (w:=w') (vs:=vs) (fun b hb=>(hu1.free b hb).1) hq hs0.oM Wm K4 (by omega) (fun i d hd=>by
  obtain⟨v,b,k1,k2,k3⟩:=m4 i d hd;exact⟨v,b,k1,k2,fun x hx=>NJ x (m5 x (k3 x hx))⟩) hm1
 have Jz:∃v,(results fn a'.tmps).run P w'=.ok v w'/\zQ w' v (JA es) c ts us:=by
  have hrun:(results fn a'.tmps).run P w'=.ok (if h:vs.toArray.size=1 then vs.toArray[0]else .tuple vs.toArray) w':=by
   rw[results_eq,mL];simp[m1]
  cases Bj with
  |nil=>exact⟨.tuple #[],by simpa using hrun,.iE [] [] [] [] [] .nil⟩
  |cons v vs d es b1 b2 t1 t2 u1 u2 hv sS=>
   cases sS with
   |nil=>
    simp only[dA];exact⟨v,by simpa using hrun,.v hv⟩
   |cons v2 vs d2 es b3 b4 t3 t4 u3 u4 GS sS=>exact⟨.tuple (v::v2::vs).toArray,by simpa using hrun,.iE _ _ _ _ _ (.cons _ _ _ _ _ _ _ _ _ _ hv (.cons _ _ _ _ _ _ _ _ _ _ GS sS))⟩
 obtain⟨v,S5,NH⟩:=Jz;refine⟨Ay,hs0.defers,hs0.stays,v,c,ts,us,S5,NH,fun b hb'=>?_⟩;obtain⟨⟨m,hm,hΘ⟩,_⟩:=zw.top b hb';exact hs1.mine b (by omega)
theorem GJ.of{f:FuncId}{fn:Func}{c:Code}{ds:aP}{e sz:Nat}{rows dN:List aP}(hf:P.funcs[f]?=some fn)(hb:fn.body=some c)(hn:(fn.name== "runtime.NumGoroutine")=false)
 (hl:ds.length<=fn.ntmps) (hfl:dN.flatten.all D.flat=true) (h:rows.length<=maxLen->∀Γ:ul,Γ.nt=fn.ntmps->AW P Γ c (OJ P fn (.fr e sz dN)) ⟨wY 0 ds,[.row .uq e sz rows]⟩):GJ P f ds e sz rows dN:=by
 refine⟨⟨fn,hf,by simp[hb],hn⟩,?_⟩;intro w κ args v cs Od hlen hargs hk0 hk1 hone hsz hrl hown hrd;refine calls_of_wp hf hb ?_;let Θ:Nat->Nat:=fun b=>if v.ownBlock=some b then 2 else if b<w.heap.size then 1 else 0
 let Γ:ul:=⟨w,Θ,fun b=>v.ownBlock=some b,fn.ntmps,fun _=>False,Od⟩
 have hlt:∀b,v.ownBlock=some b->b<w.heap.size:=fun b hb'=>(hown.lt b hb').2
 have CX:rows.length<=maxLen:=(ij.sl ⟨w,v,_,vT hrl hown hrd⟩).1;have hs:dl Γ ⟨wY 0 ds,[.row .uq e sz rows]⟩ κ Θ {tmps:=args.toArray++Array.replicate (fn.ntmps-args.toArray.size) undef,defers:=[]} w:=by
  refine⟨rfl,?_,fun i hi=>hk1 i (by simpa using hi),?_,?_,?_,?_,?_,?_,⟨rfl,rfl,rfl,bR _,fun _ _ _=>rfl⟩,⟨fun _=>0,by simp,?_,?_⟩⟩
  ·simp[Γ];omega
  ·intro id u hu;rcases Nat.eq_zero_or_pos id with rfl|hp
   ·rw[hk0]at hu;cases hu;exact hone
   ·rw[hk1 id hp]at hu;cases hu
  ·intro t;rw[Ek];simp only[vC,zN,wB];cases hd:ds[t]? with
   |none=>exact⟨[],.of (.any _),by simp⟩
   |some x=>
    obtain⟨u,k1,k2⟩:=hargs t x hd;refine⟨[],?_,by simp⟩;have hlt:t<args.length:=(aF.1 k1).1;have:(args.toArray++Array.replicate (fn.ntmps-args.toArray.size) undef).getD t undef=u:=by
     rw[cF,eZ (by simpa using hlt)];simp[k1]
    rw[this];exact k2
  ·intro j o hj;cases j with
   |zero=>
    simp at hj;subst hj;exact⟨hsz,hrl,v,cs,[],hk0,hown,hrd,fun g hg=>by simp only[Θ];rw[bK hg],by simp⟩
   |succ j=>simp at hj
  ·intro b hb';simp only[Θ]at hb';split at hb'
   ·rename_i hv;exact hlt b hv
   ·split at hb'
    ·assumption
    ·exact absurd rfl hb'
  ·intro b hb' hx;refine⟨rfl,?_⟩;have hx':¬v.ownBlock=some b:=hx;simp only[Θ];rw[az hx'];split<;>omega
  ·intro b hb';simp only[Θ]at hb';split at hb'
   ·rename_i hv;exact .inr hv
   ·split at hb'<;>omega
  ·intro id e' sz' fo hj;cases id with
   |zero=>
    simp at hj;obtain⟨rfl,rfl,rfl⟩:=hj;exact⟨v,cs,[],hk0,hown,hrd,by simp,by simp⟩
   |succ j=>simp at hj
  ·intro id o hj;cases id with
   |zero=>simp at hj;subst hj;exact KO.xF rfl
   |succ j=>simp at hj
 refine wp_mono (h CX Γ rfl _ _ _ _ hs) ?_;rintro x a' w' ⟨Mx,κ0,Θ0,hs0,Wl⟩;obtain⟨Ay,hdf,hst,u,bs,ts,us,hrun,hres,No⟩:=OJ.out hs0 Wl;have Jz:∃u cs',(results fn a'.tmps).run P w'=.ok u w'/\u.oneCell'=true/\(∀r∈dN,r.length=sz)/\w'.ownsRow 0 e sz u dN.length cs'/\l6 w' cs' dN.flatten []/\(∀g,u.ownBlock=some g->w.heap.size<=g\/v.ownBlock=some g)/\
  w'.os=w.os/\w'.tape=w.tape/\w'.output=w.output/\w.heap.size<=w'.heap.size/\∀b,b<w.heap.size->v.ownBlock≠some b->w'.heap[b]?=w.heap[b]?:=by
  cases hres with
  |v hv=>
   cases hv with
   |cell hc=>
    cases hc with
    |pure hc=>cases hc
    |fr _ _ _ cs' ns h1 h2 h3 h4 h5=>
     have:=h4.flat hfl;subst this;exact⟨u,cs',hrun,h5,h2,h3,h4,fun g hg=>No g (by simp[hg]),hst.os,hst.tape,hst.output,hst.size,fun b hb' hx=>hst.block b hb' hx⟩
 obtain⟨u,cs',q1,q2⟩:=Jz;have post:a'.defers=[]/\∃v',(results fn a'.tmps).run P w'=.ok v' w'/\∃v2 cs2,Ending.returned v'=.returned v2/\v2.oneCell'=true/\(∀r∈dN,r.length=sz)/\w'.ownsRow 0 e sz v2 dN.length cs2/\l6 w' cs2 dN.flatten []/\(∀g,v2.ownBlock=some g->w.heap.size<=g\/v.ownBlock=some g)/\
  w'.os=w.os/\w'.tape=w.tape/\w'.output=w.output/\w.heap.size<=w'.heap.size/\∀b,b<w.heap.size->v.ownBlock≠some b->w'.heap[b]?=w.heap[b]?:=⟨hdf,u,q1,u,cs',rfl,q2⟩
 rcases Ay with rfl|rfl
 ·exact post
 ·exact post
theorem Va{o:Oper}{f t id:Nat}{xs:Array Operand}{ts:Array TypeId}{e sz:Nat}{rows dN:List aP}(hop:o.op=.call {callee:=.value (.func f),args:=xs,argTypes:=ts})(hd:o.dst=some t)(hg:o.guard=none)
 (ht:t<Γ.nt) (hH:st.H[id]?=some (.row .uq e sz rows)) (hfl:rows.flatten.all D.flat=true) (hb:((xs.toList.map st.ev).all D.bare)=true) (nL:GJ P f ((xs.toList.map st.ev).map (D.Tr [id])) e sz rows dN)
 (h:AO P Γ all rest Q ⟨(t,.acc st.H.length)::st.σ,kill st.H [id]++[.row .uq e sz dN]⟩):AO P Γ all (o::rest) Q st:=by
 intro κ Θ a w hs;obtain⟨hsz,hrl,v,cs,bs,hk,hown,hrd,Ed,_⟩:=hs.ob id _ hH;have Eb:=hrd.flat hfl;subst Eb;have UT:id<st.H.length:=(aF.1 hH).1;let κc:Nat->Option Value:=fun j=>if j=0 then some v else none
 have Od:N9 w fun b=>v.ownBlock=some b:=by
  obtain⟨B,v1,v2⟩:=hs.vsb;refine⟨B,v1,fun b hB=>⟨(v2 b hB).2.1,fun hb'=>?_⟩⟩;have e1:=Ed b hb';rcases hs.mine b (by omega)with q|q
  ·have:=(v2 b hB).1;omega
  ·exact(v2 b hB).2.2 q
 have hargs:∀(i:Nat) d,((xs.toList.map st.ev).map (D.Tr [id]))[i]?=some d->∃u,(xs.toList.map a.eval)[i]?=some u/\rW w κc u d []:=by
  intro i d Hr;rw[bt,bt]at Hr;cases hx:xs.toList[i]? with
  |none=>rw[hx]at Hr;cases Hr
  |some x=>
   rw[hx]at Hr;simp only[cU,aq]at Hr;subst Hr;refine⟨a.eval x,by rw[bt,hx];rfl,?_⟩;obtain⟨bs,r,hz⟩:=hs.ev x;have WR:(st.ev x).bare=true:=aj.1 hb _ (bu.2 ⟨x,aE hx,rfl⟩);obtain⟨b',r',_⟩:=rW.rn (o:=[id]) (κ':=κc) (Θ:=fun _=>0) (Θ':=fun _=>0) (fun i j u h1 h2=>by
    have h3:=P7 h1;cases j with
    |zero=>simp at h3;subst h3;rw[hk]at h2;simpa[κc]using h2
    |succ j=>simp at h3) (fun _ _=>rfl) r (fun _ _=>rfl)
   have:=r'.TA (D.TB [id] WR);subst this;exact r'
 have hc:=nL.2 w κc (xs.toList.map a.eval) v cs Od (by simp) hargs (by simp[κc]) (fun i hi=>by simp only[κc];rw[az (by omega)]) (hs.oM id v hk) hsz hrl hown hrd;refine wpList_plain hg fun K hK=>?_
 unfold Oper.wp;rw[wR hop nL.1,Oper.upon_enter];have e0:xs.map a.eval=(xs.toList.map a.eval).toArray:=by rw[<-gu,k8]
 rw[e0];refine hc.mono ?_;rintro x w' ⟨v',cs',rfl,hone,L6,It,M6,LH,h1,h2,h3,h4,M0⟩;show K (a.put o.dst v') w';rw[hd];let n:=st.H.length
 let Θ':Nat->Nat:=fun b=>if some b=v'.ownBlock then n+2 else Θ b
 have Z5:∀g,v'.ownBlock=some g->Θ g=id+2\/w.heap.size<=g:=by
  intro g US;rcases LH g US with h|h
  ·exact .inr h
  ·exact .inl (Ed g h)
 have k:iy w w' Θ Θ' (id+2):=by
  refine⟨by omega,h1,h2,h3,h4,fun b hb hne=>M0 b hb (fun e=>hne (Ed b e)),fun b hb hne=>?_,fun b hb=>?_⟩
  ·simp only[Θ'];rw[az];intro e;rcases Z5 b e.symm with h|h
   ·exact hne h
   ·omega
  ·simp only[Θ']at hb;split at hb
   ·rename_i e;exact(It.lt b e.symm).2
   ·exact dS (hs.own b hb) h4
 have hm:∀b,2<=Θ' b->yH Γ b:=by
  intro b hb;simp only[Θ']at hb;split at hb
  ·rename_i e;rcases Z5 b e.symm with h|h
   ·exact hs.mine b (by omega)
   ·exact .inl (dY hs.base h)
  ·exact hs.mine b hb
 have hn:=xQ (hs.pK n (bR _)) (some v');obtain⟨ρ,hu⟩:=hs.tJ;have tI:=hs.oF k hn hu;have key:∀(j:Nat) y,(kill st.H [id]++[.row .uq e sz dN])[j]?=some y->(j=n/\y=.row .uq e sz dN)\/(j≠n/\(y=.gone\/(j∉[id]/\st.H[j]?=some y))):=by
  intro j y hj;rcases Bp j y hj with⟨h1,h2⟩|⟨h1,h2⟩
  ·rw[fm]at h1;exact .inl ⟨h1,h2⟩
  ·rw[fm]at h1;exact .inr ⟨h1,oD h2⟩
 have hs':dl Γ ⟨st.σ,kill st.H [id]++[.row .uq e sz dN]⟩ (yD κ n (some v')) Θ' a w':=by
  refine hs.step k hm hn ?_ ?_ ?_ ⟨ρ,tI.1,fun j e' sz' fo hj=>?_,fun j y hj=>?_⟩
  ·intro i hi;simp only[bC,aV,br,fm]at hi;unfold yD;rw[az (by omega)];exact hs.pK i (by omega)
  ·intro i y hy;unfold yD at hy;split at hy
   ·cases hy;exact hone
   ·exact hs.oM i y hy
  ·intro j y hj;rcases key j y hj with⟨rfl,rfl⟩|⟨_,hy|⟨hjk,hy⟩⟩
   ·exact .inr (.inr ⟨hsz,L6,v',cs',[],lP _ _ _,It,M6,fun g US=>by simp only[Θ'];rw[bK US.symm],by simp⟩)
   ·exact .inl hy
   ·exact .inr (.inl ⟨fun e=>hjk (by simp;omega),hy⟩)
  ·rcases key j _ hj with⟨rfl,hy⟩|⟨_,hy|⟨hjk,hy⟩⟩
   ·simp only[Ob.row.injEq,sA]at hy;obtain⟨rfl,rfl,rfl⟩:=hy;exact⟨v',cs',[],lP _ _ _,It,M6,by simp,by simp⟩
   ·cases hy
   ·exact tI.2.1 j e' sz' fo (fun e=>hjk (by simp;omega)) hy
  ·rcases key j _ hj with⟨rfl,hy⟩|⟨_,hy|⟨hjk,hy⟩⟩
   ·subst hy;exact KO.xF rfl
   ·subst hy;trivial
   ·exact tI.2.2 j y (fun e=>hjk (by simp;omega)) hy
 refine hK _ _ (h _ _ _ _ (hs'.set (t:=t) (d:=.acc n) (bs:=[]) ht ?_ (by simp)));exact(zC.acc n _ (lP _ _ _)).PT
end
end Go.Cx
namespace Go.Cx
open Go.RowKit
def kA(P:Program)(f:FuncId)(cells cells':aP)(ds:aP)(d:D):Prop:=
 (∃fn,P.funcs[f]?=some fn/\fn.body.isSome=true/\(fn.name== "runtime.NumGoroutine")=false)/\
 ∀(w:World) (Θ:Nat->Nat) (g:Nat) (cs:Array Value) (T:TypeId) (args:bw) (bs ts us:aX),
  N9 w (fun b=>b=g\/b∈ts)->w.heap[g]?=some (.cells cs T (0,0))->AS w (.agg cs::args) (.agg cells::ds) bs ts us->
  (∀b∈bs,Θ b=0)->(∀b,Θ b≠0->b<w.heap.size)->(∀b,Θ b<=1)->Θ g=1->(∀b∈ts,Θ b=1/\b∈us/\b≠g)->us.Nodup->(∀b∈us,(b∉ts->Θ b=0)/\Wr w b)->
  Calls P f (.pointer (some ⟨g,0,none⟩)::args).toArray w (fun e w'=>∃v cs' T' b2 t2 u2 b3 t3 u3,e=.returned v/\w'.os=w.os/\w'.tape=w.tape/\w'.output=w.output/\w.heap.size<=w'.heap.size/\
   (∀b,b<w.heap.size->b≠g->b∉ts->w'.heap[b]?=w.heap[b]?)/\w'.heap[g]?=some (.cells cs' T' (0,0))/\
   zQ w' v d b2 t2 u2/\tW w' cs'.toList cells' b3 t3 u3/\(∀b∈b3++b2,(b<w.heap.size->Θ b=0\/b∈ts)/\b≠g/\b∉t3++t2)/\(u3++u2).Nodup/\
   (∀b∈u3++u2,(w.heap.size<=b\/b∈us)/\b≠g/\Wr w' b)/\∀b∈t3++t2,b∈u3++u2/\(w.heap.size<=b\/b∈ts))
section
variable{P:Program}{Γ:ul}{Q:Exit->St->Prop}{st:St}{κ κ':Nat->Option Value}{Θ Θ':Nat->Nat}{a:Act}{w w':World}{all:Array Oper}{rest:List Oper}
theorem FJ.Vp{cs:Array Value}{ds:aP}{bs ts us:aX}(h:FJ w (.agg cs) (.agg ds) bs ts us):tW w cs.toList ds bs ts us:=by
 generalize hv:Value.agg cs=v at h;cases h with
 |cell h=>
  cases h with
  |pure h=>
   cases h with
   |agg l _ _ h=>cases hv;simpa using tW.Co h
 |agg l _ _ _ _ h=>cases hv;simpa using h
theorem LV.Vp{cs:Array Value}{ds:aP}{bs:aX}(h:LV w κ (.agg cs) (.agg ds) bs):fS w κ cs.toList ds bs:=by
 generalize hv:Value.agg cs=v at h;cases h with
 |cell h=>
  cases h with
  |pure h=>
   cases h with
   |agg l _ _ h=>cases hv;simpa using fS.Co h
 |agg l _ _ h=>cases hv;simpa using h
theorem FI.shown{v:Value}{d:D}{bs ts us:aX}(h:FI w v d bs ts us):∃b,Rd w v d.Z9 b:=by
 cases h with
 |pure h=>
  have e:d.Z9=d:=by cases h<;>rfl
  exact⟨_,e.symm▸h⟩
 |fr e sz rows cs ns h1 h2 h3 h4 h5=>exact⟨_,vT h2 h3 h4⟩
theorem tW.shown{vs:bw}{ds:aP}{bs ts us:aX}(h:tW w vs ds bs ts us):∃b,l6 w vs (ds.map D.Z9) b:=by
 induction h with
 |nil=>exact⟨_,.nil⟩
 |cons v vs d ds b1 b2 t1 t2 u1 u2 h1 h2 _ ih=>
  obtain⟨b,q⟩:=h2.shown;obtain⟨b',q'⟩:=ih;exact⟨_,.cons _ _ _ _ _ _ h1 q q'⟩
theorem FJ.shown{v:Value}{d:D}{bs ts us:aX}(h:FJ w v d bs ts us):ij d.YQ:=by
 cases h with
 |cell h=>
  by_cases tO:∃ds,d=.agg ds
  ·obtain⟨ds,rfl⟩:=tO;cases h with
   |pure h=>cases h with
    |agg cs _ _ h=>
     obtain⟨b,q⟩:=(tW.Co h).shown;exact⟨w,_,_,.agg _ _ _ q⟩
  ·have e:d.YQ=d.Z9:=by cases d<;>first|rfl|exact absurd ⟨_,rfl⟩ tO
   rw[e];obtain⟨b,q⟩:=h.shown;exact⟨w,_,_,q⟩
 |agg cs ds bs ts us h=>
  obtain⟨b,q⟩:=h.shown;exact⟨w,_,_,.agg _ _ _ q⟩
theorem AS.shown{vs:bw}{ds:aP}{bs ts us:aX}(h:AS w vs ds bs ts us):∀d∈ds.map D.YQ,ij d:=by
 induction h with
 |nil=>intro d hd;cases hd
 |cons v vs d ds b1 b2 t1 t2 u1 u2 h2 _ ih=>
  intro x hx;rcases bB.1 hx with rfl|hx
  ·exact h2.shown
  ·exact ih x hx
def Kp(L:o8)(b:Nat):Option Nat:=ix (fun x:Fs=>x.v.ownBlock==some b) L
def tK(L:o8)(b:Nat):Option Nat:=ix (fun x:Fs=>x.ns.contains b) L
theorem JI{L:o8}(hnd:(L.flatMap Fs.bl).Nodup){i:Nat}{x:Fs}{b:Nat}(hi:L[i]?=some x)(hb:x.v.ownBlock=some b):Kp L b=some i:=
 Ef hi (by simp[hb]) (fun j y hj hy=>by
  simp only[cq]at hy;exact vn hnd j i y x b hj hi (by simp[Fs.bl,hy]) (by simp[Fs.bl,hb]))
theorem Sm{L:o8}{b i:Nat}(h:Kp L b=some i):b∈L.flatMap Fs.ts:=by
 obtain⟨x,hx,hp⟩:=z7 h;exact bg.2 ⟨x,aE hx,by simp only[cq]at hp;simp[Fs.ts,hp]⟩
theorem xH{L:o8}{b:Nat}(h:b∉L.flatMap Fs.ts):Kp L b=none:=by
 cases hb:Kp L b with
 |none=>rfl
 |some i=>exact absurd (Sm hb) h
theorem C5{L:o8}(hnd:(L.flatMap Fs.bl).Nodup){i:Nat}{x:Fs}{b:Nat}(hi:L[i]?=some x)(hb:b∈x.ns):tK L b=some i:=
 Ef hi (by simpa using hb) (fun j y hj hy=>vn hnd j i y x b hj hi (by simp only[Fs.bl];exact af.2 (.inr (by simpa using hy))) (by simp only[Fs.bl];exact af.2 (.inr hb)))
theorem uE{L:o8}{b i:Nat}(h:tK L b=some i):∃x,L[i]?=some x/\b∈x.ns:=by
 obtain⟨x,hx,hp⟩:=z7 h;exact⟨x,hx,by simpa using hp⟩
theorem Di{L:o8}{b:Nat}(h:b∈L.flatMap Fs.ts):b∈L.flatMap Fs.bl:=by
 obtain⟨x,hx,B8⟩:=bg.1 h;exact bg.2 ⟨x,hx,by simp only[Fs.bl,Fs.ts]at B8⊢;exact af.2 (.inl B8)⟩
theorem sB{L:o8}{i b:Nat}{x:Fs}(h:L[i]?=some x)(hb:b∈x.ns):b∈L.flatMap Fs.bl:=
 bg.2 ⟨x,aE h,by simp only[Fs.bl];exact af.2 (.inr hb)⟩
theorem Q4{L:o8}(hnd:(L.flatMap Fs.bl).Nodup):∀x∈L,x.bl.Nodup:=by
 induction L with
 |nil=>intro x hx;cases hx
 |cons z r ih=>
  intro x hx;simp only[cH]at hnd;obtain⟨n1,n2,_⟩:=bM.1 hnd;rcases bB.1 hx with rfl|hx
  ·exact n1
  ·exact ih n2 x hx
theorem CY{L:o8}(hnd:(L.flatMap Fs.bl).Nodup){i b:Nat}{x:Fs}(h:L[i]?=some x)(hb:b∈x.ns):b∉L.flatMap Fs.ts:=by
 intro ht;obtain⟨y,hy,hby⟩:=bg.1 ht;obtain⟨j,hj⟩:=dZ hy;have:=vn hnd j i y x b hj h (by simp only[Fs.bl,Fs.ts]at hby⊢;exact af.2 (.inl hby)) (by simp only[Fs.bl];exact af.2 (.inr hb));subst this;rw[hj]at h;cases h;have K3:=Q4 hnd x hy;simp only[Fs.bl]at K3;exact(bM.1 K3).2.2 b hby b hb rfl
theorem J6{L:o8}(hnd:(L.flatMap Fs.bl).Nodup){i:Nat}{x:Fs}(h:L[i]?=some x):x.ns.Nodup:=by
 have:=Q4 hnd x (aE h);simp only[Fs.bl]at this;exact(bM.1 this).2.1
def Vl(P:Program)(fn:Func)(v0:Value)(cells':aP)(d:D)(e:Exit)(st:St):Prop:=
 (e=.ret\/e=.normal)/\∃nz Zk OQ es ms qs,GX P st fn.results.toList=some Zk/\st.H[0]?=some (.DU OQ v0)/\
  A7 st.H nz (.agg OQ::Zk)=some (.agg cells'::es,ms,qs)/\ms.Nodup/\qs.Nodup/\JA es=d
theorem Vl.out{fn:Func}{v0:Value}{cells':aP}{d:D}{e:Exit}{a':Act}{w':World}{Mx:St}{κ0:Nat->Option Value}{Θ0:Nat->Nat}(hs0:dl Γ Mx κ0 Θ0 a' w')(Wl:Vl P fn v0 cells' d e Mx):
 (e=.ret\/e=.normal)/\a'.defers=[]/\Pp Γ w'/\∃v g cs' T b2 t2 u2 b3 t3 u3,(results fn a'.tmps).run P w'=.ok v w'/\v0=.pointer (some ⟨g,0,none⟩)/\w'.heap[g]?=some (.cells cs' T (0,0))/\
  zQ w' v d b2 t2 u2/\tW w' cs'.toList cells' b3 t3 u3/\(∀b∈b3++b2,(b<Γ.W0.heap.size->¬Γ.X b->Γ.Θ0 b=0)/\b≠g/\b∉t3++t2)/\(u3++u2).Nodup/\
  (∀b∈u3++u2,Sz Γ b/\b≠g/\Wr w' b)/\∀b∈t3++t2,b∈u3++u2/\yH Γ b:=by
 obtain⟨Ay,nz,Zk,OQ,es,ms,qs,hres,hH0,Wm,M5,K4,rfl⟩:=Wl;obtain⟨ρ0,Zw⟩:=hs0.tJ;have AM:=vo Wm;obtain⟨Θ1,ρ1,hs1,hu1,hm1,NJ,UU⟩:=dl.FB ms hs0 Zw M5 (fun m hm=>by
  obtain⟨e,sz,rows,hH⟩:=AM.1 m hm;exact⟨_,e,sz,rows,hH,rfl⟩)
 obtain⟨vs,bs',m1,m2,m3,m4,m5⟩:=Br hs0 hres;have hq:∀m e sz rows,Mx.H[m]?=some (.row .uq e sz rows)->∃v cs ns,κ0 m=some v/\0<sz/\(∀r∈rows,r.length=sz)/\w'.ownsRow 0 e sz v rows.length cs/\l6 w' cs rows.flatten ns/\ns.Nodup/\(∀b∈ns,ρ1 b=m+1)/\∀g,v.ownBlock=some g->Θ1 g=m+2:=by
  intro m e sz rows hH;have hnm:m∉ms:=fun hm=>by
   obtain⟨e',sz',dN,DS⟩:=AM.1 m hm;rw[hH]at DS;cases DS
  have Mu:(kill Mx.H ms)[m]?=some (.row .uq e sz rows):=by rw[gM hnm];exact hH
  obtain⟨v,cs,ns,r1,r2,r3,r4,r5⟩:=hu1.rows m e sz rows Mu;obtain⟨p1,p2,v2,_,_,p3,_,_,p4,_⟩:=hs1.ob m _ Mu;rw[r1]at p3;cases p3;exact⟨v,cs,ns,r1,p1,p2,r2,r3,r4,r5,p4⟩
 have h0m:0∉ms:=fun hm=>by
  obtain⟨e',sz',dN,DS⟩:=AM.1 0 hm;rw[hH0]at DS;cases DS
 have h0q:0∉qs:=fun hm=>by
  obtain⟨e',sz',dN,DS⟩:=AM.2 0 hm;rw[hH0]at DS;cases DS
 obtain⟨hv0,g,cs',T,hk0,hg,Og,bb,hbb,hbz⟩:=hs1.ob 0 _ (show(kill Mx.H ms)[0]?=_ by rw[gM h0m];exact hH0);have e0:v0=.pointer (some ⟨g,0,none⟩):=by rw[hv0]at hk0;cases hk0;rfl
 have Og:Θ1 g=2:=Og;obtain⟨c,tt,uu,Bj,zw⟩:=zG (w:=w') (vs:=.agg cs'::vs) (fun b hb=>(hu1.free b hb).1) hq hs0.oM Wm K4 (by simp;omega) (fun i d hd=>by
  cases i with
  |zero=>
   simp at hd;subst hd;have:=LV.agg _ _ _ hbb;exact⟨_,bb,rfl,.v (by simpa using this),hbz⟩
  |succ i=>
   obtain⟨v,b,k1,k2,k3⟩:=m4 i d (by simpa using hd);exact⟨v,b,by simpa using k1,k2,fun x hx=>NJ x (m5 x (k3 x hx))⟩) hm1
 cases Bj with
 |cons _ _ _ _ b3 b2 t3 t2 u3 u2 Zn sS=>
 have Jz:∃v,(results fn a'.tmps).run P w'=.ok v w'/\zQ w' v (JA es) b2 t2 u2:=by
  have hrun:(results fn a'.tmps).run P w'=.ok (if h:vs.toArray.size=1 then vs.toArray[0]else .tuple vs.toArray) w':=by
   rw[results_eq,mL];simp[m1]
  cases sS with
  |nil=>exact⟨.tuple #[],by simpa using hrun,.iE [] [] [] [] [] .nil⟩
  |cons v vs d es b1 b2 t1 t2 u1 u2 hv sS=>
   cases sS with
   |nil=>
    simp only[dA];exact⟨v,by simpa using hrun,.v hv⟩
   |cons v2 vs d2 es b3 b4 t3 t4 u3 u4 GS sS=>exact⟨.tuple (v::v2::vs).toArray,by simpa using hrun,.iE _ _ _ _ _ (.cons _ _ _ _ _ _ _ _ _ _ hv (.cons _ _ _ _ _ _ _ _ _ _ GS sS))⟩
 obtain⟨v,S5,NH⟩:=Jz;have Ed:∀b∈t3++t2,Wr w' b:=by
  intro b hb;rcases af.1 hb with hb|hb
  ·exact LX Zn b hb
  ·exact LW NH b hb
 refine⟨Ay,hs0.defers,hs0.stays,v,g,cs',T,b2,t2,u2,b3,t3,u3,S5,e0,hg,NH,Zn.Vp,fun b hb=>⟨fun hlt hx=>?_,fun e=>?_,fun ht=>?_⟩,zw.nd,fun b hb=>?_,fun b hb=>?_⟩
 ·have:=zw.zero b hb;rw[<-(hs1.old b hlt hx).1];exact this
 ·have:=zw.zero b hb;subst e;omega
 ·obtain⟨⟨m,_,hΘ⟩,_⟩:=zw.top b ht;have:=zw.zero b hb;omega
 ·rcases zw.mem b hb with h|⟨m,hm,hρ⟩
  ·obtain⟨⟨m,hm,hΘ⟩,_⟩:=zw.top b h;refine⟨.inl (hs1.mine b (by omega)),fun e=>?_,Ed b h⟩;subst e;rw[Og]at hΘ;have:m=0:=by omega
   subst this;exact h0q hm
  ·have:=hu1.free b (by omega);refine⟨this.2.1,fun e=>?_,this.2.2⟩;have h0:=this.1;subst e;omega
 ·obtain⟨⟨m,hm,hΘ⟩,h2⟩:=zw.top b hb;exact⟨h2,hs1.mine b (by omega)⟩
theorem C3.len{vs:bw}{ds:aP}{bs:aX}(h:C3 w κ vs ds bs):vs.length=ds.length:=by
 induction h with
 |nil=>rfl
 |cons v vs d ds b1 b2 h1 _ ih=>simp[ih]
theorem kA.of{f:FuncId}{fn:Func}{c:Code}{cells cells' Dk ds Mt:aP}{obs:bW}{d:D}(hf:P.funcs[f]?=some fn)(hb:fn.body=some c)(hn:(fn.name== "runtime.NumGoroutine")=false)
 (hI:zz 1 (.agg cells::ds)=(.agg Dk::Mt,obs)) (hl:Mt.length+1<=fn.ntmps)
 (h:(∀x∈(D.agg cells::ds).map D.YQ,ij x)->∀(v0:Value) (Γ:ul),Γ.nt=fn.ntmps->AW P Γ c (Vl P fn v0 cells' d) ⟨wY 0 (.ptr 0 0::Mt),.DU Dk v0::obs⟩):kA P f cells cells' ds d:=by
 refine⟨⟨fn,hf,by simp[hb],hn⟩,?_⟩;intro w Θ g cs T args bs ts us hvs hg hargs hz hown h1 hg1 hts hnd tI;have S6:=hargs.shown;obtain⟨L,q1,q2,rfl,rfl,q5⟩:=hargs.inst 1;rw[hI]at q1 q5;have q1:L.map Fs.ob=obs:=q1;refine calls_of_wp hf hb ?_;let v0:Value:=.pointer (some ⟨g,0,none⟩)
 let κ0:Nat->Option Value:=fun i=>if i=0 then some v0 else(L[i-1]?).map Fs.v
 let Θ0:Nat->Nat:=fun b=>if b=g then 2 else match Kp L b with|some i=>i+3|none=>Θ b
 let ρ0:Nat->Nat:=fun b=>match tK L b with|some i=>i+2|none=>0
 let Γ:ul:=⟨w,Θ0,fun b=>b=g\/b∈L.flatMap Fs.ts,fn.ntmps,fun b=>b∈L.flatMap Fs.bl,hvs⟩
 have hgl:g<w.heap.size:=(bI.1 hg).1;have hk0:κ0 0=some v0:=rfl;have hkS:∀i x,L[i]?=some x->κ0 (i+1)=some x.v:=fun i x hx=>by simp[κ0,hx]
 have hnm:Names κ0 1 L:=fun i x hx=>by rw[Nat.add_comm];exact hkS i x hx
 have hrd:=q5 κ0 hnm;have hlen:=hrd.len;have a1P:∀(i:Nat) x b,L[i]?=some x->x.v.ownBlock=some b->b∈L.flatMap Fs.ts:=fun i x b hx hb'=>bg.2 ⟨x,aE hx,by simp[Fs.ts,hb']⟩
 have S7:∀(i:Nat) x b,L[i]?=some x->x.v.ownBlock=some b->Θ0 b=i+3:=by
  intro i x b hx hb';have:=(hts b (a1P i x b hx hb')).2.2;simp only[Θ0,JI hnd hx hb'];rw[az this]
 have UW:∀b,Θ b=0->Θ0 b=0:=by
  intro b h0;have e1:b≠g:=fun e=>by subst e;omega
  have e2:b∉L.flatMap Fs.ts:=fun e=>by have:=(hts b e).1;omega
  simp only[Θ0,xH e2];rw[az e1,h0]
 have Wg:∀(i:Nat) x b,L[i]?=some x->b∈x.ns->Θ0 b=0:=fun i x b hx hb'=>UW b ((tI b (sB hx hb')).1 (CY hnd hx hb'))
 have zy:∀b,Θ0 b≠Θ b->b=g\/b∈L.flatMap Fs.ts:=by
  intro b hne;by_cases e:b=g
  ·exact .inl e
  ·refine .inr (dO fun ht=>hne ?_);simp only[Θ0,xH ht];rw[az e]
 have Rx:∀(j:Nat) o,obs[j]?=some o->∃x,L[j]?=some x/\o=x.ob:=by
  intro j o hj;rw[<-q1,bt]at hj;cases hx:L[j]? with
  |none=>simp[hx]at hj
  |some x=>simp[hx]at hj;exact⟨x,rfl,hj.symm⟩
 have a30:obs.length=L.length:=by rw[<-q1];simp
 have Zn:∃b',fS w κ0 cs.toList Dk b'/\∀b∈b',Θ0 b=0:=by
  obtain⟨v,b',k1,k2,k3⟩:=hrd.at (i:=0) (d:=.agg Dk) rfl;simp at k1;subst k1;exact⟨b',k2.Vp,fun b hb'=>UW b (hz b (k3 b hb'))⟩
 have hs:dl Γ ⟨wY 0 (.ptr 0 0::Mt),.DU Dk v0::obs⟩ κ0 Θ0 {tmps:=(v0::args).toArray++Array.replicate (fn.ntmps-(v0::args).toArray.size) undef,defers:=[]} w:=by
  refine⟨rfl,?_,fun i hi=>?_,?_,?_,?_,?_,?_,?_,⟨rfl,rfl,rfl,bR _,fun _ _ _=>rfl⟩,⟨ρ0,?_,?_,?_⟩⟩
  ·simp only[aV]at hlen;simp[Γ];omega
  ·simp only[aV]at hi;simp only[κ0];rw[az (by omega),cM (by omega)];rfl
  ·intro id u hu;simp only[κ0]at hu;split at hu
   ·cases hu;rfl
   ·cases hx:L[id-1]? with
    |none=>simp[hx]at hu
    |some x=>simp[hx]at hu;subst hu;exact(q2 x (aE hx)).2.2.2.2
  ·intro t;rw[Ek];simp only[vC,zN,wB];have TY:∀v,(v0::args)[t]?=some v->((v0::args).toArray++Array.replicate (fn.ntmps-(v0::args).toArray.size) undef).getD t undef=v:=by
    intro v hv;have hlt:=(aF.1 hv).1;rw[cF,eZ (by simpa using hlt)];simp only[jW,hv,uC]
   cases t with
   |zero=>
    refine⟨[],?_,by simp⟩;rw[TY v0 rfl];exact .v (.cell (.ptr 0 0 g hk0))
   |succ s=>
    rw[gB];cases hd:Mt[s]? with
    |none=>exact⟨[],.of (.any _),by simp⟩
    |some x=>
     obtain⟨v,b',k1,k2,k3⟩:=hrd.at (i:=s+1) (d:=x) (by simpa using hd);rw[TY v (by simpa using k1)];exact⟨b',.v k2,fun b hb'=>UW b (hz b (k3 b hb'))⟩
  ·intro j o hj;cases j with
   |zero=>
    simp at hj;subst hj;obtain⟨b',k1,k2⟩:=Zn;exact⟨hk0,g,cs,T,hk0,hg,by simp[Θ0],b',k1,k2⟩
   |succ j=>
    obtain⟨x,hx,rfl⟩:=Rx j o (by simpa using hj);obtain⟨p1,p2,p3,p4,_⟩:=q2 x (aE hx);exact⟨p1,p2,x.v,x.cs,x.ns,hkS j x hx,p3,p4,fun b hb'=>S7 j x b hx hb',fun b hb'=>Wg j x b hx hb'⟩
  ·intro b hb';by_cases e:Θ0 b=Θ b
   ·exact hown b (by rw[<-e];exact hb')
   ·rcases zy b e with rfl|ht
    ·exact hgl
    ·exact hown b (by have:=(hts b ht).1;omega)
  ·intro b hlt hx;refine⟨rfl,?_⟩;have e:Θ0 b=Θ b:=dO fun e=>hx (zy b e)
   rw[e];exact h1 b
  ·intro b hb';refine .inr (zy b fun e=>?_);have:=h1 b;omega
  ·intro b hb';cases VO:tK L b with
   |none=>simp[ρ0,VO]at hb'
   |some i=>
    obtain⟨x,hx,B8⟩:=uE VO;exact⟨Wg i x b hx B8,.inr (sB hx B8),(tI b (sB hx B8)).2⟩
  ·intro id e sz rows hj;cases id with
   |zero=>simp at hj
   |succ j=>
    obtain⟨x,hx,Rz⟩:=Rx j _ (by simpa using hj);simp only[Fs.ob,Ob.row.injEq,sA]at Rz;obtain⟨rfl,rfl,rfl⟩:=Rz;obtain⟨p1,p2,p3,p4,_⟩:=q2 x (aE hx);exact⟨x.v,x.cs,x.ns,hkS j x hx,p3,p4,J6 hnd hx,fun b hb'=>by simp[ρ0,C5 hnd hx hb']⟩
  ·intro id o hj;cases id with
   |zero=>simp at hj;subst hj;trivial
   |succ j=>
    obtain⟨x,hx,Rz⟩:=Rx j _ (by simpa using hj);subst Rz;exact KO.xF rfl
 refine wp_mono (h S6 v0 Γ rfl _ _ _ _ hs) ?_;rintro x a' w' ⟨Mx,κ1,Θ1,hs0,Wl⟩;obtain⟨Ay,hdf,hst,v,g',cs',T',b2,t2,u2,b3,t3,u3,hrun,e0,hg',hres,a8I,a8C,GC,wS,ht'⟩:=Vl.out hs0 Wl;obtain rfl:g=g':=by
  have e1:Value.pointer (some ⟨g,0,none⟩)=.pointer (some ⟨g',0,none⟩):=e0;cases e1;rfl
 have post:a'.defers=[]/\∃v',(results fn a'.tmps).run P w'=.ok v' w'/\∃v cs' T' b2 t2 u2 b3 t3 u3,Ending.returned v'=.returned v/\w'.os=w.os/\w'.tape=w.tape/\w'.output=w.output/\w.heap.size<=w'.heap.size/\
  (∀b,b<w.heap.size->b≠g->b∉L.flatMap Fs.ts->w'.heap[b]?=w.heap[b]?)/\w'.heap[g]?=some (.cells cs' T' (0,0))/\
  zQ w' v d b2 t2 u2/\tW w' cs'.toList cells' b3 t3 u3/\(∀b∈b3++b2,(b<w.heap.size->Θ b=0\/b∈L.flatMap Fs.ts)/\b≠g/\b∉t3++t2)/\(u3++u2).Nodup/\
  (∀b∈u3++u2,(w.heap.size<=b\/b∈L.flatMap Fs.bl)/\b≠g/\Wr w' b)/\∀b∈t3++t2,b∈u3++u2/\(w.heap.size<=b\/b∈L.flatMap Fs.ts):=by
  refine⟨hdf,v,hrun,v,cs',T',b2,t2,u2,b3,t3,u3,rfl,hst.os,hst.tape,hst.output,hst.size,fun b hlt hne hnt=>hst.block b hlt (fun hx=>hx.elim hne hnt),hg',hres,a8I,fun b hb'=>?_,GC,fun b hb'=>?_,fun b hb'=>?_⟩
  ·obtain⟨k1,k2,k3⟩:=a8C b hb';refine⟨fun hlt=>?_,k2,k3⟩;by_cases ht:b∈L.flatMap Fs.ts
   ·exact .inr ht
   ·refine .inl ?_;have:=k1 hlt (fun hx=>hx.elim k2 ht);have e:Θ0 b=Θ b:=dO fun e=>(zy b e).elim k2 ht
    rw[<-e];exact this
  ·obtain⟨k1,k2,k3⟩:=wS b hb';refine⟨?_,k2,k3⟩;rcases k1 with(k1|k1|k1)|k1
   ·exact .inl k1
   ·exact absurd k1 k2
   ·exact .inr (Di k1)
   ·exact .inr k1
  ·obtain⟨k1,k2⟩:=ht' b hb';refine⟨k1,?_⟩;have:=(wS b k1).2.1;rcases k2 with k2|k2|k2
   ·exact .inl k2
   ·exact absurd k2 this
   ·exact .inr k2
 rcases Ay with rfl|rfl
 ·exact post
 ·exact post
theorem Vb{o:Oper}{f t id:Nat}{xs:Array Operand}{ty:Array TypeId}{x0:Operand}{xr:List Operand}{ob:Ob}{Ja cells cells' ds:aP}{d:D}{nz:List (List (Option (Nat×Nat)))}{ms qs:aX}
 (hop:o.op=.call {callee:=.value (.func f),args:=xs,argTypes:=ty}) (hd:o.dst=some t) (hg:o.guard=none) (ht:t<Γ.nt)
 (hxs:xs.toList=x0::xr) (hx0:st.ev x0=.ptr id 0) (hH:st.H[id]?=some ob) (Ac:ob.UK=some Ja)
 (Ay:A7 st.H nz (.agg Ja::xr.map st.ev)=some (.agg cells::ds,ms,qs)) (M5:ms.Nodup) (K4:qs.Nodup) (nL:kA P f cells cells' ds d)
 (h:AO P Γ all rest Q ⟨(t,(oC (st.H.length+(nM st.H.length cells').2.length) d).1)::st.σ,
  (kill st.H (ms++qs)).set id (ob.re (nM st.H.length cells').1)++((nM st.H.length cells').2++(oC (st.H.length+(nM st.H.length cells').2.length) d).2)⟩):AO P Γ all (o::rest) Q st:=by
 intro κ Θ a w hs;have AM:=vo Ay;obtain⟨ρ,hu⟩:=hs.tJ;obtain⟨Θ1,ρ1,hs1,hu1,hm1,NJ,UU⟩:=dl.FB ms hs hu M5 (fun m hm=>by
  obtain⟨e,sz,rows,hH⟩:=AM.1 m hm;exact⟨_,e,sz,rows,hH,rfl⟩)
 have UT:id<st.H.length:=(aF.1 hH).1;have hnr:∀k e sz rows,st.H[id]?≠some (.row k e sz rows):=fun k e sz rows e1=>by rw[hH]at e1;cases e1;cases Ac
 have a8V:id∉ms:=fun hm=>by obtain⟨e',sz',dN,DS⟩:=AM.1 id hm;exact hnr _ _ _ _ DS
 have a8W:id∉qs:=fun hm=>by obtain⟨e',sz',dN,DS⟩:=AM.2 id hm;exact hnr _ _ _ _ DS
 have Mu:(kill st.H ms)[id]?=some ob:=by rw[gM a8V];exact hH
 have a5P:=hs1.ob id _ Mu;obtain⟨g,cs,T,hk0,Z0,Og,bb,hbb,hbz⟩:=a5P.cs Ac;have hgl:g<w.heap.size:=(bI.1 Z0).1;have hq:∀m e sz rows,st.H[m]?=some (.row .uq e sz rows)->∃v cs ns,κ m=some v/\0<sz/\(∀r∈rows,r.length=sz)/\w.ownsRow 0 e sz v rows.length cs/\l6 w cs rows.flatten ns/\ns.Nodup/\(∀b∈ns,ρ1 b=m+1)/\∀g,v.ownBlock=some g->Θ1 g=m+2:=by
  intro m e sz rows hH;have hnm:m∉ms:=fun hm=>by
   obtain⟨e',sz',dN,DS⟩:=AM.1 m hm;rw[hH]at DS;cases DS
  have Mu:(kill st.H ms)[m]?=some (.row .uq e sz rows):=by rw[gM hnm];exact hH
  obtain⟨v,cs,ns,r1,r2,r3,r4,r5⟩:=hu1.rows m e sz rows Mu;obtain⟨p1,p2,v2,_,_,p3,_,_,p4,_⟩:=hs1.ob m _ Mu;rw[r1]at p3;cases p3;exact⟨v,cs,ns,r1,p1,p2,r2,r3,r4,r5,p4⟩
 obtain⟨bs,ts,us,Bj,zw⟩:=zG (w:=w) (vs:=.agg cs::xr.map a.eval) (fun b hb=>(hu1.free b hb).1) hq hs.oM Ay K4 (by simp) (fun i d hd=>by
  cases i with
  |zero=>
   simp at hd;subst hd;have:=LV.agg _ _ _ hbb;exact⟨_,bb,rfl,.v (by simpa using this),hbz⟩
  |succ i=>
   rw[gB,bt]at hd;cases hx:xr[i]? with
   |none=>rw[hx]at hd;cases hd
   |some x=>
    rw[hx]at hd;simp only[cU,aq]at hd;subst hd;obtain⟨b,r,z⟩:=hs.ev x;exact⟨a.eval x,b,by simp[hx],r,fun y hy=>NJ y (z y hy)⟩) hm1
 let Θc:Nat->Nat:=fun b=>if Θ1 b=0 then 0 else 1
 have zy:∀b,Θc b=0↔Θ1 b=0:=fun b=>by simp only[Θc];split<;>simp_all
 have Iu:∀b∈ts,∃m∈qs,Θ1 b=m+2:=fun b hb=>(zw.top b hb).1
 have a90:∀b∈ts,b≠g:=fun b hb e=>by
  obtain⟨m,hm,hΘ⟩:=Iu b hb;subst e;rw[Og]at hΘ;exact a8W (by
   have:id=m:=by omega
   rw[this];exact hm)
 have Od:N9 w fun b=>b=g\/b∈ts:=by
  obtain⟨B,v1,v2⟩:=hs1.vsb;refine⟨B,v1,fun b hB=>⟨(v2 b hB).2.1,fun hb'=>?_⟩⟩;have hm:yH Γ b:=by
   rcases hb' with rfl|hb'
   ·exact hs1.mine b (by omega)
   ·obtain⟨m,hm,hΘ⟩:=Iu b hb';exact hs1.mine b (by omega)
  rcases hm with q|q
  ·have:=(v2 b hB).1;omega
  ·exact(v2 b hB).2.2 q
 have hwr:∀b∈us,Wr w b:=by
  intro b hb;rcases zw.mem b hb with h|⟨m,hm,hρ⟩
  ·exact JX Bj b h
  ·exact(hu1.free b (by omega)).2.2
 have hc:=nL.2 w Θc g cs T (xr.map a.eval) bs ts us Od Z0 Bj (fun b hb=>(zy b).2 (zw.zero b hb)) (fun b hb=>hs1.own b (fun e=>hb ((zy b).2 e))) (fun b=>by simp only[Θc];split<;>omega)
  (by simp only[Θc];rw[az (by omega)]) (fun b hb=>by
   obtain⟨m,hm,hΘ⟩:=Iu b hb;exact⟨by simp only[Θc];rw[az (by omega)],(zw.top b hb).2,a90 b hb⟩) zw.nd (fun b hb=>⟨fun hnt=>by
   rcases zw.mem b hb with h|⟨m,hm,hρ⟩
   ·exact absurd h hnt
   ·exact(zy b).2 (hu1.free b (by omega)).1,hwr b hb⟩)
 refine wpList_plain hg fun K hK=>?_
 unfold Oper.wp;rw[wR hop nL.1,Oper.upon_enter];have e0:xs.map a.eval=(.pointer (some ⟨g,0,none⟩)::xr.map a.eval).toArray:=by
  obtain⟨b0,r0,_⟩:=hs.ev x0;rw[hx0]at r0;obtain⟨g',hk',hv⟩:=r0.z8;rw[hk0]at hk';cases hk';rw[<-ql,gu,hxs];simp[hv]
 rw[e0];refine hc.mono ?_;rintro x w' ⟨v,cs',T',b2,t2,u2,b3,t3,u3,rfl,k1,k2,k3,k4,SB,kg,a3X,kcs,kb,Z6,ku,kt⟩;show K (a.put o.dst v) w';rw[hd];let N:=st.H.length
 have hs2:=hs1.forget (id::qs);have hNl:(kill st.H ms).length=N:=fm _ _;simp only[hNl]at hs2;let Θ2:Nat->Nat:=fun b=>if(id::qs).any (fun m=>Θ1 b==m+2)then N+2 else Θ1 b
 have hs2:dl Γ ⟨st.σ,kill (kill st.H ms) (id::qs)⟩ κ Θ2 a w:=hs2;have M8:∀b,Θ1 b=0->Θ2 b=0:=fun b hb=>by
  simp only[Θ2];rw[az,hb];intro h;obtain⟨m,_,hm⟩:=cv.1 h;simp[hb]at hm
 have Ee:∀b,b=g\/b∈ts->Θ2 b=N+2:=by
  intro b hb;simp only[Θ2];rw[bK];rcases hb with rfl|hb
  ·exact cv.2 ⟨id,by simp,by simp[Og]⟩
  ·obtain⟨m,hm,hΘ⟩:=Iu b hb;exact cv.2 ⟨m,by simp[hm],by simp[hΘ]⟩
 have Z3:zS Γ (kill (kill st.H ms) (id::qs)) κ Θ2 w ρ1:=by
  refine⟨fun b hb=>?_,fun j e sz rows hj=>?_,fun j o hj=>?_⟩
  ·obtain⟨q1,q2⟩:=hu1.free b hb;exact⟨M8 b q1,q2⟩
  ·rcases oD hj with h|⟨_,h⟩
   ·cases h
   ·exact hu1.rows j e sz rows h
  ·rcases oD hj with h|⟨_,h⟩
   ·subst h;trivial
   ·exact hu1.more j o h
 obtain⟨Lb,a1,a2,a3,a4,a5⟩:=kcs.inst N;obtain⟨Ld,c1,c2,c3,c4,c5⟩:=a3X.inst (N+(nM N cells').2.length);have a83:Lb.length=(nM N cells').2.length:=by rw[<-a1];simp
 let L:=Lb++Ld
 have VO:u3++u2=L.flatMap Fs.bl:=by simp[L,a3,c3]
 have a8z:t3++t2=L.flatMap Fs.ts:=by simp[L,a4,c4]
 rw[VO]at Z6 ku kt;rw[a8z]at kt kb;have Rr:∀x∈L,x.ok w':=fun x hx=>by
  rcases af.1 hx with hx|hx
  ·exact a2 x hx
  ·exact c2 x hx
 let κ':Nat->Option Value:=fun j=>if j<N then κ j else(L[j-N]?).map Fs.v
 let Θ':Nat->Nat:=fun b=>if b=g then id+2 else match Kp L b with|some i=>N+i+2|none=>if Θ2 b=N+2 then 0 else Θ2 b
 let ρ':Nat->Nat:=fun b=>match tK L b with|some i=>N+i+1|none=>ρ1 b
 have hgt:g∉L.flatMap Fs.bl:=fun h=>(ku g h).2.1 rfl
 have a5c:Θ' g=id+2:=by simp[Θ']
 have Of:∀(i:Nat) x b,L[i]?=some x->x.v.ownBlock=some b->Θ' b=N+i+2:=by
  intro i x b hx hb;have hb':b∈L.flatMap Fs.ts:=bg.2 ⟨x,aE hx,by simp[Fs.ts,hb]⟩;have hne:b≠g:=fun e=>hgt (e▸Di hb')
  simp only[Θ',JI Z6 hx hb];rw[az hne]
 have zx:∀b,b≠g->b∉L.flatMap Fs.ts->Θ' b=if Θ2 b=N+2 then 0 else Θ2 b:=by
  intro b h1 h2;simp only[Θ',xH h2];rw[az h1]
 have hzero:∀b,w.heap.size<=b->Θ2 b=0:=fun b hge=>by
  cases h:Θ2 b with
  |zero=>rfl
  |succ m=>exact absurd (hs2.own b (by omega)) (by omega)
 have Zv:∀b∈b3++b2,Θ' b=0:=by
  intro b hb;obtain⟨p1,p2,p3⟩:=kb b hb;rw[zx b p2 p3];by_cases hlt:b<w.heap.size
  ·rcases p1 hlt with h|h
   ·rw[M8 b ((zy b).1 h)];simp
   ·rw[bK (Ee b (.inr h))]
  ·rw[hzero b (by omega)];simp
 have Wh:∀(i:Nat) x b,L[i]?=some x->b∈x.ns->Θ' b=0:=by
  intro i x b hx hb;have hmem:=sB hx hb;rw[zx b (ku b hmem).2.1 (CY Z6 hx hb)];rcases(ku b hmem).1 with h|h
  ·rw[hzero b h];simp
  ·rcases zw.mem b h with h|⟨m,hm,hρ⟩
   ·rw[bK (Ee b (.inr h))]
   ·rw[M8 b (hu1.free b (by omega)).1];simp
 have hn:∀(j:Nat) v,κ j=some v->κ' j=some v:=by
  intro j v hj;have:j<N:=dO fun h=>by rw[hs.pK j (by omega)]at hj;cases hj
  simp only[κ'];rw[bK this];exact hj
 have vS:Names κ' N L:=by
  intro i x hx;simp only[κ'];rw[az (by omega),dM,hx];rfl
 have Wd:∀b∈L.flatMap Fs.ts,yH Γ b:=by
  intro b hb;rcases(kt b hb).2 with h|h
  ·exact .inl (dY hs.base h)
  ·obtain⟨m,hm,hΘ⟩:=Iu b h;exact hs1.mine b (by omega)
 have k:iy w w' Θ2 Θ' (N+2):=by
  refine⟨by omega,k1,k2,k3,k4,fun b hlt hne=>SB b hlt (fun e=>hne (Ee b (.inl e))) (fun e=>hne (Ee b (.inr e))),fun b hlt hne=>?_,fun b hb=>?_⟩
  ·rw[zx b (fun e=>hne (Ee b (.inl e))) (fun e=>?_),az hne];rcases(kt b e).2 with h|h
   ·omega
   ·exact hne (Ee b (.inr h))
  ·by_cases e:b=g
   ·subst e;omega
   ·by_cases ht':b∈L.flatMap Fs.ts
    ·obtain⟨x,T,hx⟩:=(ku b (Di ht')).2.2;exact(bI.1 hx).1
    ·rw[zx b e ht']at hb;split at hb
     ·exact absurd rfl hb
     ·exact dS (hs2.own b hb) k4
 have hm:∀b,2<=Θ' b->yH Γ b:=by
  intro b hb;by_cases e:b=g
  ·subst e;exact hs1.mine b (by omega)
  ·by_cases ht':b∈L.flatMap Fs.ts
   ·exact Wd b ht'
   ·rw[zx b e ht']at hb;split at hb
    ·omega
    ·exact hs2.mine b hb
 have tI:=hs2.oF k hn Z3;have HW:((kill st.H (ms++qs)).set id (ob.re (nM N cells').1)).length=N:=by simp[fm,N]
 have a66:∀(a_ bs:aX) (H:bW),kill H (a_++bs)=kill (kill H a_) bs:=by
  intro a_
  induction a_ with
  |nil=>intro bs H;rfl
  |cons x a_ ih=>intro bs H;simp only[qm,kill,ih]
 have a8f:(nM N cells').2++(oC (N+(nM N cells').2.length) d).2=L.map Fs.ob:=by simp[L,a1,c1]
 have key:∀(j:Nat) y,((kill st.H (ms++qs)).set id (ob.re (nM N cells').1)++L.map Fs.ob)[j]?=some y->(∃i x,j=N+i/\L[i]?=some x/\y=x.ob)\/(j=id/\y=ob.re (nM N cells').1)\/(j≠id/\j<N/\(y=.gone\/(kill (kill st.H ms) (id::qs))[j]?=some y)):=by
  intro j y hj;by_cases hlt:j<N
  ·rw[au (by rw[HW];exact hlt)]at hj;rcases zB j y hj with⟨rfl,rfl⟩|⟨h1,h2⟩
   ·exact .inr (.inl ⟨rfl,rfl⟩)
   ·refine .inr (.inr ⟨h1,hlt,?_⟩);rcases oD h2 with h|⟨h3,h4⟩
    ·exact .inl h
    ·refine .inr ?_;simp only[af,yF]at h3;rw[gM (by simp[h1,h3.2]),gM h3.1];exact h4
  ·rw[bA (by omega),HW,bt]at hj;cases hx:L[j-N]? with
   |none=>simp[hx]at hj
   |some x=>simp[hx]at hj;exact .inl ⟨j-N,x,by omega,hx,hj.symm⟩
 have hs':dl Γ ⟨st.σ,(kill st.H (ms++qs)).set id (ob.re (nM N cells').1)++L.map Fs.ob⟩ κ' Θ' a w':=by
  have Kc:∀(j:Nat) y,(kill (kill st.H ms) (id::qs))[j]?=some y->y≠ .gone->∀b,ρ1 b=j+1->ρ' b=j+1:=by
   intro j y hy hyg b a3C;have hjk:j∉id::qs:=by
    rcases oD hy with h|h
    ·exact absurd h hyg
    ·exact h.1
   have hnb:tK L b=none:=by
    cases hi:tK L b with
    |none=>rfl
    |some i=>
     exfalso;obtain⟨x,hx,B8⟩:=uE hi;obtain⟨z0,_,a7s,T'',a3B⟩:=hu1.free b (by omega);rcases(ku b (sB hx B8)).1 with h|h
     ·have:=(bI.1 a3B).1;omega
     ·rcases zw.mem b h with h|⟨m,hm',hρ⟩
      ·obtain⟨m,hm',hΘ⟩:=Iu b h;omega
      ·exact hjk (by
        have:j=m:=by omega
        rw[this];simp[hm'])
   simp only[ρ',hnb];exact a3C
  refine hs2.step k hm hn ?_ ?_ ?_ ⟨ρ',?_,?_,?_⟩
  ·intro i hi;simp only[bC,HW,ax]at hi;simp only[κ'];rw[az (by omega),cM (by omega)];rfl
  ·intro i u wS;simp only[κ']at wS;split at wS
   ·exact hs.oM i u wS
   ·cases hx:L[i-N]? with
    |none=>simp[hx]at wS
    |some x=>simp[hx]at wS;subst wS;exact(Rr x (aE hx)).2.2.2.2
  ·intro j y hj;rcases key j y hj with⟨i,x,rfl,hx,rfl⟩|⟨rfl,rfl⟩|⟨hji,hjl,hy|hy⟩
   ·obtain⟨q1,q2,q3,q4,_⟩:=Rr x (aE hx);exact .inr (.inr ⟨q1,q2,x.v,x.cs,x.ns,vS i x hx,q3,q4,fun g' hg'=>Of i x g' hx hg',fun b hb'=>Wh i x b hx hb'⟩)
   ·refine .inr (.inr (wC.a6R Ac a5P (hn _) ⟨g,cs',T',hn _ _ hk0,kg,a5c,b3,a5 κ' vS.left,fun b hb=>Zv b (by simp[hb])⟩))
   ·exact .inl hy
   ·exact .inr (.inl ⟨by omega,hy⟩)
  ·intro b hb;cases NE:tK L b with
   |some i=>
    obtain⟨x,hx,B8⟩:=uE NE;have hmem:=sB hx B8;refine⟨Wh i x b hx B8,?_,(ku b hmem).2.2⟩;rcases(ku b hmem).1 with h|h
    ·exact .inl (.inl (dY hs.base h))
    ·rcases zw.mem b h with h|⟨m,hm',hρ⟩
     ·obtain⟨m,hm',hΘ⟩:=Iu b h;exact .inl (hs1.mine b (by omega))
     ·exact(hu1.free b (by omega)).2.1
   |none=>
    simp only[ρ',NE]at hb;exact tI.1 b hb
  ·intro j e sz rows hj;rcases key j _ hj with⟨i,x,rfl,hx,hy⟩|⟨rfl,hy⟩|⟨hji,hjl,hy|hy⟩
   ·simp only[Fs.ob,Ob.row.injEq,sA]at hy;obtain⟨rfl,rfl,rfl⟩:=hy;obtain⟨q1,q2,q3,q4,_⟩:=Rr x (aE hx);exact⟨x.v,x.cs,x.ns,vS i x hx,q3,q4,J6 Z6 hx,fun b hb'=>by simp only[ρ',C5 Z6 hx hb']⟩
   ·cases ob<;>simp[Ob.re]at hy
   ·cases hy
   ·obtain⟨v',c',bs',r1,r2,r3,r4,r5⟩:=tI.2.1 j e sz rows (by omega) hy;exact⟨v',c',bs',r1,r2,r3,r4,fun b hb'=>Kc j _ hy (by simp) b (r5 b hb')⟩
  ·intro j y hj;rcases key j _ hj with⟨i,x,rfl,hx,hy⟩|⟨rfl,hy⟩|⟨hji,hjl,hy|hy⟩
   ·subst hy;exact KO.xF rfl
   ·subst hy;cases ob<;>exact KO.xF rfl
   ·subst hy;trivial
   ·by_cases hg:y=.gone
    ·subst hg;trivial
    ·exact(tI.2.2 j y (by omega) hy).re (Kc j y hy hg)
 rw[a8f]at h;refine hK _ _ (h _ _ _ _ (hs'.set (t:=t) ht (c5 κ' ?_) fun b hb=>Zv b (by simp[hb])));rw[<-a83];exact vS.right
def Hy(P:Program)(f:FuncId)(ds cells:aP):Prop:=
 (∃fn,P.funcs[f]?=some fn/\fn.body.isSome=true/\(fn.name== "runtime.NumGoroutine")=false)/\
 ∀(w:World) (Θ:Nat->Nat) (args:bw) (bs:aX),N9 w (fun _=>False)->T0 w args ds bs->(∀b∈bs,Θ b=0)->(∀b,Θ b≠0->b<w.heap.size)->(∀b,Θ b<=1)->
  Calls P f args.toArray w (fun e w'=>∃g cs T bs',e=.returned (.pointer (some ⟨g,0,none⟩))/\Below w.heap.size w w'/\w.heap.size<=g/\w'.heap[g]?=some (.cells cs T (0,0))/\l6 w' cs.toList cells bs'/\
   ∀b∈bs',(b<w.heap.size->Θ b=0)/\b≠g)
def a4t(P:Program)(fn:Func)(cells:aP)(e:Exit)(st:St):Prop:=
 (e=.ret\/e=.normal)/\∃j,GX P st fn.results.toList=some [.ptr j 0]/\st.H[j]?=some (.box cells)/\cells.all D.Pd=true
theorem Hy.of{f:FuncId}{fn:Func}{c:Code}{ds cells:aP}(hf:P.funcs[f]?=some fn)(hb:fn.body=some c)(hn:(fn.name== "runtime.NumGoroutine")=false)
 (hl:ds.length<=fn.ntmps) (h:(∀d∈ds,ij d)->∀Γ:ul,Γ.nt=fn.ntmps->AW P Γ c (a4t P fn cells) ⟨wY 0 ds,[]⟩):Hy P f ds cells:=by
 refine⟨⟨fn,hf,by simp[hb],hn⟩,?_⟩;intro w Θ args bs hvs hargs hz hown h1;obtain⟨hlen,LH⟩:=hargs.at;refine calls_of_wp hf hb ?_;let Γ:ul:=⟨w,Θ,fun _=>False,fn.ntmps,fun _=>False,hvs⟩
 have hs:dl Γ ⟨wY 0 ds,[]⟩ (fun _=>none) Θ {tmps:=args.toArray++Array.replicate (fn.ntmps-args.toArray.size) undef,defers:=[]} w:=by
  refine⟨rfl,?_,fun _ _=>rfl,by simp,?_,by simp,hown,fun b _ _=>⟨rfl,h1 b⟩,fun b hb=>by have:=h1 b;omega,⟨rfl,rfl,rfl,bR _,fun _ _ _=>rfl⟩,⟨fun _=>0,by simp,by simp,by simp⟩⟩
  ·simp[Γ];omega
  ·intro t;rw[Ek];simp only[vC,zN,wB];cases hd:ds[t]? with
   |none=>exact⟨[],.of (.any _),by simp⟩
   |some x=>
    obtain⟨v,b,k1,k2,k3⟩:=LH t x hd;refine⟨b,?_,fun y hy=>hz y (k3 y hy)⟩;have hlt:t<args.length:=(aF.1 k1).1;have:(args.toArray++Array.replicate (fn.ntmps-args.toArray.size) undef).getD t undef=v:=by
     rw[cF,eZ (by simpa using hlt)];simp[k1]
    rw[this];exact .of k2
 refine wp_mono (h hargs.rdb Γ rfl _ _ _ _ hs) ?_;rintro e a' w' ⟨Mx,κ0,Θ0,hs0,Ay,j,hres,hH,hp⟩;obtain⟨vs,bs',m1,m2,m3,m4,m5⟩:=Br hs0 hres;obtain⟨v,b,n1,n2,_⟩:=m4 0 _ rfl;obtain⟨g,hk,hv⟩:=n2.z8;obtain⟨g',cs,T,hk',hg,hΘ,bb,hbb,hbz⟩:=hs0.ob j _ hH;rw[hk]at hk';cases hk';have a96:vs=[v]:=by
  simp only[aV,br]at m3
  match vs,m2,n1 with
  | [],_,n1=>simp at n1
  | [x],_,n1=>simp at n1;rw[n1]
  |x::y::r,m2,_=>simp only[aV]at m2;omega
 have hrun:(results fn a'.tmps).run P w'=.ok (.pointer (some ⟨g,0,none⟩)) w':=by
  rw[results_eq,mL];simp[m1,a96,hv]
 have Lz:Below w.heap.size w w':=⟨hs0.stays.os,hs0.stays.tape,hs0.stays.output,hs0.stays.size,fun b hb=>hs0.stays.block b hb (fun h=>h)⟩
 have hgm:w.heap.size<=g:=by
  rcases hs0.mine g (by omega)with q|q
  ·exact q
  ·exact q.elim
 have post:a'.defers=[]/\∃v,(results fn a'.tmps).run P w'=.ok v w'/\∃g cs T bs',Ending.returned v=.returned (.pointer (some ⟨g,0,none⟩))/\Below w.heap.size w w'/\w.heap.size<=g/\w'.heap[g]?=some (.cells cs T (0,0))/\l6 w' cs.toList cells bs'/\
  ∀b∈bs',(b<w.heap.size->Θ b=0)/\b≠g:=by
  refine⟨hs0.defers,_,hrun,g,cs,T,bb,rfl,Lz,hgm,hg,hbb.pure hp,fun b hb'=>⟨fun hlt=>?_,fun e=>?_⟩⟩
  ·exact(hs0.old b hlt (fun h=>h)).1.symm.trans (hbz b hb')
  ·have:=hbz b hb';subst e;omega
 rcases Ay with rfl|rfl
 ·exact post
 ·exact post
theorem VZ{o:Oper}{f t:Nat}{xs:Array Operand}{ts:Array TypeId}{ds cells:aP}(hop:o.op=.call {callee:=.value (.func f),args:=xs,argTypes:=ts})(hd:o.dst=some t)(hg:o.guard=none)
 (ht:t<Γ.nt) (hds:GF st.H (xs.toList.map st.ev)=some (ds,[])) (nL:Hy P f ds cells)
 (h:AO P Γ all rest Q ⟨(t,.ptr st.H.length 0)::st.σ,st.H++[.box cells]⟩):AO P Γ all (o::rest) Q st:=by
 intro κ Θ a w hs;obtain⟨bs,hargs,hz⟩:=LQ hs hds;have yC:∀b∈bs,Θ b=0:=fun b hb=>(hz b hb).elim id (fun⟨m,h1,_⟩=>by cases h1)
 let Θc:Nat->Nat:=fun b=>if Θ b=0 then 0 else 1
 have zy:∀b,Θc b=0↔Θ b=0:=fun b=>by simp only[Θc];split<;>simp_all
 have hc:=nL.2 w Θc _ bs hs.vok hargs (fun b hb=>(zy b).2 (yC b hb)) (fun b hb=>hs.own b (fun e=>hb ((zy b).2 e))) (fun b=>by simp only[Θc];split<;>omega);refine wpList_plain hg fun K hK=>?_
 unfold Oper.wp;rw[wR hop nL.1,Oper.upon_enter];have e:xs.map a.eval=(xs.toList.map a.eval).toArray:=by rw[<-gu,k8]
 rw[e];refine hc.mono ?_;rintro e w' ⟨g,cs,T,bs',rfl,hb,hge,hg',hrd,hbb⟩;show K (a.put o.dst (.pointer (some ⟨g,0,none⟩))) w';rw[hd];let Θ':Nat->Nat:=fun b=>if b=g then st.H.length+2 else Θ b
 have k:iy w w' Θ Θ' (st.H.length+2):=by
  refine⟨by omega,hb.os,hb.tape,hb.output,hb.size,fun b hlt _=>hb.block b hlt,fun b hlt _=>?_,fun b hb'=>?_⟩
  ·simp only[Θ'];rw[az (by omega)]
  ·simp only[Θ']at hb';split at hb'
   ·rename_i e;subst e;exact(bI.1 hg').1
   ·exact dS (hs.own b hb') hb.size
 have hbz:∀b∈bs',Θ' b=0:=by
  intro b hb';obtain⟨h1,h2⟩:=hbb b hb';simp only[Θ'];rw[az h2];by_cases hlt:b<w.heap.size
  ·exact(zy b).1 (h1 hlt)
  ·cases h:Θ b with
   |zero=>rfl
   |succ m=>exact absurd (hs.own b (by omega)) hlt
 have hs':=hs.push (o:=.box cells) (v:=.pointer (some ⟨g,0,none⟩)) rfl k (hs.zF (fun b hb'=>by
  simp only[Θ']at hb';split at hb'
  ·rename_i e;subst e;exact .inr hge
  ·exact .inl hb')) ⟨g,cs,T,lP _ _ _,hg',by simp[Θ'],bs',fS.Co hrd,hbz⟩ rfl
 refine hK _ _ (h _ _ _ _ (hs'.set (t:=t) (d:=.ptr st.H.length 0) (bs:=[]) ht ?_ (by simp)));exact(zC.ptr st.H.length 0 g (lP _ _ _)).PT
theorem ZE{o:Oper}{T t id e e' sz h:Nat}{kk:IntKind}{x hi:Operand}{rows:List aP}(hop:o.op=.slice T x none (some hi) none)(hd:o.dst=some t)(hg:o.guard=none)(ht:t<Γ.nt)
 (hT:FG P T=some (e',sz)) (hx:st.ev x=.acc id) (hH:st.H[id]?=some (.row .uq e sz rows)) (hhi:st.ev hi=.int kk (h:Int)) (hle:h<=rows.length)
 (hn:AO P Γ all rest Q ⟨(t,.acc st.H.length)::st.σ,kill st.H [id]++[.row .uq e sz (rows.take h)]⟩):AO P Γ all (o::rest) Q st:=by
 intro κ Θ a w hs;obtain⟨hsz,hrl,v,cs0,bs0,hk,a1O,aBS,Ed,yC⟩:=hs.ob id _ hH;obtain⟨ρ,hu⟩:=hs.tJ;obtain⟨v2,cs,bs,hk2,hown,hrd,hnd,hρ⟩:=hu.rows id e sz rows hH;rw[hk]at hk2;cases hk2;obtain⟨bx,rx,_⟩:=hs.ev x;rw[hx]at rx;obtain⟨hkx,_⟩:=rx.vD;have Td:a.eval x=v:=by rw[hk]at hkx;cases hkx;rfl
 let v':Value:=match v with| .slice q _ cap=>.slice q h cap|u=>u
 have hc:xE rows.length ((none:Option Operand).map st.ev) ((some hi).map st.ev)=some (0,h):=by
  simp[xE,hhi,hle]
 have hrun:∃q cap,v=.slice q rows.length cap/\v'=.slice q h cap/\(execOp a.eval o).run P w=.ok (.value v') w:=by
  obtain⟨wS,K1,Iv⟩:=ou hT;have main:∀(q:Option Addr) (cap:Nat),(∀b off sp,q=some ⟨b,off,sp⟩->off=0/\sp=none)->v=.slice q rows.length cap->rows.length<=cap->(execOp a.eval o).run P w=.ok (.value (.slice q h cap)) w:=by
   intro q cap hq0 hq hcap;obtain⟨hr,hl,hh⟩:=PE (P:=P) (isSlice:=true) (cap:=cap) hs hcap hc;have aAx:(if cap=0 then q else q.map (·.add (0*sz)))=q:=by
    split
    ·rfl
    ·cases q with
     |none=>rfl
     |some ad=>simp[Addr.add]
   simp only[yE,cU]at hr;simp only[execOp,hop,Td,hq];simp[Instr.sliceAt,Instr.slice,run_underlying wS,hr,vA (P:=P) K1 w];intro hc0;cases q with
   |none=>rfl
   |some ad=>simp[Addr.add]
  rcases hown.2 with⟨rfl,h0⟩|⟨g,cap,cur,rfl,_,Oa,hnc,hcm,hcs,htk⟩
  ·exact⟨none,0,by rw[h0],rfl,main none 0 (by simp) (by rw[h0]) (by omega)⟩
  ·exact⟨some ⟨g,0,none⟩,cap,rfl,rfl,main _ _ (by simp) rfl hnc⟩
 obtain⟨q,cap,hvq,Zy,hrun⟩:=hrun;have Ac:v'.ownBlock=v.ownBlock:=by rw[Zy,hvq];cases q<;>rfl
 have hone:v'.oneCell'=true:=by
  have:=hs.oM id v hk;rw[hvq]at this;rw[Zy];exact this
 have hsplit:∃cs' bs',w.ownsRow 0 e sz v' (rows.take h).length cs'/\l6 w cs' (rows.take h).flatten bs'/\bs'.Nodup/\∀b∈bs',b∈bs:=by
  have e1:rows.flatten=(rows.take h).flatten++(rows.drop h).flatten:=by rw[<-lS,cD]
  have M6:=hrd;rw[e1]at M6;obtain⟨c1,c2,b1,b2,rfl,rfl,k1,k2⟩:=M6.split;have htl:(rows.take h).length=h:=by rw[cQ];omega
  have hc1:c1.length=h*sz:=by rw[k1.length,oX (fun r hr=>hrl r (cI hr)),htl]
  refine⟨c1,b1,?_,k1,(bM.1 hnd).1,fun b hb=>by simp[hb]⟩;rw[htl];refine⟨hc1,?_⟩;rcases hown.2 with⟨hv0,h0⟩|⟨g,cap',cur,hvs,hbg,Oa,hnc,hcm,hcs,htk⟩
  ·left
   have:h=0:=by omega
   subst this;have e3:=hv0.symm.trans hvq;simp only[Value.slice.injEq]at e3;exact⟨by rw[Zy,<-e3.1,<-e3.2.2],rfl⟩
  ·right
   have e3:=hvs.symm.trans hvq;simp only[Value.slice.injEq]at e3;refine⟨g,cap',cur,by rw[Zy,<-e3.1,<-e3.2.2],hbg,Oa,by omega,hcm,hcs,?_⟩;have h3:(cur.toList.take (rows.length*sz)).take (h*sz)=(c1++c2).take (h*sz):=by rw[htk]
   rw[tS,fJ (dh _ hle)]at h3;rw[h3];exact ig hc1
 obtain⟨cs',bs',p1,p2,p3,p4⟩:=hsplit;refine wpList_plain hg fun K hK=>?_
 unfold Oper.wp;rw[hrun,Oper.upon_value,hd];let n:=st.H.length
 have UT:id<n:=(aF.1 hH).1;let Θ':Nat->Nat:=fun b=>if some b=v'.ownBlock then n+2 else Θ b
 let ρ':Nat->Nat:=fun b=>if ρ b=id+1 then n+1 else ρ b
 have Z5:∀g,v'.ownBlock=some g->Θ g=id+2:=fun g US=>Ed g (Ac▸US)
 have k:iy w w Θ Θ' (id+2):=by
  refine⟨by omega,rfl,rfl,rfl,bR _,fun _ _ _=>rfl,fun b hb hne=>?_,fun b hb=>?_⟩
  ·simp only[Θ'];rw[az fun e=>hne (Z5 b e.symm)]
  ·simp only[Θ']at hb;split at hb
   ·rename_i e;exact hs.own b (by rw[Z5 b e.symm];omega)
   ·exact hs.own b hb
 have hm:∀b,2<=Θ' b->yH Γ b:=by
  intro b hb;simp only[Θ']at hb;split at hb
  ·rename_i e;exact hs.mine b (by rw[Z5 b e.symm];omega)
  ·exact hs.mine b hb
 have hnn:=xQ (hs.pK n (bR _)) (some v');have tI:=hs.oF k hnn hu;have Mw:∀b∈bs',Θ' b=0:=by
  intro b hb;have h1:=(hu.free b (by rw[hρ b (p4 b hb)];omega)).1;simp only[Θ'];rw[az fun e=>by have:=Z5 b e.symm;omega];exact h1
 have key:∀(j:Nat) y,(kill st.H [id]++[.row .uq e sz (rows.take h)])[j]?=some y->(j=n/\y=.row .uq e sz (rows.take h))\/(j≠n/\(y=.gone\/(j∉[id]/\st.H[j]?=some y))):=by
  intro j y hj;rcases Bp j y hj with⟨h1,h2⟩|⟨h1,h2⟩
  ·rw[fm]at h1;exact .inl ⟨h1,h2⟩
  ·rw[fm]at h1;exact .inr ⟨h1,oD h2⟩
 have hs':dl Γ ⟨st.σ,kill st.H [id]++[.row .uq e sz (rows.take h)]⟩ (yD κ n (some v')) Θ' a w:=by
  refine hs.step k hm hnn ?_ ?_ ?_ ⟨ρ',fun b hb=>?_,fun j e2 Si fo hj=>?_,fun j y hj=>?_⟩
  ·intro i hi;simp only[bC,aV,br,fm]at hi;unfold yD;rw[az (by omega)];exact hs.pK i (by omega)
  ·intro i y hy;unfold yD at hy;split at hy
   ·cases hy;exact hone
   ·exact hs.oM i y hy
  ·intro j y hj;rcases key j y hj with⟨rfl,rfl⟩|⟨_,hy|⟨hjk,hy⟩⟩
   ·exact .inr (.inr ⟨hsz,fun r hr=>hrl r (cI hr),v',cs',bs',lP _ _ _,p1,p2,fun g US=>by simp only[Θ'];rw[bK US.symm],Mw⟩)
   ·exact .inl hy
   ·exact .inr (.inl ⟨fun e=>hjk (by simp;omega),hy⟩)
  ·refine tI.1 b fun h0=>hb ?_
   simp only[ρ'];rw[az (by omega)];exact h0
  ·rcases key j _ hj with⟨rfl,hy⟩|⟨_,hy|⟨hjk,hy⟩⟩
   ·simp only[Ob.row.injEq,sA]at hy;obtain⟨rfl,rfl,rfl⟩:=hy;exact⟨v',cs',bs',lP _ _ _,p1,p2,p3,fun b hb=>by simp only[ρ'];rw[bK (hρ b (p4 b hb))]⟩
   ·cases hy
   ·obtain⟨v3,c3,b3,q1,q2,q3,q4,q5⟩:=tI.2.1 j e2 Si fo (fun e=>hjk (by simp;omega)) hy;refine⟨v3,c3,b3,q1,q2,q3,q4,fun b hb=>?_⟩;have hne:j≠id:=fun e=>hjk (by simp[e])
    simp only[ρ'];rw[az (by rw[q5 b hb];omega)];exact q5 b hb
  ·rcases key j _ hj with⟨rfl,hy⟩|⟨_,hy|⟨hjk,hy⟩⟩
   ·subst hy;exact KO.xF rfl
   ·subst hy;trivial
   ·refine(tI.2.2 j y (fun e=>hjk (by simp;omega)) hy).re fun b hb=>?_
    have hne:j≠id:=fun e=>hjk (by simp[e])
    simp only[ρ'];rw[az (by omega)];exact hb
 refine hK _ _ (hn _ _ _ _ (hs'.set (t:=t) (d:=.acc n) (bs:=[]) ht ?_ (by simp)));exact(zC.acc n _ (lP _ _ _)).PT
end
end Go.Cx
namespace Go.Cx
open Go.RowKit
section
variable{P:Program}{Γ:ul}{Q:Exit->St->Prop}{st:St}{κ κ':Nat->Option Value}{Θ Θ':Nat->Nat}{a:Act}{w w':World}{all:Array Oper}{rest:List Oper}
theorem dl.a3e(hs:dl Γ st κ Θ a w):
 dl Γ ⟨st.σ,st.H++[.mp []]⟩ (yD κ st.H.length (some (.map (some w.heap.size)))) (fun b=>if b=w.heap.size then st.H.length+2 else Θ b) a (w.alloc (.map #[] 0)):=by
 have k:=iy.alloc hs (.map #[] 0) (tag:=st.H.length+2) (by omega);refine hs.push rfl k (hs.zF (fun b hb=>by by_cases e:b=w.heap.size<;>simp_all)) ?_ rfl;exact⟨w.heap.size,#[],0,by simp[yD],heap_alloc_new w _,by simp,rfl,by simp⟩
theorem RX{o:Oper}{T t:Nat}(hop:o.op=.makeMap T none)(hd:o.dst=some t)(hg:o.guard=none)(ht:t<Γ.nt)
 (h:AO P Γ all rest Q ⟨(t,.acc st.H.length)::st.σ,st.H++[.mp []]⟩):AO P Γ all (o::rest) Q st:=by
 intro κ Θ a w hs;have hs':=hs.a3e;refine wpList_plain hg fun K hK=>?_
 unfold Oper.wp;have hrun:(execOp a.eval o).run P w=.ok (.value (.map (some w.heap.size))) (w.alloc (.map #[] 0)):=by
  simp[execOp,hop,Instr.makeMap,newObj];rfl
 rw[hrun,Oper.upon_value,hd];refine hK _ _ (h _ _ _ _ (hs'.set (t:=t) (d:=.acc st.H.length) (bs:=[]) ht ?_ (by simp)));exact(zC.acc st.H.length _ (lP _ _ _)).PT
theorem yY.push{es:List MapEntry}{kv:List (D×D)}{k v:D}{u x:Value}(h:yY w es kv)(hk:Rd w u k [])(hv:Rd w x v [])(c:Nat):yY w (es++[{key:=u,val:=x,born:=c}]) (kv++[(k,v)]):=by
 refine⟨by simp[h.1],fun j e p h1 h2=>?_⟩;by_cases hj:j<es.length
 ·rw[au hj]at h1;rw[au (by rw[<-h.1];exact hj)]at h2;exact h.2 j e p h1 h2
 ·rw[bA (by omega)]at h1;rw[bA (by rw[<-h.1];omega),<-h.1]at h2;have e0:j-es.length=0:=by
   have:=(aF.1 h1).1;simp at this;omega
  rw[e0]at h1 h2;simp at h1 h2;subst h1;subst h2;exact⟨hk,hv⟩
theorem yY.put{es:List MapEntry}{kv:List (D×D)}{k v:D}{u x:Value}(h:yY w es kv)(hk:Rd w u k [])(hv:Rd w x v [])(i:Nat){es':List MapEntry}(hl:es'.length=es.length)
 (he:∀(j:Nat) e,es'[j]?=some e->(j=i/\e.key=u/\e.val=x)\/(j≠i/\es[j]?=some e)):yY w es' (kv.set i (k,v)):=by
 refine⟨by simp[hl,h.1],fun j e p h1 h2=>?_⟩;rcases he j e h1 with⟨rfl,h3,h4⟩|⟨hne,h3⟩
 ·have hlt:j<kv.length:=by
   have:=(aF.1 h2).1;simpa using this
  rw[dX hlt]at h2;cases h2;rw[h3,h4];exact⟨hk,hv⟩
 ·rw[cE (rV hne)]at h2;exact h.2 j e p h3 h2
theorem a3Y{kd:TypeDesc}{k v:D}{u:Value}(NF:HY kd k=true)(hu:Rd w u k []):∀ {es:List MapEntry} {kv kv':List (D×D)} (i:Nat),yY w es kv->J0 k v kv=some kv'->
 (Instr.findNow kd u es i=some none/\kv'=kv++[(k,v)])\/∃j x e,Instr.findNow kd u es i=some (some (i+j,x))/\es[j]?=some e/\e.key=u/\kv'=kv.set j (k,v):=by
 intro es
 induction es with
 |nil=>
  intro kv kv' i hr h;cases kv with
  |nil=>cases h;exact .inl ⟨rfl,rfl⟩
  |cons p kv=>exact absurd hr.1 (by simp)
 |cons e es ih=>
  intro kv kv' i hr h;cases kv with
  |nil=>exact absurd hr.1 (by simp)
  |cons p kv=>
   obtain⟨r1,r2,r3⟩:=hr.cons;simp only[J0]at h;split at h
   ·rename_i hq;cases h;have:=LK NF hu r1 hq;exact .inr ⟨0,e.val,e,by simp[Instr.findNow,this.1],rfl,this.2 rfl,rfl⟩
   ·rename_i hq;have NG:=(LK NF hu r1 hq).1;cases hk:J0 k v kv with
    |none=>rw[hk]at h;cases h
    |some kv1=>
     rw[hk]at h;cases h;rcases ih (i+1) r3 hk with⟨h1,h2⟩|⟨j,x,e',h1,h2,h3,h4⟩
     ·exact .inl ⟨by simpa[Instr.findNow,NG]using h1,by rw[h2];rfl⟩
     ·exact .inr ⟨j+1,x,e',by simp only[Instr.findNow,NG];rw[h1];congr 3;omega,by simpa using h2,h3,by rw[h4];rfl⟩
   ·cases h
theorem PK{kd:TypeDesc}{u:Value}(h:MapKept.IsKey kd u)(n:Nat):Instr.sameBits n u u=true:=by
 cases kd<;>cases u<;>simp[MapKept.IsKey]at h<;>simp[Instr.sameBits]
 all_goals first
  |exact(MapKept.bytes_beq _ _).2 rfl
  |rfl
def D.scalar:D->Bool
 | .str _=>true
 | .int _ _=>true
 | .bool _=>true
 |_=>false
theorem R6{v:Value}{d:D}{bs:aX}(hd:d.scalar=true)(hu:rW w κ v d bs):Rd w v d []:=by
 cases d<;>simp[D.scalar]at hd
 all_goals cases hu with|v h=>cases h with|cell h=>cases h with|pure h=>cases h<;>(constructor<;>assumption)
theorem OE{o:Oper}{T id:Nat}{x i y:Operand}{kd:TypeDesc}{dz:D}{kv kv':List (D×D)}(hop:o.op=.mapUpdate T x i y)(hd:o.dst=none)(hg:o.guard=none)
 (hT:V4 P T=some (kd,dz)) (hx:st.ev x=.acc id) (hH:st.H[id]?=some (.mp kv)) (NF:HY kd (st.ev i)=true) (hsc:(st.ev y).scalar=true) (hput:J0 (st.ev i) (st.ev y) kv=some kv')
 (h:AO P Γ all rest Q ⟨st.σ,st.H.set id (.mp kv')⟩):AO P Γ all (o::rest) Q st:=by
 intro κ Θ a w hs;obtain⟨g,es,c,q1,q2,q3,q4⟩:=hs.ob id _ hH;obtain⟨bs,r,_⟩:=hs.ev x;rw[hx]at r;obtain⟨hk,_⟩:=r.vD;rw[q1]at hk;have Te:a.eval x=.map (some g):=(pM hk).symm;obtain⟨bi,ri,_⟩:=hs.ev i;obtain⟨by',ry,_⟩:=hs.ev y;have hu:=Ns NF ri;have hv:=R6 hsc ry;obtain⟨kt,et,z,t1,t2,t3,t4⟩:=Ml hT;have hik:=QZ NF hu;have hck:=MapKept.run_checkKey (P:=P) (w:=w) t2 hik false 9999;have a8S:g<w.heap.size:=(bI.1 q2).1;have UT:id<st.H.length:=(aF.1 hH).1;have hrun:∃es' c',(execOp a.eval o).run P w=.ok .skip {w with heap:=w.heap.setIfInBounds g (.map es' c')}/\yY w es'.toList kv':=by
  rcases a3Y NF hu 0 q4 hput with⟨hn,rfl⟩|⟨j,x',e,hn,he,hek,rfl⟩
  ·have Zr:=MapKept.run_findKey (P:=P) (w:=w) t2 hn;refine⟨es.push {key:=a.eval i,val:=a.eval y,born:=c},c+1,?_,?_⟩
   ·simp[execOp,hop,Te,Instr.mapUpdate,run_underlying t1,MapKept.run_getObj_map q2,hck,Zr,MapKept.run_setObj_map _ q2]
   ·rw[Array.toList_push];exact q4.push hu hv c
  ·rw[cY]at hn;have Zr:=MapKept.run_findKey (P:=P) (w:=w) t2 hn;have hej:es[j]?=some e:=by simpa using he
   have hst:(Instr.keyThatStays (((es[j]?).map (·.key)).getD (a.eval i)) (a.eval i)).run P w=.ok (a.eval i) w:=by
    rw[hej];simp[Instr.keyThatStays,hek,PK hik]
   refine⟨es.modify j fun e=> {e with key:=a.eval i,val:=a.eval y},c,?_,?_⟩
   ·simp[execOp,hop,Te,Instr.mapUpdate,run_underlying t1,MapKept.run_getObj_map q2,hck,Zr,hst,MapKept.run_setObj_map _ q2]
   ·refine q4.put hu hv j (by simp) fun m e' hm=>?_
    rw[sx,wU]at hm;by_cases hmj:j=m
    ·subst hmj;rw[bK rfl,hej]at hm;cases hm;exact .inl ⟨rfl,rfl,rfl⟩
    ·rw[az hmj]at hm;exact .inr ⟨rV hmj,by simpa using hm⟩
 obtain⟨es',c',hr,a8o⟩:=hrun;have a33:∀b,b≠g->(w.heap.setIfInBounds g (.map es' c'))[b]?=w.heap[b]?:=fun b hb=>by simp[rV hb]
 have k:iy w {w with heap:=w.heap.setIfInBounds g (.map es' c')} Θ Θ (id+2):=by
  refine⟨by omega,rfl,rfl,rfl,by simp,fun b hb hne=>a33 b fun e=>hne (e▸q3),fun _ _ _=>rfl,fun b hb=>?_⟩;simpa using hs.own b hb
 have hs':dl Γ ⟨st.σ,st.H.set id (.mp kv')⟩ κ Θ a {w with heap:=w.heap.setIfInBounds g (.map es' c')}:=by
  obtain⟨ρ,wS⟩:=hs.tJ;have tI:=hs.oF k (fun _ _ h=>h) wS;refine hs.step k hs.mine (fun _ _ h=>h) (fun i hi=>hs.pK i (by simpa using hi)) hs.oM ?_ ⟨ρ,tI.1,fun j e sz rows hj=>?_,fun j y hj=>?_⟩
  ·intro j y' hj;by_cases e:j=id
   ·subst e;rw[dX UT]at hj;cases hj;exact .inr (.inr ⟨g,es',c',q1,by simp[a8S],q3,a8o.stay⟩)
   ·rw[cE (rV e)]at hj;exact .inr (.inl ⟨by omega,hj⟩)
  ·by_cases e':j=id
   ·subst e';rw[dX UT]at hj;cases hj
   ·rw[cE (rV e')]at hj;exact tI.2.1 j e sz rows (by omega) hj
  ·by_cases e':j=id
   ·subst e';rw[dX UT]at hj;cases hj;trivial
   ·rw[cE (rV e')]at hj;exact tI.2.2 j y (by omega) hj
 refine wpList_plain hg fun K hK=>?_
 unfold Oper.wp;rw[hr,Oper.upon_skip,hd];exact hK _ _ (h _ _ _ _ hs')
end
end Go.Cx
namespace Go.Cx
open Go.RowKit
def Hx(P:Program)(f:FuncId)(ds:aP)(d:D):Prop:=
 (∃fn,P.funcs[f]?=some fn/\fn.body.isSome=true/\(fn.name== "runtime.NumGoroutine")=false)/\
 ∀(w:World) (Θ:Nat->Nat) (args:bw) (bs ts us:aX),
  N9 w (fun b=>b∈ts)->AS w args ds bs ts us->
  (∀b∈bs,Θ b=0)->(∀b,Θ b≠0->b<w.heap.size)->(∀b,Θ b<=1)->(∀b∈ts,Θ b=1/\b∈us)->us.Nodup->(∀b∈us,(b∉ts->Θ b=0)/\Wr w b)->
  Calls P f args.toArray w (fun e w'=>∃v b2 t2 u2,e=.returned v/\w'.os=w.os/\w'.tape=w.tape/\w'.output=w.output/\w.heap.size<=w'.heap.size/\
   (∀b,b<w.heap.size->b∉ts->w'.heap[b]?=w.heap[b]?)/\
   zQ w' v d b2 t2 u2/\(∀b∈b2,(b<w.heap.size->Θ b=0\/b∈ts)/\b∉t2)/\u2.Nodup/\
   (∀b∈u2,(w.heap.size<=b\/b∈us)/\Wr w' b)/\∀b∈t2,b∈u2/\(w.heap.size<=b\/b∈ts))
section
variable{P:Program}{Γ:ul}{Q:Exit->St->Prop}{st:St}{κ κ':Nat->Option Value}{Θ Θ':Nat->Nat}{a:Act}{w w':World}{all:Array Oper}{rest:List Oper}
theorem a7m.out{fn:Func}{d:D}{e:Exit}{a':Act}{w':World}{Mx:St}{κ0:Nat->Option Value}{Θ0:Nat->Nat}(hs0:dl Γ Mx κ0 Θ0 a' w')(Wl:OJ P fn d e Mx):
 (e=.ret\/e=.normal)/\a'.defers=[]/\Pp Γ w'/\∃v b2 t2 u2,(results fn a'.tmps).run P w'=.ok v w'/\
  zQ w' v d b2 t2 u2/\(∀b∈b2,(b<Γ.W0.heap.size->¬Γ.X b->Γ.Θ0 b=0)/\b∉t2)/\u2.Nodup/\
  (∀b∈u2,Sz Γ b/\Wr w' b)/\∀b∈t2,b∈u2/\yH Γ b:=by
 obtain⟨Ay,nz,Zk,es,ms,qs,hres,Wm,M5,K4,rfl⟩:=Wl;obtain⟨ρ0,Zw⟩:=hs0.tJ;have AM:=vo Wm;obtain⟨Θ1,ρ1,hs1,hu1,hm1,NJ,UU⟩:=dl.FB ms hs0 Zw M5 (fun m hm=>by
  obtain⟨e,sz,rows,hH⟩:=AM.1 m hm;exact⟨_,e,sz,rows,hH,rfl⟩)
 obtain⟨vs,bs',m1,m2,m3,m4,m5⟩:=Br hs0 hres;have hq:∀m e sz rows,Mx.H[m]?=some (.row .uq e sz rows)->∃v cs ns,κ0 m=some v/\0<sz/\(∀r∈rows,r.length=sz)/\w'.ownsRow 0 e sz v rows.length cs/\l6 w' cs rows.flatten ns/\ns.Nodup/\(∀b∈ns,ρ1 b=m+1)/\∀g,v.ownBlock=some g->Θ1 g=m+2:=by
  intro m e sz rows hH;have hnm:m∉ms:=fun hm=>by
   obtain⟨e',sz',dN,DS⟩:=AM.1 m hm;rw[hH]at DS;cases DS
  have Mu:(kill Mx.H ms)[m]?=some (.row .uq e sz rows):=by rw[gM hnm];exact hH
  obtain⟨v,cs,ns,r1,r2,r3,r4,r5⟩:=hu1.rows m e sz rows Mu;obtain⟨p1,p2,v2,_,_,p3,_,_,p4,_⟩:=hs1.ob m _ Mu;rw[r1]at p3;cases p3;exact⟨v,cs,ns,r1,p1,p2,r2,r3,r4,r5,p4⟩
 obtain⟨c,ts,us,Bj,zw⟩:=zG (w:=w') (vs:=vs) (fun b hb=>(hu1.free b hb).1) hq hs0.oM Wm K4 (by omega) (fun i d hd=>by
  obtain⟨v,b,k1,k2,k3⟩:=m4 i d hd;exact⟨v,b,k1,k2,fun x hx=>NJ x (m5 x (k3 x hx))⟩) hm1
 have Jz:∃v,(results fn a'.tmps).run P w'=.ok v w'/\zQ w' v (JA es) c ts us:=by
  have hrun:(results fn a'.tmps).run P w'=.ok (if h:vs.toArray.size=1 then vs.toArray[0]else .tuple vs.toArray) w':=by
   rw[results_eq,mL];simp[m1]
  cases Bj with
  |nil=>exact⟨.tuple #[],by simpa using hrun,.iE [] [] [] [] [] .nil⟩
  |cons v vs d es b1 b2 t1 t2 u1 u2 hv sS=>
   cases sS with
   |nil=>
    simp only[dA];exact⟨v,by simpa using hrun,.v hv⟩
   |cons v2 vs d2 es b3 b4 t3 t4 u3 u4 GS sS=>exact⟨.tuple (v::v2::vs).toArray,by simpa using hrun,.iE _ _ _ _ _ (.cons _ _ _ _ _ _ _ _ _ _ hv (.cons _ _ _ _ _ _ _ _ _ _ GS sS))⟩
 obtain⟨v,S5,NH⟩:=Jz;refine⟨Ay,hs0.defers,hs0.stays,v,c,ts,us,S5,NH,fun b hb=>⟨fun hlt hx=>?_,fun ht=>?_⟩,zw.nd,fun b hb=>?_,fun b hb=>?_⟩
 ·have:=zw.zero b hb;rw[<-(hs1.old b hlt hx).1];exact this
 ·obtain⟨⟨m,_,hΘ⟩,_⟩:=zw.top b ht;have:=zw.zero b hb;omega
 ·rcases zw.mem b hb with h|⟨m,hm,hρ⟩
  ·obtain⟨⟨m,hm,hΘ⟩,_⟩:=zw.top b h;exact⟨.inl (hs1.mine b (by omega)),LW NH b h⟩
  ·have:=hu1.free b (by omega);exact⟨this.2.1,this.2.2⟩
 ·obtain⟨⟨m,hm,hΘ⟩,h2⟩:=zw.top b hb;exact⟨h2,hs1.mine b (by omega)⟩
theorem Hx.of{f:FuncId}{fn:Func}{c:Code}{ds Mt:aP}{obs:bW}{d:D}(hf:P.funcs[f]?=some fn)(hb:fn.body=some c)(hn:(fn.name== "runtime.NumGoroutine")=false)
 (hI:zz 0 ds=(Mt,obs)) (hl:Mt.length<=fn.ntmps)
 (h:(∀x∈ds.map D.YQ,ij x)->∀(Γ:ul),Γ.nt=fn.ntmps->AW P Γ c (OJ P fn d) ⟨wY 0 Mt,obs⟩):Hx P f ds d:=by
 refine⟨⟨fn,hf,by simp[hb],hn⟩,?_⟩;intro w Θ args bs ts us hvs hargs hz hown h1 hts hnd tI;have S6:=hargs.shown;obtain⟨L,q1,q2,rfl,rfl,q5⟩:=hargs.inst 0;rw[hI]at q1 q5;have q1:L.map Fs.ob=obs:=q1;refine calls_of_wp hf hb ?_;let κ0:Nat->Option Value:=fun i=>(L[i]?).map Fs.v
 let Θ0:Nat->Nat:=fun b=>match Kp L b with|some i=>i+2|none=>Θ b
 let ρ0:Nat->Nat:=fun b=>match tK L b with|some i=>i+1|none=>0
 let Γ:ul:=⟨w,Θ0,fun b=>b∈L.flatMap Fs.ts,fn.ntmps,fun b=>b∈L.flatMap Fs.bl,hvs⟩
 have hkS:∀i x,L[i]?=some x->κ0 i=some x.v:=fun i x hx=>by simp[κ0,hx]
 have hnm:Names κ0 0 L:=fun i x hx=>by rw[cY];exact hkS i x hx
 have hrd:=q5 κ0 hnm;have hlen:args.length=Mt.length:=hrd.len;have a1P:∀(i:Nat) x b,L[i]?=some x->x.v.ownBlock=some b->b∈L.flatMap Fs.ts:=fun i x b hx hb'=>bg.2 ⟨x,aE hx,by simp[Fs.ts,hb']⟩
 have S7:∀(i:Nat) x b,L[i]?=some x->x.v.ownBlock=some b->Θ0 b=i+2:=by
  intro i x b hx hb';simp only[Θ0,JI hnd hx hb']
 have UW:∀b,Θ b=0->Θ0 b=0:=by
  intro b h0;have e2:b∉L.flatMap Fs.ts:=fun e=>by have:=(hts b e).1;omega
  simp only[Θ0,xH e2];exact h0
 have Wg:∀(i:Nat) x b,L[i]?=some x->b∈x.ns->Θ0 b=0:=fun i x b hx hb'=>UW b ((tI b (sB hx hb')).1 (CY hnd hx hb'))
 have zy:∀b,Θ0 b≠Θ b->b∈L.flatMap Fs.ts:=by
  intro b hne;refine dO fun ht=>hne ?_
  simp only[Θ0,xH ht]
 have Rx:∀(j:Nat) o,obs[j]?=some o->∃x,L[j]?=some x/\o=x.ob:=by
  intro j o hj;rw[<-q1,bt]at hj;cases hx:L[j]? with
  |none=>simp[hx]at hj
  |some x=>simp[hx]at hj;exact⟨x,rfl,hj.symm⟩
 have a30:obs.length=L.length:=by rw[<-q1];simp
 have hs:dl Γ ⟨wY 0 Mt,obs⟩ κ0 Θ0 {tmps:=args.toArray++Array.replicate (fn.ntmps-args.toArray.size) undef,defers:=[]} w:=by
  refine⟨rfl,?_,fun i hi=>?_,?_,?_,?_,?_,?_,?_,⟨rfl,rfl,rfl,bR _,fun _ _ _=>rfl⟩,⟨ρ0,?_,?_,?_⟩⟩
  ·simp[Γ];omega
  ·have hi:obs.length<=i:=hi;simp only[κ0];rw[cM (by omega)];rfl
  ·intro id u hu;simp only[κ0]at hu;cases hx:L[id]? with
   |none=>simp[hx]at hu
   |some x=>simp[hx]at hu;subst hu;exact(q2 x (aE hx)).2.2.2.2
  ·intro t;rw[Ek];simp only[vC,zN,wB];have TY:∀v,args[t]?=some v->(args.toArray++Array.replicate (fn.ntmps-args.toArray.size) undef).getD t undef=v:=by
    intro v hv;have hlt:=(aF.1 hv).1;rw[cF,eZ (by simpa using hlt)];simp only[jW,hv,uC]
   cases hd:Mt[t]? with
   |none=>exact⟨[],.of (.any _),by simp⟩
   |some x=>
    obtain⟨v,b',k1,k2,k3⟩:=hrd.at (i:=t) (d:=x) hd;rw[TY v k1];exact⟨b',.v k2,fun b hb'=>UW b (hz b (k3 b hb'))⟩
  ·intro j o hj;obtain⟨x,hx,rfl⟩:=Rx j o hj;obtain⟨p1,p2,p3,p4,_⟩:=q2 x (aE hx);exact⟨p1,p2,x.v,x.cs,x.ns,hkS j x hx,p3,p4,fun b hb'=>S7 j x b hx hb',fun b hb'=>Wg j x b hx hb'⟩
  ·intro b hb';by_cases e:Θ0 b=Θ b
   ·exact hown b (by rw[<-e];exact hb')
   ·exact hown b (by have:=(hts b (zy b e)).1;omega)
  ·intro b hlt hx;refine⟨rfl,?_⟩;have e:Θ0 b=Θ b:=dO fun e=>hx (zy b e)
   rw[e];exact h1 b
  ·intro b hb';refine .inr (zy b fun e=>?_);have:=h1 b;omega
  ·intro b hb';cases VO:tK L b with
   |none=>simp[ρ0,VO]at hb'
   |some i=>
    obtain⟨x,hx,B8⟩:=uE VO;exact⟨Wg i x b hx B8,.inr (sB hx B8),(tI b (sB hx B8)).2⟩
  ·intro id e sz rows hj;obtain⟨x,hx,Rz⟩:=Rx id _ hj;simp only[Fs.ob,Ob.row.injEq,sA]at Rz;obtain⟨rfl,rfl,rfl⟩:=Rz;obtain⟨p1,p2,p3,p4,_⟩:=q2 x (aE hx);exact⟨x.v,x.cs,x.ns,hkS id x hx,p3,p4,J6 hnd hx,fun b hb'=>by simp[ρ0,C5 hnd hx hb']⟩
  ·intro id o hj;obtain⟨x,hx,Rz⟩:=Rx id _ hj;subst Rz;exact KO.xF rfl
 refine wp_mono (h S6 Γ rfl _ _ _ _ hs) ?_;rintro x a' w' ⟨Mx,κ1,Θ1,hs0,Wl⟩;obtain⟨Ay,hdf,hst,v,b2,t2,u2,hrun,hres,Mv,GC,wS,ht'⟩:=a7m.out hs0 Wl;have post:a'.defers=[]/\∃v',(results fn a'.tmps).run P w'=.ok v' w'/\∃v b2 t2 u2,Ending.returned v'=.returned v/\w'.os=w.os/\w'.tape=w.tape/\w'.output=w.output/\w.heap.size<=w'.heap.size/\
  (∀b,b<w.heap.size->b∉L.flatMap Fs.ts->w'.heap[b]?=w.heap[b]?)/\
  zQ w' v d b2 t2 u2/\(∀b∈b2,(b<w.heap.size->Θ b=0\/b∈L.flatMap Fs.ts)/\b∉t2)/\u2.Nodup/\
  (∀b∈u2,(w.heap.size<=b\/b∈L.flatMap Fs.bl)/\Wr w' b)/\∀b∈t2,b∈u2/\(w.heap.size<=b\/b∈L.flatMap Fs.ts):=by
  refine⟨hdf,v,hrun,v,b2,t2,u2,rfl,hst.os,hst.tape,hst.output,hst.size,fun b hlt hnt=>hst.block b hlt (fun hx=>hnt hx),hres,fun b hb'=>?_,GC,fun b hb'=>?_,fun b hb'=>?_⟩
  ·obtain⟨k1,k3⟩:=Mv b hb';refine⟨fun hlt=>?_,k3⟩;by_cases ht:b∈L.flatMap Fs.ts
   ·exact .inr ht
   ·refine .inl ?_;have:=k1 hlt (fun hx=>ht hx);have e:Θ0 b=Θ b:=dO fun e=>ht (zy b e)
    rw[<-e];exact this
  ·obtain⟨k1,k3⟩:=wS b hb';refine⟨?_,k3⟩;rcases k1 with(k1|k1)|k1
   ·exact .inl k1
   ·exact .inr (Di k1)
   ·exact .inr k1
  ·obtain⟨k1,k2⟩:=ht' b hb';exact⟨k1,k2⟩
 rcases Ay with rfl|rfl
 ·exact post
 ·exact post
theorem VW{o:Oper}{f t:Nat}{xs:Array Operand}{ty:Array TypeId}{ds:aP}{d:D}{nz:List (List (Option (Nat×Nat)))}{ms qs:aX}
 (hop:o.op=.call {callee:=.value (.func f),args:=xs,argTypes:=ty}) (hd:o.dst=some t) (hg:o.guard=none) (ht:t<Γ.nt)
 (Ay:A7 st.H nz (xs.toList.map st.ev)=some (ds,ms,qs)) (M5:ms.Nodup) (K4:qs.Nodup) (nL:Hx P f ds d)
 (h:AO P Γ all rest Q ⟨(t,(oC st.H.length d).1)::st.σ,kill st.H (ms++qs)++(oC st.H.length d).2⟩):AO P Γ all (o::rest) Q st:=by
 intro κ Θ a w hs;have AM:=vo Ay;obtain⟨ρ,hu⟩:=hs.tJ;obtain⟨Θ1,ρ1,hs1,hu1,hm1,NJ,UU⟩:=dl.FB ms hs hu M5 (fun m hm=>by
  obtain⟨e,sz,rows,hH⟩:=AM.1 m hm;exact⟨_,e,sz,rows,hH,rfl⟩)
 have hq:∀m e sz rows,st.H[m]?=some (.row .uq e sz rows)->∃v cs ns,κ m=some v/\0<sz/\(∀r∈rows,r.length=sz)/\w.ownsRow 0 e sz v rows.length cs/\l6 w cs rows.flatten ns/\ns.Nodup/\(∀b∈ns,ρ1 b=m+1)/\∀g,v.ownBlock=some g->Θ1 g=m+2:=by
  intro m e sz rows hH;have hnm:m∉ms:=fun hm=>by
   obtain⟨e',sz',dN,DS⟩:=AM.1 m hm;rw[hH]at DS;cases DS
  have Mu:(kill st.H ms)[m]?=some (.row .uq e sz rows):=by rw[gM hnm];exact hH
  obtain⟨v,cs,ns,r1,r2,r3,r4,r5⟩:=hu1.rows m e sz rows Mu;obtain⟨p1,p2,v2,_,_,p3,_,_,p4,_⟩:=hs1.ob m _ Mu;rw[r1]at p3;cases p3;exact⟨v,cs,ns,r1,p1,p2,r2,r3,r4,r5,p4⟩
 obtain⟨bs,ts,us,Bj,zw⟩:=zG (w:=w) (vs:=xs.toList.map a.eval) (fun b hb=>(hu1.free b hb).1) hq hs.oM Ay K4 (by simp) (fun i d hd=>by
  rw[bt]at hd;cases hx:xs.toList[i]? with
  |none=>rw[hx]at hd;cases hd
  |some x=>
   rw[hx]at hd;simp only[cU,aq]at hd;subst hd;obtain⟨b,r,z⟩:=hs.ev x;exact⟨a.eval x,b,by rw[bt,hx];rfl,r,fun y hy=>NJ y (z y hy)⟩) hm1
 let Θc:Nat->Nat:=fun b=>if Θ1 b=0 then 0 else 1
 have zy:∀b,Θc b=0↔Θ1 b=0:=fun b=>by simp only[Θc];split<;>simp_all
 have Iu:∀b∈ts,∃m∈qs,Θ1 b=m+2:=fun b hb=>(zw.top b hb).1
 have Od:N9 w fun b=>b∈ts:=by
  obtain⟨B,v1,v2⟩:=hs1.vsb;refine⟨B,v1,fun b hB=>⟨(v2 b hB).2.1,fun hb'=>?_⟩⟩;have hm:yH Γ b:=by
   obtain⟨m,hm,hΘ⟩:=Iu b hb';exact hs1.mine b (by omega)
  rcases hm with q|q
  ·have:=(v2 b hB).1;omega
  ·exact(v2 b hB).2.2 q
 have hwr:∀b∈us,Wr w b:=by
  intro b hb;rcases zw.mem b hb with h|⟨m,hm,hρ⟩
  ·exact JX Bj b h
  ·exact(hu1.free b (by omega)).2.2
 have hc:=nL.2 w Θc (xs.toList.map a.eval) bs ts us Od Bj (fun b hb=>(zy b).2 (zw.zero b hb)) (fun b hb=>hs1.own b (fun e=>hb ((zy b).2 e))) (fun b=>by simp only[Θc];split<;>omega)
  (fun b hb=>by
   obtain⟨m,hm,hΘ⟩:=Iu b hb;exact⟨by simp only[Θc];rw[az (by omega)],(zw.top b hb).2⟩) zw.nd (fun b hb=>⟨fun hnt=>by
   rcases zw.mem b hb with h|⟨m,hm,hρ⟩
   ·exact absurd h hnt
   ·exact(zy b).2 (hu1.free b (by omega)).1,hwr b hb⟩)
 refine wpList_plain hg fun K hK=>?_
 unfold Oper.wp;rw[wR hop nL.1,Oper.upon_enter];have e0:xs.map a.eval=(xs.toList.map a.eval).toArray:=by
  rw[<-ql,gu]
 rw[e0];refine hc.mono ?_;rintro x w' ⟨v,b2,t2,u2,rfl,k1,k2,k3,k4,SB,a3X,kb,Z6,ku,kt⟩;show K (a.put o.dst v) w';rw[hd];let N:=st.H.length
 have hs2:=hs1.forget qs;have hNl:(kill st.H ms).length=N:=fm _ _;simp only[hNl]at hs2;let Θ2:Nat->Nat:=fun b=>if qs.any (fun m=>Θ1 b==m+2)then N+2 else Θ1 b
 have hs2:dl Γ ⟨st.σ,kill (kill st.H ms) qs⟩ κ Θ2 a w:=hs2;have M8:∀b,Θ1 b=0->Θ2 b=0:=fun b hb=>by
  simp only[Θ2];rw[az,hb];intro h;obtain⟨m,_,hm⟩:=cv.1 h;simp[hb]at hm
 have Ee:∀b,b∈ts->Θ2 b=N+2:=by
  intro b hb;simp only[Θ2];rw[bK];obtain⟨m,hm,hΘ⟩:=Iu b hb;exact cv.2 ⟨m,hm,by simp[hΘ]⟩
 have Z3:zS Γ (kill (kill st.H ms) qs) κ Θ2 w ρ1:=by
  refine⟨fun b hb=>?_,fun j e sz rows hj=>?_,fun j o hj=>?_⟩
  ·obtain⟨q1,q2⟩:=hu1.free b hb;exact⟨M8 b q1,q2⟩
  ·rcases oD hj with h|⟨_,h⟩
   ·cases h
   ·exact hu1.rows j e sz rows h
  ·rcases oD hj with h|⟨_,h⟩
   ·subst h;trivial
   ·exact hu1.more j o h
 obtain⟨L,c1,c2,c3,c4,c5⟩:=a3X.inst N;subst c3;subst c4;have Rr:∀x∈L,x.ok w':=c2;let κ':Nat->Option Value:=fun j=>if j<N then κ j else(L[j-N]?).map Fs.v
 let Θ':Nat->Nat:=fun b=>match Kp L b with|some i=>N+i+2|none=>if Θ2 b=N+2 then 0 else Θ2 b
 let ρ':Nat->Nat:=fun b=>match tK L b with|some i=>N+i+1|none=>ρ1 b
 have Of:∀(i:Nat) x b,L[i]?=some x->x.v.ownBlock=some b->Θ' b=N+i+2:=by
  intro i x b hx hb;simp only[Θ',JI Z6 hx hb]
 have zx:∀b,b∉L.flatMap Fs.ts->Θ' b=if Θ2 b=N+2 then 0 else Θ2 b:=by
  intro b h2;simp only[Θ',xH h2]
 have hzero:∀b,w.heap.size<=b->Θ2 b=0:=fun b hge=>by
  cases h:Θ2 b with
  |zero=>rfl
  |succ m=>exact absurd (hs2.own b (by omega)) (by omega)
 have Zv:∀b∈b2,Θ' b=0:=by
  intro b hb;obtain⟨p1,p3⟩:=kb b hb;rw[zx b p3];by_cases hlt:b<w.heap.size
  ·rcases p1 hlt with h|h
   ·rw[M8 b ((zy b).1 h)];simp
   ·rw[bK (Ee b h)]
  ·rw[hzero b (by omega)];simp
 have Wh:∀(i:Nat) x b,L[i]?=some x->b∈x.ns->Θ' b=0:=by
  intro i x b hx hb;have hmem:=sB hx hb;rw[zx b (CY Z6 hx hb)];rcases(ku b hmem).1 with h|h
  ·rw[hzero b h];simp
  ·rcases zw.mem b h with h|⟨m,hm,hρ⟩
   ·rw[bK (Ee b h)]
   ·rw[M8 b (hu1.free b (by omega)).1];simp
 have hn:∀(j:Nat) v,κ j=some v->κ' j=some v:=by
  intro j v hj;have:j<N:=dO fun h=>by rw[hs.pK j (by omega)]at hj;cases hj
  simp only[κ'];rw[bK this];exact hj
 have vS:Names κ' N L:=by
  intro i x hx;simp only[κ'];rw[az (by omega),dM,hx];rfl
 have Wd:∀b∈L.flatMap Fs.ts,yH Γ b:=by
  intro b hb;rcases(kt b hb).2 with h|h
  ·exact .inl (dY hs.base h)
  ·obtain⟨m,hm,hΘ⟩:=Iu b h;exact hs1.mine b (by omega)
 have k:iy w w' Θ2 Θ' (N+2):=by
  refine⟨by omega,k1,k2,k3,k4,fun b hlt hne=>SB b hlt (fun e=>hne (Ee b e)),fun b hlt hne=>?_,fun b hb=>?_⟩
  ·rw[zx b (fun e=>?_),az hne];rcases(kt b e).2 with h|h
   ·omega
   ·exact hne (Ee b h)
  ·by_cases ht':b∈L.flatMap Fs.ts
   ·obtain⟨x,T,hx⟩:=(ku b (Di ht')).2;exact(bI.1 hx).1
   ·rw[zx b ht']at hb;split at hb
    ·exact absurd rfl hb
    ·exact dS (hs2.own b hb) k4
 have hm:∀b,2<=Θ' b->yH Γ b:=by
  intro b hb;by_cases ht':b∈L.flatMap Fs.ts
  ·exact Wd b ht'
  ·rw[zx b ht']at hb;split at hb
   ·omega
   ·exact hs2.mine b hb
 have tI:=hs2.oF k hn Z3;have HW:(kill st.H (ms++qs)).length=N:=by simp[fm,N]
 have key:∀(j:Nat) y,(kill st.H (ms++qs)++L.map Fs.ob)[j]?=some y->(∃i x,j=N+i/\L[i]?=some x/\y=x.ob)\/(j<N/\(y=.gone\/(kill (kill st.H ms) qs)[j]?=some y)):=by
  intro j y hj;by_cases hlt:j<N
  ·rw[au (by rw[HW];exact hlt)]at hj;refine .inr ⟨hlt,?_⟩;rcases oD hj with h|⟨h3,h4⟩
   ·exact .inl h
   ·refine .inr ?_;simp only[af,yF]at h3;rw[gM h3.2,gM h3.1];exact h4
  ·rw[bA (by omega),HW,bt]at hj;cases hx:L[j-N]? with
   |none=>simp[hx]at hj
   |some x=>simp[hx]at hj;exact .inl ⟨j-N,x,by omega,hx,hj.symm⟩
 have hs':dl Γ ⟨st.σ,kill st.H (ms++qs)++L.map Fs.ob⟩ κ' Θ' a w':=by
  have Kc:∀(j:Nat) y,(kill (kill st.H ms) qs)[j]?=some y->y≠ .gone->∀b,ρ1 b=j+1->ρ' b=j+1:=by
   intro j y hy hyg b a3C;have hjk:j∉qs:=by
    rcases oD hy with h|h
    ·exact absurd h hyg
    ·exact h.1
   have hnb:tK L b=none:=by
    cases hi:tK L b with
    |none=>rfl
    |some i=>
     exfalso;obtain⟨x,hx,B8⟩:=uE hi;obtain⟨z0,_,a7s,T'',a3B⟩:=hu1.free b (by omega);rcases(ku b (sB hx B8)).1 with h|h
     ·have:=(bI.1 a3B).1;omega
     ·rcases zw.mem b h with h|⟨m,hm',hρ⟩
      ·obtain⟨m,hm',hΘ⟩:=Iu b h;omega
      ·exact hjk (by
        have:j=m:=by omega
        rw[this];exact hm')
   simp only[ρ',hnb];exact a3C
  refine hs2.step k hm hn ?_ ?_ ?_ ⟨ρ',?_,?_,?_⟩
  ·intro i hi;simp only[bC,HW,ax]at hi;simp only[κ'];rw[az (by omega),cM (by omega)];rfl
  ·intro i u wS;simp only[κ']at wS;split at wS
   ·exact hs.oM i u wS
   ·cases hx:L[i-N]? with
    |none=>simp[hx]at wS
    |some x=>simp[hx]at wS;subst wS;exact(Rr x (aE hx)).2.2.2.2
  ·intro j y hj;rcases key j y hj with⟨i,x,rfl,hx,rfl⟩|⟨hjl,hy|hy⟩
   ·obtain⟨q1,q2,q3,q4,_⟩:=Rr x (aE hx);exact .inr (.inr ⟨q1,q2,x.v,x.cs,x.ns,vS i x hx,q3,q4,fun g' hg'=>Of i x g' hx hg',fun b hb'=>Wh i x b hx hb'⟩)
   ·exact .inl hy
   ·exact .inr (.inl ⟨by omega,hy⟩)
  ·intro b hb;cases NE:tK L b with
   |some i=>
    obtain⟨x,hx,B8⟩:=uE NE;have hmem:=sB hx B8;refine⟨Wh i x b hx B8,?_,(ku b hmem).2⟩;rcases(ku b hmem).1 with h|h
    ·exact .inl (.inl (dY hs.base h))
    ·rcases zw.mem b h with h|⟨m,hm',hρ⟩
     ·obtain⟨m,hm',hΘ⟩:=Iu b h;exact .inl (hs1.mine b (by omega))
     ·exact(hu1.free b (by omega)).2.1
   |none=>
    simp only[ρ',NE]at hb;exact tI.1 b hb
  ·intro j e sz rows hj;rcases key j _ hj with⟨i,x,rfl,hx,hy⟩|⟨hjl,hy|hy⟩
   ·simp only[Fs.ob,Ob.row.injEq,sA]at hy;obtain⟨rfl,rfl,rfl⟩:=hy;obtain⟨q1,q2,q3,q4,_⟩:=Rr x (aE hx);exact⟨x.v,x.cs,x.ns,vS i x hx,q3,q4,J6 Z6 hx,fun b hb'=>by simp only[ρ',C5 Z6 hx hb']⟩
   ·cases hy
   ·obtain⟨v',c',bs',r1,r2,r3,r4,r5⟩:=tI.2.1 j e sz rows (by omega) hy;exact⟨v',c',bs',r1,r2,r3,r4,fun b hb'=>Kc j _ hy (by simp) b (r5 b hb')⟩
  ·intro j y hj;rcases key j _ hj with⟨i,x,rfl,hx,hy⟩|⟨hjl,hy|hy⟩
   ·subst hy;exact KO.xF rfl
   ·subst hy;trivial
   ·by_cases hg:y=.gone
    ·subst hg;trivial
    ·exact(tI.2.2 j y (by omega) hy).re (Kc j y hy hg)
 rw[<-c1]at h;refine hK _ _ (h _ _ _ _ (hs'.set (t:=t) ht (c5 κ' vS) fun b hb=>Zv b hb))
end
end Go.Cx
namespace Go.Cx
open Go.RowKit
def Pk(P:Program)(f:FuncId)(e:TypeId)(sz:Nat)(rows dN:List aP):Prop:=
 (∃fn,P.funcs[f]?=some fn/\fn.body.isSome=true/\(fn.name== "runtime.NumGoroutine")=false)/\
 ∀(w:World) (v:Value) (cs:bw),0<sz->(∀r∈rows,r.length=sz)->w.ownsRow 0 e sz v rows.length cs->l6 w cs rows.flatten []->
  Calls P f #[v] w (fun x w'=>x=.returned (.tuple #[])/\w'.os=w.os/\w'.tape=w.tape/\w'.output=w.output/\w.heap.size<=w'.heap.size/\
   (∀b,b<w.heap.size->v.ownBlock≠some b->w'.heap[b]?=w.heap[b]?)/\(∀r∈dN,r.length=sz)/\∃cs',w'.ownsRow 0 e sz v dN.length cs'/\l6 w' cs' dN.flatten [])
section
variable{P:Program}{Γ:ul}{Q:Exit->St->Prop}{st:St}{κ:Nat->Option Value}{Θ:Nat->Nat}{a:Act}{w:World}{all:Array Oper}{rest:List Oper}
theorem VY{o:Oper}{f id e sz:Nat}{x:Operand}{ts:Array TypeId}{k0:RK}{rows dN:List aP}(hop:o.op=.call {callee:=.value (.func f),args:= #[x],argTypes:=ts})(hd:∀t,o.dst=some t->t<Γ.nt)(hg:o.guard=none)
 (hx:st.ev x=.acc id) (hH:st.H[id]?=some (.row k0 e sz rows)) (hk0:k0.hand=true) (hfl:rows.flatten.all D.flat=true) (nL:Pk P f e sz rows dN)
 (h:AO P Γ all rest Q (St.put ⟨st.σ,st.H.set id (.row k0 e sz dN)⟩ o.dst (.iE []))):AO P Γ all (o::rest) Q st:=by
 intro κ Θ a w hs;obtain⟨b1,r1,_⟩:=hs.ev x;rw[hx]at r1;obtain⟨hkv,_⟩:=r1.vD;obtain⟨hsz,hrl,v,cs,bs,hk1,hown,hrd,Ed,hz⟩:=hs.ob id _ hH;rw[hkv]at hk1;cases hk1;have Eb:=hrd.flat hfl;subst Eb;obtain⟨ρ,hu⟩:=hs.tJ;refine wpList_plain hg fun K hK=>?_
 unfold Oper.wp;rw[wR hop nL.1,Oper.upon_enter];have e1:(#[x]:Array Operand).map a.eval= #[a.eval x]:=by simp
 rw[e1];refine(nL.2 w _ cs hsz hrl hown hrd).mono ?_;rintro e' w' ⟨rfl,k1,k2,k3,k4,k5,L6,cs',It,M6⟩;have kk:iy w w' Θ Θ (id+2):=⟨by omega,k1,k2,k3,k4,fun b hb ht=>k5 b hb fun e=>ht (Ed b e),fun _ _ _=>rfl,fun b hb=>dS (hs.own b hb) k4⟩
 have hs':dl Γ ⟨st.σ,st.H.set id (.row k0 e sz dN)⟩ κ Θ a w':=by
  refine hs.put [] zB (fun _ _ h=>h) (fun i hi=>hs.pK i (by simpa using hi)) hs.oM kk hs.mine ?_ hu (by simp) ?_ ?_
  ·refine⟨hsz,L6,_,cs',[],hkv,It,M6,Ed,?_⟩;cases k0 with
   |cl=>simp[RK.hand]at hk0
   |mv n=>simp[RK.hand]at hk0
   |sh=>simp
   |uq=>simp
  ·intro e2 Si fo he;cases he;exact⟨_,cs',[],hkv,It,M6,by simp,by simp⟩
  ·cases k0 with
   |mv n=>simp[RK.hand]at hk0
   |_=>rfl
 show K (a.put o.dst (.tuple #[])) w';refine hK _ _ (h κ Θ _ w' ?_);cases OZ:o.dst with
 |none=>exact hs'
 |some t=>exact hs'.set (hd t OZ) (.iE [] [] [] .nil) (by simp)
end
end Go.Cx

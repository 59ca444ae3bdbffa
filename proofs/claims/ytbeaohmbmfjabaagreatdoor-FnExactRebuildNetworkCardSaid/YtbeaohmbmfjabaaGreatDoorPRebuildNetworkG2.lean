/- Regions whose order is drawn: where each operation of the head only computes or calls a function that leaves what was there as it was, every order gives the state of the text's order. No condition; plain lemmas. -/
import Derived.Test.YtbeaohmbmfjabaaGreatDoorPRebuildNetworkG1
import Derived.StillTail
import Derived.MapKept
import Derived.Laws.BytesArg
set_option linter.unusedVariables false
set_option linter.unusedSimpArgs false
namespace Go.Cx
open Go.RowKit
abbrev p6:=List Fs
section
variable{P:Program}{Γ:w5}{Q:Exit->St->Prop}{st:St}{κ:Nat->Option Value}{Θ:Nat->Nat}{a:Act}{w:World}{all:Array Oper}
def Ext(H H':bX):Prop:=∀(i:Nat) o,H[i]?=some o->H'[i]?=some o
theorem V5(σ:List (Nat×D))(H H':bX)(x:Operand):St.ev ⟨σ,H⟩ x=St.ev ⟨σ,H'⟩ x:=by cases x<;>rfl
theorem Tx{σ σ':List (Nat×D)}{H H':bX}{op:Op}{d:D}(hx:Ext H H')(he:∀x∈op.operands.toList,St.ev ⟨σ,H⟩ x=St.ev ⟨σ',H'⟩ x)(h:pv P ⟨σ,H⟩ op=some d):pv P ⟨σ',H'⟩ op=some d:=by
 have hm:∀(o:Option Operand),(∀x∈o.toArray.toList,St.ev ⟨σ,H⟩ x=St.ev ⟨σ',H'⟩ x)->o.map (St.ev ⟨σ,H⟩)=o.map (St.ev ⟨σ',H'⟩):=by
  intro o h;cases o with
  |none=>rfl
  |some x=>simp[h x (by simp)]
 cases op<;>simp only[pv]at h⊢ <;>(try cases h)
 case move x=>rw[he x (by simp[Op.operands])]at*
 case assign x=>rw[he x (by simp[Op.operands])]at*
 case nilCheck x=>rw[he x (by simp[Op.operands])]at h;exact h
 case pick c x y=>rw[he c (by simp[Op.operands]),he x (by simp[Op.operands]),he y (by simp[Op.operands])]at h;exact h
 case binOp op t x y t'=>rw[he x (by simp[Op.operands]),he y (by simp[Op.operands])]at h;exact h
 case unOp op t x=>cases op<;>simp only[pv]at h⊢ <;>(try cases h)<;>(rw[he x (by simp[Op.operands])]at h;exact h)
 case convert s d x=>rw[he x (by simp[Op.operands])]at h;exact h
 case field t x f=>rw[he x (by simp[Op.operands])]at h;exact h
 case fieldAddr t x f=>rw[he x (by simp[Op.operands])]at h;exact h
 case indexAddr t x i=>
  rw[he x (by simp[Op.operands]),he i (by simp[Op.operands])]at h;split at h
  ·rename_i e sz rows kk n h1 h2 h3
   (try simp only[h1,h2,h3]);exact h
  ·rename_i e sz id kk n h1 h2 h3
   (try simp only[h1,h2,h3])
   split at h
   ·rename_i k e' sz' rows hH;simp only[hx id _ hH];exact h
   ·cases h
  ·rename_i g o' kk n h1 h2
   (try simp only[h1,h2])
   generalize Ia P t=q at h⊢;cases q<;>exact h
  ·cases h
 case load t x=>
  rw[he x (by simp[Op.operands])]at h;split at h
  ·rename_i ag row off h1 h2
   (try simp only[h1,h2]);exact h
  ·rename_i ag id off h1 h2
   (try simp only[h1,h2])
   split at h
   ·rename_i cells hH;obtain⟨ob,hH,CN⟩:=oG.1 hH;simp only[hx id _ hH,aA,CN];exact h
   ·cases h
  ·rename_i ag id i sz off h1 h2
   (try simp only[h1,h2])
   split at h
   ·rename_i k e' sz' rows hH;simp only[hx id _ hH];exact h
   ·cases h
  ·rename_i ag g o' h1 h2
   (try simp only[h1,h2]);exact h
  ·cases h
 case lookup T x i ok=>
  rw[he x (by simp[Op.operands]),he i (by simp[Op.operands])]at h;split at h
  ·rename_i id h1
   (try simp only[h1])
   split at h
   ·rename_i kv hH;simp only[hx id _ hH];exact h
   ·cases h
  ·cases h
 case extract x i=>rw[he x (by simp[Op.operands])]at h;exact h
 case index t x i=>rw[he x (by simp[Op.operands]),he i (by simp[Op.operands])]at h;exact h
 case slice t x lo hi mx=>
  cases mx with
  |none=>
   simp only[pv]at h⊢;rw[he x (by simp[Op.operands]),hm lo (fun y hy=>he y (by simp only[Op.operands,mH,au];exact .inl (.inl (.inr hy)))),
    hm hi (fun y hy=>he y (by simp only[Op.operands,mH,au];exact .inl (.inr hy)))]at h
   exact h
  |some m=>simp only[pv]at h;cases h
 case build t parts=>
  have:(parts.toList.map fun p=>(p.1,St.ev ⟨σ,H⟩ p.2))=parts.toList.map fun p=>(p.1,St.ev ⟨σ',H'⟩ p.2):=by
   apply mJ;intro p hp;rw[he p.2 (by simp only[Op.operands];simp;exact⟨p.1,by simpa using hp⟩)]
  rw[this]at h;exact h
 case call c=>
  split at h
  ·rename_i x t h1 h2 h3;have hxm:x∈(Op.call c).operands.toList:=by
    simp only[Op.operands,Call.operands,mH,au,h2];exact .inr (by simp)
   (try simp only[h1,h2,h3])
   unfold a5Y at h⊢;rw[he x hxm]at h;split at h
   ·rename_i s hs;(try simp only[hs]);exact h
   ·rename_i rows hs;(try simp only[hs]);exact h
   ·rename_i hs;(try simp only[hs]);exact h
   ·rename_i id hs
    (try simp only[hs])
    split at h
    ·rename_i kk k e sz rows h4 h5;simp only[h4,hx id _ h5];exact h
    ·cases h
   ·cases h
  ·rename_i x y t t' h1 h2 h3;have hxm:x∈(Op.call c).operands.toList:=by
    simp only[Op.operands,Call.operands,mH,au,h2];exact .inr (by simp)
   have hym:y∈(Op.call c).operands.toList:=by
    simp only[Op.operands,Call.operands,mH,au,h2];exact .inr (by simp)
   (try simp only[h1,h2,h3])
   rw[he x hxm,he y hym]at h;exact h
  ·cases h
theorem WC{H H':bX}(hx:Ext H H'){d e:D}{ms:af}(h:vwC H d=some (e,ms)):vwC H' d=some (e,ms):=by
 cases d<;>simp only[vwC]at h⊢ <;>(try exact h)
 split at h
 ·rename_i k e' sz rows hH;simp only[hx _ _ hH];exact h
 ·rename_i sz rows u hH;simp only[hx _ _ hH];exact h
 ·rename_i rows hH;simp only[hx _ _ hH];exact h
 ·cases h
theorem a0d{H H':bX}(hx:Ext H H'):∀ {ds es:aR} {ms:af},WD H ds=some (es,ms)->WD H' ds=some (es,ms):=by
 intro ds
 induction ds with
 |nil=>intro es ms h;exact h
 |cons d ds ih=>
  intro es ms h;simp only[WD]at h⊢;split at h
  ·rename_i e m es' ms' h1 h2;rw[WC hx h1,ih h2];exact h
  ·cases h
theorem a3s{H H':bX}(hx:Ext H H'){d e:D}{ms:af}(h:vwV H d=some (e,ms)):vwV H' d=some (e,ms):=by
 by_cases wC:∃ds,d=.agg ds
 ·obtain⟨ds,rfl⟩:=wC;simp only[vwV]at h⊢;split at h
  ·rename_i es ms' h1;rw[a0d hx h1];exact h
  ·cases h
 ·by_cases ht:∃vs,d=.gZ vs
  ·obtain⟨vs,rfl⟩:=ht;simp[vwV]at h
  ·have e1:∀H,vwV H d=vwC H d:=by intro H;cases d<;>first|rfl|exact absurd ⟨_,rfl⟩ wC|exact absurd ⟨_,rfl⟩ ht
   rw[e1]at h⊢;exact WC hx h
theorem a0e{H H':bX}(hx:Ext H H'):∀ {ds es:aR} {ms:af},MM H ds=some (es,ms)->MM H' ds=some (es,ms):=by
 intro ds
 induction ds with
 |nil=>intro es ms h;exact h
 |cons d ds ih=>
  intro es ms h;simp only[MM]at h⊢;split at h
  ·rename_i e m es' ms' h1 h2;rw[a3s hx h1,ih h2];exact h
  ·cases h
structure Cp where
 t:Option Nat
 d:D
 r:Nat
 obs:bX
 up:Option (Nat×Ob)
def Looks(H:bX)(vs ds:aR)(ms:af):Prop:=MM H vs=some (ds,ms)\/(vs.all PK=true/\ds=vs/\ms=[])
def OE(P:Program)(H:bX)(σ:List (Nat×D))(o:Oper)(p:Cp):Prop:=
 (pv P ⟨σ,H⟩ o.op=some p.d/\p.obs=[])\/∃(f:FuncId) (xs:Array Operand) (ts:Array TypeId) (ds:aR) (ms:af) (d:D),o.op=.call {callee:=.value (.func f),args:=xs,argTypes:=ts}/\
  Looks H (xs.toList.map (St.ev ⟨σ,H⟩)) ds ms/\(ms=[]\/d.RN=true)/\Good P f ds d/\(rW p.r d=(p.d,p.obs)\/(d.a8Y=true/\p.d=d.shV/\p.obs=[]))
def T8(P:Program)(H:bX)(σ:List (Nat×D))(o:Oper)(p:Cp):Prop:=
 (∃T zs,o.op=.alloc T/\tz P T=some zs/\p.d=.ptr p.r 0/\p.obs=[.box zs])\/∃T x ds,o.op=.box T x/\(St.ev ⟨σ,H⟩ x).cellsOf=some ds/\p.d=.ptr p.r 0/\p.obs=[.box ds]
def TA(P:Program)(H:bX)(σ:List (Nat×D))(o:Oper)(p:Cp):Prop:=
 ∃T e sz len parts zs ds es,o.op=.buildSlice T len parts/\Ia P T=some (e,sz)/\tz P e=some zs/\0<sz/\len*sz<=16777216/\
  AT (vW len sz) (List.replicate len zs).flatten (parts.toList.map fun q=>(q.1,St.ev ⟨σ,H⟩ q.2))=some ds/\OH H ds=some (es,[])/\p.d=.acc p.r/\p.obs=[.row (BV (ds.all (Z7 H))) e sz (chunk sz len es)]
def T9(P:Program)(H:bX)(σ:List (Nat×D))(o:Oper)(p:Cp):Prop:=
 ∃T e sz len parts zs ds,o.op=.buildSlice T len parts/\Ia P T=some (e,sz)/\tz P e=some zs/\0<sz/\len*sz<=16777216/\
  AT (vW len sz) (List.replicate len zs).flatten (parts.toList.map fun q=>(q.1,St.ev ⟨σ,H⟩ q.2))=some ds/\ds.all D.UW=true/\ds.all D.flat=true/\p.d=.sl (chunk sz len ds)/\p.obs=[]
def MU(P:Program)(H:bX)(σ:List (Nat×D))(o:Oper)(p:Cp):Prop:=OE P H σ o p\/T8 P H σ o p\/TA P H σ o p\/T9 P H σ o p
def a9S(P:Program)(Γ:w5)(all:Array Oper)(H:bX)(σ:List (Nat×D))(o:Oper)(p:Cp):Prop:=
 ∃t,p.t=some t/\p.up=none/\o.dst=some t/\t<Γ.nt/\((o.guard=none/\MU P H σ o p)\/
  (∃(j s:Nat) (want b:Bool),o.guard=some (j,want)/\(all[j]?).bind (·.dst)=some s/\lk σ s=.bool b/\((b=want/\MU P H σ o p)\/(b≠want/\p.d=.gZ []/\p.obs=[])))\/
  ∃(j s:Nat) (want:Bool),o.guard=some (j,want)/\(all[j]?).bind (·.dst)=some s/\lk σ s=.gZ []/\p.d=.gZ []/\p.obs=[])
def a9R(P:Program)(H:bX)(σ:List (Nat×D))(o:Oper)(p:Cp):Prop:=
 p.t=none/\p.obs=[]/\o.dst=none/\o.guard=none/\∃T x y id ds,o.op=.store T x y/\St.ev ⟨σ,H⟩ x=.ptr id 0/\H.length<=id/\(St.ev ⟨σ,H⟩ y).cellsOf=some ds/\UF P T=true/\ds.length=Be P T/\p.up=some (id,.box ds)
def wG(P:Program)(Γ:w5)(all:Array Oper)(H:bX)(σ:List (Nat×D))(o:Oper)(p:Cp):Prop:=a9S P Γ all H σ o p\/a9R P H σ o p
def Cp.slot(p:Cp)(σ:List (Nat×D)):List (Nat×D):=match p.t with|some t=>(t,p.d)::σ|none=>σ
def Cp.fill(n:Nat)(p:Cp)(acc:bX):bX:=match p.up with|some (id,ob)=>acc.set (id-n) ob|none=>acc++p.obs
def Cp.aBP(n:Nat)(p:Cp)(U:af)(acc:bX):Prop:=match p.up with|some (id,ob)=>id∉U/\n<=id/\∃zs ds,acc[id-n]?=some (.box zs)/\ob=.box ds/\zs.length=ds.length|none=>True
def Cp.ups(p:Cp)(U:af):af:=match p.up with|some (id,_)=>id::U|none=>U
def P9(P:Program)(Γ:w5)(all:Array Oper)(H:bX)(K:List (Nat×D)->bX->Prop):List Oper->List (Nat×D)->bX->af->Prop
 | [],σ,acc,_=>K σ acc
 |o::os,σ,acc,U=>∃p:Cp,p.r=H.length+acc.length/\wG P Γ all H σ o p/\p.aBP H.length U acc/\P9 P Γ all H K os (p.slot σ) (p.fill H.length acc) (p.ups U)
theorem CM{Q':Exit->Act->World->Prop}{ops:Array Oper}{i:Nat}{o:Oper}{K:Act->World->Prop}(hi:ops[i]?=some o)(hw:Region.wanted o (yielded ops a.tmps)=true)(h:o.wp P a w K Q'):wpOp P ops Q' i K a w:=by
 unfold wpOp;simp only[hi,hw,sN];exact .inl h
theorem eO.a9D(hs:eO Γ st κ Θ a w){ops:Array Oper}{j s:Nat}{b:Bool}(hj:(ops[j]?).bind (·.dst)=some s)(hb:lk st.σ s=.bool b):yielded ops a.tmps j=some b:=by
 obtain⟨bs,r,_⟩:=hs.slot s;rw[hb]at r;have hv:=r.yq;have hlt:s<a.tmps.size:=by
  rcases eR s a.tmps.size with h|h
  ·exact h
  ·exfalso;rw[cO,u9 h]at hv;simp[undef]at hv
 have h1:a.tmps[s]?=some (.bool b):=by
  rw[cO,cS hlt]at hv;rw[cS hlt];simpa using hv
 simp[yielded,hj,h1]
theorem Qe{st xw:St}{ops:Array Oper}{o:Oper}(h:∀t∈o.looksAt ops,lk st.σ t=lk xw.σ t):∀x∈o.op.operands.toList,st.ev x=xw.ev x:=by
 intro x hx;cases x with
 |tmp t=>
  refine h t ?_;unfold Oper.looksAt;exact au.2 (.inl (cF.2 ⟨.tmp t,hx,rfl⟩))
 |const v=>rfl
 |global g=>rfl
 |func f=>rfl
theorem I9(l:List (Nat×D))(σ:List (Nat×D))(t:Nat):(∀p∈l,p.1≠t)->lk (l++σ) t=lk σ t:=by
 induction l with
 |nil=>intro _;rfl
 |cons q l ih=>
  intro h;obtain⟨u,d⟩:=q;simp only[dS,lk];rw[bH (fun e=>h (u,d) (by simp) e.symm)];exact ih (fun p hp=>h p (by simp[hp]))
theorem MB(l:List (Nat×D))(σ:List (Nat×D))(p:Nat×D)(hp:p∈l)(hd:∀q∈l,q.1=p.1->q=p):lk (l++σ) p.1=p.2:=by
 induction l with
 |nil=>cases hp
 |cons q l ih=>
  obtain⟨u,d⟩:=q;simp only[dS,lk];by_cases e:p.1=u
  ·rw[bS e];have:=hd (u,d) (by simp) e.symm;rw[<-this]
  ·rw[bH e];rcases bM.1 hp with rfl|hp
   ·exact absurd rfl e
   ·exact ih hp (fun q hq=>hd q (by simp[hq]))
def a1U(ops:Array Oper)(n:Nat):Bool:=
 decide (n<=ops.size)&&(decide (n=ops.size)||(decide (n<ops.size)&&(Region.sinkB .any ops n&&Region.chainB .any ops n)))&&
 Region.seqB .any ops (ops.size-n) n (Array.replicate n true++Array.replicate (ops.size-n) false)&&
 (List.range n).all fun i=>match ops[i]? with
  |none=>false
  |some o=>(o.after.all fun e=> !Region.binds .any e||decide (e.on<i))&&
   ((o.looksAt ops).all fun t=>(List.range n).all fun j=>match ops[j]? with|some oj=> !(oj.dst==some t)||(decide (j<i)&&Region.waitsFor .any ops i j)|none=>true)&&
   (List.range n).all fun j=>j==i||(match ops[j]? with|some oj=> !(oj.dst==o.dst)||o.dst.isNone|none=>true)
def place(H:bX)(r:Nat)(obs:bX):bX:=H.take r++(obs++H.drop (r+obs.length))
theorem x9{H:bX}{r:Nat}{obs:bX}(h:r+obs.length<=H.length)(j:Nat):(place H r obs)[j]?=if j<r then H[j]? else if j<r+obs.length then obs[j-r]? else H[j]?:=by
 unfold place;have hl:(H.take r).length=r:=by rw[cM];omega
 by_cases h1:j<r
 ·rw[bS h1,b9 (by omega),cK,bS h1]
 ·rw[bH h1,bE (by omega),hl];by_cases h2:j<r+obs.length
  ·rw[bS h2,b9 (by omega)]
  ·rw[bH h2,bE (by omega),eD]
   congr 1;omega
theorem xA{H:bX}{r:Nat}{obs:bX}(h:r+obs.length<=H.length):(place H r obs).length=H.length:=by
 unfold place;simp;omega
theorem OE.wp{Q':Exit->Act->World->Prop}{σ:List (Nat×D)}{H H':bX}{o:Oper}{p:Cp}{K:Act->World->Prop}(hs:eO Γ ⟨σ,H'⟩ κ Θ a w)(hx:Ext H H'){t:Nat}(hd:o.dst=some t)(ht:t<Γ.nt)(h:OE P H σ o p)
 (hr:p.r+p.obs.length<=H'.length) (hfree:∀i,i<p.obs.length->κ (p.r+i)=none)
 (hK:∀κ' Θ' a' w',eO Γ ⟨(t,p.d)::σ,place H' p.r p.obs⟩ κ' Θ' a' w'->(∀j,(j<p.r\/p.r+p.obs.length<=j)->κ' j=κ j)->K a' w'):o.wp P a w K Q':=by
 rcases h with⟨h,hno⟩|⟨f,xs,ts,ds,ms,d,hop,hds,hsh,pX,hi⟩
 ·have h':=Tx (σ:=σ) (σ':=σ) hx (fun x _=>V5 σ H H' x) h;obtain⟨v,bs,hrun,hrd,hz⟩:=IF hs h';unfold Oper.wp;rw[hrun,Oper.upon_value,hd];have hp:place H' p.r p.obs=H':=by rw[hno];simp[place]
  exact hK κ Θ _ _ (by rw[hp];exact hs.set ht hrd hz) (fun _ _=>rfl)
 ·have hev:xs.toList.map (St.ev ⟨σ,H⟩)=xs.toList.map (St.ev ⟨σ,H'⟩):=mJ (fun x _=>V5 σ H H' x);have a7Z:∃bs,Y8 w (xs.toList.map a.eval) ds bs/\∀b∈bs,Seen Θ ms b:=by
   rcases hds with hds|⟨hk,rfl,rfl⟩
   ·have:=a0e hx hds;rw[hev]at this;exact QD hs this
   ·rw[hev]at hk⊢;exact Sa hs hk
  obtain⟨bs,hargs,hz⟩:=a7Z;let Θc:Nat->Nat:=fun b=>if Θ b=0\/ms.any (fun m=>Θ b==m+2)then 0 else 1
  have PI:∀b,Seen Θ ms b->Θc b=0:=by
   intro b h;simp only[Θc];rw[bS];rcases h with h|⟨m,h1,h2⟩
   ·exact .inl h
   ·exact .inr (dR.2 ⟨m,h1,by simp[h2]⟩)
  have hc:=pX.2 w Θc _ bs hs.vok hargs (fun b hb=>PI b (hz b hb)) (fun b hb=>hs.own b (fun e=>hb (PI b (.inl e)))) (fun b=>by simp only[Θc];split<;>omega);unfold Oper.wp;rw[AV hop pX.1,Oper.upon_enter];have e:xs.map a.eval=(xs.toList.map a.eval).toArray:=by rw[<-jI,kj]
  rw[e];refine hc.mono ?_;rintro e w' ⟨v,bs',tb,ub,rfl,hb,hr',Rk,htb,hnd,hfr,hsub⟩;show K (a.put o.dst v) w';rw[hd];rcases hi with hi|⟨hown,X7,UU⟩
  rotate_left
  ·cases hr' with
   |gZ=>cases hown
   |v hv=>
    have I2:bs'=[]:=hv.own (by
     unfold D.a8Y at hown;split at hown
     ·cases hown
     ·exact hown)
    obtain⟨b,q,s⟩:=hv.F3;have hp:place H' p.r p.obs=H':=by rw[UU];simp[place]
    refine hK κ Θ _ w' ?_ (fun _ _=>rfl);rw[hp,X7];refine(hs.grow hb).set ht (.v (.cell (.pure q))) fun x hx'=>?_
    rcases s x hx' with h|h
    ·rw[I2]at h;cases h
    ·by_cases h0:Θ x=0
     ·exact h0
     ·have:=hs.own x h0;have:=(hfr x h).1;omega
  obtain⟨L,q1,q2,q3,q4,q5⟩:=hr'.inst p.r;rw[hi]at q1 q5;simp only at q1 q5;have hLl:L.length=p.obs.length:=by have:=congrArg List.length q1;simpa using this
  obtain⟨κ',Θ',hs',hnm,_,hno,hsame⟩:=hs.SZ hb L q2 (q3▸hnd) (fun b hb'=>hfr b (q3▸hb')) p.r (place H' p.r p.obs) (fun i hi'=>hfree i (by omega)) (by rw[xA hr];exact bR _) (by rw[xA hr];omega) (by
   intro j y hj;rw[x9 hr]at hj;split at hj
   ·rename_i h1;exact .inr ⟨.inl h1,.inr hj⟩
   ·rename_i h1;split at hj
    ·rename_i h2;rw[<-q1,cA]at hj;cases hx':L[j-p.r]? with
     |none=>simp[hx']at hj
     |some x=>simp[hx']at hj;exact .inl ⟨j-p.r,x,by omega,hx',hj.symm⟩
    ·exact .inr ⟨.inr (by omega),.inr hj⟩)
  refine hK κ' Θ' _ w' (hs'.set (t:=t) ht (q5 κ' hnm) fun b hb'=>?_) (fun j hj=>hsame j (by omega));rw[hno b (q4▸htb b hb')];rcases hsh with TT|hown
  ·by_cases hlt:b<w.heap.size
   ·have h0:=Rk b hb' hlt;simp only[Θc,TT,MS]at h0;by_cases h1:Θ b=0
    ·exact h1
    ·simp[h1]at h0
   ·by_cases h0:Θ b=0
    ·exact h0
    ·exact absurd (hs.own b h0) hlt
  ·rw[hr'.own hown]at hb';cases hb'
theorem eO.Vc{σ:List (Nat×D)}{H':bX}(hs:eO Γ ⟨σ,H'⟩ κ Θ a w){r:Nat}(hr:r+1<=H'.length)(hfree:κ r=none){cs:Array Value}{ds:aR}{bs:af}(T:TypeId)(hrd:fP w κ cs.toList ds bs)(hz:∀b∈bs,Θ b=0):
 eO Γ ⟨σ,place H' r [.box ds]⟩ (Ad κ r (some (.pointer (some ⟨w.heap.size,0,none⟩)))) (fun b=>if b=w.heap.size then r+2 else Θ b) a (w.alloc (.cells cs T)):=by
 have k:=jY.alloc hs (.cells cs T) (tag:=r+2) (by omega);have hn:=zx hfree (some (Value.pointer (some ⟨w.heap.size,0,none⟩)));obtain⟨h1,h2⟩:=fP.stay k hn hrd hz;obtain⟨ρ,hu⟩:=hs.wq;refine hs.put (id:=r) (o:=.box ds) [] ?_ hn ?_ ?_ k (hs.Bc (fun b hb=>by by_cases e:b=w.heap.size<;>simp_all)) ?_ hu (by simp) (by intro e sz rows h;cases h)
 ·intro j y hj;rw[x9 (by simpa using hr)]at hj;split at hj
  ·exact .inr ⟨by omega,hj⟩
  ·split at hj
   ·rename_i h2;simp only[aK,bK]at h2;have e:j=r:=by omega
    subst e;simp at hj;exact .inl ⟨rfl,hj.symm⟩
   ·rename_i h2;simp only[aK,bK]at h2;exact .inr ⟨by omega,hj⟩
 ·intro i hi;rw[xA (by simpa using hr)]at hi;unfold Ad;rw[bH (by omega)];exact hs.rX i hi
 ·intro i x hx;unfold Ad at hx;split at hx
  ·cases hx;rfl
  ·exact hs.qp i x hx
 ·exact⟨w.heap.size,cs,T,by simp[Ad],heap_alloc_new w _,by simp,bs,h1,h2⟩
theorem T8.wp{Q':Exit->Act->World->Prop}{σ:List (Nat×D)}{H H':bX}{o:Oper}{p:Cp}{K:Act->World->Prop}(hs:eO Γ ⟨σ,H'⟩ κ Θ a w){t:Nat}(hd:o.dst=some t)(ht:t<Γ.nt)(h:T8 P H σ o p)
 (hr:p.r+p.obs.length<=H'.length) (hfree:∀i,i<p.obs.length->κ (p.r+i)=none)
 (hK:∀κ' Θ' a' w',eO Γ ⟨(t,p.d)::σ,place H' p.r p.obs⟩ κ' Θ' a' w'->(∀j,(j<p.r\/p.r+p.obs.length<=j)->κ' j=κ j)->K a' w'):o.wp P a w K Q':=by
 rcases h with⟨T,zs,hop,hz,X7,UU⟩|⟨T,x,ds,hop,hc,X7,UU⟩
 ·rw[UU]at hr hfree hK;rw[X7]at hK;obtain⟨i,z,hi,Ab,hsz,hlen,hone,rfl⟩:=zl hz;have hs':=hs.Vc (r:=p.r) hr (by simpa using hfree 0 (by simp)) T (cs:=z.cells) (E3 z.cells.toList hone) (by simp);unfold Oper.wp;have hrun:(execOp a.eval o).run P w=.ok (.value (.pointer (some ⟨w.heap.size,0,none⟩))) (w.alloc (.cells z.cells T)):=by
   simp[execOp,hop,Instr.alloc,zeroValue,typeInfo,hi,Ab,newVar,newRow]
  rw[hrun,Oper.upon_value,hd];refine hK _ _ _ _ (hs'.set (t:=t) (d:=.ptr p.r 0) (bs:=[]) ht ?_ (by simp)) (fun j hj=>?_)
  ·exact(Ba.ptr p.r 0 w.heap.size (by simp[Ad])).UI
  ·unfold Ad;simp only[aK,bK]at hj;rw[bH (by omega)]
 ·rw[UU]at hr hfree hK;rw[X7]at hK;obtain⟨bs,rr,hz⟩:=hs.ev x;rw[V5 σ H' H x]at rr;have hcs:=DV hs.qp rr hc;have hs':=hs.Vc (r:=p.r) hr (by simpa using hfree 0 (by simp)) T hcs hz;unfold Oper.wp;have hrun:(execOp a.eval o).run P w=.ok (.value (.pointer (some ⟨w.heap.size,0,none⟩))) (w.alloc (.cells (a.eval x).cells T)):=by
   simp[execOp,hop,Instr.box,newVar,newRow]
  rw[hrun,Oper.upon_value,hd];refine hK _ _ _ _ (hs'.set (t:=t) (d:=.ptr p.r 0) (bs:=[]) ht ?_ (by simp)) (fun j hj=>?_)
  ·exact(Ba.ptr p.r 0 w.heap.size (by simp[Ad])).UI
  ·unfold Ad;simp only[aK,bK]at hj;rw[bH (by omega)]
theorem eO.a2i{σ:List (Nat×D)}{H':bX}(hs:eO Γ ⟨σ,H'⟩ κ Θ a w){r:Nat}(hr:r+1<=H'.length)(hfree:κ r=none){u:Bool}{e sz cap:Nat}{rows:List aR}{bs:af}(cur:Array Value)(hsz:0<sz)(hrl:∀x∈rows,x.length=sz)
 (Qp:cur.size=cap*sz) (hn:rows.length<=cap) (hcap:cap<=maxLen) (hrd:mZ w (cur.toList.take (rows.length*sz)) rows.flatten bs) (hz:∀b∈bs,Θ b=0) (hq:u=true->bs=[]):
 eO Γ ⟨σ,place H' r [.row (BV u) e sz rows]⟩ (Ad κ r (some (.slice (some ⟨w.heap.size,0,none⟩) rows.length cap))) (fun b=>if b=w.heap.size then r+2 else Θ b) a (w.alloc (.cells cur e)):=by
 have k:=jY.alloc hs (.cells cur e) (tag:=r+2) (by omega);have hkn:=zx hfree (some (Value.slice (some ⟨w.heap.size,0,none⟩) rows.length cap));obtain⟨h1,h2⟩:=mZ.over k hrd hz;have hlen:(cur.toList.take (rows.length*sz)).length=rows.length*sz:=by
  have:rows.length*sz<=cap*sz:=dZ _ hn;have h3:cur.toList.length=cap*sz:=by rw[<-Qp];simp
  rw[cM,h3,fE this]
 have hown:(w.alloc (.cells cur e)).ownsRow 0 e sz (.slice (some ⟨w.heap.size,0,none⟩) rows.length cap) rows.length (cur.toList.take (rows.length*sz)):=
  ⟨hlen,.inr ⟨w.heap.size,cap,cur,rfl,by omega,heap_alloc_new w _,hn,hcap,Qp,rfl⟩⟩
 obtain⟨ρ,hu⟩:=hs.wq;refine hs.put (id:=r) (o:=.row (BV u) e sz rows) [] ?_ hkn ?_ ?_ k (hs.Bc (fun b hb=>by by_cases e:b=w.heap.size<;>simp_all)) ?_ hu (by simp) ?_
 ·intro j y hj;rw[x9 (by simpa using hr)]at hj;split at hj
  ·exact .inr ⟨by omega,hj⟩
  ·split at hj
   ·rename_i h2;simp only[aK,bK]at h2;have e:j=r:=by omega
    subst e;simp at hj;exact .inl ⟨rfl,hj.symm⟩
   ·rename_i h2;simp only[aK,bK]at h2;exact .inr ⟨by omega,hj⟩
 ·intro i hi;rw[xA (by simpa using hr)]at hi;unfold Ad;rw[bH (by omega)];exact hs.rX i hi
 ·intro i x hx;unfold Ad at hx;split at hx
  ·cases hx;rfl
  ·exact hs.qp i x hx
 ·refine⟨hsz,hrl,_,_,bs,by simp[Ad],hown,h1,?_,?_⟩
  ·intro g hg;simp only[Value.ownBlock,az]at hg;subst hg;simp
  ·cases u<;>exact h2
 ·intro e' sz' dQ he;cases u with
  |false=>simp[BV]at he
  |true=>
   simp only[BV,Ob.row.injEq,wF]at he;obtain⟨rfl,rfl,rfl⟩:=he;have:=hq rfl;subst this;exact⟨_,_,[],by simp[Ad],hown,h1,by simp,by simp⟩
theorem TA.wp{Q':Exit->Act->World->Prop}{σ:List (Nat×D)}{H H':bX}{o:Oper}{p:Cp}{K:Act->World->Prop}(hs:eO Γ ⟨σ,H'⟩ κ Θ a w)(hx:Ext H H'){t:Nat}(hd:o.dst=some t)(ht:t<Γ.nt)(h:TA P H σ o p)
 (hr:p.r+p.obs.length<=H'.length) (hfree:∀i,i<p.obs.length->κ (p.r+i)=none)
 (hK:∀κ' Θ' a' w',eO Γ ⟨(t,p.d)::σ,place H' p.r p.obs⟩ κ' Θ' a' w'->(∀j,(j<p.r\/p.r+p.obs.length<=j)->κ' j=κ j)->K a' w'):o.wp P a w K Q':=by
 obtain⟨T,e,sz,len,parts,zs,ds,es,hop,hT,hz,hsz,hsmall,hf,habs,X7,UU⟩:=h;rw[UU]at hr hfree hK;rw[X7]at hK;have hf':AT (vW len sz) (List.replicate len zs).flatten (parts.toList.map fun q=>(q.1,St.ev ⟨σ,H'⟩ q.2))=some ds:=by
  rw[<-hf];congr 1
 obtain⟨arr,b0,hrun,Rv,hb0,hal,hdl⟩:=Bp (st:=⟨σ,H'⟩) hop hT hz hsz hsmall hf' hs;obtain⟨ρ,hu⟩:=hs.wq;obtain⟨bs,q1,q2,q3⟩:=WZ (H:=H) (ρ:=ρ) habs (by simp) Rv hb0 (by simp);have hel:es.length=len*sz:=by rw[<-q1.length,Rv.length,hdl]
 obtain⟨c1,c2,c3⟩:=GS sz len es hel;have hs':=hs.a2i (r:=p.r) hr (by simpa using hfree 0 (by simp)) (u:=ds.all (Z7 H)) (e:=e) (sz:=sz) (cap:=len) (rows:=chunk sz len es) (bs:=bs) arr hsz c3 hal (by rw[c1];exact bR _)
  (by unfold maxLen;have:len*1<=len*sz:=eP _ hsz;omega) (by rw[c1,c2,pL (by simp[hal])];exact q1) q2
  (fun hq=>by
   obtain⟨_,h2⟩:=q3 hq;cases bs with
   |nil=>rfl
   |cons b bs=>obtain⟨m,hm,_⟩:=h2 b (by simp);cases hm)
 unfold Oper.wp;rw[hrun,Oper.upon_value,hd];rw[c1]at hs';refine hK _ _ _ _ (hs'.set (t:=t) (d:=.acc p.r) (bs:=[]) ht ?_ (by simp)) (fun j hj=>?_)
 ·exact(Ba.acc p.r _ (by simp[Ad])).UI
 ·unfold Ad;simp only[aK,bK]at hj;rw[bH (by omega)]
theorem T9.wp{Q':Exit->Act->World->Prop}{σ:List (Nat×D)}{H H':bX}{o:Oper}{p:Cp}{K:Act->World->Prop}(hs:eO Γ ⟨σ,H'⟩ κ Θ a w){t:Nat}(hd:o.dst=some t)(ht:t<Γ.nt)(h:T9 P H σ o p)
 (hK:∀κ' Θ' a' w',eO Γ ⟨(t,p.d)::σ,place H' p.r p.obs⟩ κ' Θ' a' w'->(∀j,(j<p.r\/p.r+p.obs.length<=j)->κ' j=κ j)->K a' w'):o.wp P a w K Q':=by
 obtain⟨T,e,sz,len,parts,zs,ds,hop,hT,hz,hsz,hsmall,hf,aCp,Nc,X7,UU⟩:=h;rw[UU]at hK;rw[X7]at hK;have hf':AT (vW len sz) (List.replicate len zs).flatten (parts.toList.map fun q=>(q.1,St.ev ⟨σ,H'⟩ q.2))=some ds:=by
  rw[<-hf];congr 1
 obtain⟨arr,b0,hrun,Rv,hb0,hal,hdl⟩:=Bp (st:=⟨σ,H'⟩) hop hT hz hsz hsmall hf' hs;have hrd:=Rv.pure aCp;have aCU:b0=[]:=hrd.flat Nc;subst aCU;obtain⟨c1,c2,c3⟩:=GS sz len ds hdl;have Wz:Below w.heap.size w (w.alloc (.cells arr e)):=by
  have k:=jY.alloc hs (.cells arr e) (tag:=2) (by omega);refine⟨k.os,k.tape,k.output,k.size,fun b hlt=>?_⟩;simp only[World.alloc];rw[Array.getElem?_push,bH (by omega)]
 have hs':=hs.grow Wz;unfold Oper.wp;rw[hrun,Oper.upon_value,hd];have hpl:place H' p.r ([]:bX)=H':=by simp[place]
 rw[hpl]at hK;refine hK _ _ _ _ (hs'.set (t:=t) (d:=.sl (chunk sz len ds)) (bs:=[w.heap.size]) ht ?_ ?_) (fun j hj=>rfl)
 ·have hcell:∀j c,arr.toList[j]?=some c->(w.alloc (.cells arr e)).cell? ⟨w.heap.size,0+j,none⟩=some c:=by
   intro j c hj;simp only[cr,World.cell?,heap_alloc_new w _];simpa using hj
  have hlt:w.heap.size<(w.alloc (.cells arr e)).heap.size:=(bL.1 (heap_alloc_new w _)).1;have:=Rd.sl (w:=w.alloc (.cells arr e)) w.heap.size 0 len sz (chunk sz len ds) arr.toList [] hlt (by rw[c1];exact bR _) (by unfold maxLen;have:len*1<=len*sz:=eP _ hsz;omega) c3 hcell (by rw[c2];exact hrd.keep (by simp));rw[c1]at this;exact .of this
 ·intro b hb;simp only[dU]at hb;subst hb;cases h:Θ w.heap.size with
  |zero=>rfl
  |succ m=>exact absurd (hs.own w.heap.size (by omega)) (by omega)
theorem MU.wp{Q':Exit->Act->World->Prop}{σ:List (Nat×D)}{H H':bX}{o:Oper}{p:Cp}{K:Act->World->Prop}(hs:eO Γ ⟨σ,H'⟩ κ Θ a w)(hx:Ext H H'){t:Nat}(hd:o.dst=some t)(ht:t<Γ.nt)(h:MU P H σ o p)
 (hr:p.r+p.obs.length<=H'.length) (hfree:∀i,i<p.obs.length->κ (p.r+i)=none)
 (hK:∀κ' Θ' a' w',eO Γ ⟨(t,p.d)::σ,place H' p.r p.obs⟩ κ' Θ' a' w'->(∀j,(j<p.r\/p.r+p.obs.length<=j)->κ' j=κ j)->K a' w'):o.wp P a w K Q':=by
 rcases h with h|h|h|h
 ·exact h.wp hs hx hd ht hr hfree hK
 ·exact h.wp hs hd ht hr hfree hK
 ·exact h.wp hs hx hd ht hr hfree hK
 ·exact h.wp hs hd ht hK
theorem eO.a3l(hs:eO Γ st κ Θ a w){ops:Array Oper}{j s:Nat}(hj:(ops[j]?).bind (·.dst)=some s)(hb:lk st.σ s=.gZ []):yielded ops a.tmps j=none:=by
 obtain⟨bs,r,_⟩:=hs.slot s;rw[hb]at r;have hv:=r.Sv;rcases eR s a.tmps.size with hlt|hlt
 ·have h1:a.tmps[s]?=some (.tuple #[]):=by
   rw[cO,cS hlt]at hv;rw[cS hlt];simpa using hv
  simp[yielded,hj,h1]
 ·simp[yielded,hj,u9 hlt]
def Cp.DF(p:Cp)(H':bX):bX:=match p.up with|some (id,ob)=>H'.set id ob|none=>place H' p.r p.obs
theorem wG.wp{Q':Exit->Act->World->Prop}{σ:List (Nat×D)}{H H':bX}{ops:Array Oper}{i:Nat}{o:Oper}{p:Cp}{K:Act->World->Prop}(hs:eO Γ ⟨σ,H'⟩ κ Θ a w)(hx:Ext H H')(hi:ops[i]?=some o)(h:wG P Γ ops H σ o p)
 (hr:p.r+p.obs.length<=H'.length) (hfree:∀i,i<p.obs.length->κ (p.r+i)=none) (WO:∀id ob,p.up=some (id,ob)->∃zs ds,H'[id]?=some (.box zs)/\ob=.box ds/\zs.length=ds.length)
 (hK:∀κ' Θ' a' w',eO Γ ⟨p.slot σ,p.DF H'⟩ κ' Θ' a' w'->(∀j,(j<p.r\/p.r+p.obs.length<=j)->κ' j=κ j)->K a' w'):wpOp P ops Q' i K a w:=by
 rcases h with⟨t,hpt,Ya,hd,ht,h⟩|⟨hpt,UU,hd,hg,T,x,y,id,ds,hop,hev,hlen,hc,hT,hl,Ya⟩
 ·have e1:p.slot σ=(t,p.d)::σ:=by simp[Cp.slot,hpt]
  have e2:p.DF H'=place H' p.r p.obs:=by simp[Cp.DF,Ya]
  rw[e1,e2]at hK;rcases h with⟨hg,hc⟩|⟨j,s,want,b,hg,hj,hb,hc⟩|⟨j,s,want,hg,hj,hb,a7Y,hno⟩
  ·exact CM hi (by simp[Region.wanted,hg]) (hc.wp hs hx hd ht hr hfree hK)
  ·have hy:=hs.a9D hj hb;rcases hc with⟨rfl,hc⟩|⟨hne,a7Y,hno⟩
   ·exact CM hi (by simp[Region.wanted,hg,hy]) (hc.wp hs hx hd ht hr hfree hK)
   ·unfold wpOp;have hw:Region.wanted o (yielded ops a.tmps)=false:=by simp[Region.wanted,hg,hy,hne]
    simp only[hi,hw,Bg,DP,hd];have hp:place H' p.r p.obs=H':=by rw[hno];simp[place]
    exact hK κ Θ _ _ (by rw[hp,a7Y];exact hs.set ht (.gZ [] [] [] .nil) (by simp)) (fun _ _=>rfl)
  ·have hy:=hs.a3l hj hb;unfold wpOp;have hw:Region.wanted o (yielded ops a.tmps)=false:=by simp[Region.wanted,hg,hy]
   simp only[hi,hw,Bg,DP,hd];have hp:place H' p.r p.obs=H':=by rw[hno];simp[place]
   exact hK κ Θ _ _ (by rw[hp,a7Y];exact hs.set ht (.gZ [] [] [] .nil) (by simp)) (fun _ _=>rfl)
 ·have e1:p.slot σ=σ:=by simp[Cp.slot,hpt]
  have e2:p.DF H'=H'.set id (.box ds):=by simp[Cp.DF,Ya]
  rw[e1,e2]at hK;obtain⟨zs,ds',hz,he,hzl⟩:=WO id _ Ya;cases he;obtain⟨w',hrun,hs'⟩:=Sp (st:=⟨σ,H'⟩) hop (by rw[V5 σ H' H x];exact hev) hz rfl (by rw[V5 σ H' H y];exact hc) hT hl (by omega) hs;refine CM hi (by simp[Region.wanted,hg]) ?_;unfold Oper.wp;rw[hrun,Oper.upon_skip,hd];have e3:zs.take 0++ds++zs.drop (0+ds.length)=ds:=by
   rw[ED (by omega)];simp
  rw[e3]at hs';exact hK κ Θ _ _ hs' (fun _ _=>rfl)
theorem OE.congr{H:bX}{σ σ':List (Nat×D)}{o:Oper}{p:Cp}(he:∀x∈o.op.operands.toList,St.ev ⟨σ,H⟩ x=St.ev ⟨σ',H⟩ x)(h:OE P H σ o p):OE P H σ' o p:=by
 rcases h with⟨h,hno⟩|⟨f,xs,ts,ds,ms,d,hop,hds,hsh,pX,hi⟩
 ·exact .inl ⟨Tx (fun _ _ h=>h) he h,hno⟩
 ·have hm:xs.toList.map (St.ev ⟨σ,H⟩)=xs.toList.map (St.ev ⟨σ',H⟩):=by
   apply mJ;intro x hx;refine he x ?_;rw[hop];simp only[Op.operands,Call.operands,mH,au];exact .inr hx
  rw[hm]at hds;exact .inr ⟨f,xs,ts,ds,ms,d,hop,hds,hsh,pX,hi⟩
theorem MU.congr{H:bX}{σ σ':List (Nat×D)}{o:Oper}{p:Cp}(he:∀x∈o.op.operands.toList,St.ev ⟨σ,H⟩ x=St.ev ⟨σ',H⟩ x)(h:MU P H σ o p):MU P H σ' o p:=by
 rcases h with h| (h|⟨T,x,ds,hop,hc,X7,UU⟩)|⟨T,e,sz,len,parts,zs,ds,es,hop,hT,hz,hsz,hsmall,hf,habs,X7,UU⟩|⟨T,e,sz,len,parts,zs,ds,hop,hT,hz,hsz,hsmall,hf,habs,hfl,X7,UU⟩
 ·exact .inl (h.congr he)
 ·exact .inr (.inl (.inl h))
 ·exact .inr (.inl (.inr ⟨T,x,ds,hop,by rw[<-he x (by rw[hop];simp[Op.operands])];exact hc,X7,UU⟩))
 ·refine .inr (.inr (.inl ⟨T,e,sz,len,parts,zs,ds,es,hop,hT,hz,hsz,hsmall,?_,habs,X7,UU⟩));rw[<-hf]
  congr 1
  apply mJ;intro q hq;rw[he q.2 ?_];rw[hop];simp only[Op.operands,jI];exact cJ.2 ⟨q,hq,rfl⟩
 ·refine .inr (.inr (.inr ⟨T,e,sz,len,parts,zs,ds,hop,hT,hz,hsz,hsmall,?_,habs,hfl,X7,UU⟩));rw[<-hf]
  congr 1
  apply mJ;intro q hq;rw[he q.2 ?_];rw[hop];simp only[Op.operands,jI];exact cJ.2 ⟨q,hq,rfl⟩
theorem wG.congr{H:bX}{σ σ':List (Nat×D)}{ops:Array Oper}{o:Oper}{p:Cp}(he:∀t∈o.looksAt ops,lk σ t=lk σ' t)(h:wG P Γ ops H σ o p):wG P Γ ops H σ' o p:=by
 have hev:=Qe (st:=⟨σ,H⟩) (xw:=⟨σ',H⟩) he;have hgu:∀ {j s:Nat} {want:Bool},o.guard=some (j,want)->(ops[j]?).bind (·.dst)=some s->lk σ s=lk σ' s:=by
  intro j s want hg hj;refine he s ?_;unfold Oper.looksAt;refine au.2 (.inr ?_);simp[hg,hj]
 rcases h with⟨t,hpt,Ya,hd,ht,h⟩|⟨hpt,UU,hd,hg,T,x,y,id,ds,hop,hx,hlen,hc,hT,hl,Ya⟩
 ·refine .inl ⟨t,hpt,Ya,hd,ht,?_⟩;rcases h with⟨hg,hc⟩|⟨j,s,want,b,hg,hj,hb,hc⟩|⟨j,s,want,hg,hj,hb,hc⟩
  ·exact .inl ⟨hg,hc.congr hev⟩
  ·refine .inr (.inl ⟨j,s,want,b,hg,hj,by rw[<-hgu hg hj];exact hb,?_⟩);rcases hc with⟨h1,hc⟩|hc
   ·exact .inl ⟨h1,hc.congr hev⟩
   ·exact .inr hc
  ·exact .inr (.inr ⟨j,s,want,hg,hj,by rw[<-hgu hg hj];exact hb,hc⟩)
 ·refine .inr ⟨hpt,UU,hd,hg,T,x,y,id,ds,hop,?_,hlen,?_,hT,hl,Ya⟩
  ·rw[<-hev x (by rw[hop];simp[Op.operands])];exact hx
  ·rw[<-hev y (by rw[hop];simp[Op.operands])];exact hc
def Cp.sl(p:Cp):Option (Nat×D):=p.t.map fun t=>(t,p.d)
theorem Cp.a5p(p:Cp)(σ:List (Nat×D)):p.slot σ=p.sl.toList++σ:=by
 unfold Cp.slot Cp.sl;cases p.t<;>rfl
theorem Q6(p:Cp)(ps:List Cp)(σ:List (Nat×D)):((p::ps).filterMap Cp.sl).reverse++σ=(ps.filterMap Cp.sl).reverse++p.slot σ:=by
 rw[Cp.a5p,Aw];cases p.sl<;>simp
theorem wG.a3n{H:bX}{σ:List (Nat×D)}{o:Oper}{p:Cp}(h:wG P Γ all H σ o p):p.up=none\/p.obs=[]:=by
 rcases h with⟨_,_,h,_⟩|⟨_,h,_⟩
 ·exact .inl h
 ·exact .inr h
theorem wG.slots{H:bX}{σ:List (Nat×D)}{o:Oper}{p:Cp}(h:wG P Γ all H σ o p):o.dst=p.t:=by
 rcases h with⟨t,h1,_,h2,_⟩|⟨h1,_,h2,_⟩
 ·rw[h1,h2]
 ·rw[h1,h2]
theorem P9.unfold{H:bX}{K:List (Nat×D)->bX->Prop}:∀(l:List Oper) (σ:List (Nat×D)) (acc:bX) (U:af),P9 P Γ all H K l σ acc U->
 ∃(ps:List Cp) (Pd:bX),ps.length=l.length/\(∀(i:Nat) o p,l[i]?=some o->ps[i]?=some p->wG P Γ all H (((ps.take i).filterMap Cp.sl).reverse++σ) o p/\p.r=H.length+acc.length+((ps.take i).flatMap Cp.obs).length/\
  ∀id ob,p.up=some (id,ob)->id∉U/\H.length<=id/\(∃zs ds,ob=.box ds/\zs.length=ds.length/\(acc++(ps.take i).flatMap Cp.obs)[id-H.length]?=some (.box zs))/\∀(i2:Nat) q DJ,i2<i->ps[i2]?=some q->q.up≠some (id,DJ))/\
  K ((ps.filterMap Cp.sl).reverse++σ) Pd/\Pd.length=acc.length+(ps.flatMap Cp.obs).length/\
  (∀k,(∀(i:Nat) q ob,ps[i]?=some q->q.up≠some (H.length+k,ob))->Pd[k]?=(acc++ps.flatMap Cp.obs)[k]?)/\
  ∀(i:Nat) q id ob,ps[i]?=some q->q.up=some (id,ob)->Pd[id-H.length]?=some ob:=by
 intro l
 induction l with
 |nil=>
  intro σ acc U h;have h:K σ acc:=h;exact⟨[],acc,rfl,by simp,by simpa using h,by simp,by simp,by simp⟩
 |cons o l ih=>
  intro σ acc U h;obtain⟨p,hr,hc,hok,xp⟩:=h;obtain⟨ps,Pd,h1,h2,h3,h4,h5,h6⟩:=ih _ _ _ xp;cases WO:p.up with
  |none=>
   have ef:p.fill H.length acc=acc++p.obs:=by simp[Cp.fill,WO]
   have eu:p.ups U=U:=by simp[Cp.ups,WO]
   rw[ef]at h2 h4 h5;rw[eu]at h2;refine⟨p::ps,Pd,by simp[h1],?_,by rw[Q6];exact h3,by rw[h4];simp;omega,?_,?_⟩
   ·intro i o' p' ho hp;cases i with
    |zero=>
     simp at ho hp;subst ho;subst hp;refine⟨by simpa using hc,by simpa using hr,?_⟩;intro id ob he;rw[WO]at he;cases he
    |succ i=>
     simp at ho hp;obtain⟨q1,q2,q3⟩:=h2 i o' p' ho hp;refine⟨by rw[xL,Q6];exact q1,by rw[q2];simp;omega,?_⟩;intro id ob he;obtain⟨r1,r2,⟨zs,ds,r3,r4,r5⟩,r6⟩:=q3 id ob he;refine⟨r1,r2,⟨zs,ds,r3,r4,by rw[<-r5];simp⟩,?_⟩;intro i2 q DJ hlt hq;cases i2 with
     |zero=>simp at hq;subst hq;rw[WO];simp
     |succ i2=>exact r6 i2 q DJ (by omega) (by simpa using hq)
   ·intro k hk;rw[h5 k (fun i q ob hq=>hk (i+1) q ob (by simpa using hq))];simp
   ·intro i q id ob hq he;cases i with
    |zero=>simp at hq;subst hq;rw[WO]at he;cases he
    |succ i=>exact h6 i q id ob (by simpa using hq) he
  |some x=>
   obtain⟨Yg,ob0⟩:=x;have ef:p.fill H.length acc=acc.set (Yg-H.length) ob0:=by simp[Cp.fill,WO]
   have eu:p.ups U=Yg::U:=by simp[Cp.ups,WO]
   have ho0:p.obs=[]:=by
    rcases hc.a3n with h|h
    ·rw[h]at WO;cases WO
    ·exact h
   rw[ef]at h2 h4 h5;rw[eu]at h2;simp only[Cp.aBP,WO]at hok;obtain⟨u1,u2,zs0,ds0,u3,u4,u5⟩:=hok;have qu:∀(X:bX) (k:Nat),k≠Yg-H.length->(acc.set (Yg-H.length) ob0++X)[k]?=(acc++X)[k]?:=by
    intro X k hk;by_cases hl:k<acc.length
    ·rw[b9 (by simpa using hl),b9 hl,cG (uA hk)]
    ·rw[bE (by simpa using hl),bE (by omega)];simp
   have hno:∀(i:Nat) q DJ,ps[i]?=some q->q.up≠some (Yg,DJ):=by
    intro i q DJ hq he;have hlt:i<l.length:=by have:=(aH.1 hq).1;omega
    have:=(h2 i l[i] q (ai hlt) hq).2.2 Yg DJ he;exact this.1 (by simp)
   refine⟨p::ps,Pd,by simp[h1],?_,by rw[Q6];exact h3,by rw[h4];simp[ho0],?_,?_⟩
   ·intro i o' p' ho hp;cases i with
    |zero=>
     simp at ho hp;subst ho;subst hp;refine⟨by simpa using hc,by simpa using hr,?_⟩;intro id ob he;rw[WO]at he;cases he;exact⟨u1,u2,⟨zs0,ds0,u4,u5,by simpa using u3⟩,by intro i2 q DJ hlt;omega⟩
    |succ i=>
     simp at ho hp;obtain⟨q1,q2,q3⟩:=h2 i o' p' ho hp;refine⟨by rw[xL,Q6];exact q1,by rw[q2];simp[ho0],?_⟩;intro id ob he;obtain⟨r1,r2,⟨zs,ds,r3,r4,r5⟩,r6⟩:=q3 id ob he;have hne:id≠Yg:=fun e=>r1 (by simp[e])
     refine⟨fun h=>r1 (by simp[h]),r2,⟨zs,ds,r3,r4,?_⟩,?_⟩
     ·rw[<-r5,qu _ _ (by omega)];simp[ho0]
     ·intro i2 q DJ hlt hq;cases i2 with
      |zero=>simp at hq;subst hq;rw[WO];intro e;cases e;exact hne rfl
      |succ i2=>exact r6 i2 q DJ (by omega) (by simpa using hq)
   ·intro k hk;rw[h5 k (fun i q ob hq=>hk (i+1) q ob (by simpa using hq))];have hne:k≠Yg-H.length:=fun e=>hk 0 p ob0 rfl (by rw[WO,e,show H.length+(Yg-H.length)=Yg from by omega])
    rw[qu _ _ hne];simp[ho0]
   ·intro i q id ob hq he;cases i with
    |zero=>
     simp at hq;subst hq;rw[WO]at he;cases he;rw[h5 (Yg-H.length) (fun i q DJ hq=>by rw[show H.length+(Yg-H.length)=Yg from by omega];exact hno i q DJ hq)];have hl:Yg-H.length<acc.length:=(aH.1 u3).1;rw[b9 (by simpa using hl),dX hl]
    |succ i=>exact h6 i q id ob (by simpa using hq) he
theorem eO.same{σ':List (Nat×D)}(h:∀t,lk st.σ t=lk σ' t)(hs:eO Γ st κ Θ a w):eO Γ ⟨σ',st.H⟩ κ Θ a w:=
 ⟨hs.defers,hs.size,hs.rX,hs.qp,fun t=>by show∃bs,uB w κ _ (lk σ' t) bs/\_;rw[<-h t];exact hs.slot t,hs.ob,hs.own,hs.old,hs.mine,hs.stays,hs.wq⟩
theorem eO.room(hs:eO Γ st κ Θ a w)(m:Nat):eO Γ ⟨st.σ,st.H++List.replicate m .gone⟩ κ Θ a w:=by
 have key:∀(j:Nat) y,(st.H++List.replicate m .gone)[j]?=some y->y=.gone\/st.H[j]?=some y:=by
  intro j y hj;by_cases hlt:j<st.H.length
  ·rw[b9 hlt]at hj;exact .inr hj
  ·rw[bE (by omega)]at hj;rw[List.getElem?_replicate]at hj;split at hj
   ·cases hj;exact .inl rfl
   ·cases hj
 obtain⟨ρ,hu⟩:=hs.wq;refine⟨hs.defers,hs.size,fun i hi=>hs.rX i (by simp at hi;omega),hs.qp,hs.slot,?_,hs.own,hs.old,hs.mine,hs.stays,ρ,hu.free,?_,?_⟩
 ·intro j o hj;rcases key j o hj with rfl|h
  ·trivial
  ·exact hs.ob j o h
 ·intro id e sz rows hj;rcases key id _ hj with h|h
  ·cases h
  ·exact hu.rows id e sz rows h
 ·intro id o hj;rcases key id _ hj with h|h
  ·subst h;trivial
  ·exact hu.more id o h
theorem sK{ps:List Cp}{i:Nat}{p:Cp}(h:ps[i]?=some p):ps.flatMap Cp.obs=(ps.take i).flatMap Cp.obs++(p.obs++(ps.drop (i+1)).flatMap Cp.obs):=by
 have e:ps=ps.take i++(p::ps.drop (i+1)):=by
  obtain⟨hlt,rfl⟩:=aH.1 h;rw[EE,cD]
 conv=>lhs;rw[e]
 simp
theorem BR{ps:List Cp}:∀ {k:Nat},k<(ps.flatMap Cp.obs).length->∃(i:Nat) (p:Cp) (j:Nat),ps[i]?=some p/\j<p.obs.length/\k=((ps.take i).flatMap Cp.obs).length+j:=by
 induction ps with
 |nil=>intro k h;simp at h
 |cons p ps ih=>
  intro k h;by_cases hk:k<p.obs.length
  ·exact⟨0,p,k,rfl,hk,by simp⟩
  ·simp only[dO,aX]at h;obtain⟨i,q,j,h1,h2,h3⟩:=ih (k:=k-p.obs.length) (by omega);refine⟨i+1,q,j,by simpa using h1,h2,?_⟩;rw[xL,dO,aX];omega
theorem Sl{ps:List Cp}{i j:Nat}{p:Cp}(hp:ps[i]?=some p)(hij:i<j):((ps.take i).flatMap Cp.obs).length+p.obs.length<=((ps.take j).flatMap Cp.obs).length:=by
 have h:(ps.take j)[i]?=some p:=by rw[cK,bS hij];exact hp
 have:=sK h;rw[this];have e:(ps.take j).take i=ps.take i:=by rw[wD,fE (by omega)]
 rw[e];simp only[aX];omega
theorem a4R{id:Nat}{l:List Oper}(n:Nat)(hm:P.follows .mixedOrders=true)(hB:a1U l.toArray n=true)
 (h:P9 P Γ l.toArray st.H (fun σ acc=>AO P Γ l.toArray (l.drop n) Q ⟨σ,st.H++acc⟩) (l.take n) st.σ [] []):AW P Γ (.region id l.toArray true) Q st:=by
 simp only[a1U,aY,om,bJ]at hB;obtain⟨⟨⟨hn,hsc⟩,a4v⟩,PE⟩:=hB;obtain⟨ps,Pd,hlen,Qo,hK,hFl,hFo,hFu⟩:=P9.unfold _ _ _ _ h;simp only[cI,bK,BG,cr]at Qo hK hFl hFo;have hn':n<=l.length:=by simpa using hn
 have hpl:ps.length=n:=by rw[hlen];simp;omega
 have hop:∀(i:Nat),i<n->∃o p,l.toArray[i]?=some o/\ps[i]?=some p/\o.dst=p.t/\wG P Γ l.toArray st.H (((ps.take i).filterMap Cp.sl).reverse++st.σ) o p/\p.r=st.H.length+((ps.take i).flatMap Cp.obs).length:=by
  intro i hi;have h1:l[i]?=some l[i]:=ai (by omega);have h2:ps[i]?=some ps[i]:=ai (by omega);have h3:=Qo i l[i] ps[i] (by rw[cK,bS hi];exact h1) h2;exact⟨l[i],ps[i],by simp[mq,h1],h2,h3.1.slots,h3.1,h3.2.1⟩
 have X8:∀(i:Nat) p,ps[i]?=some p->p.r=st.H.length+((ps.take i).flatMap Cp.obs).length:=by
  intro i p hp;have hi:i<n:=by have:=(aH.1 hp).1;omega
  obtain⟨_,p',_,hp',_,_,hr⟩:=hop i hi;rw[hp]at hp';cases hp';exact hr
 have TU:∀(i:Nat) p id ob,ps[i]?=some p->p.up=some (id,ob)->st.H.length<=id/\(∃zs ds,ob=.box ds/\zs.length=ds.length/\((ps.take i).flatMap Cp.obs)[id-st.H.length]?=some (.box zs))/\∀(i2:Nat) q DJ,i2<i->ps[i2]?=some q->q.up≠some (id,DJ):=by
  intro i p id ob hp he;have hi:i<n:=by have:=(aH.1 hp).1;omega
  have h1:l[i]?=some l[i]:=ai (by omega);have h3:=(Qo i l[i] p (by rw[cK,bS hi];exact h1) hp).2.2 id ob he;exact⟨h3.2.1,h3.2.2.1,h3.2.2.2⟩
 have a1u:∀(i j:Nat) p q id ob DJ,ps[i]?=some p->ps[j]?=some q->p.up=some (id,ob)->q.up=some (id,DJ)->i=j:=by
  intro i j p q id ob DJ hp hq he M8;rcases yj i j with h|h|h
  ·exact absurd he ((TU j q id DJ hq M8).2.2 i p ob h hp)
  ·exact h
  ·exact absurd M8 ((TU i p id ob hp he).2.2 j q DJ h hq)
 have a1v:∀(i:Nat) p id ob,ps[i]?=some p->p.up=some (id,ob)->p.obs=[]:=by
  intro i p id ob hp he;have hi:i<n:=by have:=(aH.1 hp).1;omega
  obtain⟨_,p',_,hp',_,hc,_⟩:=hop i hi;rw[hp]at hp';cases hp';rcases hc.a3n with h|h
  ·rw[h]at he;cases he
  ·exact h
 have hfit:∀(i:Nat) p,ps[i]?=some p->p.r+p.obs.length<=st.H.length+(ps.flatMap Cp.obs).length:=by
  intro i p hp;rw[X8 i p hp,sK hp];simp only[aX];omega
 have TP:∀(i j:Nat) p q,ps[i]?=some p->ps[j]?=some q->i<j->p.r+p.obs.length<=q.r:=by
  intro i j p q hp hq hij;rw[X8 i p hp,X8 j q hq];have:=Sl hp hij;omega
 have hdist:∀(i j:Nat) p q t,ps[i]?=some p->ps[j]?=some q->p.t=some t->q.t=some t->i=j:=by
  intro i j p q t hp hq he1 M8;have hi:i<n:=by have:=(aH.1 hp).1;omega
  have hj:j<n:=by have:=(aH.1 hq).1;omega
  obtain⟨oi,p',ho,hp',hdi,_⟩:=hop i hi;obtain⟨oj,q',AM,Rz,hdj,_⟩:=hop j hj;rw[hp]at hp';cases hp';rw[hq]at Rz;cases Rz;have:=bB.1 PE i (bq.2 hi);simp only[ho,aY]at this;have:=bB.1 this.2 j (bq.2 hj);simp only[AM,hdi,hdj,he1,M8,cy,bP,vE,Option.isNone_some,vE,cj]at this;exact this.symm
 have I4:∀(i:Nat) p t,ps[i]?=some p->p.t=some t->∀q∈ps.filterMap Cp.sl,q.1=t->q=(t,p.d):=by
  intro i p t hp hpt q hq he;obtain⟨q',Rz,Qs⟩:=cF.1 hq;obtain⟨j,hj,rfl⟩:=eS.1 Rz;have MP:ps[j]?=some ps[j]:=ai hj;unfold Cp.sl at Qs;cases hpj:ps[j].t with
  |none=>rw[hpj]at Qs;cases Qs
  |some u=>
   rw[hpj]at Qs;simp only[cc,az]at Qs;subst Qs;simp only at he;subst he;have:=hdist j i _ p u MP hp hpj hpt;subst this;rw[hp]at MP;cases MP;rfl
 intro κ Θ a w hs;have main:∀(f:Nat) (listed:Array Bool) (σ':List (Nat×D)) (H':bX) (κ:Nat->Option Value) (Θ:Nat->Nat) (a:Act) (w:World),HeadInv .any l.toArray n listed->
  ((List.range n).filter fun i=> !listed.getD i false).length=f->
  (∀(i:Nat) p t,ps[i]?=some p->p.t=some t->listed.getD i false=true->lk σ' t=p.d)->
  (∀t,(∀(i:Nat) p,ps[i]?=some p->listed.getD i false=true->p.t≠some t)->lk σ' t=lk st.σ t)->
  H'.length=st.H.length+(ps.flatMap Cp.obs).length->Ext st.H H'->
  (∀(i:Nat) p,ps[i]?=some p->listed.getD i false=true->∀(j:Nat) o,p.obs[j]?=some o->(∀(i2:Nat) q ob,ps[i2]?=some q->listed.getD i2 false=true->q.up≠some (p.r+j,ob))->H'[p.r+j]?=some o)->
  (∀(i:Nat) q id ob,ps[i]?=some q->listed.getD i false=true->q.up=some (id,ob)->H'[id]?=some ob/\∃v,κ id=some v)->
  (∀(i:Nat) p,ps[i]?=some p->listed.getD i false=false->∀j,j<p.obs.length->κ (p.r+j)=none)->
  eO Γ ⟨σ',H'⟩ κ Θ a w->
  wpAny P .any l.toArray (fun e a' w'=>∃xw κ' Θ',eO Γ xw κ' Θ' a' w'/\Q e xw) (f+(l.toArray.size-n)) listed a w:=by
  intro f
  induction f with
  |zero=>
   intro listed σ' H' κ Θ a w inv pO hA hB hHl hHe YW hHu YV hs;have hall:∀i,i<n->listed.getD i false=true:=by
    intro i hi;have h0:=cg pO;cases hl:listed.getD i false with
    |true=>rfl
    |false=>
     have:i∈(List.range n).filter fun i=> !listed.getD i false:=gA.2 ⟨bq.2 hi,by simp[hl]⟩
     rw[h0]at this;cases this
   have a1k:listed=Array.replicate n true++Array.replicate (l.toArray.size-n) false:=by
    apply Array.ext
    ·rw[inv.size];simp;simp at hn;omega
    ·intro i h1 h2;by_cases hi:i<n
     ·have:=hall i hi;rw[CP (by simpa using hi)];simp[h1]at this;simp[this]
     ·have hi':i<l.toArray.size:=by rw[<-inv.size];exact h1
      have:=inv.tail i (by omega) hi';rw[Bf (by simpa using hi)];simp[h1]at this;simp[this]
   rw[cr];have Oj:∀t,lk σ' t=lk ((ps.filterMap Cp.sl).reverse++st.σ) t:=by
    intro t;by_cases hex:∃(i:Nat) (p:Cp),ps[i]?=some p/\p.t=some t
    ·obtain⟨i,p,hp,hpt⟩:=hex;have hi:i<n:=by have:=(aH.1 hp).1;omega
     rw[hA i p t hp hpt (hall i hi)];have:=MB (ps.filterMap Cp.sl).reverse st.σ (t,p.d) (by rw[e9];exact cF.2 ⟨p,aC hp,by simp[Cp.sl,hpt]⟩) (fun q hq he=>I4 i p t hp hpt q (by simpa using hq) he);exact this.symm
    ·rw[hB t (fun i p hp _ he=>hex ⟨i,p,hp,he⟩),I9];intro q hq he;obtain⟨p,hp,hps⟩:=cF.1 (e9.1 hq);obtain⟨i,hi,hpi⟩:=eS.1 hp;refine hex ⟨i,p,by rw[<-hpi];exact ai hi,?_⟩;unfold Cp.sl at hps;cases hpt:p.t with
     |none=>rw[hpt]at hps;cases hps
     |some u=>rw[hpt]at hps;simp only[cc,az]at hps;subst hps;simp only at he;rw[he]
   have a1Z:H'=st.H++Pd:=by
    apply oF;intro k;by_cases h1:k<st.H.length
    ·rw[b9 h1];exact hHe k _ (ai h1)|>.trans (ai h1).symm
    ·rw[bE (by omega)];by_cases hex:∃(i:Nat) (q:Cp) (ob:Ob),ps[i]?=some q/\q.up=some (k,ob)
     ·obtain⟨i,q,ob,hq,he⟩:=hex;have hi:i<n:=by have:=(aH.1 hq).1;omega
      rw[(hHu i q k ob hq (hall i hi) he).1,hFu i q k ob hq he]
     ·have hno:∀(i:Nat) q ob,ps[i]?=some q->q.up≠some (k,ob):=fun i q ob hq he=>hex ⟨i,q,ob,hq,he⟩
      rw[hFo (k-st.H.length) (fun i q ob hq=>by rw[show st.H.length+(k-st.H.length)=k from by omega];exact hno i q ob hq)];by_cases h2:k-st.H.length<(ps.flatMap Cp.obs).length
      ·obtain⟨i,p,j,hp,hj,hk⟩:=BR h2;have hi:i<n:=by have:=(aH.1 hp).1;omega
       have e3:p.r+j=k:=by rw[X8 i p hp];omega
       have h3:=YW i p hp (hall i hi) j _ (ai hj) (fun i2 q ob hq _=>by rw[e3];exact hno i2 q ob hq);rw[e3]at h3;rw[h3,sK hp,hk,bE (by omega),eA,b9 hj,ai hj]
      ·rw[ck (by omega),ck (by omega)]
   have hs2:=eO.same (st:=⟨σ',H'⟩) (σ':=(ps.filterMap Cp.sl).reverse++st.σ) Oj hs;simp only[a1Z]at hs2;have hwp:=hK κ Θ a w hs2;have hdl:(l.drop n).length=l.toArray.size-n:=by simp
   have:=wpAny_of_seq (md:=.any) (l.drop n) n listed a w (fun j=>by simp[eD]) (by rw[hdl,a1k];exact a4v) hwp
   rwa[hdl]at this
  |succ f ih=>
   intro listed σ' H' κ Θ a w inv pO hA hB hHl hHe YW hHu YV hs;have hun:∃i,i<n/\listed.getD i false=false:=by
    have hne:((List.range n).filter fun i=> !listed.getD i false)≠[]:=by
     intro h0;rw[h0]at pO;simp at pO
    obtain⟨i,hi⟩:=xE _ hne;obtain⟨h1,h2⟩:=gA.1 hi;exact⟨i,bq.1 h1,by simpa using h2⟩
   have hsz:=inv.size;rw[show f+1+(l.toArray.size-n)=(f+(l.toArray.size-n))+1 from by omega];refine⟨fun h0=>?_,fun i hi=>?_⟩
   ·exfalso;obtain⟨i,⟨hin,WM⟩,hmin⟩:=exists_least (p:=fun i=>i<n/\listed.getD i false=false) hun;obtain⟨o,p,ho,_,_,_⟩:=hop i hin;have:i∈Region.ready .any l.toArray listed:=by
     refine mem_ready.2 ⟨getD_in (by rw[hsz];omega) WM,o,ho,fun e he hb=>?_⟩;have:=bB.1 PE i (bq.2 hin);simp only[ho,aY]at this;have:=yB.1 this.1.1 e he;simp only[hb,bP,pR,bJ]at this;cases hl:listed.getD e.on false with
     |true=>rfl
     |false=>
      have:=hmin e.on ⟨by omega,hl⟩;omega
    rw[h0]at this;cases this
   ·obtain⟨i0,hi0,hl0⟩:=hun;have hin:i<n:=by
     rcases eR i n with h|h
     ·exact h
     ·rcases hsc with he|⟨hn2,aAA,hchain⟩
      ·obtain⟨_,oi,hoi,_⟩:=mem_ready.1 hi;have:=(bL.1 hoi).1;omega
      ·exact absurd hi (tail_waits aAA hchain hn2 inv _ i0 rfl hi0 (getD_in (by rw[hsz];omega) hl0) i h)
    obtain⟨o,p,ho,hp,hd,hc,_⟩:=hop i hin;obtain⟨WM,o',ho',hall⟩:=mem_ready.1 hi;rw[ho]at ho';cases ho';have DA:=getD_both WM;have hc':wG P Γ l.toArray st.H σ' o p:=by
     refine wG.congr (σ:=((ps.take i).filterMap Cp.sl).reverse++st.σ) (σ':=σ') ?_ hc;intro t ht;have Nb:=bB.1 PE i (bq.2 hin);simp only[ho,aY]at Nb;have Nb:=bB.1 Nb.1.2 t ht;by_cases hex:∃(j:Nat) (q:Cp),ps[j]?=some q/\q.t=some t
     ·obtain⟨j,q,hq,Pn⟩:=hex;have hj:j<n:=by have:=(aH.1 hq).1;omega
      obtain⟨oj,q',AM,Rz,hdj,_⟩:=hop j hj;rw[hq]at Rz;cases Rz;have:=bB.1 Nb j (bq.2 hj);simp only[AM,hdj,Pn,cy,bP,pR,aY,bJ]at this;obtain⟨hji,a1w⟩:=this;obtain⟨oi',a1p,e,he,hb,hon⟩:=Region.waitsFor_spec a1w;rw[ho]at a1p;cases a1p;have hjl:=hall e he hb;rw[hon]at hjl;rw[hA j q t hq Pn hjl];refine MB ((ps.take i).filterMap Cp.sl).reverse st.σ (t,q.d) ?_ (fun q2 MP M8=>I4 j q t hq Pn q2 ?_ M8)
      ·rw[e9];exact cF.2 ⟨q,aC (i:=j) (by rw[cK,bS hji];exact hq),by simp[Cp.sl,Pn]⟩
      ·obtain⟨q3,X9,AN⟩:=cF.1 (e9.1 MP);exact cF.2 ⟨q3,cH X9,AN⟩
     ·rw[hB t (fun j q hq _ he=>hex ⟨j,q,hq,he⟩),I9];intro q hq he;obtain⟨q3,X9,AN⟩:=cF.1 (e9.1 hq);obtain⟨j,hj,hqj⟩:=eS.1 (cH X9);refine hex ⟨j,q3,by rw[<-hqj];exact ai hj,?_⟩;unfold Cp.sl at AN;cases hpt:q3.t with
      |none=>rw[hpt]at AN;cases AN
      |some u=>rw[hpt]at AN;simp only[cc,az]at AN;subst AN;simp only at he;rw[he]
    have hfp:=hfit i p hp;have a1i:∀id ob,p.up=some (id,ob)->∃v,κ id=some v:=by
     intro id ob he;rcases hc' with⟨_,_,h,_⟩|⟨_,_,_,_,T,x,y,id',ds,X5,hx',_,_,_,_,Ya⟩
     ·rw[h]at he;cases he
     ·rw[Ya]at he;cases he;obtain⟨b1,r1,_⟩:=hs.ev x;rw[V5 σ' H' st.H x,hx']at r1;obtain⟨g,hk,_⟩:=r1.Cr;exact⟨_,hk⟩
    have a1t:∀id ob,p.up=some (id,ob)->∃zs ds,H'[id]?=some (.box zs)/\ob=.box ds/\zs.length=ds.length:=by
     intro id ob he;obtain⟨u1,⟨zs,ds,u2,u3,u4⟩,_⟩:=TU i p id ob hp he;refine⟨zs,ds,?_,u2,u3⟩;obtain⟨i1,p1,j1,hp1,KN,hk1⟩:=BR (aH.1 u4).1;have X6:ps[i1]?=some p1:=by
      have:=(aH.1 hp1).1;rw[cK]at hp1;split at hp1
      ·exact hp1
      ·cases hp1
     have hi1:i1<i:=by have:=(aH.1 hp1).1;simp at this;omega
     have et:(ps.take i).take i1=ps.take i1:=by rw[wD,fE (by omega)]
     rw[et]at hk1;have e1:p1.r+j1=id:=by rw[X8 i1 p1 X6];omega
     have CN:p1.obs[j1]?=some (.box zs):=by
      rw[sK hp1,et,hk1,bE (by omega),eA,b9 KN]at u4;exact u4
     have hl1:listed.getD i1 false=true:=by
      cases hl:listed.getD i1 false with
      |true=>rfl
      |false=>
       have h0:=YV i1 p1 X6 hl j1 KN;rw[e1]at h0;obtain⟨v,hv⟩:=a1i id ob he;rw[h0]at hv;cases hv
     have:=YW i1 p1 X6 hl1 j1 _ CN (fun i2 q DJ hq hl M8=>by
      rw[e1]at M8;have:=a1u i i2 p q id ob DJ hp hq he M8;subst this;rw[DA]at hl;cases hl)
     rw[e1]at this;exact this
    refine hc'.wp hs hHe ho (by omega) (fun j hj=>YV i p hp DA j hj) a1t fun κ' Θ' a' w' hs' hsame=>?_
    have qu:∀(j:Nat),(listed.setIfInBounds i true).getD j false=true↔(j=i\/listed.getD j false=true):=by
     intro j;by_cases e:i=j
     ·subst e;have:i<listed.size:=by rw[hsz];omega
      simp[this]
     ·rw[getD_set_ne false e];constructor
      ·exact .inr
      ·rintro(rfl|h)
       ·exact absurd rfl e
       ·exact h
    have hput:(p.DF H').length=H'.length:=by
     unfold Cp.DF;split
     ·simp
     ·exact xA (by omega)
    have a7h:∀(k:Nat),k<st.H.length->(p.DF H')[k]?=H'[k]?:=by
     intro k hk;unfold Cp.DF;split
     ·rename_i id ob he;have:=(TU i p id ob hp he).1;rw[cG (by omega)]
     ·rw[x9 (by omega),bS (by rw[X8 i p hp];omega)]
    refine ih (listed.setIfInBounds i true) (p.slot σ') (p.DF H') κ' Θ' a' w' (inv.set hi hin) ?_ ?_ ?_ (by rw[hput];exact hHl) ?_ ?_ ?_ ?_ hs'
    ·have Zl:((List.range n).filter fun j=> !(listed.setIfInBounds i true).getD j false)=((List.range n).filter fun j=> !listed.getD j false).erase i:=by
      have hnd:((List.range n).filter fun j=> !listed.getD j false).Nodup:=zy _ DN;rw[hnd.erase_eq_filter,yC];apply yh;intro j _;by_cases e:j=i
      ·subst e;have:=(qu j).2 (.inl rfl);rw[this];simp
      ·rw[getD_set_ne false (uA e)];simp[e]
     rw[Zl,rj (gA.2 ⟨bq.2 hin,by simp[DA]⟩),pO];rfl
    ·intro j q t hq Pn hl;unfold Cp.slot;rcases(qu j).1 hl with rfl|Ey
     ·rw[hp]at hq;cases hq;rw[Pn];simp[lk]
     ·cases hpt:p.t with
      |none=>exact hA j q t hq Pn Ey
      |some u=>
       simp only[lk];rw[bH,hA j q t hq Pn Ey];intro e;have:=hdist j i q p t hq hp Pn (by rw[hpt,e]);subst this;rw[DA]at Ey;cases Ey
    ·intro t ht;unfold Cp.slot;have xp:=hB t (fun j q hq hl=>ht j q hq ((qu j).2 (.inr hl)));cases hpt:p.t with
     |none=>exact xp
     |some u=>
      simp only[lk];rw[bH (fun e=>ht i p hp ((qu i).2 (.inl rfl)) (by rw[hpt,e]))];exact xp
    ·intro j y hj;rw[a7h j (aH.1 hj).1];exact hHe j y hj
    ·intro j q hq hl k y hy hno;have hkl:=(aH.1 hy).1;unfold Cp.DF;split
     ·rename_i id ob he;have hne:q.r+k≠id:=fun e=>hno i p ob hp ((qu i).2 (.inl rfl)) (by rw[e];exact he)
      rw[cG (uA hne)];rcases(qu j).1 hl with rfl|Ey
      ·rw[hp]at hq;cases hq;rw[a1v j p id ob hp he]at hy;simp at hy
      ·exact YW j q hq Ey k y hy (fun i2 q2 DJ MP hl3=>hno i2 q2 DJ MP ((qu i2).2 (.inr hl3)))
     ·rw[x9 (by omega)];rcases(qu j).1 hl with rfl|Ey
      ·rw[hp]at hq;cases hq;rw[bH (by omega),bS (by omega),eA];exact hy
      ·have hne:j≠i:=fun e=>by subst e;rw[DA]at Ey;cases Ey
       have h3:=YW j q hq Ey k y hy (fun i2 q2 DJ MP hl3=>hno i2 q2 DJ MP ((qu i2).2 (.inr hl3)));rcases yD hne with h|h
       ·have:=TP j i q p hq hp h;rw[bS (by omega)];exact h3
       ·have:=TP i j p q hp hq h;rw[bH (by omega),bH (by omega)];exact h3
    ·intro j q id ob hq hl he;rcases(qu j).1 hl with rfl|Ey
     ·rw[hp]at hq;cases hq;obtain⟨zs,ds,z1,_⟩:=a1t id ob he;have hlt:=(aH.1 z1).1;refine⟨by simp only[Cp.DF,he];rw[dX hlt],?_⟩;obtain⟨v,hv⟩:=a1i id ob he;refine⟨v,?_⟩;rw[hsame id (by rw[a1v j p id ob hp he];simp;omega)];exact hv
     ·obtain⟨h1,v,hv⟩:=hHu j q id ob hq Ey he;have hout:id<p.r\/p.r+p.obs.length<=id:=by
       rcases eR id p.r with h|h
       ·exact .inl h
       ·rcases eR id (p.r+p.obs.length)with h2|h2
        ·have:=YV i p hp DA (id-p.r) (by omega);rw[show p.r+(id-p.r)=id from by omega,hv]at this;cases this
        ·exact .inr h2
      refine⟨?_,v,by rw[hsame id hout];exact hv⟩;unfold Cp.DF;split
      ·rename_i id2 DJ M8;have hne:id2≠id:=fun e=>by
        subst e;have:=a1u i j p q id2 DJ ob hp hq M8 he;subst this;rw[DA]at Ey;cases Ey
       rw[cG hne];exact h1
      ·rw[x9 (by omega)];rcases hout with h|h
       ·rw[bS h];exact h1
       ·rw[bH (by omega),bH (by omega)];exact h1
    ·intro j q hq hl k hk;have hne:j≠i:=fun e=>by
      subst e;have:=(qu j).2 (.inl rfl);rw[this]at hl;cases hl
     have Ey:listed.getD j false=false:=by
      cases h:listed.getD j false with
      |false=>rfl
      |true=>have:=(qu j).2 (.inr h);rw[this]at hl;cases hl
     have h3:=YV j q hq Ey k hk;rw[hsame,h3];rcases yD hne with h|h
     ·have:=TP j i q p hq hp h;omega
     ·have:=TP i j p q hp hq h;omega
 refine wp_region_any hm ?_;have a8N:HeadInv .any l.toArray n (Array.replicate l.toArray.size false):=
  ⟨by simp,fun j oj _ hl=>(by rw[getD_replicate_false]at hl;cases hl),fun t _ ht=>getD_in (by simpa using ht) (getD_replicate_false _ _)⟩
 have pO:((List.range n).filter fun i=> !(Array.replicate l.toArray.size false).getD i false).length=n:=by
  rw[List.filter_eq_self.2]
  ·simp
  ·intro i _;rw[getD_replicate_false];rfl
 have:=main n (Array.replicate l.toArray.size false) st.σ (st.H++List.replicate (ps.flatMap Cp.obs).length .gone) κ Θ a w.drew a8N pO (fun i p t _ _ hl=>by rw[getD_replicate_false]at hl;cases hl) (fun t _=>rfl)
  (by simp) (fun i o h=>by rw[b9 (aH.1 h).1];exact h) (fun i p _ hl=>by rw[getD_replicate_false]at hl;cases hl)
  (fun i q id ob _ hl=>by rw[getD_replicate_false]at hl;cases hl)
  (fun i p hp _ j _=>hs.rX _ (by rw[X8 i p hp];omega)) (hs.drew.room _)
 rw[show n+(l.toArray.size-n)=l.toArray.size from by omega]at this;exact this
end
def pos(o:af)(i:Nat):Option Nat:=ix (fun j=>j==i) o
def D.Yo(o:af)(d:D):D:=match d with
 | .acc i=>(match pos o i with|some j=>.acc j|none=>.any)
 | .ptr i off=>(match pos o i with|some j=>.ptr j off|none=>.any)
 | .op i a b c=>(match pos o i with|some j=>.op j a b c|none=>.any)
 |d=>d
def D.rnV(o:af)(d:D):D:=match d with
 | .agg cs=>.agg (cs.map (D.Yo o))
 |d=>d.Yo o
def D.Yp(o:af)(d:D):D:=match d with
 | .gZ vs=>.gZ (vs.map (D.rnV o))
 |d=>d.rnV o
def Ob.rn(o:af)(x:Ob):Ob:=match x with
 | .box cells=>.box (cells.map (D.Yo o))
 | .Pr cells v=>.Pr (cells.map (D.Yo o)) v
 | .hole _ _ _ _ _=>.gone
 |x=>x
def St.FE(st:St)(K o:af):St:=⟨K.map fun t=>(t,(lk st.σ t).Yp o),o.map fun i=>((st.H[i]?).getD .gone).rn o⟩
section
variable{P:Program}{Γ:w5}{Q:Exit->St->Prop}{st:St}{κ κ':Nat->Option Value}{Θ Θ':Nat->Nat}{a:Act}{w:World}{o:af}
theorem Si:∀ {o:af},o.Nodup->∀(i j x:Nat),o[i]?=some x->o[j]?=some x->i=j:=by
 intro o
 induction o with
 |nil=>intro _ i j x h;simp at h
 |cons y o ih=>
  intro hnd i j x hi hj;obtain⟨h1,h2⟩:=fD.1 hnd;cases i with
  |zero=>
   cases j with
   |zero=>rfl
   |succ j=>simp at hi hj;subst hi;exact absurd (aC hj) h1
  |succ i=>
   cases j with
   |zero=>simp at hi hj;subst hj;exact absurd (aC hi) h1
   |succ j=>simp at hi hj;rw[ih h2 i j x hi hj]
theorem Tv{i j:Nat}(h:pos o i=some j):o[j]?=some i:=by
 obtain⟨x,h1,h2⟩:=zv h;simp only[cj]at h2;subst h2;exact h1
theorem XX{i j:Nat}(hnd:o.Nodup)(h:o[j]?=some i):pos o i=some j:=
 F0 h (by simp) (fun k y hk hy=>by
  simp only[cj]at hy;subst hy;obtain⟨h1,h2⟩:=aH.1 h;obtain⟨h3,h4⟩:=aH.1 hk;exact Si hnd k j _ hk h)
section
variable(hk:∀(i j:Nat) v,pos o i=some j->κ i=some v->κ' j=some v)(Ab:∀b,Θ b=0->Θ' b=0)
include hk Ab
theorem Ba.rn{v:Value}{d:D}{bs:af}(h:Ba w κ v d bs)(hz:∀b∈bs,Θ b=0):∃b',Ba w κ' v (d.Yo o) b'/\∀b∈b',Θ' b=0:=by
 cases h with
 |pure h=>
  have e:d.Yo o=d:=by cases h<;>rfl
  rw[e];exact⟨bs,.pure h,fun b hb=>Ab b (hz b hb)⟩
 |acc i v hi=>
  simp only[D.Yo];cases hp:pos o i with
  |none=>exact⟨[],.pure (.any _),by simp⟩
  |some j=>exact⟨[],.acc j v (hk i j v hp hi),by simp⟩
 |ptr i off b hi=>
  simp only[D.Yo];cases hp:pos o i with
  |none=>exact⟨[],.pure (.any _),by simp⟩
  |some j=>exact⟨[],.ptr j off b (hk i j _ hp hi),by simp⟩
 |op i x sz off b o0 len cap hi=>
  simp only[D.Yo];cases hp:pos o i with
  |none=>exact⟨[],.pure (.any _),by simp⟩
  |some j=>exact⟨[],.op j x sz off b o0 len cap (hk i j _ hp hi),by simp⟩
theorem fP.rn{vs:br}{ds:aR}{bs:af}(h:fP w κ vs ds bs)(hz:∀b∈bs,Θ b=0):∃b',fP w κ' vs (ds.map (D.Yo o)) b'/\∀b∈b',Θ' b=0:=by
 induction h with
 |nil=>exact⟨[],.nil,by simp⟩
 |cons v vs d ds b1 b2 h1 h2 _ ih=>
  obtain⟨c1,q1,q2⟩:=Ba.rn hk Ab h2 (fun b hb=>hz b (by simp[hb]));obtain⟨c2,p1,p2⟩:=ih (fun b hb=>hz b (by simp[hb]));refine⟨c1++c2,.cons _ _ _ _ _ _ h1 q1 p1,fun b hb=>?_⟩;rcases au.1 hb with hb|hb
  ·exact q2 b hb
  ·exact p2 b hb
theorem QK.rn{v:Value}{d:D}{bs:af}(h:QK w κ v d bs)(hz:∀b∈bs,Θ b=0):∃b',QK w κ' v (d.rnV o) b'/\∀b∈b',Θ' b=0:=by
 cases h with
 |cell h=>
  by_cases wC:∃ds,d=.agg ds
  ·obtain⟨ds,rfl⟩:=wC;cases h with
   |pure h=>
    cases h with
    |agg cs _ _ h=>
     obtain⟨b',q1,q2⟩:=fP.rn hk Ab (fP.FH (κ:=κ) h) hz;exact⟨b',.agg _ _ _ q1,q2⟩
  ·have e:d.rnV o=d.Yo o:=by cases d<;>first|rfl|exact absurd ⟨_,rfl⟩ wC
   rw[e];obtain⟨b',q1,q2⟩:=Ba.rn hk Ab h hz;exact⟨b',.cell q1,q2⟩
 |agg cs ds bs h=>
  obtain⟨b',q1,q2⟩:=fP.rn hk Ab h hz;exact⟨b',.agg _ _ _ q1,q2⟩
theorem EK.rn{vs:br}{ds:aR}{bs:af}(h:EK w κ vs ds bs)(hz:∀b∈bs,Θ b=0):∃b',EK w κ' vs (ds.map (D.rnV o)) b'/\∀b∈b',Θ' b=0:=by
 induction h with
 |nil=>exact⟨[],.nil,by simp⟩
 |cons v vs d ds b1 b2 h2 _ ih=>
  obtain⟨c1,q1,q2⟩:=QK.rn hk Ab h2 (fun b hb=>hz b (by simp[hb]));obtain⟨c2,p1,p2⟩:=ih (fun b hb=>hz b (by simp[hb]));refine⟨c1++c2,.cons _ _ _ _ _ _ q1 p1,fun b hb=>?_⟩;rcases au.1 hb with hb|hb
  ·exact q2 b hb
  ·exact p2 b hb
theorem uB.rn{v:Value}{d:D}{bs:af}(h:uB w κ v d bs)(hz:∀b∈bs,Θ b=0):∃b',uB w κ' v (d.Yp o) b'/\∀b∈b',Θ' b=0:=by
 cases h with
 |v h=>
  have hnt:∀vs,d≠ .gZ vs:=by
   intro vs e;subst e;cases h with
   |cell h=>cases h with|pure h=>cases h
  have e:d.Yp o=d.rnV o:=by cases d<;>first|rfl|exact absurd rfl (hnt _)
  rw[e];obtain⟨b',q1,q2⟩:=QK.rn hk Ab h hz;exact⟨b',.v q1,q2⟩
 |gZ vs ds bs h=>
  obtain⟨b',q1,q2⟩:=EK.rn hk Ab h hz;exact⟨b',.gZ _ _ _ q1,q2⟩
end
theorem a2Z(σ:List (Nat×D))(K:af)(f:D->D)(t:Nat):lk (K.map fun t=>(t,f (lk σ t))) t=if t∈K then f (lk σ t)else .any:=by
 induction K with
 |nil=>simp[lk]
 |cons u K ih=>
  simp only[bG,lk];by_cases e:t=u
  ·subst e;simp
  ·rw[bH e,ih];simp[e]
theorem eO.FE(hs:eO Γ st κ Θ a w)(K o:af)(hnd:o.Nodup):∃κ' Θ',eO Γ (st.FE K o) κ' Θ' a w:=by
 let κ':Nat->Option Value:=fun j=>(o[j]?).bind κ
 let Θ':Nat->Nat:=fun b=>if Θ b<=1 then Θ b else match pos o (Θ b-2)with|some j=>j+2|none=>1
 have Ab:∀b,Θ b=0->Θ' b=0:=fun b h=>by simp[Θ',h]
 have hk:∀(i j:Nat) v,pos o i=some j->κ i=some v->κ' j=some v:=fun i j v h1 h2=>by simp[κ',Tv h1,h2]
 have hk2:∀(i j:Nat),o[j]?=some i->κ' j=κ i:=fun i j h=>by simp[κ',h]
 have S0:∀b (i j:Nat),o[j]?=some i->Θ b=i+2->Θ' b=j+2:=by
  intro b i j hj h;simp only[Θ'];rw[bH (by omega),h,Bh,XX hnd hj]
 have key:∀(j:Nat) x,(st.FE K o).H[j]?=some x->∃i,o[j]?=some i/\((st.H[i]?=none/\x=.gone)\/∃y,st.H[i]?=some y/\x=y.rn o):=by
  intro j x hj;simp only[St.FE,cA]at hj;cases ho:o[j]? with
  |none=>simp[ho]at hj
  |some i=>
   simp only[ho,cc,az]at hj;refine⟨i,rfl,?_⟩;cases hH:st.H[i]? with
   |none=>rw[hH]at hj;exact .inl ⟨rfl,hj.symm⟩
   |some y=>rw[hH]at hj;exact .inr ⟨y,rfl,hj.symm⟩
 obtain⟨ρ,hu⟩:=hs.wq;let ρ':Nat->Nat:=fun b=>if ρ b=0 then 0 else match pos o (ρ b-1)with|some j=>j+1|none=>0
 refine⟨κ',Θ',hs.defers,hs.size,?_,?_,?_,?_,?_,?_,?_,hs.stays,ρ',?_,?_,?_⟩
 ·intro i hi;simp only[St.FE,aa]at hi;simp[κ',ck hi]
 ·intro i u BT;simp only[κ']at BT;cases ho:o[i]? with
  |none=>simp[ho]at BT
  |some j=>simp[ho]at BT;exact hs.qp j u BT
 ·intro t;show∃bs,uB w κ' _ (lk (K.map fun t=>(t,(lk st.σ t).Yp o)) t) bs/\_;rw[a2Z st.σ K (fun d=>d.Yp o) t];split
  ·obtain⟨bs,hr,hz⟩:=hs.slot t;exact uB.rn hk Ab hr hz
  ·exact⟨[],.of (.any _),by simp⟩
 ·intro j x hj;obtain⟨i,ho,⟨_,rfl⟩|⟨y,hH,rfl⟩⟩:=key j x hj
  ·trivial
  ·have CN:=hs.ob i y hH;cases y with
   |gone=>trivial
   |hole=>trivial
   |tk rows=>
    obtain⟨v,bs,q1,q2,q3⟩:=CN;exact⟨v,bs,by rw[hk2 i j ho];exact q1,q2,fun b hb=>Ab b (q3 b hb)⟩
   |mp kv=>
    obtain⟨g,es,c,q1,q2,q3,q4⟩:=CN;exact⟨g,es,c,by rw[hk2 i j ho];exact q1,q2,S0 g i j ho q3,q4⟩
   |fG sz rows u=>
    obtain⟨q1,q0,v,bs,q2,q3,q4,q5⟩:=CN;exact⟨q1,fun x hx=>by rw[hk2 i j ho];exact q0 x hx,v,bs,by rw[hk2 i j ho];exact q2,q3,q4,fun b hb=>⟨S0 b i j ho (q5 b hb).1,(q5 b hb).2⟩⟩
   |box cells=>
    obtain⟨g,cs,T,q1,q2,q3,bs,q4,q5⟩:=CN;obtain⟨b',p1,p2⟩:=fP.rn hk Ab q4 q5;exact⟨g,cs,T,by rw[hk2 i j ho];exact q1,q2,S0 g i j ho q3,b',p1,p2⟩
   |Pr cells u=>
    obtain⟨q0,g,cs,T,q1,q2,q3,bs,q4,q5⟩:=CN;obtain⟨b',p1,p2⟩:=fP.rn hk Ab q4 q5;exact⟨by rw[hk2 i j ho];exact q0,g,cs,T,by rw[hk2 i j ho];exact q1,q2,S0 g i j ho q3,b',p1,p2⟩
   |row k e sz rows=>
    obtain⟨q1,q2,v,cs,bs,q3,q4,q5,q6,q7⟩:=CN;refine⟨q1,q2,v,cs,bs,by rw[hk2 i j ho];exact q3,q4,q5,fun g hg=>S0 g i j ho (q6 g hg),?_⟩;cases k with
    |cl=>exact⟨q7.1,fun b hb=>⟨S0 b i j ho (q7.2.1 b hb).1,(q7.2.1 b hb).2⟩,q7.2.2⟩
    |sh=>exact fun b hb=>Ab b (q7 b hb)
    |uq=>exact fun b hb=>Ab b (q7 b hb)
    |mv n=>exact fun b hb=>Ab b (q7 b hb)
 ·intro b hb;exact hs.own b (fun h=>hb (Ab b h))
 ·intro b hb hx;obtain⟨h1,h2⟩:=hs.old b hb hx;simp only[Θ'];rw[bS h2];exact⟨h1,h2⟩
 ·intro b hb;refine hs.mine b ?_;simp only[Θ']at hb;split at hb<;>omega
 ·intro b hb;have hb':ρ b≠0:=fun h=>hb (by simp[ρ',h])
  obtain⟨h1,h2⟩:=hu.free b hb';exact⟨Ab b h1,h2⟩
 ·intro j e sz rows hj;obtain⟨i,ho,⟨_,h⟩|⟨y,hH,h⟩⟩:=key j _ hj
  ·cases h
  ·have hy:y=.row .uq e sz rows:=by cases y<;>first| (simp only[Ob.rn]at h;exact h.symm)|cases h
   subst hy;obtain⟨v,cs,bs,q1,q2,q3,q4,q5⟩:=hu.rows i e sz rows hH;refine⟨v,cs,bs,by rw[hk2 i j ho];exact q1,q2,q3,q4,fun b hb=>?_⟩;simp only[ρ'];rw[q5 b hb,bH (by omega),Bh,XX hnd ho]
 ·intro j x hj;obtain⟨i,ho,⟨_,h⟩|⟨y,hH,h⟩⟩:=key j _ hj
  ·subst h;trivial
  ·have hm:=hu.more i y hH;have aAI:∀b,ρ b=i+1->ρ' b=j+1:=fun b hb=>by
    simp only[ρ'];rw[hb,bH (by omega),Bh,XX hnd ho]
   subst h;cases y with
   |tk rows=>
    obtain⟨v,bs,q1,q2,q3,q4⟩:=hm;exact⟨v,bs,by rw[hk2 i j ho];exact q1,q2,q3,fun b hb=>aAI b (q4 b hb)⟩
   |row k e sz rows=>
    cases k with
    |mv n=>
     obtain⟨v,cs,bs,q1,q2,q3,q4,q5⟩:=hm;exact⟨v,cs,bs,by rw[hk2 i j ho];exact q1,q2,q3,q4,fun b hb=>aAI b (q5 b hb)⟩
    |_=>trivial
   |_=>trivial
end
abbrev Rw:=Nat×List (List D)
def Rw.ob(x:Rw)(v:Option Value):Ob:=.fG x.1 x.2 v
def Ci(w:World)(κ:Nat->Option Value):Nat->List Rw->af->Prop
 |_,[],us=>us=[]
 |n,x::xs,us=>∃v bs us',κ n=some v/\(∀r∈x.2,r.length=x.1)/\Rd w v (.sl x.2) bs/\us=bs++us'/\Ci w κ (n+1) xs us'
def tu(P:Program)(f:FuncId)(ds:aR)(ins outs:List Rw)(d:D):Prop:=
 (∃fn,P.funcs[f]?=some fn/\fn.body.isSome=true/\(fn.name== "runtime.NumGoroutine")=false)/\outs.length=ins.length/\d.flat=true/\
 ∀(w:World) (κ:Nat->Option Value) (args:br) (us:af),TB w (fun b=>b∈us)->args.length=ds.length->(∀(i:Nat) d,ds[i]?=some d->∃v,args[i]?=some v/\uB w κ v d [])->
  (∀i,ins.length<=i->κ i=none)->(∀(i:Nat) u,κ i=some u->u.oneCell'=true)->Ci w κ 0 ins us->us.Nodup->(∀b∈us,Wr w b)->
  Calls P f args.toArray w (fun e w'=>∃v us',e=.returned v/\Rd w' v d []/\Ci w' κ 0 outs us'/\us'.Nodup/\(∀b∈us',(b∈us\/w.heap.size<=b)/\Wr w' b)/\
   w'.os=w.os/\w'.tape=w.tape/\w'.output=w.output/\w.heap.size<=w'.heap.size/\∀b,b<w.heap.size->b∉us->w'.heap[b]?=w.heap[b]?)
section
variable{P:Program}{Γ:w5}{Q:Exit->St->Prop}{st:St}{κ κ':Nat->Option Value}{Θ Θ':Nat->Nat}{a:Act}{w w':World}{all:Array Oper}{rest:List Oper}
theorem Ci.at:∀ {xs:List Rw} {n:Nat} {us:af},Ci w κ n xs us->∀(i:Nat) x,xs[i]?=some x->∃v bs,κ (n+i)=some v/\(∀r∈x.2,r.length=x.1)/\Rd w v (.sl x.2) bs/\∀b∈bs,b∈us:=by
 intro xs
 induction xs with
 |nil=>intro n us _ i x hx;simp at hx
 |cons y ys ih=>
  intro n us h i x hx;obtain⟨v,bs,us',h1,h2,h3,rfl,h5⟩:=h;cases i with
  |zero=>simp at hx;subst hx;exact⟨v,bs,h1,h2,h3,fun b hb=>by simp[hb]⟩
  |succ i=>
   simp at hx;obtain⟨v',bs',q1,q2,q3,q4⟩:=ih h5 i x hx;exact⟨v',bs',by rw[<-q1];congr 1;omega,q2,q3,fun b hb=>by simp[q4 b hb]⟩
theorem Ci.parts:∀ {xs:List Rw} {n:Nat} {us:af},Ci w κ n xs us->∃L:List af,L.length=xs.length/\us=L.flatten/\∀(i:Nat) x bs,xs[i]?=some x->L[i]?=some bs->∃v,κ (n+i)=some v/\(∀r∈x.2,r.length=x.1)/\Rd w v (.sl x.2) bs:=by
 intro xs
 induction xs with
 |nil=>intro n us h;exact⟨[],rfl,by simpa[Ci]using h,by simp⟩
 |cons y ys ih=>
  intro n us h;obtain⟨v,bs,us',h1,h2,h3,rfl,h5⟩:=h;obtain⟨L,q1,rfl,q3⟩:=ih h5;refine⟨bs::L,by simp[q1],by simp,?_⟩;intro i x b hx hb;cases i with
  |zero=>simp at hx hb;subst hx;subst hb;exact⟨v,h1,h2,h3⟩
  |succ i=>
   simp at hx hb;obtain⟨v',r1,r2,r3⟩:=q3 i x b hx hb;exact⟨v',by rw[<-r1];congr 1;omega,r2,r3⟩
theorem Ci.of:∀ {xs:List Rw} {n:Nat} {L:List af},L.length=xs.length->(∀(i:Nat) x bs,xs[i]?=some x->L[i]?=some bs->∃v,κ (n+i)=some v/\(∀r∈x.2,r.length=x.1)/\Rd w v (.sl x.2) bs)->Ci w κ n xs L.flatten:=by
 intro xs
 induction xs with
 |nil=>
  intro n L hl _;have:L=[]:=cg (by simpa using hl);subst this;rfl
 |cons y ys ih=>
  intro n L hl h;cases L with
  |nil=>simp at hl
  |cons bs L=>
   obtain⟨v,h1,h2,h3⟩:=h 0 y bs rfl rfl;refine⟨v,bs,L.flatten,h1,h2,h3,by simp,ih (by simpa using hl) ?_⟩;intro i x b hx hb;obtain⟨v',r1,r2,r3⟩:=h (i+1) x b (by simpa using hx) (by simpa using hb);exact⟨v',by rw[<-r1];congr 1;omega,r2,r3⟩
theorem eO.forget(hs:eO Γ st κ Θ a w)(ms:af):eO Γ ⟨st.σ,kill st.H ms⟩ κ (fun b=>if ms.any (fun m=>Θ b==m+2)then st.H.length+2 else Θ b) a w:=by
 have h0:∀b,Θ b=0->(if ms.any (fun m=>Θ b==m+2)then st.H.length+2 else Θ b)=0:=by
  intro b hb;rw[bH,hb];intro h;obtain⟨m,_,hm⟩:=dR.1 h;simp[hb]at hm
 have hk:∀(j:Nat) o,(kill st.H ms)[j]?=some o->o=.gone\/(j∉ms/\st.H[j]?=some o):=fun j o h=>vA h
 have hold:∀b j,j∉ms->Θ b=j+2->(if ms.any (fun m=>Θ b==m+2)then st.H.length+2 else Θ b)=j+2:=by
  intro b j hj hb;rw[bH,hb];intro h;obtain⟨m,hm,he⟩:=dR.1 h;simp only[hb,cj]at he;exact hj (by
   have:j=m:=by omega
   rw[this];exact hm)
 obtain⟨ρ,hu⟩:=hs.wq;refine⟨hs.defers,hs.size,fun i hi=>hs.rX i (by simpa[iK]using hi),hs.qp,?_,?_,?_,?_,?_,hs.stays,ρ,?_,?_,?_⟩
 ·intro t;obtain⟨bs,hr,hz⟩:=hs.slot t;exact⟨bs,hr,fun b hb=>h0 b (hz b hb)⟩
 ·intro j o hj;rcases hk j o hj with rfl|⟨hn,hj'⟩
  ·trivial
  ·have CN:=hs.ob j o hj';cases o with
   |gone=>trivial
   |tk rows=>
    obtain⟨v,bs,q1,q2,q3⟩:=CN;exact⟨v,bs,q1,q2,fun b hb=>h0 b (q3 b hb)⟩
   |box cells=>
    obtain⟨g,cs,T,q1,q2,q3,bs,q4,q5⟩:=CN;exact⟨g,cs,T,q1,q2,hold g j hn q3,bs,q4,fun b hb=>h0 b (q5 b hb)⟩
   |Pr cells u=>
    obtain⟨q0,g,cs,T,q1,q2,q3,bs,q4,q5⟩:=CN;exact⟨q0,g,cs,T,q1,q2,hold g j hn q3,bs,q4,fun b hb=>h0 b (q5 b hb)⟩
   |row k e sz rows=>
    obtain⟨q1,q2,v,cs,bs,q3,q4,q5,q6,q7⟩:=CN;refine⟨q1,q2,v,cs,bs,q3,q4,q5,fun g hg=>hold g j hn (q6 g hg),?_⟩;cases k with
    |cl=>exact⟨q7.1,fun b hb=>⟨hold b j hn (q7.2.1 b hb).1,(q7.2.1 b hb).2⟩,q7.2.2⟩
    |sh=>exact fun b hb=>h0 b (q7 b hb)
    |uq=>exact fun b hb=>h0 b (q7 b hb)
    |mv n=>exact fun b hb=>h0 b (q7 b hb)
   |fG sz rows u=>
    obtain⟨q1,q0,v,bs,q2,q3,q4,q5⟩:=CN;exact⟨q1,q0,v,bs,q2,q3,q4,fun b hb=>⟨hold b j hn (q5 b hb).1,(q5 b hb).2⟩⟩
   |hole sz rows u p n=>
    obtain⟨q1,q0,v,bs,q2,q3,q4,q5⟩:=CN;exact⟨q1,q0,v,bs,q2,q3,q4,fun b hb=>⟨hold b j hn (q5 b hb).1,(q5 b hb).2⟩⟩
   |mp kv=>
    obtain⟨g,es,c,q1,q2,q3,q4⟩:=CN;exact⟨g,es,c,q1,q2,hold g j hn q3,q4⟩
 ·intro b hb;refine hs.own b fun h=>hb ?_
  exact h0 b h
 ·intro b hb hx;obtain⟨h1,h2⟩:=hs.old b hb hx;have:(if ms.any (fun m=>Θ b==m+2)then st.H.length+2 else Θ b)=Θ b:=by
   rw[bH];intro h;obtain⟨m,_,hm⟩:=dR.1 h;simp only[cj]at hm;omega
  show(if ms.any (fun m=>Θ b==m+2)then st.H.length+2 else Θ b)=_/\(if ms.any (fun m=>Θ b==m+2)then st.H.length+2 else Θ b)<=1;rw[this];exact⟨h1,h2⟩
 ·intro b hb;refine hs.mine b ?_;by_cases h:ms.any (fun m=>Θ b==m+2)=true
  ·obtain⟨m,_,hm⟩:=dR.1 h;simp only[cj]at hm;omega
  ·simp only[h]at hb;simpa using hb
 ·intro b hb;obtain⟨h1,h2⟩:=hu.free b hb;exact⟨h0 b h1,h2⟩
 ·intro id e sz rows hj;rcases hk id _ hj with h|⟨_,h⟩
  ·cases h
  ·exact hu.rows id e sz rows h
 ·intro id o hj;rcases hk id _ hj with h|⟨_,h⟩
  ·subst h;trivial
  ·exact hu.more id o h
def lv(H:bX)(m:Nat):Option Value:=match H[m]? with|some (.fG _ _ v)=>v|_=>none
def Tw:bX->af->List Rw->bX
 |H,m::ms,x::xs=>Tw (H.set m (x.ob (lv H m))) ms xs
 |H,_,_=>H
theorem PR:∀(H:bX) (ms:af) (xs:List Rw),(Tw H ms xs).length=H.length:=by
 intro H ms
 induction ms generalizing H with
 |nil=>intro xs;cases xs<;>rfl
 |cons m ms ih=>intro xs;cases xs with|nil=>rfl|cons x xs=>simp[Tw,ih]
theorem a2q:∀ {H:bX} {ms:af} {xs:List Rw} {j:Nat} {y:Ob},ms.Nodup->xs.length=ms.length->(Tw H ms xs)[j]?=some y->(∃(i:Nat) (x:Rw),ms[i]?=some j/\xs[i]?=some x/\y=x.ob (lv H j))\/(j∉ms/\H[j]?=some y):=by
 intro H ms
 induction ms generalizing H with
 |nil=>intro xs j y _ _ h;cases xs<;>exact .inr ⟨by simp,h⟩
 |cons m ms ih=>
  intro xs j y hnd hl h;cases xs with
  |nil=>simp at hl
  |cons x xs=>
   obtain⟨n1,n2⟩:=fD.1 hnd;rcases ih n2 (by simpa using hl) h with⟨i,z,h1,h2,h3⟩|⟨h1,h2⟩
   ·refine .inl ⟨i+1,z,by simpa using h1,by simpa using h2,?_⟩;rw[h3];have hne:m≠j:=fun e=>n1 (by rw[e];exact aC h1)
    simp only[lv,cG hne]
   ·rcases BW j y h2 with⟨rfl,rfl⟩|⟨h3,h4⟩
    ·exact .inl ⟨0,x,rfl,rfl,rfl⟩
    ·exact .inr ⟨by simp[h1,h3],h4⟩
def R3(H:bX):af->Option (List Rw)
 | []=>some []
 |m::ms=>match H[m]?,R3 H ms with|some (.fG sz rows _),some xs=>some ((sz,rows)::xs)|_,_=>none
theorem XF{H:bX}:∀ {ms:af} {xs:List Rw},R3 H ms=some xs->xs.length=ms.length/\∀(i m:Nat) x,ms[i]?=some m->xs[i]?=some x->∃v,H[m]?=some (x.ob v):=by
 intro ms
 induction ms with
 |nil=>intro xs h;cases h;simp
 |cons m ms ih=>
  intro xs h;simp only[R3]at h;split at h
  ·rename_i sz rows u ys h1 h2;cases h;obtain⟨q1,q2⟩:=ih h2;refine⟨by simp[q1],?_⟩;intro i m' x hm hx;cases i with
   |zero=>simp at hm hx;subst hm;subst hx;exact⟨u,h1⟩
   |succ i=>exact q2 i m' x (by simpa using hm) (by simpa using hx)
  ·cases h
def D.KI(d:D):Bool:=match d with
 | .acc _=>true
 |d=>d.flat
def D.bare(d:D):Bool:=match d with
 | .agg cs=>cs.all D.KI
 |d=>d.KI
theorem Ba.Q4{v:Value}{d:D}{bs:af}(h:Ba w κ v d bs)(hf:d.KI=true):bs=[]:=by
 cases h with
 |pure h=>
  refine h.flat ?_;cases h<;>exact hf
 |_=>rfl
theorem fP.Q4{vs:br}{ds:aR}{bs:af}(h:fP w κ vs ds bs)(hf:ds.all D.KI=true):bs=[]:=by
 induction h with
 |nil=>rfl
 |cons v vs d ds b1 b2 h1 h2 _ ih=>
  simp only[dM,aY]at hf;rw[h2.Q4 hf.1,ih hf.2];rfl
theorem uB.YF{v:Value}{d:D}{bs:af}(h:uB w κ v d bs)(hf:d.bare=true):bs=[]:=by
 cases h with
 |v h=>
  cases h with
  |cell h=>
   cases h with
   |pure h=>
    cases h with
    |agg cs ds _ h=>exact fP.Q4 (fP.FH (κ:=κ) h) hf
    |_=>first|rfl|exact absurd hf (by simp[D.bare,D.KI,D.flat])
   |_=>rfl
  |agg cs ds bs h=>exact h.Q4 hf
 |gZ=>simp[D.bare,D.KI,D.flat]at hf
theorem D.a1K(o:af){c:D}(h:c.KI=true):(c.Yo o).KI=true:=by
 cases c with
 |acc m=>simp only[D.Yo];cases pos o m<;>rfl
 |_=>first|exact h| (simp[D.KI,D.flat]at h)
theorem D.YG(o:af){d:D}(h:d.bare=true):(d.Yp o).bare=true:=by
 cases d with
 |agg cs=>
  simp only[D.Yp,D.rnV,D.bare,EC]at h⊢;rw[bB]at h⊢;intro c hcm;exact D.a1K o (h c hcm)
 |acc m=>simp only[D.Yp,D.rnV,D.Yo];cases pos o m<;>rfl
 |_=>first|exact h| (simp[D.bare,D.KI,D.flat]at h)
theorem PD{L:List af}(h:L.flatten.Nodup):∀(i j:Nat) x y b,L[i]?=some x->L[j]?=some y->b∈x->b∈y->i=j:=by
 intro i j x y b hi hj hx hy;have:=yZ (f:=fun l:af=>l) (l:=L) (by simpa[List.flatMap_id]using h);exact this i j x y b hi hj hx hy
theorem Ql{L:List af}(h:L.flatten.Nodup):∀x∈L,x.Nodup:=by
 induction L with
 |nil=>intro x hx;cases hx
 |cons y L ih=>
  intro x hx;simp only[eV]at h;obtain⟨h1,h2,_⟩:=bO.1 h;rcases bM.1 hx with rfl|hx
  ·exact h1
  ·exact ih h2 x hx
theorem KP:∀ {L:List af},(∀x∈L,x.Nodup)->(∀(i j:Nat) x y b,L[i]?=some x->L[j]?=some y->b∈x->b∈y->i=j)->L.flatten.Nodup:=by
 intro L
 induction L with
 |nil=>intro _ _;simp
 |cons y L ih=>
  intro h1 h2;simp only[eV];refine bO.2 ⟨h1 y (by simp),ih (fun x hx=>h1 x (by simp[hx])) (fun i j x z b hi hj hx hz=>?_),?_⟩
  ·have:=h2 (i+1) (j+1) x z b (by simpa using hi) (by simpa using hj) hx hz;omega
  ·intro b hb c hc e;subst e;obtain⟨x,hx,I3⟩:=dw.1 hc;obtain⟨j,hj⟩:=cq hx;have:=h2 0 (j+1) y x b rfl (by simpa using hj) hb I3;omega
theorem a14{o:Oper}{f t:Nat}{xs:Array Operand}{ts:Array TypeId}{ms:af}{ins outs:List Rw}{d:D}(hop:o.op=.call {callee:=.value (.func f),args:=xs,argTypes:=ts})(hd:o.dst=some t)(hg:o.guard=none)
 (ht:t<Γ.nt) (hnd:ms.Nodup) (hins:R3 st.H ms=some ins) (hb:((xs.toList.map st.ev).all D.bare)=true) (pX:tu P f ((xs.toList.map st.ev).map (D.Yp ms)) ins outs d)
 (h:AO P Γ all rest Q ⟨(t,d)::st.σ,Tw st.H ms outs⟩):AO P Γ all (o::rest) Q st:=by
 intro κ Θ a w hs;obtain⟨WM,hig⟩:=XF hins;obtain⟨hfn,hol,hfl,a9j⟩:=pX;let κc:Nat->Option Value:=fun j=>(ms[j]?).bind κ
 have hkc:∀(i m:Nat),ms[i]?=some m->κc i=κ m:=fun i m h=>by simp[κc,h]
 have CN:∀(i m:Nat) x,ms[i]?=some m->ins[i]?=some x->∃v bs,κ m=some v/\(∀r∈x.2,r.length=x.1)/\Rd w v (.sl x.2) bs/\bs.Nodup/\∀b∈bs,Θ b=m+2/\Wr w b:=by
  intro i m x hm hx;obtain⟨u,hu⟩:=hig i m x hm hx;obtain⟨q1,_,v,bs,q2,q3,q4,q5⟩:=hs.ob m _ hu;exact⟨v,bs,q2,q1,q3,q4,q5⟩
 have hL:∃L:List af,L.length=ins.length/\∀(i m:Nat) x bs,ms[i]?=some m->ins[i]?=some x->L[i]?=some bs->(∃v,κ m=some v/\(∀r∈x.2,r.length=x.1)/\Rd w v (.sl x.2) bs)/\bs.Nodup/\∀b∈bs,Θ b=m+2/\Wr w b:=by
  have key:∀(ms:af) (ins:List Rw),ins.length=ms.length->(∀(i m:Nat) x,ms[i]?=some m->ins[i]?=some x->∃v bs,κ m=some v/\(∀r∈x.2,r.length=x.1)/\Rd w v (.sl x.2) bs/\bs.Nodup/\∀b∈bs,Θ b=m+2/\Wr w b)->
   ∃L:List af,L.length=ins.length/\∀(i m:Nat) x bs,ms[i]?=some m->ins[i]?=some x->L[i]?=some bs->(∃v,κ m=some v/\(∀r∈x.2,r.length=x.1)/\Rd w v (.sl x.2) bs)/\bs.Nodup/\∀b∈bs,Θ b=m+2/\Wr w b:=by
   intro ms
   induction ms with
   |nil=>intro ins hl _;exact⟨[],by simpa using hl.symm,by simp⟩
   |cons m ms ih=>
    intro ins hl CN;cases ins with
    |nil=>simp at hl
    |cons x ins=>
     obtain⟨L,q1,q2⟩:=ih ins (by simpa using hl) (fun i m' x' hm hx=>CN (i+1) m' x' (by simpa using hm) (by simpa using hx));obtain⟨v,bs,r1,r2,r3,r4,r5⟩:=CN 0 m x rfl rfl;refine⟨bs::L,by simp[q1],?_⟩;intro i m' x' b hm hx hb;cases i with
     |zero=>simp at hm hx hb;subst hm;subst hx;subst hb;exact⟨⟨v,r1,r2,r3⟩,r4,r5⟩
     |succ i=>exact q2 i m' x' b (by simpa using hm) (by simpa using hx) (by simpa using hb)
  exact key ms ins WM CN
 obtain⟨L,hLl,hLi⟩:=hL;have hmi:∀(i:Nat) bs,L[i]?=some bs->∃m x,ms[i]?=some m/\ins[i]?=some x:=by
  intro i bs hb';have hlt:=(aH.1 hb').1;exact⟨_,_,ai (by omega),ai (by omega)⟩
 have hmem:∀b∈L.flatten,∃m∈ms,Θ b=m+2:=by
  intro b hb';obtain⟨x,hx,I3⟩:=dw.1 hb';obtain⟨i,hi⟩:=cq hx;obtain⟨m,y,h1,h2⟩:=hmi i x hi;exact⟨m,aC h1,((hLi i m y x h1 h2 hi).2.2 b I3).1⟩
 have xI:L.flatten.Nodup:=by
  refine KP (fun x hx=>?_) (fun i j x y b hi hj hx hy=>?_)
  ·obtain⟨i,hi⟩:=cq hx;obtain⟨m,y,h1,h2⟩:=hmi i x hi;exact(hLi i m y x h1 h2 hi).2.1
  ·obtain⟨m1,y1,h1,h2⟩:=hmi i x hi;obtain⟨m2,y2,h3,h4⟩:=hmi j y hj;have e1:=((hLi i m1 y1 x h1 h2 hi).2.2 b hx).1;have e2:=((hLi j m2 y2 y h3 h4 hj).2.2 b hy).1;have:m1=m2:=by omega
   subst this;exact Si hnd i j m1 h1 h3
 have Qr:Ci w κc 0 ins L.flatten:=Ci.of hLl (fun i x bs hx hb'=>by
  obtain⟨m,y,h1,h2⟩:=hmi i bs hb';rw[hx]at h2;cases h2;obtain⟨⟨v,q1,q2,q3⟩,_⟩:=hLi i m x bs h1 hx hb';exact⟨v,by rw[cr,hkc i m h1];exact q1,q2,q3⟩)
 have hwr:∀b∈L.flatten,Wr w b:=by
  intro b hb';obtain⟨x,hx,I3⟩:=dw.1 hb';obtain⟨i,hi⟩:=cq hx;obtain⟨m,y,h1,h2⟩:=hmi i x hi;exact((hLi i m y x h1 h2 hi).2.2 b I3).2
 have hargs:∀(i:Nat) d,((xs.toList.map st.ev).map (D.Yp ms))[i]?=some d->∃v,(xs.toList.map a.eval)[i]?=some v/\uB w κc v d []:=by
  intro i d MO;rw[cA,cA]at MO;cases hx:xs.toList[i]? with
  |none=>rw[hx]at MO;cases MO
  |some x=>
   rw[hx]at MO;simp only[cc,az]at MO;subst MO;refine⟨a.eval x,by rw[cA,hx];rfl,?_⟩;obtain⟨bs,r,hz⟩:=hs.ev x;have a1a:(st.ev x).bare=true:=bB.1 hb _ (cJ.2 ⟨x,aC hx,rfl⟩);obtain⟨b',r',_⟩:=uB.rn (o:=ms) (κ':=κc) (Θ:=fun _=>0) (Θ':=fun _=>0) (fun i j v h1 h2=>by simp[κc,Tv h1,h2]) (fun _ _=>rfl) r (fun _ _=>rfl);have:=r'.YF (D.YG ms a1a);subst this;exact r'
 have TV:TB w fun b=>b∈L.flatten:=by
  obtain⟨B,v1,v2⟩:=hs.vsb;refine⟨B,v1,fun b hB=>⟨(v2 b hB).2.1,fun hb'=>?_⟩⟩;obtain⟨x,hx,I3⟩:=dw.1 hb';obtain⟨i,hi⟩:=cq hx;obtain⟨m,y,h1,h2⟩:=hmi i x hi;have e1:=((hLi i m y x h1 h2 hi).2.2 b I3).1;rcases hs.mine b (by omega)with q|q
  ·have:=(v2 b hB).1;omega
  ·exact(v2 b hB).2.2 q
 have hc:=a9j w κc (xs.toList.map a.eval) L.flatten TV (by simp) hargs (fun i hi=>by simp[κc,ck (by omega:ms.length<=i)]) (fun i u hu=>by
  simp only[κc]at hu;cases hm:ms[i]? with
  |none=>rw[hm]at hu;cases hu
  |some m=>rw[hm]at hu;exact hs.qp m u hu) Qr xI hwr
 refine wpList_plain hg fun K hK=>?_
 unfold Oper.wp;rw[AV hop hfn,Oper.upon_enter];have e:xs.map a.eval=(xs.toList.map a.eval).toArray:=by rw[<-jI,kj]
 rw[e];refine hc.mono ?_;rintro e w' ⟨v,us',rfl,hv,hl',KA,X0,k1,k2,k3,k4,k5⟩;show K (a.put o.dst v) w';rw[hd];obtain⟨L',a9b,rfl,Wy⟩:=hl'.parts;have a1n:∀(i:Nat) bs,L'[i]?=some bs->∃m x,ms[i]?=some m/\outs[i]?=some x:=by
  intro i bs hb';have hlt:=(aH.1 hb').1;exact⟨_,_,ai (by omega),ai (by omega)⟩
 have hs1:=hs.forget ms;let Θ1:Nat->Nat:=fun b=>if ms.any (fun m=>Θ b==m+2)then st.H.length+2 else Θ b
 have aAH:∀b,b∈L.flatten->Θ1 b=st.H.length+2:=by
  intro b hb';obtain⟨m,hm,he⟩:=hmem b hb';simp only[Θ1];rw[bS (dR.2 ⟨m,hm,by simp[he]⟩)]
 let Θ2:Nat->Nat:=fun b=>match ix (fun x:af=>x.contains b) L' with|some i=>(match ms[i]? with|some m=>m+2|none=>1)|none=>if Θ1 b=st.H.length+2 then 1 else Θ1 b
 have aDP:∀(i m:Nat) bs b,ms[i]?=some m->L'[i]?=some bs->b∈bs->Θ2 b=m+2:=by
  intro i m bs b hm hi hb';have:ix (fun x:af=>x.contains b) L'=some i:=F0 hi (by simpa using hb') (fun j y hj hy=>PD KA j i y bs b hj hi (by simpa using hy) hb');simp only[Θ2,this,hm]
 have a1z:∀b,b∉L'.flatten->Θ2 b=if Θ1 b=st.H.length+2 then 1 else Θ1 b:=by
  intro b hb';simp only[Θ2];cases h:ix (fun x:af=>x.contains b) L' with
  |none=>rfl
  |some i=>
   obtain⟨x,hx,hp⟩:=zv h;exact absurd (dw.2 ⟨x,aC hx,by simpa using hp⟩) hb'
 have hlt':∀b∈L'.flatten,b<w'.heap.size:=fun b hb'=>by
  obtain⟨cs,T,hx⟩:=(X0 b hb').2;exact(bL.1 hx).1
 have kk:jY w w' Θ1 Θ2 (st.H.length+2):=by
  refine⟨by omega,k1,k2,k3,k4,fun b hlt hne=>k5 b hlt fun hb'=>hne (aAH b hb'),fun b hlt hne=>?_,fun b hb'=>?_⟩
  ·by_cases hin:b∈L'.flatten
   ·rcases(X0 b hin).1 with h'|h'
    ·exact absurd (aAH b h') hne
    ·omega
   ·rw[a1z b hin,bH hne]
  ·by_cases hin:b∈L'.flatten
   ·exact hlt' b hin
   ·rw[a1z b hin]at hb';refine eE (hs1.own b ?_) k4;intro h0;have h0':Θ1 b=0:=h0;rw[h0']at hb';rw[bH (by omega)]at hb';exact hb' rfl
 have hm2:∀b,2<=Θ2 b->Cz Γ b:=by
  intro b hb';by_cases hin:b∈L'.flatten
  ·rcases(X0 b hin).1 with h'|h'
   ·obtain⟨m,_,he⟩:=hmem b h';exact hs.mine b (by omega)
   ·exact .inl (cU hs.base h')
  ·rw[a1z b hin]at hb';split at hb'
   ·omega
   ·exact hs1.mine b hb'
 obtain⟨ρ,hu⟩:=hs1.wq;have a7u:=hs1.qf kk (κ':=κ) (fun _ _ h=>h) hu;have hkl:(kill st.H ms).length=st.H.length:=iK _ _;have hpk:∀(j:Nat) y,(Tw st.H ms outs)[j]?=some y->(∃(i:Nat) (x:Rw),ms[i]?=some j/\outs[i]?=some x/\y=x.ob (lv st.H j))\/(j∉ms/\(kill st.H ms)[j]?=some y):=by
  intro j y hj;rcases a2q hnd (by omega) hj with h'|⟨h1,h2⟩
  ·exact .inl h'
  ·exact .inr ⟨h1,by rw[ju h1];exact h2⟩
 have Qq:∀(j:Nat) y,(Tw st.H ms outs)[j]?=some y->j+2≠st.H.length+2:=fun j y hj=>by
  have:=(aH.1 hj).1;rw[PR]at this;omega
 have hs2:eO Γ ⟨st.σ,Tw st.H ms outs⟩ κ Θ2 a w':=by
  refine hs1.step kk hm2 (fun _ _ h=>h) (fun i hi=>hs.rX i (by rw[PR]at hi;exact hi)) hs.qp ?_ ⟨ρ,a7u.1,?_,?_⟩
  ·intro j y hj;have hjl:=Qq j y hj;rcases hpk j y hj with⟨i,x,h1,h2,rfl⟩|⟨_,h2⟩
   ·right;right
    have Zk:∃bs,L'[i]?=some bs:=⟨_,ai (by have:=(aH.1 h2).1;omega)⟩
    obtain⟨bs,Zk⟩:=Zk;obtain⟨v',q1,q2,q3⟩:=Wy i x bs h2 Zk;rw[cr,hkc i j h1]at q1;refine⟨q2,fun x hx=>?_,v',bs,q1,q3,Ql KA bs (aC Zk),fun b hb'=>⟨aDP i j bs b h1 Zk hb',(X0 b (dw.2 ⟨bs,aC Zk,hb'⟩)).2⟩⟩;unfold lv at hx;split at hx
    ·rename_i sz0 aES u0 hH0;subst hx;obtain⟨_,q0,_⟩:=hs.ob j _ hH0;exact q0 x rfl
    ·cases hx
   ·exact .inr (.inl ⟨hjl,h2⟩)
  ·intro id e' sz' dQ hj;have hjl:=Qq id _ hj;rcases hpk id _ hj with⟨i,x,h1,h2,h3⟩|⟨_,h2⟩
   ·simp[Rw.ob]at h3
   ·exact a7u.2.1 id e' sz' dQ hjl h2
  ·intro id y hj;have hjl:=Qq id _ hj;rcases hpk id _ hj with⟨i,x,h1,h2,h3⟩|⟨_,h2⟩
   ·subst h3;exact PY.Aq rfl
   ·exact a7u.2.2 id y hjl h2
 have vq:uB w' κ v d []:=.of hv;exact hK _ _ (h κ Θ2 _ w' (hs2.set (t:=t) ht vq (by simp)))
def Ob.close:Ob->Ob
 | .row _ _ sz rows=>.fG sz rows none
 |o=>o
theorem eO.Zs(hs:eO Γ st κ Θ a w)(hb:Below w.heap.size w w')(L:p6)(hL:∀x∈L,x.ok w')(hnd:(L.flatMap Fs.bl).Nodup)(hfr:∀b∈L.flatMap Fs.bl,w.heap.size<=b/\Wr w' b):
 ∃κ' Θ',eO Γ ⟨st.σ,st.H++(L.map Fs.ob).map Ob.close⟩ κ' Θ' a w'/\Names κ' st.H.length L:=by
 let n:=st.H.length
 let κ':Nat->Option Value:=fun j=>if j<n\/n+L.length<=j then κ j else(L[j-n]?).map Fs.v
 let Θ':Nat->Nat:=fun b=>match ix (fun x:Fs=>x.bl.contains b) L with|some i=>n+i+2|none=>Θ b
 have hu1:∀(i j:Nat) x y b,L[i]?=some x->L[j]?=some y->b∈x.bl->b∈y.bl->i=j:=fun i j x y b=>yZ hnd i j x y b
 have hts:∀(i:Nat) x b,L[i]?=some x->b∈x.bl->Θ' b=n+i+2:=by
  intro i x b hi hxb;have:ix (fun x:Fs=>x.bl.contains b) L=some i:=F0 hi (by simpa using hxb) (fun j y hj hy=>hu1 j i y x b hj hi (by simpa using hy) hxb);simp only[Θ',this]
 have hno:∀b,b∉L.flatMap Fs.bl->Θ' b=Θ b:=by
  intro b hb';simp only[Θ'];cases h:ix (fun x:Fs=>x.bl.contains b) L with
  |none=>rfl
  |some i=>
   obtain⟨x,hx,hp⟩:=zv h;exact absurd (cE.2 ⟨x,aC hx,by simpa using hp⟩) hb'
 have hold:∀b,b<w.heap.size->Θ' b=Θ b:=fun b hlt=>hno b (fun h=>by have:=(hfr b h).1;omega)
 have hn:∀(j:Nat) v,κ j=some v->κ' j=some v:=by
  intro j v hj;have:j<n:=by
   rcases eR j n with h|h
   ·exact h
   ·have:=hs.rX j h;rw[hj]at this;cases this
  simp only[κ'];rw[bS (.inl this)];exact hj
 have CD:Names κ' n L:=by
  intro i x hx;have hlt:=(aH.1 hx).1;simp only[κ'];rw[bH (by omega),eA,hx];rfl
 have hlen:(st.H++(L.map Fs.ob).map Ob.close).length=n+L.length:=by simp[n]
 have k:jY w w' Θ Θ' (n+L.length+2):=by
  refine⟨by omega,hb.os,hb.tape,hb.output,hb.size,fun b hlt _=>hb.block b hlt,fun b hlt _=>hold b hlt,fun b h=>?_⟩;by_cases hin:b∈L.flatMap Fs.bl
  ·obtain⟨cs,T,hx⟩:=(hfr b hin).2;exact(bL.1 hx).1
  ·rw[hno b hin]at h;exact eE (hs.own b h) hb.size
 have hm:∀b,2<=Θ' b->Cz Γ b:=by
  intro b h;by_cases hin:b∈L.flatMap Fs.bl
  ·exact .inl (cU hs.base (hfr b hin).1)
  ·rw[hno b hin]at h;exact hs.mine b h
 have key:∀(j:Nat) y,(st.H++(L.map Fs.ob).map Ob.close)[j]?=some y->(∃i x,j=n+i/\L[i]?=some x/\y=.fG x.sz x.rows none)\/(j<n/\st.H[j]?=some y):=by
  intro j y hj;by_cases hlt:j<st.H.length
  ·rw[b9 hlt]at hj;exact .inr ⟨hlt,hj⟩
  ·rw[bE (by omega),cA,cA]at hj;cases hx:L[j-st.H.length]? with
   |none=>simp[hx]at hj
   |some x=>simp[hx]at hj;exact .inl ⟨j-st.H.length,x,by omega,hx,hj.symm⟩
 have Qq:∀(j:Nat) y,(st.H++(L.map Fs.ob).map Ob.close)[j]?=some y->j+2≠n+L.length+2:=fun j y hj=>by
  have:=(aH.1 hj).1;omega
 obtain⟨ρ,hu⟩:=hs.wq;have xI:=hs.qf k hn hu;refine⟨κ',Θ',hs.step k hm hn (fun i hi=>?_) (fun i u BT=>?_) (fun j y hj=>?_) ⟨ρ,xI.1,fun id e sz rows hj=>?_,fun id y hj=>?_⟩,CD⟩
 ·rw[hlen]at hi;simp only[κ'];rw[bS (by omega)];exact hs.rX i (by omega)
 ·simp only[κ']at BT;split at BT
  ·exact hs.qp i u BT
  ·cases hx:L[i-n]? with
   |none=>simp[hx]at BT
   |some x=>simp[hx]at BT;subst BT;exact(hL x (aC hx)).2.2.2.2
 ·have hjl:=Qq j y hj;rcases key j y hj with⟨i,x,rfl,hx,rfl⟩|⟨hlt,hy⟩
  ·right;right
   obtain⟨q1,q2,q3,q4,_⟩:=hL x (aC hx);have On:x.bl.Nodup:=by
    have:∀(l:p6),(l.flatMap Fs.bl).Nodup->∀x∈l,x.bl.Nodup:=by
     intro l
     induction l with
     |nil=>intro _ x hx;cases hx
     |cons z r ih=>
      intro hnd x hx;simp only[dO]at hnd;obtain⟨n1,n2,_⟩:=bO.1 hnd;rcases bM.1 hx with rfl|hx
      ·exact n1
      ·exact ih n2 x hx
    exact this L hnd x (aC hx)
   exact⟨q2,by simp,x.v,x.bl,CD i x hx,yP q2 q3 q4,On,fun b hb'=>⟨hts i x b hx hb',(hfr b (cE.2 ⟨x,aC hx,hb'⟩)).2⟩⟩
  ·exact .inr (.inl ⟨hjl,hy⟩)
 ·have hjl:=Qq id _ hj;rcases key id _ hj with⟨i,x,_,_,h⟩|⟨hlt,hy⟩
  ·cases h
  ·exact xI.2.1 id e sz rows hjl hy
 ·have hjl:=Qq id _ hj;rcases key id _ hj with⟨i,x,_,_,h⟩|⟨hlt,hy⟩
  ·subst h;exact PY.Aq rfl
  ·exact xI.2.2 id y hjl hy
theorem a0x{o:Oper}{f t:Nat}{xs:Array Operand}{ts:Array TypeId}{ds:aR}{ms:af}{d:D}(hop:o.op=.call {callee:=.value (.func f),args:=xs,argTypes:=ts})(hd:o.dst=some t)(hg:o.guard=none)
 (ht:t<Γ.nt) (hds:MM st.H (xs.toList.map st.ev)=some (ds,ms)) (hown:d.RN=true) (pX:Good P f ds d)
 (h:AO P Γ all rest Q ⟨(t,(rW st.H.length d).1)::st.σ,st.H++(rW st.H.length d).2.map Ob.close⟩):AO P Γ all (o::rest) Q st:=by
 intro κ Θ a w hs;obtain⟨bs,hargs,hz⟩:=QD hs hds;let Θc:Nat->Nat:=fun b=>if Θ b=0\/ms.any (fun m=>Θ b==m+2)then 0 else 1
 have PI:∀b,Seen Θ ms b->Θc b=0:=by
  intro b h;simp only[Θc];rw[bS];rcases h with h|⟨m,h1,h2⟩
  ·exact .inl h
  ·exact .inr (dR.2 ⟨m,h1,by simp[h2]⟩)
 have hc:=pX.2 w Θc _ bs hs.vok hargs (fun b hb=>PI b (hz b hb)) (fun b hb=>hs.own b (fun e=>hb (PI b (.inl e)))) (fun b=>by simp only[Θc];split<;>omega);refine wpList_plain hg fun K hK=>?_
 unfold Oper.wp;rw[AV hop pX.1,Oper.upon_enter];have e:xs.map a.eval=(xs.toList.map a.eval).toArray:=by rw[<-jI,kj]
 rw[e];refine hc.mono ?_;rintro e w' ⟨v,bs',tb,ub,rfl,hb,hr,Rk,htb,hnd,hfr,hsub⟩;show K (a.put o.dst v) w';rw[hd];obtain⟨L,q1,q2,q3,q4,q5⟩:=hr.inst st.H.length;obtain⟨κ',Θ',hs',hnm⟩:=hs.Zs hb L q2 (q3▸hnd) (fun b hb'=>hfr b (q3▸hb'));rw[q1]at hs';refine hK _ _ (h κ' Θ' _ w' (hs'.set (t:=t) ht (q5 κ' hnm) fun b hb'=>?_));rw[hr.own hown]at hb';cases hb'
def Ao:List Rw->br->bX
 |x::xs,v::vs=>x.ob (some v)::Ao xs vs
 |_,_=>[]
theorem MA:∀ {xs:List Rw} {vs:br} {j:Nat} {y:Ob},(Ao xs vs)[j]?=some y->∃x v,xs[j]?=some x/\vs[j]?=some v/\y=x.ob (some v):=by
 intro xs
 induction xs with
 |nil=>intro vs j y h;simp[Ao]at h
 |cons x xs ih=>
  intro vs j y h;cases vs with
  |nil=>simp[Ao]at h
  |cons v vs=>
   cases j with
   |zero=>simp[Ao]at h;exact⟨x,v,rfl,rfl,h.symm⟩
   |succ j=>simp only[Ao,ew]at h⊢;exact ih h
theorem S2:∀(xs:List Rw) (vs:br),(Ao xs vs).length=min xs.length vs.length:=by
 intro xs
 induction xs with
 |nil=>intro vs;simp[Ao]
 |cons x xs ih=>intro vs;cases vs with|nil=>simp[Ao]|cons v vs=>simp[Ao,ih]
def wB(P:Program)(fn:Func)(vs:br)(outs:List Rw)(d:D)(e:Exit)(st:St):Prop:=
 (e=.ret\/e=.normal)/\∃ds,FI P st fn.results.toList=some ds/\ds.all D.flat=true/\CG ds=d/\∀(i:Nat) x v,outs[i]?=some x->vs[i]?=some v->st.H[i]?=some (x.ob (some v))
theorem tu.of{f:FuncId}{fn:Func}{c:Code}{ds:aR}{ins outs:List Rw}{d:D}(hf:P.funcs[f]?=some fn)(hb:fn.body=some c)(hn:(fn.name== "runtime.NumGoroutine")=false)
 (hl:ds.length<=fn.ntmps) (hol:outs.length=ins.length) (hfl:d.flat=true) (h:(∀x∈ins,x.2.length<=maxLen)->∀Γ:w5,Γ.nt=fn.ntmps->∀vs:br,vs.length=ins.length->AW P Γ c (wB P fn vs outs d) ⟨Cj 0 ds,Ao ins vs⟩):tu P f ds ins outs d:=by
 refine⟨⟨fn,hf,by simp[hb],hn⟩,hol,hfl,?_⟩;intro w κ args us TV hlen hargs hko hk1 Qr hnd hwr;obtain⟨L,hLl,rfl,hLi⟩:=Qr.parts;have hvs:∃vs:br,vs.length=ins.length/\∀(i:Nat) v,vs[i]?=some v->κ i=some v:=by
  have:∀(xs:List Rw) (n:Nat),(∀(i:Nat) x,xs[i]?=some x->∃v,κ (n+i)=some v)->∃vs:br,vs.length=xs.length/\∀(i:Nat) v,vs[i]?=some v->κ (n+i)=some v:=by
   intro xs
   induction xs with
   |nil=>intro n _;exact⟨[],rfl,by simp⟩
   |cons x xs ih=>
    intro n h;obtain⟨v,hv⟩:=h 0 x rfl;obtain⟨vs,q1,q2⟩:=ih (n+1) (fun i y hy=>by
     obtain⟨v,hv⟩:=h (i+1) y (by simpa using hy);exact⟨v,by rw[<-hv];congr 1;omega⟩)
    refine⟨v::vs,by simp[q1],?_⟩;intro i u hu;cases i with
    |zero=>simp at hu;subst hu;exact hv
    |succ i=>
     have:=q2 i u (by simpa using hu);rw[<-this];congr 1;omega
  obtain⟨vs,q1,q2⟩:=this ins 0 (fun i x hx=>by
   obtain⟨v,bs,h1,_⟩:=Qr.at i x hx;exact⟨v,h1⟩)
  exact⟨vs,q1,fun i v hv=>by have:=q2 i v hv;rwa[cr]at this⟩
 obtain⟨vs,hvl,Yc⟩:=hvs;refine calls_of_wp hf hb ?_;let Θ:Nat->Nat:=fun b=>match ix (fun x:af=>x.contains b) L with|some i=>i+2|none=>if b<w.heap.size then 1 else 0
 have hΘ:∀(i:Nat) bs b,L[i]?=some bs->b∈bs->Θ b=i+2:=by
  intro i bs b hi hb';have:ix (fun x:af=>x.contains b) L=some i:=F0 hi (by simpa using hb') (fun j y hj hy=>PD hnd j i y bs b hj hi (by simpa using hy) hb');simp only[Θ,this]
 have a7x:∀b,b∉L.flatten->Θ b=if b<w.heap.size then 1 else 0:=by
  intro b hb';simp only[Θ];cases h:ix (fun x:af=>x.contains b) L with
  |none=>rfl
  |some i=>
   obtain⟨x,hx,hp⟩:=zv h;exact absurd (dw.2 ⟨x,aC hx,by simpa using hp⟩) hb'
 have hlt:∀b∈L.flatten,b<w.heap.size:=fun b hb'=>by
  obtain⟨cs,T,hx⟩:=hwr b hb';exact(bL.1 hx).1
 let Γ:w5:=⟨w,Θ,fun b=>b∈L.flatten,fn.ntmps,fun _=>False,TV⟩
 have DB:∀x∈ins,x.2.length<=maxLen:=by
  intro x hx;obtain⟨i,hi⟩:=cq hx;obtain⟨v,bs,_,_,hr,_⟩:=Qr.at i x hi;exact(dY.sl ⟨w,v,bs,hr⟩).1
 have hs:eO Γ ⟨Cj 0 ds,Ao ins vs⟩ κ Θ {tmps:=args.toArray++Array.replicate (fn.ntmps-args.toArray.size) undef,defers:=[]} w:=by
  refine⟨rfl,?_,fun i hi=>hko i (by rw[S2]at hi;omega),hk1,?_,?_,?_,?_,?_,⟨rfl,rfl,rfl,bR _,fun _ _ _=>rfl⟩,⟨fun _=>0,by simp,?_,?_⟩⟩
  ·simp[Γ];omega
  ·intro t;rw[Nn];simp only[Af,DP,BH];cases hd:ds[t]? with
   |none=>exact⟨[],.of (.any _),by simp⟩
   |some x=>
    obtain⟨v,k1,k2⟩:=hargs t x hd;refine⟨[],?_,by simp⟩;have hlt:t<args.length:=(aH.1 k1).1;have:(args.toArray++Array.replicate (fn.ntmps-args.toArray.size) undef).getD t undef=v:=by
     rw[cO,gB (by simpa using hlt)];simp[k1]
    rw[this];exact k2
  ·intro j o hj;obtain⟨x,v0,hx,hv0,rfl⟩:=MA hj;have Zk:∃bs,L[j]?=some bs:=⟨_,ai (by have:=(aH.1 hx).1;omega)⟩
   obtain⟨bs,Zk⟩:=Zk;obtain⟨v,q1,q2,q3⟩:=hLi j x bs hx Zk;refine⟨q2,fun y hy=>by cases hy;exact Yc j v0 hv0,v,bs,by rw[<-q1];congr 1;omega,q3,Ql hnd bs (aC Zk),fun b hb'=>⟨hΘ j bs b Zk hb',hwr b (dw.2 ⟨bs,aC Zk,hb'⟩)⟩⟩
  ·intro b hb';by_cases hin:b∈L.flatten
   ·exact hlt b hin
   ·rw[a7x b hin]at hb';split at hb'
    ·assumption
    ·exact absurd rfl hb'
  ·intro b hb' hx;refine⟨rfl,?_⟩;rw[a7x b hx];split<;>omega
  ·intro b hb';by_cases hin:b∈L.flatten
   ·exact .inr hin
   ·rw[a7x b hin]at hb';split at hb'<;>omega
  ·intro id e sz rows hj;obtain⟨x,v0,_,_,h⟩:=MA hj;simp[Rw.ob]at h
  ·intro id o hj;obtain⟨x,v0,_,_,h⟩:=MA hj;subst h;exact PY.Aq rfl
 refine wp_mono (h DB Γ rfl vs hvl _ _ _ _ hs) ?_;rintro e a' w' ⟨WR,κ0,Θ0,hs0,Nf,ds0,hres,Nc,rfl,hout⟩;obtain⟨rs,bs',m1,m2,m3,m4,m5⟩:=IV hs0 hres;have Oj:∃v,(results fn a'.tmps).run P w'=.ok v w'/\Rd w' v (CG ds0) []:=by
  have hrun:(results fn a'.tmps).run P w'=.ok (if h:rs.toArray.size=1 then rs.toArray[0]else .tuple rs.toArray) w':=by
   rw[results_eq,qt];simp[m1]
  match ds0,rs,m2,m3,m4,Nc,hfl,hrun with
  | [x],[v],_,_,m4,Nc,_,hrun=>
   obtain⟨v',b,k1,k2,_⟩:=m4 0 x rfl;simp at k1;subst k1;refine⟨v,by simpa using hrun,?_⟩;simp only[dM,List.all_nil,vD]at Nc;simp only[CG];cases k2 with
   |v k2=>
    cases k2 with
    |cell k2=>
     cases k2 with
     |pure k2=>have:=k2.flat Nc;subst this;exact k2
     |_=>simp[D.flat]at Nc
    |agg=>simp[D.flat]at Nc
   |gZ=>simp[D.flat]at Nc
  | [],_,_,_,_,_,hfl,_=>simp[CG,D.flat]at hfl
  |_::_::_,_,_,_,_,_,hfl,_=>simp[CG,D.flat]at hfl
  | [x],[],h1,h2,_,_,_,_=>simp at h1 h2;omega
  | [x],_::_::_,h1,h2,_,_,_,_=>simp at h1 h2;omega
 obtain⟨v,Zo,hr2⟩:=Oj;have CN:∀(i:Nat) x,outs[i]?=some x->∃v bs,κ i=some v/\(∀r∈x.2,r.length=x.1)/\Rd w' v (.sl x.2) bs/\bs.Nodup/\∀b∈bs,Θ0 b=i+2/\Wr w' b:=by
  intro i x hx;have hlt:i<vs.length:=by have:=(aH.1 hx).1;omega
  obtain⟨q1,q0,v,bs,q2,q3,q4,q5⟩:=hs0.ob i _ (hout i x _ hx (ai hlt));have e1:=q0 _ rfl;rw[q2]at e1;cases e1;exact⟨_,bs,Yc i _ (ai hlt),q1,q3,q4,q5⟩
 have hL':∃L':List af,L'.length=outs.length/\∀(i:Nat) x bs,outs[i]?=some x->L'[i]?=some bs->(∃v,κ i=some v/\(∀r∈x.2,r.length=x.1)/\Rd w' v (.sl x.2) bs)/\bs.Nodup/\∀b∈bs,Θ0 b=i+2/\Wr w' b:=by
  have key:∀(xs:List Rw) (n:Nat),(∀(i:Nat) x,xs[i]?=some x->∃v bs,κ (n+i)=some v/\(∀r∈x.2,r.length=x.1)/\Rd w' v (.sl x.2) bs/\bs.Nodup/\∀b∈bs,Θ0 b=(n+i)+2/\Wr w' b)->
   ∃L':List af,L'.length=xs.length/\∀(i:Nat) x bs,xs[i]?=some x->L'[i]?=some bs->(∃v,κ (n+i)=some v/\(∀r∈x.2,r.length=x.1)/\Rd w' v (.sl x.2) bs)/\bs.Nodup/\∀b∈bs,Θ0 b=(n+i)+2/\Wr w' b:=by
   intro xs
   induction xs with
   |nil=>intro n _;exact⟨[],rfl,by simp⟩
   |cons x xs ih=>
    intro n h;obtain⟨v,bs,r1,r2,r3,r4,r5⟩:=h 0 x rfl;obtain⟨L',q1,q2⟩:=ih (n+1) (fun i y hy=>by
     have:=h (i+1) y (by simpa using hy);rw[show n+(i+1)=n+1+i from by omega]at this;exact this)
    refine⟨bs::L',by simp[q1],?_⟩;intro i y b hy hb';cases i with
    |zero=>simp at hy hb';subst hy;subst hb';exact⟨⟨v,r1,r2,r3⟩,r4,r5⟩
    |succ i=>
     have:=q2 i y b (by simpa using hy) (by simpa using hb');rw[show n+1+i=n+(i+1)from by omega]at this;exact this
  obtain⟨L',q1,q2⟩:=key outs 0 (fun i x hx=>by rw[cr];exact CN i x hx);exact⟨L',q1,fun i x bs hx hb'=>by have:=q2 i x bs hx hb';rwa[cr]at this⟩
 obtain⟨L',a9b,Wy⟩:=hL';have a1n:∀(i:Nat) bs,L'[i]?=some bs->∃x,outs[i]?=some x:=fun i bs hb'=>⟨_,ai (by have:=(aH.1 hb').1;omega)⟩
 have KA:L'.flatten.Nodup:=by
  refine KP (fun x hx=>?_) (fun i j x y b hi hj hx hy=>?_)
  ·obtain⟨i,hi⟩:=cq hx;obtain⟨y,h1⟩:=a1n i x hi;exact(Wy i y x h1 hi).2.1
  ·obtain⟨y1,h1⟩:=a1n i x hi;obtain⟨y2,h2⟩:=a1n j y hj;have e1:=((Wy i y1 x h1 hi).2.2 b hx).1;have e2:=((Wy j y2 y h2 hj).2.2 b hy).1;omega
 have hbl:∀b∈L'.flatten,2<=Θ0 b/\Wr w' b:=by
  intro b hb';obtain⟨x,hx,I3⟩:=dw.1 hb';obtain⟨i,hi⟩:=cq hx;obtain⟨y,h1⟩:=a1n i x hi;have:=(Wy i y x h1 hi).2.2 b I3;exact⟨by omega,this.2⟩
 have PF:∀b∈L'.flatten,b∈L.flatten\/w.heap.size<=b:=by
  intro b hb';rcases hs0.mine b (hbl b hb').1 with h|h
  ·exact .inr h
  ·exact .inl h
 have post:a'.defers=[]/\∃v,(results fn a'.tmps).run P w'=.ok v w'/\∃u us',Ending.returned v=.returned u/\Rd w' u (CG ds0) []/\Ci w' κ 0 outs us'/\us'.Nodup/\(∀b∈us',(b∈L.flatten\/w.heap.size<=b)/\Wr w' b)/\
  w'.os=w.os/\w'.tape=w.tape/\w'.output=w.output/\w.heap.size<=w'.heap.size/\∀b,b<w.heap.size->b∉L.flatten->w'.heap[b]?=w.heap[b]?:=by
  refine⟨hs0.defers,v,Zo,v,L'.flatten,rfl,hr2,Ci.of a9b (fun i x bs hx hb'=>?_),KA,fun b hb'=>⟨PF b hb',(hbl b hb').2⟩,hs0.stays.os,hs0.stays.tape,hs0.stays.output,hs0.stays.size,fun b hb' hx=>hs0.stays.block b hb' hx⟩;obtain⟨⟨v',q1,q2,q3⟩,_⟩:=Wy i x bs hx hb';exact⟨v',by rw[cr];exact q1,q2,q3⟩
 rcases Nf with rfl|rfl
 ·exact post
 ·exact post
end
section
variable{P:Program}{Γ:w5}{Q:Exit->St->Prop}{st:St}{κ κ':Nat->Option Value}{Θ Θ':Nat->Nat}{a:Act}{w w':World}{all:Array Oper}{rest:List Oper}
theorem eO.Xa(hs:eO Γ st κ Θ a w)(ms:af){H':bX}(h1:w'.os=w.os)(h2:w'.tape=w.tape)(h3:w'.output=w.output)(h4:w.heap.size<=w'.heap.size)
 (Qn:∀b,b<w.heap.size->(∀m∈ms,Θ b≠m+2)->w'.heap[b]?=w.heap[b]?) (a7n:∀b,b<w.heap.size->(∀m∈ms,Θ b≠m+2)->Θ' b=Θ b) (hown:∀b,Θ' b≠0->b<w'.heap.size)
 (hm:∀b,2<=Θ' b->Cz Γ b) (hn:∀(j:Nat) v,κ j=some v->κ' j=some v) (hko:∀i,H'.length<=i->κ' i=none) (hk1:∀(i:Nat) u,κ' i=some u->u.oneCell'=true)
 (CN:∀(j:Nat) y,H'[j]?=some y->y=.gone\/(j∉ms/\st.H[j]?=some y)\/(yo w' κ' Θ' j y/\y.uqB=false)):eO Γ ⟨st.σ,H'⟩ κ' Θ' a w':=by
 have hs1:=hs.forget ms;have hin:∀b,(ms.any (fun m=>Θ b==m+2))=false->∀m∈ms,Θ b≠m+2:=by
  intro b h m hm' he;have:ms.any (fun m=>Θ b==m+2)=true:=dR.2 ⟨m,hm',by simp[he]⟩;rw[h]at this;cases this
 have hlt2:∀b,(if ms.any (fun m=>Θ b==m+2)then st.H.length+2 else Θ b)≠st.H.length+2->(ms.any (fun m=>Θ b==m+2))=false:=by
  intro b h;cases hc:ms.any (fun m=>Θ b==m+2)with
  |false=>rfl
  |true=>simp[hc]at h
 have kk:jY w w' (fun b=>if ms.any (fun m=>Θ b==m+2)then st.H.length+2 else Θ b) Θ' (st.H.length+2):=by
  refine⟨by omega,h1,h2,h3,h4,fun b hb hne=>Qn b hb (hin b (hlt2 b hne)),fun b hb hne=>?_,hown⟩;have hc:=hlt2 b hne;rw[a7n b hb (hin b hc)];simp[hc]
 obtain⟨ρ,hu⟩:=hs1.wq;have xI:=hs1.qf kk hn hu;refine hs1.step kk hm hn hko hk1 (fun j y hj=>?_) ⟨ρ,xI.1,fun id e sz rows hj=>?_,fun id y hj=>?_⟩
 ·rcases CN j y hj with h|⟨h,hy⟩|⟨h,_⟩
  ·exact .inl h
  ·have:=(aH.1 hy).1;exact .inr (.inl ⟨by omega,by rw[ju h];exact hy⟩)
  ·exact .inr (.inr h)
 ·rcases CN id _ hj with h|⟨h,hy⟩|⟨_,h⟩
  ·cases h
  ·have:=(aH.1 hy).1;exact xI.2.1 id e sz rows (by omega) (by rw[ju h];exact hy)
  ·simp[Ob.uqB]at h
 ·rcases CN id _ hj with h|⟨h,hy⟩|⟨_,h⟩
  ·subst h;trivial
  ·have:=(aH.1 hy).1;exact xI.2.2 id y (by omega) (by rw[ju h];exact hy)
  ·exact PY.plain h
theorem Rd.a90{v:Value}{rows:List aR}{bs:af}(h:Rd w v (.sl rows) bs):(∃q c,v=.slice q rows.length c)/\rows.length<=maxLen:=by
 cases h with
 |BE=>exact⟨⟨_,_,rfl⟩,by simp⟩
 |pQ=>exact⟨⟨_,_,rfl⟩,by simp⟩
 |sl b off cap sz _ cs bs hb h1 h2=>exact⟨⟨_,_,rfl⟩,by omega⟩
theorem a4O{o:Oper}{t T id sz:Nat}{x:Operand}{rows:List aR}{u:Option Value}(hop:o.op=.call {callee:=.builtin .len,args:= #[x],argTypes:= #[T]})(hd:o.dst=some t)(hg:o.guard=none)(ht:t<Γ.nt)
 (hT:(Ia P T).isSome=true) (hx:st.ev x=.acc id) (hH:st.H[id]?=some (.fG sz rows u)) (h:AO P Γ all rest Q ⟨(t,.int .i64 rows.length)::st.σ,st.H⟩):AO P Γ all (o::rest) Q st:=by
 intro κ Θ a w hs;obtain⟨b1,r1,_⟩:=hs.ev x;rw[hx]at r1;obtain⟨hk,_⟩:=r1.xy;obtain⟨_,_,v,bs,hk2,hrd,_⟩:=hs.ob id _ hH;rw[hk]at hk2;cases hk2;obtain⟨⟨q,c,hv⟩,DB⟩:=hrd.a90;obtain⟨⟨e,sz'⟩,hT⟩:=eT.1 hT;obtain⟨hu,_,_⟩:=qJ hT;refine wpList_plain hg fun K hK=>?_
 unfold Oper.wp;have hrun:(execOp a.eval o).run P w=.ok (.value (.int .i64 rows.length)) w:=by
  simp only[execOp,hop,resolve,invoke,builtin,pZ,bG,bW,hv];simp[Builtin.len_,run_underlying hu,goInt]
 rw[hrun,Oper.upon_value,hd];exact hK _ _ (h κ Θ _ w (hs.set (d:=.int .i64 rows.length) (bs:=[]) ht (.of (.int _ _ (Tp DB))) (by simp)))
theorem a7F{o:Oper}{t T id sz e m:Nat}{x i:Operand}{rows:List aR}{u:Option Value}{k:IntKind}{n:Int}(hop:o.op=.indexAddr T x i)(hd:o.dst=some t)(hg:o.guard=none)(ht:t<Γ.nt)
 (hT:Ia P T=some (e,sz)) (hx:st.ev x=.acc id) (hi:st.ev i=.int k n) (hH:st.H[id]?=some (.fG sz rows u)) (hn:n=(m:Int)) (hm:m<rows.length) (h:AO P Γ all rest Q ⟨(t,.op id m sz 0)::st.σ,st.H⟩):AO P Γ all (o::rest) Q st:=by
 intro κ Θ a w hs;obtain⟨b1,r1,_⟩:=hs.ev x;obtain⟨b2,r2,_⟩:=hs.ev i;rw[hx]at r1;rw[hi]at r2;have hiv:=r2.sU;obtain⟨hk,_⟩:=r1.xy;obtain⟨_,_,v,bs,hk2,hrd,_⟩:=hs.ob id _ hH;rw[hk]at hk2;cases hk2;obtain⟨hu,Ol,Nh⟩:=qJ hT;have hsz:=xu (P:=P) Ol w;subst hn;generalize Yd:a.eval x=vx at hrd hk;cases hrd with
 |BE=>simp at hm
 |pQ=>simp at hm
 |sl b off cap sz' _ cs bs hb hcap DB hrl hc vq=>
  have hn':0<=(m:Int)/\(m:Int)<(rows.length:Int):=⟨by omega,by omega⟩
  refine wpList_plain hg fun K hK=>?_
  unfold Oper.wp;have hrun:(execOp a.eval o).run P w=.ok (.value (.pointer (some ⟨b,off+(m*sz+0),none⟩))) w:=by
   simp only[execOp,hop,Yd,hiv];simp[Instr.indexAt,asIntOf,run_underlying hu,hn',hm,hsz,Nh,Addr.add_lit]
  rw[hrun,Oper.upon_value,hd];exact hK _ _ (h κ Θ _ w (hs.set (d:=.op id m sz 0) (bs:=[]) ht (Ba.op id m sz 0 b off _ _ hk).UI (by simp)))
theorem Q5{rows:List aR}{sz i off:Nat}{r:aR}{d:D}(hrl:∀r∈rows,r.length=sz)(hr:rows[i]?=some r)(hd:r[off]?=some d):rows.flatten[i*sz+off]?=some d/\off<sz/\i*sz+off<rows.length*sz:=by
 have h1:=hrl r (aC hr);have h2:=(aH.1 hd).1;have hmid:=Hx hrl hr;have hlt:=(aH.1 hr).1;have hle:(i+1)*sz<=rows.length*sz:=dZ _ hlt;rw[kn,o6]at hle;refine⟨?_,by omega,by omega⟩;rw[<-hmid,cK,bS (by omega),eD]at hd;exact hd
theorem a15{o:Oper}{t T id i sz off:Nat}{x:Operand}{rows:List aR}{r:aR}{d:D}{u:Option Value}(hop:o.op=.load T x)(hd:o.dst=some t)(hg:o.guard=none)(ht:t<Γ.nt)
 (hT:CL P T=some false) (hx:st.ev x=.op id i sz off) (hH:st.H[id]?=some (.fG sz rows u)) (hr:rows[i]?=some r) (hc:r[off]?=some d) (hfl:d.flat=true) (h:AO P Γ all rest Q ⟨(t,d)::st.σ,st.H⟩):AO P Γ all (o::rest) Q st:=by
 intro κ Θ a w hs;obtain⟨b1,r1,_⟩:=hs.ev x;rw[hx]at r1;obtain⟨g,o0,len,a4a,hk,hv⟩:=r1.IE;obtain⟨hrl,_,v,bs,hk2,hrd,_⟩:=hs.ob id _ hH;rw[hk]at hk2;cases hk2;obtain⟨hf,_,_⟩:=Q5 hrl hr hc;cases hrd with
 |pQ=>simp at hr
 |sl _ _ _ sz' _ cs ns hb hcap DB Po hcs vq=>
  obtain⟨c,b',h1,h2,h3,h4⟩:=vq.at hf;have L:=qd (P:=P) (w:=w) hT (o:=i*sz+off) hcs;have hb':=h3.flat hfl;subst hb';refine wpList_plain hg fun K hK=>?_
  unfold Oper.wp;have hrun:(execOp a.eval o).run P w=.ok (.value c) w:=by
   simp only[execOp,hop,hv];simp[L.2 rfl c h1]
  rw[hrun,Oper.upon_value,hd];exact hK _ _ (h κ Θ _ w (hs.set (d:=d) (bs:=[]) ht (.of h3) (by simp)))
theorem mZ.aAl{vs:br}{ds:aR}{bs:af}(h:mZ w vs ds bs){p:Nat}{d:D}(hd:ds[p]?=some d):
 ∃c b1 b2 b3,vs[p]?=some c/\c.oneCell'=true/\Rd w c d b2/\bs=b1++(b2++b3)/\∀(e:D) (b4:af),Rd w c e b4->mZ w vs (ds.set p e) (b1++(b4++b3)):=by
 obtain⟨l,r,rfl,hl⟩:=Se hd;obtain⟨v1,v2,c1,c2,rfl,rfl,k1,k2⟩:=h.split;cases k2 with
 |cons c vs _ _ b2 b3 h1 h2 h3=>
  have hl1:v1.length=p:=by rw[k1.length];exact hl
  refine⟨c,c1,b2,b3,by rw[bE (by omega),hl1];simp,h1,h2,rfl,fun e b4 he=>?_⟩;have e1:(l++d::r).set p e=l++e::r:=by rw[mr _ _ (by omega),hl];simp
  rw[e1];exact k1.app (.cons _ _ _ _ _ _ h1 he h3)
theorem NZ{rows:List aR}{sz i off:Nat}{r:aR}{d e:D}(hrl:∀r∈rows,r.length=sz)(hr:rows[i]?=some r)(hd:r[off]?=some d):(rows.set i (r.set off e)).flatten=rows.flatten.set (i*sz+off) e:=by
 have hlt:=(aH.1 hd).1;have h1:=hrl r (aC hr);have:=Hy (rows:=rows) (sz:=sz) (i:=i) (off:=off) (row:=r) (ds:=[e]) hrl hr (by simp;omega);have e1:r.set off e=r.take off++[e]++r.drop (off+[e].length):=by
  apply oF;intro j;rw[gK];simp only[bY,dN,aK,bK,cr];by_cases hj:j<off
  ·rw[bH (by omega),b9 (by simp;omega),cK,bS hj]
  ·rw[bE (by simp;omega),cM,fE (by omega)];by_cases he:off=j
   ·subst he;simp[hlt]
   ·rw[bH he];obtain⟨m,hm⟩:∃m,j-off=m+1:=⟨j-off-1,by omega⟩
    rw[hm,ew,eD]
    congr 1;omega
 rw[e1,this];have hfl:=pW hrl;obtain⟨hf,_,hlt2⟩:=Q5 hrl hr hd;apply oF;intro j;rw[gK];simp only[bY,dN,aK,bK,cr];by_cases hj:j<i*sz+off
 ·rw[bH (by omega),b9 (by rw[cM];omega),cK,bS hj]
 ·rw[bE (by rw[cM];omega),cM,fE (by omega)];by_cases he:i*sz+off=j
  ·subst he;rw[bS rfl,bS (by omega),pM];rfl
  ·rw[bH he];obtain⟨m,hm⟩:∃m,j-(i*sz+off)=m+1:=⟨j-(i*sz+off)-1,by omega⟩
   rw[hm,ew,eD]
   congr 1;omega
theorem QB{rows:List aR}{sz i:Nat}{r:aR}(hrl:∀r∈rows,r.length=sz)(hr:r.length=sz):∀x∈rows.set i r,x.length=sz:=by
 intro x hx;rcases CQ hx with hx|rfl
 ·exact hrl x hx
 ·exact hr
theorem a17{o:Oper}{t T id i sz off Xf:Nat}{x:Operand}{rows fo:List aR}{r:aR}{u:Option Value}(hop:o.op=.load T x)(hd:o.dst=some t)(hg:o.guard=none)(ht:t<Γ.nt)
 (hT:CL P T=some false) (hx:st.ev x=.op id i sz off) (hH:st.H[id]?=some (.fG sz rows u)) (hr:rows[i]?=some r) (hc:r[off]?=some (.sl fo)) (h2:∀q∈fo,q.length=Xf)
 (h:AO P Γ all rest Q ⟨(t,.acc st.H.length)::st.σ,st.H.set id (.hole sz (rows.set i (r.set off .any)) u (i*sz+off) st.H.length)++[.fG Xf fo none]⟩):AO P Γ all (o::rest) Q st:=by
 intro κ Θ a w hs;obtain⟨b1,r1,_⟩:=hs.ev x;rw[hx]at r1;obtain⟨g,o0,len,a4a,hk,hv⟩:=r1.IE;obtain⟨hrl,hux,v,bs,hk2,hrd,hnd,I2⟩:=hs.ob id _ hH;rw[hk]at hk2;cases hk2;obtain⟨hf,hoff,_⟩:=Q5 hrl hr hc;cases hrd with
 |pQ=>simp at hr
 |sl _ _ _ sz' _ cs ns hb hcap DB Po hcs vq=>
  obtain⟨c,c1,c2,c3,h1,h1c,h3,rfl,qu⟩:=vq.aAl hf;have L:=qd (P:=P) (w:=w) hT (o:=i*sz+off) hcs;have a9u:id<st.H.length:=(aH.1 hH).1;have hnew:=qu .any [] (.any c);have KA:=hnd;simp only[fD,au,Ke]at KA;obtain⟨⟨hg1,hg2,hg3⟩,On⟩:=KA;obtain⟨n1,n2,n3⟩:=bO.1 On;obtain⟨n4,n5,n6⟩:=bO.1 n2;let Θ':Nat->Nat:=fun b=>if b∈c2 then st.H.length+2 else Θ b
  have hs':eO Γ ⟨st.σ,st.H.set id (.hole sz (rows.set i (r.set off .any)) u (i*sz+off) st.H.length)++[.fG Xf fo none]⟩ (Ad κ st.H.length (some c)) Θ' a w:=by
   have hn:=zx (hs.rX _ (bR _)) (some c);have S0:∀b∈c2,Θ b=id+2:=fun b hb'=>(I2 b (by simp[hb'])).1
   refine hs.Xa [id] rfl rfl rfl (bR _) (fun _ _ _=>rfl) (fun b _ hne=>?_) (fun b hb'=>?_) (fun b hb'=>?_) hn (fun j hj=>?_) (fun j y hy=>?_) (fun j y hj=>?_)
   ·simp only[Θ'];rw[bH];intro hin;exact hne id (by simp) (S0 b hin)
   ·simp only[Θ']at hb';split at hb'
    ·rename_i hin;exact hs.own b (by rw[S0 b hin];omega)
    ·exact hs.own b hb'
   ·simp only[Θ']at hb';split at hb'
    ·rename_i hin;exact hs.mine b (by rw[S0 b hin];omega)
    ·exact hs.mine b hb'
   ·simp only[aX,bf,aK,bK]at hj;unfold Ad;rw[bH (by omega)];exact hs.rX j (by omega)
   ·unfold Ad at hy;split at hy
    ·cases hy;exact h1c
    ·exact hs.qp j y hy
   ·rcases E5 j y hj with⟨hjl,rfl⟩|⟨hjl,hy⟩
    ·right;right
     have hjn:j=st.H.length:=by rw[hjl];simp
     subst hjn;refine⟨⟨h2,by simp,c,c2,mF _ _ _,h3,n4,fun b hb'=>⟨by simp[Θ',hb'],(I2 b (by simp[hb'])).2⟩⟩,rfl⟩
    ·rcases BW j y hy with⟨rfl,rfl⟩|⟨hne,hy'⟩
     ·right;right
      refine⟨⟨QB hrl (by rw[bf];exact hrl r (aC hr)),fun z hz=>hn _ _ (hux z hz),_,g::(c1++([]++c3)),hn _ _ hk,⟨g,o0,a4a,cs,c1++([]++c3),by simp,hb,by simpa using hcap,DB,hcs,?_,rfl,c,h1,mF _ _ _⟩,?_,fun b hb'=>?_⟩,rfl⟩
      ·rw[NZ hrl hr hc];exact hnew
      ·simp only[cI,fD,au,Ke];exact⟨⟨hg1,hg3⟩,bO.2 ⟨n1,n5,fun x hx y hy e=>n3 x hx y (by simp[hy]) e⟩⟩
      ·have hbm:b∈g::(c1++(c2++c3)):=by
        simp only[cI,bM,au]at hb'⊢;rcases hb' with h|h|h<;>simp[h]
       refine⟨?_,(I2 b hbm).2⟩;simp only[Θ'];rw[bH,(I2 b hbm).1];intro hin;simp only[cI,bM,au]at hb';rcases hb' with h|h|h
       ·subst h;exact hg2 hin
       ·exact n3 b h b (by simp[hin]) rfl
       ·exact n6 b hin b h rfl
     ·exact .inr (.inl ⟨by simpa using hne,hy'⟩)
  refine wpList_plain hg fun K hK=>?_
  unfold Oper.wp;have hrun:(execOp a.eval o).run P w=.ok (.value c) w:=by
   simp only[execOp,hop,hv];simp[L.2 rfl c h1]
  rw[hrun,Oper.upon_value,hd];exact hK _ _ (h _ _ _ w (hs'.set (d:=.acc st.H.length) (bs:=[]) ht (Ba.acc st.H.length c (mF _ _ _)).UI (by simp)))
theorem a16{id n i sz off Xf:Nat}{rows fo:List aR}{r:aR}{d:D}{u u2:Option Value}(hH:st.H[id]?=some (.hole sz rows u (i*sz+off) n))(hN:st.H[n]?=some (.fG Xf fo u2))(hr:rows[i]?=some r)(hc:r[off]?=some d)
 (h:AO P Γ all rest Q ⟨st.σ,(st.H.set n .gone).set id (.fG sz (rows.set i (r.set off (.sl fo))) u)⟩):AO P Γ all rest Q st:=by
 intro κ Θ a w hs;obtain⟨hrl,hux,v,bs,hk,⟨b,o0,cap,cs,ns,rfl,h1,h2,h3,h4,h5,rfl,c,h6,h7⟩,hnd,I2⟩:=hs.ob id _ hH;obtain⟨aFY,_,v2,bs2,hk2,aD6,aCx,a1b⟩:=hs.ob n _ hN;rw[h7]at hk2;cases hk2;obtain⟨hf,hoff,_⟩:=Q5 hrl hr hc;obtain⟨c',c1,c2,c3,q1,q1c,q3,rfl,qu⟩:=h5.aAl hf;rw[h6]at q1;cases q1;have hnew:=qu (.sl fo) bs2 aD6;have hne:n≠id:=fun e=>by subst e;rw[hH]at hN;cases hN
 have a9u:id<st.H.length:=(aH.1 hH).1;have KA:=hnd;simp only[fD,au,Ke]at KA;obtain⟨⟨hg1,hg2,hg3⟩,On⟩:=KA;obtain⟨n1,n2,n3⟩:=bO.1 On;obtain⟨n4,n5,n6⟩:=bO.1 n2;have a7d:∀x∈bs2,∀y∈b::(c1++(c2++c3)),x≠y:=by
  intro x hx y hy e;subst e;have e1:=(a1b x hx).1;have e2:=(I2 x hy).1;omega
 let Θ':Nat->Nat:=fun x=>if x∈bs2 then id+2 else if Θ x=n+2 then 1 else Θ x
 refine h κ Θ' a w (hs.Xa [id,n] rfl rfl rfl (bR _) (fun _ _ _=>rfl) (fun x _ hnx=>?_) (fun x hx=>?_) (fun x hx=>?_) (fun _ _ h=>h) (fun j hj=>hs.rX j (by simpa using hj)) hs.qp (fun j y hj=>?_))
 ·simp only[Θ'];rw[bH (fun hin=>hnx n (by simp) (a1b x hin).1),bH (hnx n (by simp))]
 ·simp only[Θ']at hx;split at hx
  ·rename_i hin;exact hs.own x (by rw[(a1b x hin).1];omega)
  ·split at hx
   ·rename_i he;exact hs.own x (by rw[he];omega)
   ·exact hs.own x hx
 ·simp only[Θ']at hx;split at hx
  ·rename_i hin;exact hs.mine x (by rw[(a1b x hin).1];omega)
  ·split at hx
   ·omega
   ·exact hs.mine x hx
 ·rcases BW j y hj with⟨rfl,rfl⟩|⟨KN,hy⟩
  ·right;right
   refine⟨⟨QB hrl (by rw[bf];exact hrl r (aC hr)),hux,_,b::(c1++(bs2++c3)),hk,?_,?_,fun x hx=>?_⟩,rfl⟩
   ·have hl:(rows.set i (r.set off (.sl fo))).length=rows.length:=by simp
    have:=Rd.sl (w:=w) b o0 cap sz (rows.set i (r.set off (.sl fo))) cs (c1++(bs2++c3)) h1 (by rw[hl];exact h2) h3 (QB hrl (by rw[bf];exact hrl r (aC hr))) h4 (by rw[NZ hrl hr hc];exact hnew);rw[hl]at this;exact this
   ·simp only[fD,au,Ke];refine⟨⟨hg1,fun hin=>a7d b hin b (by simp) rfl,hg3⟩,bO.2 ⟨n1,bO.2 ⟨aCx,n5,fun x hx y hy e=>a7d x hx y (by simp[hy]) e⟩,fun x hx y hy e=>?_⟩⟩;rcases au.1 hy with hy|hy
    ·exact a7d y hy x (by simp[hx]) e.symm
    ·exact n3 x hx y (by simp[hy]) e
   ·by_cases hin:x∈bs2
    ·exact⟨by simp[Θ',hin],(a1b x hin).2⟩
    ·have hbm:x∈b::(c1++(c2++c3)):=by
      simp only[bM,au]at hx⊢;rcases hx with h|h|h|h
      ·simp[h]
      ·simp[h]
      ·exact absurd h hin
      ·simp[h]
     refine⟨?_,(I2 x hbm).2⟩;have e1:=(I2 x hbm).1;simp only[Θ'];rw[bH hin,bH (by omega),e1]
  ·rcases BW j y hy with⟨rfl,rfl⟩|⟨hj2,hy'⟩
   ·exact .inl rfl
   ·exact .inr (.inl ⟨by simp[KN,hj2],hy'⟩)
theorem mZ.setCells{vs:br}{ds es:aR}{us:br}{bs:af}(h:mZ w vs ds bs)(p:Nat)(hp:p+es.length<=ds.length)(hu:mZ w us es []):
 ∃b',mZ w (vs.take p++us++vs.drop (p+us.length)) (ds.take p++es++ds.drop (p+es.length)) b'/\(∀b∈b',b∈bs)/\(bs.Nodup->b'.Nodup):=by
 have e:ds=ds.take p++((ds.drop p).take es.length++(ds.drop p).drop es.length):=by rw[cD,cD]
 rw[e]at h;obtain⟨v1,v2,b1,b2,rfl,rfl,k1,k2⟩:=h.split;obtain⟨v3,v4,b3,b4,rfl,rfl,k3,k4⟩:=k2.split;have l1:v1.length=p:=by rw[k1.length];simp;omega
 have l3:v3.length=es.length:=by rw[k3.length];simp;omega
 have lu:=hu.length;have t1:(v1++(v3++v4)).take p=v1:=jF l1;have t2:(v1++(v3++v4)).drop (p+us.length)=v4:=by
  rw[<-gz,fy l1,lu,fy l3]
 rw[t1,t2];rw[gz]at k4;refine⟨b1++[]++b4,(k1.app hu).app k4,fun b hb=>?_,fun hnd=>?_⟩
 ·simp only[cN,au]at hb⊢;rcases hb with h|h<;>simp[h]
 ·obtain⟨n1,n2,n3⟩:=bO.1 hnd;obtain⟨_,n5,_⟩:=bO.1 n2;simp only[cN];exact bO.2 ⟨n1,n5,fun x hx y hy e=>n3 x hx y (by simp[hy]) e⟩
theorem ZG{o:Oper}{T id i sz off:Nat}{x y:Operand}{rows:List aR}{r ds:aR}{u:Option Value}(hop:o.op=.store T x y)(hd:o.dst=none)(hg:o.guard=none)
 (hx:st.ev x=.op id i sz off) (hH:st.H[id]?=some (.fG sz rows u)) (hr:rows[i]?=some r) (hc:(st.ev y).cellsOf=some ds) (hfl:ds.all D.flat=true) (hT:UF P T=true) (hl:ds.length=Be P T) (hpos:0<ds.length) (hfit:off+ds.length<=sz)
 (h:AO P Γ all rest Q ⟨st.σ,st.H.set id (.fG sz (rows.set i (r.take off++ds++r.drop (off+ds.length))) u)⟩):AO P Γ all (o::rest) Q st:=by
 intro κ Θ a w hs;obtain⟨b1,r1,_⟩:=hs.ev x;obtain⟨b2,r2,_⟩:=hs.ev y;rw[hx]at r1;obtain⟨g,o0,len,a4a,hk,hv⟩:=r1.IE;obtain⟨hrl,hux,v,bs,hk2,hrd,hnd,I2⟩:=hs.ob id _ hH;rw[hk]at hk2;cases hk2;have a1d:=DV hs.qp r2 hc;have hl1:=a1d.length;have aCi:ds.all D.UW=true:=by
  rw[bB]at hfl⊢;intro d MO;have:=hfl d MO;cases d<;>first|rfl| (simp[D.flat]at this)
 have hcp:=a1d.pure aCi;have YY:=hcp.flat hfl;subst YY;have hrow:=hrl r (aC hr);have hilt:=(aH.1 hr).1;have a7e:(i+1)*sz<=rows.length*sz:=dZ _ hilt;rw[kn,o6]at a7e;cases hrd with
 |pQ=>simp at hr
 |sl _ _ _ sz' _ cs ns hb hcap DB Po hcs vq=>
  obtain⟨hgT,hgw⟩:=I2 g (by simp);obtain⟨cur,Tb,hgc⟩:=hgw;have a9r:=pW hrl;have hcl:cs.length=rows.length*sz:=by rw[vq.length,a9r]
  have Qp:∀j c,cs[j]?=some c->cur[o0+j]?=some c:=by
   intro j c hj;have:=hcs j c hj;simpa[World.cell?,hgc]using this
  have a9q:o0+(i*sz+off)+(a.eval y).cells.size<=cur.size:=by
   have e1:(a.eval y).cells.size=ds.length:=by rw[<-hl1];simp
   rw[e1];have:=Qp (i*sz+off+ds.length-1) cs[i*sz+off+ds.length-1] (ai (by omega));have:=(bL.1 this).1;omega
  have a7s:(a.eval y).cells.size=Be P T:=by rw[<-hl,<-hl1];simp
  have hst:=IG (P:=P) (T:=T) (off:=o0+(i*sz+off)) hgc a7s (eT.1 hT) a9q a1d.one;have hne:(a.eval y).cells.toList.length=ds.length:=hl1;let Pg:Array Value:=(cur.toList.take (o0+(i*sz+off))++(a.eval y).cells.toList++cur.toList.drop (o0+(i*sz+off)+(a.eval y).cells.toList.length)).toArray
  have hw':∀x,x≠g->(w.setRow g Pg).heap[x]?=w.heap[x]?:=fun x hx=>setRow_other w g x _ hx
  have hsame:∀x,x<w.heap.size->(∀m∈[id],Θ x≠m+2)->(w.setRow g Pg).heap[x]?=w.heap[x]?:=fun x _ hx=>hw' x (fun e=>hx id (by simp) (by rw[e];exact hgT))
  simp only[fD]at hnd;have aD9:mZ (w.setRow g Pg) cs rows.flatten ns:=vq.keep fun b hb'=>hw' b (fun e=>hnd.1 (e▸hb'))
  have aCY:mZ (w.setRow g Pg) (a.eval y).cells.toList ds []:=hcp.keep (by simp);obtain⟨ns',q1,q2,q3⟩:=aD9.setCells (i*sz+off) (by rw[a9r];omega) aCY;have hfs:=Hy (ds:=ds) (off:=off) hrl hr hfit;have hl4:(rows.set i (r.take off++ds++r.drop (off+ds.length))).length=rows.length:=by simp
  have aA8:∀z∈rows.set i (r.take off++ds++r.drop (off+ds.length)),z.length=sz:=QB hrl (by simp;omega);have hcell:∀j c,(cs.take (i*sz+off)++(a.eval y).cells.toList++cs.drop (i*sz+off+(a.eval y).cells.toList.length))[j]?=some c->(w.setRow g Pg).cell? ⟨g,o0+j,none⟩=some c:=by
   intro j c hj;have hgh:(w.setRow g Pg).heap[g]?=some (.cells Pg Tb (0,0)):=setRow_heap w g cur _ Tb _ hgc;simp only[World.cell?,hgh];show Pg[o0+j]?=some c;simp only[Pg,mq,bY]at hj⊢;have hcz:o0+(i*sz+off)<=cur.toList.length:=by simp;omega
   by_cases KN:j<i*sz+off
   ·rw[b9 (by simp;omega),cK,bS KN]at hj;rw[b9 (by rw[cM];omega),cK,bS (by omega)];have:=Qp j c hj;simpa using this
   ·rw[bE (by rw[cM];omega),cM,fE (by omega)]at hj;rw[bE (by rw[cM];omega),cM,fE hcz];rw[show o0+j-(o0+(i*sz+off))=j-(i*sz+off)from by omega];by_cases hj2:j-(i*sz+off)<(a.eval y).cells.toList.length
    ·rw[b9 hj2]at hj⊢;exact hj
    ·rw[bE (by omega),eD]at hj⊢;have:=Qp _ c hj;rw[<-vY]at this;rw[<-this];congr 1;omega
  refine wpList_plain hg fun K hK=>?_
  unfold Oper.wp;have hrun:(execOp a.eval o).run P w=.ok .skip (w.setRow g Pg):=by
   simp only[execOp,hop,hv];simp[hst,Pg]
  rw[hrun,Oper.upon_skip,hd];refine hK _ _ (h κ Θ _ _ (hs.Xa [id] rfl rfl rfl (by simp) hsame (fun _ _ _=>rfl) (fun b hb'=>by simpa using hs.own b hb') hs.mine (fun _ _ h=>h) (fun j hj=>hs.rX j (by simpa using hj)) hs.qp (fun j z hj=>?_)));rcases BW j z hj with⟨rfl,rfl⟩|⟨KN,hz⟩
  ·right;right
   refine⟨⟨aA8,hux,_,g::ns',hk,?_,?_,fun b hb'=>?_⟩,rfl⟩
   ·have:=Rd.sl (w:=w.setRow g Pg) g o0 a4a sz (rows.set i (r.take off++ds++r.drop (off+ds.length))) _ ns' (by simpa using hb) (by rw[hl4];exact hcap) DB aA8 hcell (by rw[hfs];exact q1);rw[hl4]at this;exact this
   ·simp only[fD];exact⟨fun hin=>hnd.1 (q2 g hin),q3 hnd.2⟩
   ·rcases bM.1 hb' with rfl|hin
    ·exact⟨hgT,⟨_,Tb,setRow_heap w b cur _ Tb _ hgc⟩⟩
    ·have hm:=I2 b (by simp[q2 b hin]);refine⟨hm.1,?_⟩;obtain⟨xs,T',hxs⟩:=hm.2;exact⟨xs,T',(hw' b (fun e=>hnd.1 (e▸q2 b hin))).trans hxs⟩
  ·exact .inr (.inl ⟨by simpa using KN,hz⟩)
end
def KH(P:Program)(f:FuncId)(ds:aR)(e sz:Nat)(rows dQ:List aR):Prop:=
 (∃fn,P.funcs[f]?=some fn/\fn.body.isSome=true/\(fn.name== "runtime.NumGoroutine")=false)/\
 ∀(w:World) (κ:Nat->Option Value) (args:br) (v:Value) (cs:br),TB w (fun b=>v.ownBlock=some b)->args.length=ds.length->(∀(i:Nat) d,ds[i]?=some d->∃u,args[i]?=some u/\uB w κ u d [])->
  κ 0=some v->(∀i,1<=i->κ i=none)->v.oneCell'=true->0<sz->(∀r∈rows,r.length=sz)->w.ownsRow 0 e sz v rows.length cs->mZ w cs rows.flatten []->
  Calls P f args.toArray w (fun x w'=>∃v' cs',x=.returned v'/\v'.oneCell'=true/\(∀r∈dQ,r.length=sz)/\w'.ownsRow 0 e sz v' dQ.length cs'/\mZ w' cs' dQ.flatten []/\(∀g,v'.ownBlock=some g->w.heap.size<=g\/v.ownBlock=some g)/\
   w'.os=w.os/\w'.tape=w.tape/\w'.output=w.output/\w.heap.size<=w'.heap.size/\∀b,b<w.heap.size->v.ownBlock≠some b->w'.heap[b]?=w.heap[b]?)
section
variable{P:Program}{Γ:w5}{Q:Exit->St->Prop}{st:St}{κ κ':Nat->Option Value}{Θ Θ':Nat->Nat}{a:Act}{w w':World}{all:Array Oper}{rest:List Oper}
theorem WV.out{fn:Func}{d:D}{e:Exit}{a':Act}{w':World}{WR:St}{κ0:Nat->Option Value}{Θ0:Nat->Nat}(hs0:eO Γ WR κ0 Θ0 a' w')(hrq:WV P fn d e WR):
 (e=.ret\/e=.normal)/\a'.defers=[]/\YA Γ w'/\∃v bs ts us,(results fn a'.tmps).run P w'=.ok v w'/\EL w' v d bs ts us/\∀b∈ts,Cz Γ b:=by
 obtain⟨Nf,nz,ds0,es,ms,qs,hres,hrv,TT,Qs,rfl⟩:=hrq;obtain⟨ρ0,hu0⟩:=hs0.wq;have K9:=Cs hrv;obtain⟨Θ1,ρ1,hs1,hu1,hm1,VK,Zo⟩:=eO.Q9 ms hs0 hu0 TT (fun m hm=>by
  obtain⟨e,sz,rows,hH⟩:=K9.1 m hm;exact⟨_,e,sz,rows,hH,rfl⟩)
 obtain⟨vs,bs',m1,m2,m3,m4,m5⟩:=IV hs0 hres;have hq:∀m e sz rows,WR.H[m]?=some (.row .uq e sz rows)->∃v cs ns,κ0 m=some v/\0<sz/\(∀r∈rows,r.length=sz)/\w'.ownsRow 0 e sz v rows.length cs/\mZ w' cs rows.flatten ns/\ns.Nodup/\(∀b∈ns,ρ1 b=m+1)/\∀g,v.ownBlock=some g->Θ1 g=m+2:=by
  intro m e sz rows hH;have hnm:m∉ms:=fun hm=>by
   obtain⟨e',sz',dQ,M7⟩:=K9.1 m hm;rw[hH]at M7;cases M7
  have WL:(kill WR.H ms)[m]?=some (.row .uq e sz rows):=by rw[ju hnm];exact hH
  obtain⟨v,cs,ns,r1,r2,r3,r4,r5⟩:=hu1.rows m e sz rows WL;obtain⟨p1,p2,v2,_,_,p3,_,_,p4,_⟩:=hs1.ob m _ WL;rw[r1]at p3;cases p3;exact⟨v,cs,ns,r1,p1,p2,r2,r3,r4,r5,p4⟩
 obtain⟨c,ts,us,PG,Ng⟩:=IW (w:=w') (vs:=vs) (fun b hb=>(hu1.free b hb).1) hq hs0.qp hrv Qs (by omega) (fun i d hd=>by
  obtain⟨v,b,k1,k2,k3⟩:=m4 i d hd;exact⟨v,b,k1,k2,fun x hx=>VK x (m5 x (k3 x hx))⟩) hm1
 have Oj:∃v,(results fn a'.tmps).run P w'=.ok v w'/\EL w' v (CG es) c ts us:=by
  have hrun:(results fn a'.tmps).run P w'=.ok (if h:vs.toArray.size=1 then vs.toArray[0]else .tuple vs.toArray) w':=by
   rw[results_eq,qt];simp[m1]
  cases PG with
  |nil=>exact⟨.tuple #[],by simpa using hrun,.gZ [] [] [] [] [] .nil⟩
  |cons v vs d es b1 b2 t1 t2 u1 u2 hv xp=>
   cases xp with
   |nil=>
    simp only[cN];exact⟨v,by simpa using hrun,.v hv⟩
   |cons v2 vs d2 es b3 b4 t3 t4 u3 u4 VJ xp=>exact⟨.tuple (v::v2::vs).toArray,by simpa using hrun,.gZ _ _ _ _ _ (.cons _ _ _ _ _ _ _ _ _ _ hv (.cons _ _ _ _ _ _ _ _ _ _ VJ xp))⟩
 obtain⟨v,a1q,XA⟩:=Oj;refine⟨Nf,hs0.defers,hs0.stays,v,c,ts,us,a1q,XA,fun b hb'=>?_⟩;obtain⟨⟨m,hm,hΘ⟩,_⟩:=Ng.top b hb';exact hs1.mine b (by omega)
theorem KH.of{f:FuncId}{fn:Func}{c:Code}{ds:aR}{e sz:Nat}{rows dQ:List aR}(hf:P.funcs[f]?=some fn)(hb:fn.body=some c)(hn:(fn.name== "runtime.NumGoroutine")=false)
 (hl:ds.length<=fn.ntmps) (hfl:dQ.flatten.all D.flat=true) (h:rows.length<=maxLen->∀Γ:w5,Γ.nt=fn.ntmps->AW P Γ c (WV P fn (.fr e sz dQ)) ⟨Cj 0 ds,[.row .uq e sz rows]⟩):KH P f ds e sz rows dQ:=by
 refine⟨⟨fn,hf,by simp[hb],hn⟩,?_⟩;intro w κ args v cs TV hlen hargs hk0 hk1 hone hsz hrl hown hrd;refine calls_of_wp hf hb ?_;let Θ:Nat->Nat:=fun b=>if v.ownBlock=some b then 2 else if b<w.heap.size then 1 else 0
 let Γ:w5:=⟨w,Θ,fun b=>v.ownBlock=some b,fn.ntmps,fun _=>False,TV⟩
 have hlt:∀b,v.ownBlock=some b->b<w.heap.size:=fun b hb'=>(hown.lt b hb').2
 have DB:rows.length<=maxLen:=(dY.sl ⟨w,v,_,yP hrl hown hrd⟩).1;have hs:eO Γ ⟨Cj 0 ds,[.row .uq e sz rows]⟩ κ Θ {tmps:=args.toArray++Array.replicate (fn.ntmps-args.toArray.size) undef,defers:=[]} w:=by
  refine⟨rfl,?_,fun i hi=>hk1 i (by simpa using hi),?_,?_,?_,?_,?_,?_,⟨rfl,rfl,rfl,bR _,fun _ _ _=>rfl⟩,⟨fun _=>0,by simp,?_,?_⟩⟩
  ·simp[Γ];omega
  ·intro id u hu;rcases Nat.eq_zero_or_pos id with rfl|hp
   ·rw[hk0]at hu;cases hu;exact hone
   ·rw[hk1 id hp]at hu;cases hu
  ·intro t;rw[Nn];simp only[Af,DP,BH];cases hd:ds[t]? with
   |none=>exact⟨[],.of (.any _),by simp⟩
   |some x=>
    obtain⟨u,k1,k2⟩:=hargs t x hd;refine⟨[],?_,by simp⟩;have hlt:t<args.length:=(aH.1 k1).1;have:(args.toArray++Array.replicate (fn.ntmps-args.toArray.size) undef).getD t undef=u:=by
     rw[cO,gB (by simpa using hlt)];simp[k1]
    rw[this];exact k2
  ·intro j o hj;cases j with
   |zero=>
    simp at hj;subst hj;exact⟨hsz,hrl,v,cs,[],hk0,hown,hrd,fun g hg=>by simp only[Θ];rw[bS hg],by simp⟩
   |succ j=>simp at hj
  ·intro b hb';simp only[Θ]at hb';split at hb'
   ·rename_i hv;exact hlt b hv
   ·split at hb'
    ·assumption
    ·exact absurd rfl hb'
  ·intro b hb' hx;refine⟨rfl,?_⟩;have hx':¬v.ownBlock=some b:=hx;simp only[Θ];rw[bH hx'];split<;>omega
  ·intro b hb';simp only[Θ]at hb';split at hb'
   ·rename_i hv;exact .inr hv
   ·split at hb'<;>omega
  ·intro id e' sz' fo hj;cases id with
   |zero=>
    simp at hj;obtain⟨rfl,rfl,rfl⟩:=hj;exact⟨v,cs,[],hk0,hown,hrd,by simp,by simp⟩
   |succ j=>simp at hj
  ·intro id o hj;cases id with
   |zero=>simp at hj;subst hj;exact PY.Aq rfl
   |succ j=>simp at hj
 refine wp_mono (h DB Γ rfl _ _ _ _ hs) ?_;rintro x a' w' ⟨WR,κ0,Θ0,hs0,hrq⟩;obtain⟨Nf,hdf,hst,u,bs,ts,us,hrun,hres,PF⟩:=WV.out hs0 hrq;have Oj:∃u cs',(results fn a'.tmps).run P w'=.ok u w'/\u.oneCell'=true/\(∀r∈dQ,r.length=sz)/\w'.ownsRow 0 e sz u dQ.length cs'/\mZ w' cs' dQ.flatten []/\(∀g,u.ownBlock=some g->w.heap.size<=g\/v.ownBlock=some g)/\
  w'.os=w.os/\w'.tape=w.tape/\w'.output=w.output/\w.heap.size<=w'.heap.size/\∀b,b<w.heap.size->v.ownBlock≠some b->w'.heap[b]?=w.heap[b]?:=by
  cases hres with
  |v hv=>
   cases hv with
   |cell hc=>
    cases hc with
    |pure hc=>cases hc
    |fr _ _ _ cs' ns h1 h2 h3 h4 h5=>
     have:=h4.flat hfl;subst this;exact⟨u,cs',hrun,h5,h2,h3,h4,fun g hg=>PF g (by simp[hg]),hst.os,hst.tape,hst.output,hst.size,fun b hb' hx=>hst.block b hb' hx⟩
 obtain⟨u,cs',q1,q2⟩:=Oj;have post:a'.defers=[]/\∃v',(results fn a'.tmps).run P w'=.ok v' w'/\∃v2 cs2,Ending.returned v'=.returned v2/\v2.oneCell'=true/\(∀r∈dQ,r.length=sz)/\w'.ownsRow 0 e sz v2 dQ.length cs2/\mZ w' cs2 dQ.flatten []/\(∀g,v2.ownBlock=some g->w.heap.size<=g\/v.ownBlock=some g)/\
  w'.os=w.os/\w'.tape=w.tape/\w'.output=w.output/\w.heap.size<=w'.heap.size/\∀b,b<w.heap.size->v.ownBlock≠some b->w'.heap[b]?=w.heap[b]?:=⟨hdf,u,q1,u,cs',rfl,q2⟩
 rcases Nf with rfl|rfl
 ·exact post
 ·exact post
theorem a11{o:Oper}{f t id:Nat}{xs:Array Operand}{ts:Array TypeId}{e sz:Nat}{rows dQ:List aR}(hop:o.op=.call {callee:=.value (.func f),args:=xs,argTypes:=ts})(hd:o.dst=some t)(hg:o.guard=none)
 (ht:t<Γ.nt) (hH:st.H[id]?=some (.row .uq e sz rows)) (hfl:rows.flatten.all D.flat=true) (hb:((xs.toList.map st.ev).all D.bare)=true) (pX:KH P f ((xs.toList.map st.ev).map (D.Yp [id])) e sz rows dQ)
 (h:AO P Γ all rest Q ⟨(t,.acc st.H.length)::st.σ,kill st.H [id]++[.row .uq e sz dQ]⟩):AO P Γ all (o::rest) Q st:=by
 intro κ Θ a w hs;obtain⟨hsz,hrl,v,cs,bs,hk,hown,hrd,I5,_⟩:=hs.ob id _ hH;have I2:=hrd.flat hfl;subst I2;have Zn:id<st.H.length:=(aH.1 hH).1;let κc:Nat->Option Value:=fun j=>if j=0 then some v else none
 have TV:TB w fun b=>v.ownBlock=some b:=by
  obtain⟨B,v1,v2⟩:=hs.vsb;refine⟨B,v1,fun b hB=>⟨(v2 b hB).2.1,fun hb'=>?_⟩⟩;have e1:=I5 b hb';rcases hs.mine b (by omega)with q|q
  ·have:=(v2 b hB).1;omega
  ·exact(v2 b hB).2.2 q
 have hargs:∀(i:Nat) d,((xs.toList.map st.ev).map (D.Yp [id]))[i]?=some d->∃u,(xs.toList.map a.eval)[i]?=some u/\uB w κc u d []:=by
  intro i d MO;rw[cA,cA]at MO;cases hx:xs.toList[i]? with
  |none=>rw[hx]at MO;cases MO
  |some x=>
   rw[hx]at MO;simp only[cc,az]at MO;subst MO;refine⟨a.eval x,by rw[cA,hx];rfl,?_⟩;obtain⟨bs,r,hz⟩:=hs.ev x;have a1a:(st.ev x).bare=true:=bB.1 hb _ (cJ.2 ⟨x,aC hx,rfl⟩);obtain⟨b',r',_⟩:=uB.rn (o:=[id]) (κ':=κc) (Θ:=fun _=>0) (Θ':=fun _=>0) (fun i j u h1 h2=>by
    have h3:=Tv h1;cases j with
    |zero=>simp at h3;subst h3;rw[hk]at h2;simpa[κc]using h2
    |succ j=>simp at h3) (fun _ _=>rfl) r (fun _ _=>rfl)
   have:=r'.YF (D.YG [id] a1a);subst this;exact r'
 have hc:=pX.2 w κc (xs.toList.map a.eval) v cs TV (by simp) hargs (by simp[κc]) (fun i hi=>by simp only[κc];rw[bH (by omega)]) (hs.qp id v hk) hsz hrl hown hrd;refine wpList_plain hg fun K hK=>?_
 unfold Oper.wp;rw[AV hop pX.1,Oper.upon_enter];have e0:xs.map a.eval=(xs.toList.map a.eval).toArray:=by rw[<-jI,kj]
 rw[e0];refine hc.mono ?_;rintro x w' ⟨v',cs',rfl,hone,Po,Nd,Qt,hat,h1,h2,h3,h4,Qn⟩;show K (a.put o.dst v') w';rw[hd];let n:=st.H.length
 let Θ':Nat->Nat:=fun b=>if some b=v'.ownBlock then n+2 else Θ b
 have hvt:∀g,v'.ownBlock=some g->Θ g=id+2\/w.heap.size<=g:=by
  intro g Zm;rcases hat g Zm with h|h
  ·exact .inr h
  ·exact .inl (I5 g h)
 have k:jY w w' Θ Θ' (id+2):=by
  refine⟨by omega,h1,h2,h3,h4,fun b hb hne=>Qn b hb (fun e=>hne (I5 b e)),fun b hb hne=>?_,fun b hb=>?_⟩
  ·simp only[Θ'];rw[bH];intro e;rcases hvt b e.symm with h|h
   ·exact hne h
   ·omega
  ·simp only[Θ']at hb;split at hb
   ·rename_i e;exact(Nd.lt b e.symm).2
   ·exact eE (hs.own b hb) h4
 have hm:∀b,2<=Θ' b->Cz Γ b:=by
  intro b hb;simp only[Θ']at hb;split at hb
  ·rename_i e;rcases hvt b e.symm with h|h
   ·exact hs.mine b (by omega)
   ·exact .inl (cU hs.base h)
  ·exact hs.mine b hb
 have hn:=zx (hs.rX n (bR _)) (some v');obtain⟨ρ,hu⟩:=hs.wq;have xI:=hs.qf k hn hu;have key:∀(j:Nat) y,(kill st.H [id]++[.row .uq e sz dQ])[j]?=some y->(j=n/\y=.row .uq e sz dQ)\/(j≠n/\(y=.gone\/(j∉[id]/\st.H[j]?=some y))):=by
  intro j y hj;rcases E5 j y hj with⟨h1,h2⟩|⟨h1,h2⟩
  ·rw[iK]at h1;exact .inl ⟨h1,h2⟩
  ·rw[iK]at h1;exact .inr ⟨h1,vA h2⟩
 have hs':eO Γ ⟨st.σ,kill st.H [id]++[.row .uq e sz dQ]⟩ (Ad κ n (some v')) Θ' a w':=by
  refine hs.step k hm hn ?_ ?_ ?_ ⟨ρ,xI.1,fun j e' sz' fo hj=>?_,fun j y hj=>?_⟩
  ·intro i hi;simp only[aX,aK,bK,iK]at hi;unfold Ad;rw[bH (by omega)];exact hs.rX i (by omega)
  ·intro i y hy;unfold Ad at hy;split at hy
   ·cases hy;exact hone
   ·exact hs.qp i y hy
  ·intro j y hj;rcases key j y hj with⟨rfl,rfl⟩|⟨_,hy|⟨hjk,hy⟩⟩
   ·exact .inr (.inr ⟨hsz,Po,v',cs',[],mF _ _ _,Nd,Qt,fun g Zm=>by simp only[Θ'];rw[bS Zm.symm],by simp⟩)
   ·exact .inl hy
   ·exact .inr (.inl ⟨fun e=>hjk (by simp;omega),hy⟩)
  ·rcases key j _ hj with⟨rfl,hy⟩|⟨_,hy|⟨hjk,hy⟩⟩
   ·simp only[Ob.row.injEq,wF]at hy;obtain⟨rfl,rfl,rfl⟩:=hy;exact⟨v',cs',[],mF _ _ _,Nd,Qt,by simp,by simp⟩
   ·cases hy
   ·exact xI.2.1 j e' sz' fo (fun e=>hjk (by simp;omega)) hy
  ·rcases key j _ hj with⟨rfl,hy⟩|⟨_,hy|⟨hjk,hy⟩⟩
   ·subst hy;exact PY.Aq rfl
   ·subst hy;trivial
   ·exact xI.2.2 j y (fun e=>hjk (by simp;omega)) hy
 refine hK _ _ (h _ _ _ _ (hs'.set (t:=t) (d:=.acc n) (bs:=[]) ht ?_ (by simp)));exact(Ba.acc n _ (mF _ _ _)).UI
end
def Bj(P:Program)(f:FuncId)(cells cells':aR)(ds:aR)(d:D):Prop:=
 (∃fn,P.funcs[f]?=some fn/\fn.body.isSome=true/\(fn.name== "runtime.NumGoroutine")=false)/\
 ∀(w:World) (Θ:Nat->Nat) (g:Nat) (cs:Array Value) (T:TypeId) (args:br) (bs ts us:af),
  TB w (fun b=>b=g\/b∈ts)->w.heap[g]?=some (.cells cs T (0,0))->DQ w (.agg cs::args) (.agg cells::ds) bs ts us->
  (∀b∈bs,Θ b=0)->(∀b,Θ b≠0->b<w.heap.size)->(∀b,Θ b<=1)->Θ g=1->(∀b∈ts,Θ b=1/\b∈us/\b≠g)->us.Nodup->(∀b∈us,(b∉ts->Θ b=0)/\Wr w b)->
  Calls P f (.pointer (some ⟨g,0,none⟩)::args).toArray w (fun e w'=>∃v cs' T' b2 t2 u2 b3 t3 u3,e=.returned v/\w'.os=w.os/\w'.tape=w.tape/\w'.output=w.output/\w.heap.size<=w'.heap.size/\
   (∀b,b<w.heap.size->b≠g->b∉ts->w'.heap[b]?=w.heap[b]?)/\w'.heap[g]?=some (.cells cs' T' (0,0))/\
   EL w' v d b2 t2 u2/\wH w' cs'.toList cells' b3 t3 u3/\(∀b∈b3++b2,(b<w.heap.size->Θ b=0\/b∈ts)/\b≠g/\b∉t3++t2)/\(u3++u2).Nodup/\
   (∀b∈u3++u2,(w.heap.size<=b\/b∈us)/\b≠g/\Wr w' b)/\∀b∈t3++t2,b∈u3++u2/\(w.heap.size<=b\/b∈ts))
section
variable{P:Program}{Γ:w5}{Q:Exit->St->Prop}{st:St}{κ κ':Nat->Option Value}{Θ Θ':Nat->Nat}{a:Act}{w w':World}{all:Array Oper}{rest:List Oper}
theorem Ic.a1G{cs:Array Value}{ds:aR}{bs ts us:af}(h:Ic w (.agg cs) (.agg ds) bs ts us):wH w cs.toList ds bs ts us:=by
 generalize hv:Value.agg cs=v at h;cases h with
 |cell h=>
  cases h with
  |pure h=>
   cases h with
   |agg l _ _ h=>cases hv;simpa using wH.FH h
 |agg l _ _ _ _ h=>cases hv;simpa using h
theorem QK.a1G{cs:Array Value}{ds:aR}{bs:af}(h:QK w κ (.agg cs) (.agg ds) bs):fP w κ cs.toList ds bs:=by
 generalize hv:Value.agg cs=v at h;cases h with
 |cell h=>
  cases h with
  |pure h=>
   cases h with
   |agg l _ _ h=>cases hv;simpa using fP.FH h
 |agg l _ _ h=>cases hv;simpa using h
theorem Ib.shown{v:Value}{d:D}{bs ts us:af}(h:Ib w v d bs ts us):∃b,Rd w v d.shC b:=by
 cases h with
 |pure h=>
  have e:d.shC=d:=by cases h<;>rfl
  exact⟨_,e.symm▸h⟩
 |fr e sz rows cs ns h1 h2 h3 h4 h5=>exact⟨_,yP h2 h3 h4⟩
theorem wH.shown{vs:br}{ds:aR}{bs ts us:af}(h:wH w vs ds bs ts us):∃b,mZ w vs (ds.map D.shC) b:=by
 induction h with
 |nil=>exact⟨_,.nil⟩
 |cons v vs d ds b1 b2 t1 t2 u1 u2 h1 h2 _ ih=>
  obtain⟨b,q⟩:=h2.shown;obtain⟨b',q'⟩:=ih;exact⟨_,.cons _ _ _ _ _ _ h1 q q'⟩
theorem Ic.shown{v:Value}{d:D}{bs ts us:af}(h:Ic w v d bs ts us):dY d.shV:=by
 cases h with
 |cell h=>
  by_cases wC:∃ds,d=.agg ds
  ·obtain⟨ds,rfl⟩:=wC;cases h with
   |pure h=>cases h with
    |agg cs _ _ h=>
     obtain⟨b,q⟩:=(wH.FH h).shown;exact⟨w,_,_,.agg _ _ _ q⟩
  ·have e:d.shV=d.shC:=by cases d<;>first|rfl|exact absurd ⟨_,rfl⟩ wC
   rw[e];obtain⟨b,q⟩:=h.shown;exact⟨w,_,_,q⟩
 |agg cs ds bs ts us h=>
  obtain⟨b,q⟩:=h.shown;exact⟨w,_,_,.agg _ _ _ q⟩
theorem DQ.shown{vs:br}{ds:aR}{bs ts us:af}(h:DQ w vs ds bs ts us):∀d∈ds.map D.shV,dY d:=by
 induction h with
 |nil=>intro d hd;cases hd
 |cons v vs d ds b1 b2 t1 t2 u1 u2 h2 _ ih=>
  intro x hx;rcases bM.1 hx with rfl|hx
  ·exact h2.shown
  ·exact ih x hx
def Su(L:p6)(b:Nat):Option Nat:=ix (fun x:Fs=>x.v.ownBlock==some b) L
def Ck(L:p6)(b:Nat):Option Nat:=ix (fun x:Fs=>x.ns.contains b) L
theorem W8{L:p6}(hnd:(L.flatMap Fs.bl).Nodup){i:Nat}{x:Fs}{b:Nat}(hi:L[i]?=some x)(hb:x.v.ownBlock=some b):Su L b=some i:=
 F0 hi (by simp[hb]) (fun j y hj hy=>by
  simp only[cj]at hy;exact yZ hnd j i y x b hj hi (by simp[Fs.bl,hy]) (by simp[Fs.bl,hb]))
theorem Xv{L:p6}{b i:Nat}(h:Su L b=some i):b∈L.flatMap Fs.ts:=by
 obtain⟨x,hx,hp⟩:=zv h;exact cE.2 ⟨x,aC hx,by simp only[cj]at hp;simp[Fs.ts,hp]⟩
theorem ML{L:p6}{b:Nat}(h:b∉L.flatMap Fs.ts):Su L b=none:=by
 cases hb:Su L b with
 |none=>rfl
 |some i=>exact absurd (Xv hb) h
theorem QT{L:p6}(hnd:(L.flatMap Fs.bl).Nodup){i:Nat}{x:Fs}{b:Nat}(hi:L[i]?=some x)(hb:b∈x.ns):Ck L b=some i:=
 F0 hi (by simpa using hb) (fun j y hj hy=>yZ hnd j i y x b hj hi (by simp only[Fs.bl];exact au.2 (.inr (by simpa using hy))) (by simp only[Fs.bl];exact au.2 (.inr hb)))
theorem EM{L:p6}{b i:Nat}(h:Ck L b=some i):∃x,L[i]?=some x/\b∈x.ns:=by
 obtain⟨x,hx,hp⟩:=zv h;exact⟨x,hx,by simpa using hp⟩
theorem QU{L:p6}{b:Nat}(h:b∈L.flatMap Fs.ts):b∈L.flatMap Fs.bl:=by
 obtain⟨x,hx,I3⟩:=cE.1 h;exact cE.2 ⟨x,hx,by simp only[Fs.bl,Fs.ts]at I3⊢;exact au.2 (.inl I3)⟩
theorem DS{L:p6}{i b:Nat}{x:Fs}(h:L[i]?=some x)(hb:b∈x.ns):b∈L.flatMap Fs.bl:=
 cE.2 ⟨x,aC h,by simp only[Fs.bl];exact au.2 (.inr hb)⟩
theorem Ut{L:p6}(hnd:(L.flatMap Fs.bl).Nodup):∀x∈L,x.bl.Nodup:=by
 induction L with
 |nil=>intro x hx;cases hx
 |cons z r ih=>
  intro x hx;simp only[dO]at hnd;obtain⟨n1,n2,_⟩:=bO.1 hnd;rcases bM.1 hx with rfl|hx
  ·exact n1
  ·exact ih n2 x hx
theorem RF{L:p6}(hnd:(L.flatMap Fs.bl).Nodup){i b:Nat}{x:Fs}(h:L[i]?=some x)(hb:b∈x.ns):b∉L.flatMap Fs.ts:=by
 intro ht;obtain⟨y,hy,hby⟩:=cE.1 ht;obtain⟨j,hj⟩:=cq hy;have:=yZ hnd j i y x b hj h (by simp only[Fs.bl,Fs.ts]at hby⊢;exact au.2 (.inl hby)) (by simp only[Fs.bl];exact au.2 (.inr hb));subst this;rw[hj]at h;cases h;have On:=Ut hnd x hy;simp only[Fs.bl]at On;exact(bO.1 On).2.2 b hby b hb rfl
theorem Ve{L:p6}(hnd:(L.flatMap Fs.bl).Nodup){i:Nat}{x:Fs}(h:L[i]?=some x):x.ns.Nodup:=by
 have:=Ut hnd x (aC h);simp only[Fs.bl]at this;exact(bO.1 this).2.1
def a1E(P:Program)(fn:Func)(v0:Value)(cells':aR)(d:D)(e:Exit)(st:St):Prop:=
 (e=.ret\/e=.normal)/\∃nz ds0 TG es ms qs,FI P st fn.results.toList=some ds0/\st.H[0]?=some (.Pr TG v0)/\
  E7 st.H nz (.agg TG::ds0)=some (.agg cells'::es,ms,qs)/\ms.Nodup/\qs.Nodup/\CG es=d
theorem a1E.out{fn:Func}{v0:Value}{cells':aR}{d:D}{e:Exit}{a':Act}{w':World}{WR:St}{κ0:Nat->Option Value}{Θ0:Nat->Nat}(hs0:eO Γ WR κ0 Θ0 a' w')(hrq:a1E P fn v0 cells' d e WR):
 (e=.ret\/e=.normal)/\a'.defers=[]/\YA Γ w'/\∃v g cs' T b2 t2 u2 b3 t3 u3,(results fn a'.tmps).run P w'=.ok v w'/\v0=.pointer (some ⟨g,0,none⟩)/\w'.heap[g]?=some (.cells cs' T (0,0))/\
  EL w' v d b2 t2 u2/\wH w' cs'.toList cells' b3 t3 u3/\(∀b∈b3++b2,(b<Γ.W0.heap.size->¬Γ.X b->Γ.Θ0 b=0)/\b≠g/\b∉t3++t2)/\(u3++u2).Nodup/\
  (∀b∈u3++u2,a1D Γ b/\b≠g/\Wr w' b)/\∀b∈t3++t2,b∈u3++u2/\Cz Γ b:=by
 obtain⟨Nf,nz,ds0,TG,es,ms,qs,hres,hH0,hrv,TT,Qs,rfl⟩:=hrq;obtain⟨ρ0,hu0⟩:=hs0.wq;have K9:=Cs hrv;obtain⟨Θ1,ρ1,hs1,hu1,hm1,VK,Zo⟩:=eO.Q9 ms hs0 hu0 TT (fun m hm=>by
  obtain⟨e,sz,rows,hH⟩:=K9.1 m hm;exact⟨_,e,sz,rows,hH,rfl⟩)
 obtain⟨vs,bs',m1,m2,m3,m4,m5⟩:=IV hs0 hres;have hq:∀m e sz rows,WR.H[m]?=some (.row .uq e sz rows)->∃v cs ns,κ0 m=some v/\0<sz/\(∀r∈rows,r.length=sz)/\w'.ownsRow 0 e sz v rows.length cs/\mZ w' cs rows.flatten ns/\ns.Nodup/\(∀b∈ns,ρ1 b=m+1)/\∀g,v.ownBlock=some g->Θ1 g=m+2:=by
  intro m e sz rows hH;have hnm:m∉ms:=fun hm=>by
   obtain⟨e',sz',dQ,M7⟩:=K9.1 m hm;rw[hH]at M7;cases M7
  have WL:(kill WR.H ms)[m]?=some (.row .uq e sz rows):=by rw[ju hnm];exact hH
  obtain⟨v,cs,ns,r1,r2,r3,r4,r5⟩:=hu1.rows m e sz rows WL;obtain⟨p1,p2,v2,_,_,p3,_,_,p4,_⟩:=hs1.ob m _ WL;rw[r1]at p3;cases p3;exact⟨v,cs,ns,r1,p1,p2,r2,r3,r4,r5,p4⟩
 have h0m:0∉ms:=fun hm=>by
  obtain⟨e',sz',dQ,M7⟩:=K9.1 0 hm;rw[hH0]at M7;cases M7
 have h0q:0∉qs:=fun hm=>by
  obtain⟨e',sz',dQ,M7⟩:=K9.2 0 hm;rw[hH0]at M7;cases M7
 obtain⟨hv0,g,cs',T,hk0,hg,TX,bb,hbb,hbz⟩:=hs1.ob 0 _ (show(kill WR.H ms)[0]?=_ by rw[ju h0m];exact hH0);have e0:v0=.pointer (some ⟨g,0,none⟩):=by rw[hv0]at hk0;cases hk0;rfl
 have TX:Θ1 g=2:=TX;obtain⟨c,tt,uu,PG,Ng⟩:=IW (w:=w') (vs:=.agg cs'::vs) (fun b hb=>(hu1.free b hb).1) hq hs0.qp hrv Qs (by simp;omega) (fun i d hd=>by
  cases i with
  |zero=>
   simp at hd;subst hd;have:=QK.agg _ _ _ hbb;exact⟨_,bb,rfl,.v (by simpa using this),hbz⟩
  |succ i=>
   obtain⟨v,b,k1,k2,k3⟩:=m4 i d (by simpa using hd);exact⟨v,b,by simpa using k1,k2,fun x hx=>VK x (m5 x (k3 x hx))⟩) hm1
 cases PG with
 |cons _ _ _ _ b3 b2 t3 t2 u3 u2 a4o xp=>
 have Oj:∃v,(results fn a'.tmps).run P w'=.ok v w'/\EL w' v (CG es) b2 t2 u2:=by
  have hrun:(results fn a'.tmps).run P w'=.ok (if h:vs.toArray.size=1 then vs.toArray[0]else .tuple vs.toArray) w':=by
   rw[results_eq,qt];simp[m1]
  cases xp with
  |nil=>exact⟨.tuple #[],by simpa using hrun,.gZ [] [] [] [] [] .nil⟩
  |cons v vs d es b1 b2 t1 t2 u1 u2 hv xp=>
   cases xp with
   |nil=>
    simp only[cN];exact⟨v,by simpa using hrun,.v hv⟩
   |cons v2 vs d2 es b3 b4 t3 t4 u3 u4 VJ xp=>exact⟨.tuple (v::v2::vs).toArray,by simpa using hrun,.gZ _ _ _ _ _ (.cons _ _ _ _ _ _ _ _ _ _ hv (.cons _ _ _ _ _ _ _ _ _ _ VJ xp))⟩
 obtain⟨v,a1q,XA⟩:=Oj;have I5:∀b∈t3++t2,Wr w' b:=by
  intro b hb;rcases au.1 hb with hb|hb
  ·exact QL a4o b hb
  ·exact Ud XA b hb
 refine⟨Nf,hs0.defers,hs0.stays,v,g,cs',T,b2,t2,u2,b3,t3,u3,a1q,e0,hg,XA,a4o.a1G,fun b hb=>⟨fun hlt hx=>?_,fun e=>?_,fun ht=>?_⟩,Ng.nd,fun b hb=>?_,fun b hb=>?_⟩
 ·have:=Ng.zero b hb;rw[<-(hs1.old b hlt hx).1];exact this
 ·have:=Ng.zero b hb;subst e;omega
 ·obtain⟨⟨m,_,hΘ⟩,_⟩:=Ng.top b ht;have:=Ng.zero b hb;omega
 ·rcases Ng.mem b hb with h|⟨m,hm,hρ⟩
  ·obtain⟨⟨m,hm,hΘ⟩,_⟩:=Ng.top b h;refine⟨.inl (hs1.mine b (by omega)),fun e=>?_,I5 b h⟩;subst e;rw[TX]at hΘ;have:m=0:=by omega
   subst this;exact h0q hm
  ·have:=hu1.free b (by omega);refine⟨this.2.1,fun e=>?_,this.2.2⟩;have h0:=this.1;subst e;omega
 ·obtain⟨⟨m,hm,hΘ⟩,h2⟩:=Ng.top b hb;exact⟨h2,hs1.mine b (by omega)⟩
theorem EK.len{vs:br}{ds:aR}{bs:af}(h:EK w κ vs ds bs):vs.length=ds.length:=by
 induction h with
 |nil=>rfl
 |cons v vs d ds b1 b2 h1 _ ih=>simp[ih]
theorem Bj.of{f:FuncId}{fn:Func}{c:Code}{cells cells' GQ ds ds1:aR}{obs:bX}{d:D}(hf:P.funcs[f]?=some fn)(hb:fn.body=some c)(hn:(fn.name== "runtime.NumGoroutine")=false)
 (hI:Ez 1 (.agg cells::ds)=(.agg GQ::ds1,obs)) (hl:ds1.length+1<=fn.ntmps)
 (h:(∀x∈(D.agg cells::ds).map D.shV,dY x)->∀(v0:Value) (Γ:w5),Γ.nt=fn.ntmps->AW P Γ c (a1E P fn v0 cells' d) ⟨Cj 0 (.ptr 0 0::ds1),.Pr GQ v0::obs⟩):Bj P f cells cells' ds d:=by
 refine⟨⟨fn,hf,by simp[hb],hn⟩,?_⟩;intro w Θ g cs T args bs ts us hvs hg hargs hz hown h1 hg1 hts hnd xI;have a7q:=hargs.shown;obtain⟨L,q1,q2,rfl,rfl,q5⟩:=hargs.inst 1;rw[hI]at q1 q5;have q1:L.map Fs.ob=obs:=q1;refine calls_of_wp hf hb ?_;let v0:Value:=.pointer (some ⟨g,0,none⟩)
 let κ0:Nat->Option Value:=fun i=>if i=0 then some v0 else(L[i-1]?).map Fs.v
 let Θ0:Nat->Nat:=fun b=>if b=g then 2 else match Su L b with|some i=>i+3|none=>Θ b
 let ρ0:Nat->Nat:=fun b=>match Ck L b with|some i=>i+2|none=>0
 let Γ:w5:=⟨w,Θ0,fun b=>b=g\/b∈L.flatMap Fs.ts,fn.ntmps,fun b=>b∈L.flatMap Fs.bl,hvs⟩
 have hgl:g<w.heap.size:=(bL.1 hg).1;have hk0:κ0 0=some v0:=rfl;have hkS:∀i x,L[i]?=some x->κ0 (i+1)=some x.v:=fun i x hx=>by simp[κ0,hx]
 have hnm:Names κ0 1 L:=fun i x hx=>by rw[Nat.add_comm];exact hkS i x hx
 have hrd:=q5 κ0 hnm;have hlen:=hrd.len;have aAD:∀(i:Nat) x b,L[i]?=some x->x.v.ownBlock=some b->b∈L.flatMap Fs.ts:=fun i x b hx hb'=>cE.2 ⟨x,aC hx,by simp[Fs.ts,hb']⟩
 have a7y:∀(i:Nat) x b,L[i]?=some x->x.v.ownBlock=some b->Θ0 b=i+3:=by
  intro i x b hx hb';have:=(hts b (aAD i x b hx hb')).2.2;simp only[Θ0,W8 hnd hx hb'];rw[bH this]
 have a7z:∀b,Θ b=0->Θ0 b=0:=by
  intro b h0;have e1:b≠g:=fun e=>by subst e;omega
  have e2:b∉L.flatMap Fs.ts:=fun e=>by have:=(hts b e).1;omega
  simp only[Θ0,ML e2];rw[bH e1,h0]
 have a9z:∀(i:Nat) x b,L[i]?=some x->b∈x.ns->Θ0 b=0:=fun i x b hx hb'=>a7z b ((xI b (DS hx hb')).1 (RF hnd hx hb'))
 have Oo:∀b,Θ0 b≠Θ b->b=g\/b∈L.flatMap Fs.ts:=by
  intro b hne;by_cases e:b=g
  ·exact .inl e
  ·refine .inr (jX fun ht=>hne ?_);simp only[Θ0,ML ht];rw[bH e]
 have a7k:∀(j:Nat) o,obs[j]?=some o->∃x,L[j]?=some x/\o=x.ob:=by
  intro j o hj;rw[<-q1,cA]at hj;cases hx:L[j]? with
  |none=>simp[hx]at hj
  |some x=>simp[hx]at hj;exact⟨x,rfl,hj.symm⟩
 have aCy:obs.length=L.length:=by rw[<-q1];simp
 have a4o:∃b',fP w κ0 cs.toList GQ b'/\∀b∈b',Θ0 b=0:=by
  obtain⟨v,b',k1,k2,k3⟩:=hrd.at (i:=0) (d:=.agg GQ) rfl;simp at k1;subst k1;exact⟨b',k2.a1G,fun b hb'=>a7z b (hz b (k3 b hb'))⟩
 have hs:eO Γ ⟨Cj 0 (.ptr 0 0::ds1),.Pr GQ v0::obs⟩ κ0 Θ0 {tmps:=(v0::args).toArray++Array.replicate (fn.ntmps-(v0::args).toArray.size) undef,defers:=[]} w:=by
  refine⟨rfl,?_,fun i hi=>?_,?_,?_,?_,?_,?_,?_,⟨rfl,rfl,rfl,bR _,fun _ _ _=>rfl⟩,⟨ρ0,?_,?_,?_⟩⟩
  ·simp only[aK]at hlen;simp[Γ];omega
  ·simp only[aK]at hi;simp only[κ0];rw[bH (by omega),ck (by omega)];rfl
  ·intro id u hu;simp only[κ0]at hu;split at hu
   ·cases hu;rfl
   ·cases hx:L[id-1]? with
    |none=>simp[hx]at hu
    |some x=>simp[hx]at hu;subst hu;exact(q2 x (aC hx)).2.2.2.2
  ·intro t;rw[Nn];simp only[Af,DP,BH];have a6E:∀v,(v0::args)[t]?=some v->((v0::args).toArray++Array.replicate (fn.ntmps-(v0::args).toArray.size) undef).getD t undef=v:=by
    intro v hv;have hlt:=(aH.1 hv).1;rw[cO,gB (by simpa using hlt)];simp only[mq,hv,za]
   cases t with
   |zero=>
    refine⟨[],?_,by simp⟩;rw[a6E v0 rfl];exact .v (.cell (.ptr 0 0 g hk0))
   |succ s=>
    rw[ew];cases hd:ds1[s]? with
    |none=>exact⟨[],.of (.any _),by simp⟩
    |some x=>
     obtain⟨v,b',k1,k2,k3⟩:=hrd.at (i:=s+1) (d:=x) (by simpa using hd);rw[a6E v (by simpa using k1)];exact⟨b',.v k2,fun b hb'=>a7z b (hz b (k3 b hb'))⟩
  ·intro j o hj;cases j with
   |zero=>
    simp at hj;subst hj;obtain⟨b',k1,k2⟩:=a4o;exact⟨hk0,g,cs,T,hk0,hg,by simp[Θ0],b',k1,k2⟩
   |succ j=>
    obtain⟨x,hx,rfl⟩:=a7k j o (by simpa using hj);obtain⟨p1,p2,p3,p4,_⟩:=q2 x (aC hx);exact⟨p1,p2,x.v,x.cs,x.ns,hkS j x hx,p3,p4,fun b hb'=>a7y j x b hx hb',fun b hb'=>a9z j x b hx hb'⟩
  ·intro b hb';by_cases e:Θ0 b=Θ b
   ·exact hown b (by rw[<-e];exact hb')
   ·rcases Oo b e with rfl|ht
    ·exact hgl
    ·exact hown b (by have:=(hts b ht).1;omega)
  ·intro b hlt hx;refine⟨rfl,?_⟩;have e:Θ0 b=Θ b:=jX fun e=>hx (Oo b e)
   rw[e];exact h1 b
  ·intro b hb';refine .inr (Oo b fun e=>?_);have:=h1 b;omega
  ·intro b hb';cases hbl:Ck L b with
   |none=>simp[ρ0,hbl]at hb'
   |some i=>
    obtain⟨x,hx,I3⟩:=EM hbl;exact⟨a9z i x b hx I3,.inr (DS hx I3),(xI b (DS hx I3)).2⟩
  ·intro id e sz rows hj;cases id with
   |zero=>simp at hj
   |succ j=>
    obtain⟨x,hx,hox⟩:=a7k j _ (by simpa using hj);simp only[Fs.ob,Ob.row.injEq,wF]at hox;obtain⟨rfl,rfl,rfl⟩:=hox;obtain⟨p1,p2,p3,p4,_⟩:=q2 x (aC hx);exact⟨x.v,x.cs,x.ns,hkS j x hx,p3,p4,Ve hnd hx,fun b hb'=>by simp[ρ0,QT hnd hx hb']⟩
  ·intro id o hj;cases id with
   |zero=>simp at hj;subst hj;trivial
   |succ j=>
    obtain⟨x,hx,hox⟩:=a7k j _ (by simpa using hj);subst hox;exact PY.Aq rfl
 refine wp_mono (h a7q v0 Γ rfl _ _ _ _ hs) ?_;rintro x a' w' ⟨WR,κ1,Θ1,hs0,hrq⟩;obtain⟨Nf,hdf,hst,v,g',cs',T',b2,t2,u2,b3,t3,u3,hrun,e0,hg',hres,aCZ,aCV,KA,BT,ht'⟩:=a1E.out hs0 hrq;obtain rfl:g=g':=by
  have e1:Value.pointer (some ⟨g,0,none⟩)=.pointer (some ⟨g',0,none⟩):=e0;cases e1;rfl
 have post:a'.defers=[]/\∃v',(results fn a'.tmps).run P w'=.ok v' w'/\∃v cs' T' b2 t2 u2 b3 t3 u3,Ending.returned v'=.returned v/\w'.os=w.os/\w'.tape=w.tape/\w'.output=w.output/\w.heap.size<=w'.heap.size/\
  (∀b,b<w.heap.size->b≠g->b∉L.flatMap Fs.ts->w'.heap[b]?=w.heap[b]?)/\w'.heap[g]?=some (.cells cs' T' (0,0))/\
  EL w' v d b2 t2 u2/\wH w' cs'.toList cells' b3 t3 u3/\(∀b∈b3++b2,(b<w.heap.size->Θ b=0\/b∈L.flatMap Fs.ts)/\b≠g/\b∉t3++t2)/\(u3++u2).Nodup/\
  (∀b∈u3++u2,(w.heap.size<=b\/b∈L.flatMap Fs.bl)/\b≠g/\Wr w' b)/\∀b∈t3++t2,b∈u3++u2/\(w.heap.size<=b\/b∈L.flatMap Fs.ts):=by
  refine⟨hdf,v,hrun,v,cs',T',b2,t2,u2,b3,t3,u3,rfl,hst.os,hst.tape,hst.output,hst.size,fun b hlt hne hnt=>hst.block b hlt (fun hx=>hx.elim hne hnt),hg',hres,aCZ,fun b hb'=>?_,KA,fun b hb'=>?_,fun b hb'=>?_⟩
  ·obtain⟨k1,k2,k3⟩:=aCV b hb';refine⟨fun hlt=>?_,k2,k3⟩;by_cases ht:b∈L.flatMap Fs.ts
   ·exact .inr ht
   ·refine .inl ?_;have:=k1 hlt (fun hx=>hx.elim k2 ht);have e:Θ0 b=Θ b:=jX fun e=>(Oo b e).elim k2 ht
    rw[<-e];exact this
  ·obtain⟨k1,k2,k3⟩:=BT b hb';refine⟨?_,k2,k3⟩;rcases k1 with(k1|k1|k1)|k1
   ·exact .inl k1
   ·exact absurd k1 k2
   ·exact .inr (QU k1)
   ·exact .inr k1
  ·obtain⟨k1,k2⟩:=ht' b hb';refine⟨k1,?_⟩;have:=(BT b k1).2.1;rcases k2 with k2|k2|k2
   ·exact .inl k2
   ·exact absurd k2 this
   ·exact .inr k2
 rcases Nf with rfl|rfl
 ·exact post
 ·exact post
theorem a13{o:Oper}{f t id:Nat}{xs:Array Operand}{ty:Array TypeId}{x0:Operand}{xr:List Operand}{ob:Ob}{OK cells cells' ds:aR}{d:D}{nz:List (List (Option (Nat×Nat)))}{ms qs:af}
 (hop:o.op=.call {callee:=.value (.func f),args:=xs,argTypes:=ty}) (hd:o.dst=some t) (hg:o.guard=none) (ht:t<Γ.nt)
 (hxs:xs.toList=x0::xr) (hx0:st.ev x0=.ptr id 0) (hH:st.H[id]?=some ob) (CN:ob.ZX=some OK)
 (Nf:E7 st.H nz (.agg OK::xr.map st.ev)=some (.agg cells::ds,ms,qs)) (TT:ms.Nodup) (Qs:qs.Nodup) (pX:Bj P f cells cells' ds d)
 (h:AO P Γ all rest Q ⟨(t,(rW (st.H.length+(oB st.H.length cells').2.length) d).1)::st.σ,
  (kill st.H (ms++qs)).set id (ob.re (oB st.H.length cells').1)++((oB st.H.length cells').2++(rW (st.H.length+(oB st.H.length cells').2.length) d).2)⟩):AO P Γ all (o::rest) Q st:=by
 intro κ Θ a w hs;have K9:=Cs Nf;obtain⟨ρ,hu⟩:=hs.wq;obtain⟨Θ1,ρ1,hs1,hu1,hm1,VK,Zo⟩:=eO.Q9 ms hs hu TT (fun m hm=>by
  obtain⟨e,sz,rows,hH⟩:=K9.1 m hm;exact⟨_,e,sz,rows,hH,rfl⟩)
 have Zn:id<st.H.length:=(aH.1 hH).1;have hnr:∀k e sz rows,st.H[id]?≠some (.row k e sz rows):=fun k e sz rows e1=>by rw[hH]at e1;cases e1;cases CN
 have aCn:id∉ms:=fun hm=>by obtain⟨e',sz',dQ,M7⟩:=K9.1 id hm;exact hnr _ _ _ _ M7
 have aCo:id∉qs:=fun hm=>by obtain⟨e',sz',dQ,M7⟩:=K9.2 id hm;exact hnr _ _ _ _ M7
 have WL:(kill st.H ms)[id]?=some ob:=by rw[ju aCn];exact hH
 have aA1:=hs1.ob id _ WL;obtain⟨g,cs,T,hk0,hgc,TX,bb,hbb,hbz⟩:=aA1.cs CN;have hgl:g<w.heap.size:=(bL.1 hgc).1;have hq:∀m e sz rows,st.H[m]?=some (.row .uq e sz rows)->∃v cs ns,κ m=some v/\0<sz/\(∀r∈rows,r.length=sz)/\w.ownsRow 0 e sz v rows.length cs/\mZ w cs rows.flatten ns/\ns.Nodup/\(∀b∈ns,ρ1 b=m+1)/\∀g,v.ownBlock=some g->Θ1 g=m+2:=by
  intro m e sz rows hH;have hnm:m∉ms:=fun hm=>by
   obtain⟨e',sz',dQ,M7⟩:=K9.1 m hm;rw[hH]at M7;cases M7
  have WL:(kill st.H ms)[m]?=some (.row .uq e sz rows):=by rw[ju hnm];exact hH
  obtain⟨v,cs,ns,r1,r2,r3,r4,r5⟩:=hu1.rows m e sz rows WL;obtain⟨p1,p2,v2,_,_,p3,_,_,p4,_⟩:=hs1.ob m _ WL;rw[r1]at p3;cases p3;exact⟨v,cs,ns,r1,p1,p2,r2,r3,r4,r5,p4⟩
 obtain⟨bs,ts,us,PG,Ng⟩:=IW (w:=w) (vs:=.agg cs::xr.map a.eval) (fun b hb=>(hu1.free b hb).1) hq hs.qp Nf Qs (by simp) (fun i d hd=>by
  cases i with
  |zero=>
   simp at hd;subst hd;have:=QK.agg _ _ _ hbb;exact⟨_,bb,rfl,.v (by simpa using this),hbz⟩
  |succ i=>
   rw[ew,cA]at hd;cases hx:xr[i]? with
   |none=>rw[hx]at hd;cases hd
   |some x=>
    rw[hx]at hd;simp only[cc,az]at hd;subst hd;obtain⟨b,r,z⟩:=hs.ev x;exact⟨a.eval x,b,by simp[hx],r,fun y hy=>VK y (z y hy)⟩) hm1
 let Θc:Nat->Nat:=fun b=>if Θ1 b=0 then 0 else 1
 have Oo:∀b,Θc b=0↔Θ1 b=0:=fun b=>by simp only[Θc];split<;>simp_all
 have XB:∀b∈ts,∃m∈qs,Θ1 b=m+2:=fun b hb=>(Ng.top b hb).1
 have aDI:∀b∈ts,b≠g:=fun b hb e=>by
  obtain⟨m,hm,hΘ⟩:=XB b hb;subst e;rw[TX]at hΘ;exact aCo (by
   have:id=m:=by omega
   rw[this];exact hm)
 have TV:TB w fun b=>b=g\/b∈ts:=by
  obtain⟨B,v1,v2⟩:=hs1.vsb;refine⟨B,v1,fun b hB=>⟨(v2 b hB).2.1,fun hb'=>?_⟩⟩;have hm:Cz Γ b:=by
   rcases hb' with rfl|hb'
   ·exact hs1.mine b (by omega)
   ·obtain⟨m,hm,hΘ⟩:=XB b hb';exact hs1.mine b (by omega)
  rcases hm with q|q
  ·have:=(v2 b hB).1;omega
  ·exact(v2 b hB).2.2 q
 have hwr:∀b∈us,Wr w b:=by
  intro b hb;rcases Ng.mem b hb with h|⟨m,hm,hρ⟩
  ·exact SB PG b h
  ·exact(hu1.free b (by omega)).2.2
 have hc:=pX.2 w Θc g cs T (xr.map a.eval) bs ts us TV hgc PG (fun b hb=>(Oo b).2 (Ng.zero b hb)) (fun b hb=>hs1.own b (fun e=>hb ((Oo b).2 e))) (fun b=>by simp only[Θc];split<;>omega)
  (by simp only[Θc];rw[bH (by omega)]) (fun b hb=>by
   obtain⟨m,hm,hΘ⟩:=XB b hb;exact⟨by simp only[Θc];rw[bH (by omega)],(Ng.top b hb).2,aDI b hb⟩) Ng.nd (fun b hb=>⟨fun hnt=>by
   rcases Ng.mem b hb with h|⟨m,hm,hρ⟩
   ·exact absurd h hnt
   ·exact(Oo b).2 (hu1.free b (by omega)).1,hwr b hb⟩)
 refine wpList_plain hg fun K hK=>?_
 unfold Oper.wp;rw[AV hop pX.1,Oper.upon_enter];have e0:xs.map a.eval=(.pointer (some ⟨g,0,none⟩)::xr.map a.eval).toArray:=by
  obtain⟨b0,r0,_⟩:=hs.ev x0;rw[hx0]at r0;obtain⟨g',hk',hv⟩:=r0.Cr;rw[hk0]at hk';cases hk';rw[<-wv,jI,hxs];simp[hv]
 rw[e0];refine hc.mono ?_;rintro x w' ⟨v,cs',T',b2,t2,u2,b3,t3,u3,rfl,k1,k2,k3,k4,a8O,kg,aDi,kcs,kb,knd,ku,kt⟩;show K (a.put o.dst v) w';rw[hd];let N:=st.H.length
 have hs2:=hs1.forget (id::qs);have hNl:(kill st.H ms).length=N:=iK _ _;simp only[hNl]at hs2;let Θ2:Nat->Nat:=fun b=>if(id::qs).any (fun m=>Θ1 b==m+2)then N+2 else Θ1 b
 have hs2:eO Γ ⟨st.σ,kill (kill st.H ms) (id::qs)⟩ κ Θ2 a w:=hs2;have a22:∀b,Θ1 b=0->Θ2 b=0:=fun b hb=>by
  simp only[Θ2];rw[bH,hb];intro h;obtain⟨m,_,hm⟩:=dR.1 h;simp[hb]at hm
 have SY:∀b,b=g\/b∈ts->Θ2 b=N+2:=by
  intro b hb;simp only[Θ2];rw[bS];rcases hb with rfl|hb
  ·exact dR.2 ⟨id,by simp,by simp[TX]⟩
  ·obtain⟨m,hm,hΘ⟩:=XB b hb;exact dR.2 ⟨m,by simp[hm],by simp[hΘ]⟩
 have hu2:CR Γ (kill (kill st.H ms) (id::qs)) κ Θ2 w ρ1:=by
  refine⟨fun b hb=>?_,fun j e sz rows hj=>?_,fun j o hj=>?_⟩
  ·obtain⟨q1,q2⟩:=hu1.free b hb;exact⟨a22 b q1,q2⟩
  ·rcases vA hj with h|⟨_,h⟩
   ·cases h
   ·exact hu1.rows j e sz rows h
  ·rcases vA hj with h|⟨_,h⟩
   ·subst h;trivial
   ·exact hu1.more j o h
 obtain⟨Lb,a1,a2,a3,a4,a5⟩:=kcs.inst N;obtain⟨Ld,c1,c2,c3,c4,c5⟩:=aDi.inst (N+(oB N cells').2.length);have aCP:Lb.length=(oB N cells').2.length:=by rw[<-a1];simp
 let L:=Lb++Ld
 have hbl:u3++u2=L.flatMap Fs.bl:=by simp[L,a3,c3]
 have aDH:t3++t2=L.flatMap Fs.ts:=by simp[L,a4,c4]
 rw[hbl]at knd ku kt;rw[aDH]at kt kb;have a7W:∀x∈L,x.ok w':=fun x hx=>by
  rcases au.1 hx with hx|hx
  ·exact a2 x hx
  ·exact c2 x hx
 let κ':Nat->Option Value:=fun j=>if j<N then κ j else(L[j-N]?).map Fs.v
 let Θ':Nat->Nat:=fun b=>if b=g then id+2 else match Su L b with|some i=>N+i+2|none=>if Θ2 b=N+2 then 0 else Θ2 b
 let ρ':Nat->Nat:=fun b=>match Ck L b with|some i=>N+i+1|none=>ρ1 b
 have hgt:g∉L.flatMap Fs.bl:=fun h=>(ku g h).2.1 rfl
 have aAG:Θ' g=id+2:=by simp[Θ']
 have a4y:∀(i:Nat) x b,L[i]?=some x->x.v.ownBlock=some b->Θ' b=N+i+2:=by
  intro i x b hx hb;have hb':b∈L.flatMap Fs.ts:=cE.2 ⟨x,aC hx,by simp[Fs.ts,hb]⟩;have hne:b≠g:=fun e=>hgt (e▸QU hb')
  simp only[Θ',W8 knd hx hb];rw[bH hne]
 have Qv:∀b,b≠g->b∉L.flatMap Fs.ts->Θ' b=if Θ2 b=N+2 then 0 else Θ2 b:=by
  intro b h1 h2;simp only[Θ',ML h2];rw[bH h1]
 have hzero:∀b,w.heap.size<=b->Θ2 b=0:=fun b hge=>by
  cases h:Θ2 b with
  |zero=>rfl
  |succ m=>exact absurd (hs2.own b (by omega)) (by omega)
 have aA9:∀b∈b3++b2,Θ' b=0:=by
  intro b hb;obtain⟨p1,p2,p3⟩:=kb b hb;rw[Qv b p2 p3];by_cases hlt:b<w.heap.size
  ·rcases p1 hlt with h|h
   ·rw[a22 b ((Oo b).1 h)];simp
   ·rw[bS (SY b (.inr h))]
  ·rw[hzero b (by omega)];simp
 have aA0:∀(i:Nat) x b,L[i]?=some x->b∈x.ns->Θ' b=0:=by
  intro i x b hx hb;have hmem:=DS hx hb;rw[Qv b (ku b hmem).2.1 (RF knd hx hb)];rcases(ku b hmem).1 with h|h
  ·rw[hzero b h];simp
  ·rcases Ng.mem b h with h|⟨m,hm,hρ⟩
   ·rw[bS (SY b (.inr h))]
   ·rw[a22 b (hu1.free b (by omega)).1];simp
 have hn:∀(j:Nat) v,κ j=some v->κ' j=some v:=by
  intro j v hj;have:j<N:=jX fun h=>by rw[hs.rX j (by omega)]at hj;cases hj
  simp only[κ'];rw[bS this];exact hj
 have CD:Names κ' N L:=by
  intro i x hx;simp only[κ'];rw[bH (by omega),eA,hx];rfl
 have a9y:∀b∈L.flatMap Fs.ts,Cz Γ b:=by
  intro b hb;rcases(kt b hb).2 with h|h
  ·exact .inl (cU hs.base h)
  ·obtain⟨m,hm,hΘ⟩:=XB b h;exact hs1.mine b (by omega)
 have k:jY w w' Θ2 Θ' (N+2):=by
  refine⟨by omega,k1,k2,k3,k4,fun b hlt hne=>a8O b hlt (fun e=>hne (SY b (.inl e))) (fun e=>hne (SY b (.inr e))),fun b hlt hne=>?_,fun b hb=>?_⟩
  ·rw[Qv b (fun e=>hne (SY b (.inl e))) (fun e=>?_),bH hne];rcases(kt b e).2 with h|h
   ·omega
   ·exact hne (SY b (.inr h))
  ·by_cases e:b=g
   ·subst e;omega
   ·by_cases ht':b∈L.flatMap Fs.ts
    ·obtain⟨x,T,hx⟩:=(ku b (QU ht')).2.2;exact(bL.1 hx).1
    ·rw[Qv b e ht']at hb;split at hb
     ·exact absurd rfl hb
     ·exact eE (hs2.own b hb) k4
 have hm:∀b,2<=Θ' b->Cz Γ b:=by
  intro b hb;by_cases e:b=g
  ·subst e;exact hs1.mine b (by omega)
  ·by_cases ht':b∈L.flatMap Fs.ts
   ·exact a9y b ht'
   ·rw[Qv b e ht']at hb;split at hb
    ·omega
    ·exact hs2.mine b hb
 have xI:=hs2.qf k hn hu2;have Wx:((kill st.H (ms++qs)).set id (ob.re (oB N cells').1)).length=N:=by simp[iK,N]
 have aAg:∀(a_ bs:af) (H:bX),kill H (a_++bs)=kill (kill H a_) bs:=by
  intro a_
  induction a_ with
  |nil=>intro bs H;rfl
  |cons x a_ ih=>intro bs H;simp only[dS,kill,ih]
 have aCz:(oB N cells').2++(rW (N+(oB N cells').2.length) d).2=L.map Fs.ob:=by simp[L,a1,c1]
 have key:∀(j:Nat) y,((kill st.H (ms++qs)).set id (ob.re (oB N cells').1)++L.map Fs.ob)[j]?=some y->(∃i x,j=N+i/\L[i]?=some x/\y=x.ob)\/(j=id/\y=ob.re (oB N cells').1)\/(j≠id/\j<N/\(y=.gone\/(kill (kill st.H ms) (id::qs))[j]?=some y)):=by
  intro j y hj;by_cases hlt:j<N
  ·rw[b9 (by rw[Wx];exact hlt)]at hj;rcases BW j y hj with⟨rfl,rfl⟩|⟨h1,h2⟩
   ·exact .inr (.inl ⟨rfl,rfl⟩)
   ·refine .inr (.inr ⟨h1,hlt,?_⟩);rcases vA h2 with h|⟨h3,h4⟩
    ·exact .inl h
    ·refine .inr ?_;simp only[au,Ke]at h3;rw[ju (by simp[h1,h3.2]),ju h3.1];exact h4
  ·rw[bE (by omega),Wx,cA]at hj;cases hx:L[j-N]? with
   |none=>simp[hx]at hj
   |some x=>simp[hx]at hj;exact .inl ⟨j-N,x,by omega,hx,hj.symm⟩
 have hs':eO Γ ⟨st.σ,(kill st.H (ms++qs)).set id (ob.re (oB N cells').1)++L.map Fs.ob⟩ κ' Θ' a w':=by
  have VH:∀(j:Nat) y,(kill (kill st.H ms) (id::qs))[j]?=some y->y≠ .gone->∀b,ρ1 b=j+1->ρ' b=j+1:=by
   intro j y hy hyg b aDR;have hjk:j∉id::qs:=by
    rcases vA hy with h|h
    ·exact absurd h hyg
    ·exact h.1
   have hnb:Ck L b=none:=by
    cases hi:Ck L b with
    |none=>rfl
    |some i=>
     exfalso;obtain⟨x,hx,I3⟩:=EM hi;obtain⟨z0,_,aEu,T'',aDL⟩:=hu1.free b (by omega);rcases(ku b (DS hx I3)).1 with h|h
     ·have:=(bL.1 aDL).1;omega
     ·rcases Ng.mem b h with h|⟨m,hm',hρ⟩
      ·obtain⟨m,hm',hΘ⟩:=XB b h;omega
      ·exact hjk (by
        have:j=m:=by omega
        rw[this];simp[hm'])
   simp only[ρ',hnb];exact aDR
  refine hs2.step k hm hn ?_ ?_ ?_ ⟨ρ',?_,?_,?_⟩
  ·intro i hi;simp only[aX,Wx,aa]at hi;simp only[κ'];rw[bH (by omega),ck (by omega)];rfl
  ·intro i u BT;simp only[κ']at BT;split at BT
   ·exact hs.qp i u BT
   ·cases hx:L[i-N]? with
    |none=>simp[hx]at BT
    |some x=>simp[hx]at BT;subst BT;exact(a7W x (aC hx)).2.2.2.2
  ·intro j y hj;rcases key j y hj with⟨i,x,rfl,hx,rfl⟩|⟨rfl,rfl⟩|⟨hji,hjl,hy|hy⟩
   ·obtain⟨q1,q2,q3,q4,_⟩:=a7W x (aC hx);exact .inr (.inr ⟨q1,q2,x.v,x.cs,x.ns,CD i x hx,q3,q4,fun g' hg'=>a4y i x g' hx hg',fun b hb'=>aA0 i x b hx hb'⟩)
   ·refine .inr (.inr (yo.aAx CN aA1 (hn _) ⟨g,cs',T',hn _ _ hk0,kg,aAG,b3,a5 κ' CD.left,fun b hb=>aA9 b (by simp[hb])⟩))
   ·exact .inl hy
   ·exact .inr (.inl ⟨by omega,hy⟩)
  ·intro b hb;cases X0:Ck L b with
   |some i=>
    obtain⟨x,hx,I3⟩:=EM X0;have hmem:=DS hx I3;refine⟨aA0 i x b hx I3,?_,(ku b hmem).2.2⟩;rcases(ku b hmem).1 with h|h
    ·exact .inl (.inl (cU hs.base h))
    ·rcases Ng.mem b h with h|⟨m,hm',hρ⟩
     ·obtain⟨m,hm',hΘ⟩:=XB b h;exact .inl (hs1.mine b (by omega))
     ·exact(hu1.free b (by omega)).2.1
   |none=>
    simp only[ρ',X0]at hb;exact xI.1 b hb
  ·intro j e sz rows hj;rcases key j _ hj with⟨i,x,rfl,hx,hy⟩|⟨rfl,hy⟩|⟨hji,hjl,hy|hy⟩
   ·simp only[Fs.ob,Ob.row.injEq,wF]at hy;obtain⟨rfl,rfl,rfl⟩:=hy;obtain⟨q1,q2,q3,q4,_⟩:=a7W x (aC hx);exact⟨x.v,x.cs,x.ns,CD i x hx,q3,q4,Ve knd hx,fun b hb'=>by simp only[ρ',QT knd hx hb']⟩
   ·cases ob<;>simp[Ob.re]at hy
   ·cases hy
   ·obtain⟨v',c',bs',r1,r2,r3,r4,r5⟩:=xI.2.1 j e sz rows (by omega) hy;exact⟨v',c',bs',r1,r2,r3,r4,fun b hb'=>VH j _ hy (by simp) b (r5 b hb')⟩
  ·intro j y hj;rcases key j _ hj with⟨i,x,rfl,hx,hy⟩|⟨rfl,hy⟩|⟨hji,hjl,hy|hy⟩
   ·subst hy;exact PY.Aq rfl
   ·subst hy;cases ob<;>exact PY.Aq rfl
   ·subst hy;trivial
   ·by_cases hg:y=.gone
    ·subst hg;trivial
    ·exact(xI.2.2 j y (by omega) hy).re (VH j y hy hg)
 rw[aCz]at h;refine hK _ _ (h _ _ _ _ (hs'.set (t:=t) ht (c5 κ' ?_) fun b hb=>aA9 b (by simp[hb])));rw[<-aCP];exact CD.right
def a62(P:Program)(f:FuncId)(ds cells:aR):Prop:=
 (∃fn,P.funcs[f]?=some fn/\fn.body.isSome=true/\(fn.name== "runtime.NumGoroutine")=false)/\
 ∀(w:World) (Θ:Nat->Nat) (args:br) (bs:af),TB w (fun _=>False)->Y8 w args ds bs->(∀b∈bs,Θ b=0)->(∀b,Θ b≠0->b<w.heap.size)->(∀b,Θ b<=1)->
  Calls P f args.toArray w (fun e w'=>∃g cs T bs',e=.returned (.pointer (some ⟨g,0,none⟩))/\Below w.heap.size w w'/\w.heap.size<=g/\w'.heap[g]?=some (.cells cs T (0,0))/\mZ w' cs.toList cells bs'/\
   ∀b∈bs',(b<w.heap.size->Θ b=0)/\b≠g)
def aC8(P:Program)(fn:Func)(cells:aR)(e:Exit)(st:St):Prop:=
 (e=.ret\/e=.normal)/\∃j,FI P st fn.results.toList=some [.ptr j 0]/\st.H[j]?=some (.box cells)/\cells.all D.UW=true
theorem a10{o:Oper}{f t:Nat}{xs:Array Operand}{ts:Array TypeId}{ds cells:aR}(hop:o.op=.call {callee:=.value (.func f),args:=xs,argTypes:=ts})(hd:o.dst=some t)(hg:o.guard=none)
 (ht:t<Γ.nt) (hds:MM st.H (xs.toList.map st.ev)=some (ds,[])) (pX:a62 P f ds cells)
 (h:AO P Γ all rest Q ⟨(t,.ptr st.H.length 0)::st.σ,st.H++[.box cells]⟩):AO P Γ all (o::rest) Q st:=by
 intro κ Θ a w hs;obtain⟨bs,hargs,hz⟩:=QD hs hds;have Ab:∀b∈bs,Θ b=0:=fun b hb=>(hz b hb).elim id (fun⟨m,h1,_⟩=>by cases h1)
 let Θc:Nat->Nat:=fun b=>if Θ b=0 then 0 else 1
 have Oo:∀b,Θc b=0↔Θ b=0:=fun b=>by simp only[Θc];split<;>simp_all
 have hc:=pX.2 w Θc _ bs hs.vok hargs (fun b hb=>(Oo b).2 (Ab b hb)) (fun b hb=>hs.own b (fun e=>hb ((Oo b).2 e))) (fun b=>by simp only[Θc];split<;>omega);refine wpList_plain hg fun K hK=>?_
 unfold Oper.wp;rw[AV hop pX.1,Oper.upon_enter];have e:xs.map a.eval=(xs.toList.map a.eval).toArray:=by rw[<-jI,kj]
 rw[e];refine hc.mono ?_;rintro e w' ⟨g,cs,T,bs',rfl,hb,hge,hg',hrd,hbb⟩;show K (a.put o.dst (.pointer (some ⟨g,0,none⟩))) w';rw[hd];let Θ':Nat->Nat:=fun b=>if b=g then st.H.length+2 else Θ b
 have k:jY w w' Θ Θ' (st.H.length+2):=by
  refine⟨by omega,hb.os,hb.tape,hb.output,hb.size,fun b hlt _=>hb.block b hlt,fun b hlt _=>?_,fun b hb'=>?_⟩
  ·simp only[Θ'];rw[bH (by omega)]
  ·simp only[Θ']at hb';split at hb'
   ·rename_i e;subst e;exact(bL.1 hg').1
   ·exact eE (hs.own b hb') hb.size
 have hbz:∀b∈bs',Θ' b=0:=by
  intro b hb';obtain⟨h1,h2⟩:=hbb b hb';simp only[Θ'];rw[bH h2];by_cases hlt:b<w.heap.size
  ·exact(Oo b).1 (h1 hlt)
  ·cases h:Θ b with
   |zero=>rfl
   |succ m=>exact absurd (hs.own b (by omega)) hlt
 have hs':=hs.push (o:=.box cells) (v:=.pointer (some ⟨g,0,none⟩)) rfl k (hs.Bc (fun b hb'=>by
  simp only[Θ']at hb';split at hb'
  ·rename_i e;subst e;exact .inr hge
  ·exact .inl hb')) ⟨g,cs,T,mF _ _ _,hg',by simp[Θ'],bs',fP.FH hrd,hbz⟩ rfl
 refine hK _ _ (h _ _ _ _ (hs'.set (t:=t) (d:=.ptr st.H.length 0) (bs:=[]) ht ?_ (by simp)));exact(Ba.ptr st.H.length 0 g (mF _ _ _)).UI
theorem a4N{o:Oper}{T t id e e' sz h:Nat}{kk:IntKind}{x hi:Operand}{rows:List aR}(hop:o.op=.slice T x none (some hi) none)(hd:o.dst=some t)(hg:o.guard=none)(ht:t<Γ.nt)
 (hT:Ia P T=some (e',sz)) (hx:st.ev x=.acc id) (hH:st.H[id]?=some (.row .uq e sz rows)) (hhi:st.ev hi=.int kk (h:Int)) (hle:h<=rows.length)
 (hn:AO P Γ all rest Q ⟨(t,.acc st.H.length)::st.σ,kill st.H [id]++[.row .uq e sz (rows.take h)]⟩):AO P Γ all (o::rest) Q st:=by
 intro κ Θ a w hs;obtain⟨hsz,hrl,v,cs0,bs0,hk,a6I,aFW,I5,Ab⟩:=hs.ob id _ hH;obtain⟨ρ,hu⟩:=hs.wq;obtain⟨v2,cs,bs,hk2,hown,hrd,hnd,hρ⟩:=hu.rows id e sz rows hH;rw[hk]at hk2;cases hk2;obtain⟨bx,rx,_⟩:=hs.ev x;rw[hx]at rx;obtain⟨hkx,_⟩:=rx.xy;have Yd:a.eval x=v:=by rw[hk]at hkx;cases hkx;rfl
 let v':Value:=match v with| .slice q _ cap=>.slice q h cap|u=>u
 have hc:Ps rows.length ((none:Option Operand).map st.ev) ((some hi).map st.ev)=some (0,h):=by
  simp[Ps,hhi,hle]
 have hrun:∃q cap,v=.slice q rows.length cap/\v'=.slice q h cap/\(execOp a.eval o).run P w=.ok (.value v') w:=by
  obtain⟨BT,Ol,Nh⟩:=qJ hT;have main:∀(q:Option Addr) (cap:Nat),(∀b off sp,q=some ⟨b,off,sp⟩->off=0/\sp=none)->v=.slice q rows.length cap->rows.length<=cap->(execOp a.eval o).run P w=.ok (.value (.slice q h cap)) w:=by
   intro q cap hq0 hq hcap;obtain⟨hr,hl,hh⟩:=U1 (P:=P) (isSlice:=true) (cap:=cap) hs hcap hc;have aF7:(if cap=0 then q else q.map (·.add (0*sz)))=q:=by
    split
    ·rfl
    ·cases q with
     |none=>rfl
     |some ad=>simp[Addr.add]
   simp only[Ag,cc]at hr;simp only[execOp,hop,Yd,hq];simp[Instr.sliceAt,Instr.slice,run_underlying BT,hr,xu (P:=P) Ol w];intro hc0;cases q with
   |none=>rfl
   |some ad=>simp[Addr.add]
  rcases hown.2 with⟨rfl,h0⟩|⟨g,cap,cur,rfl,_,TS,hnc,hcm,hcs,htk⟩
  ·exact⟨none,0,by rw[h0],rfl,main none 0 (by simp) (by rw[h0]) (by omega)⟩
  ·exact⟨some ⟨g,0,none⟩,cap,rfl,rfl,main _ _ (by simp) rfl hnc⟩
 obtain⟨q,cap,hvq,a4x,hrun⟩:=hrun;have CN:v'.ownBlock=v.ownBlock:=by rw[a4x,hvq];cases q<;>rfl
 have hone:v'.oneCell'=true:=by
  have:=hs.qp id v hk;rw[hvq]at this;rw[a4x];exact this
 have hsplit:∃cs' bs',w.ownsRow 0 e sz v' (rows.take h).length cs'/\mZ w cs' (rows.take h).flatten bs'/\bs'.Nodup/\∀b∈bs',b∈bs:=by
  have e1:rows.flatten=(rows.take h).flatten++(rows.drop h).flatten:=by rw[<-mI,cD]
  have Qt:=hrd;rw[e1]at Qt;obtain⟨c1,c2,b1,b2,rfl,rfl,k1,k2⟩:=Qt.split;have htl:(rows.take h).length=h:=by rw[cM];omega
  have hc1:c1.length=h*sz:=by rw[k1.length,pW (fun r hr=>hrl r (cH hr)),htl]
  refine⟨c1,b1,?_,k1,(bO.1 hnd).1,fun b hb=>by simp[hb]⟩;rw[htl];refine⟨hc1,?_⟩;rcases hown.2 with⟨hv0,h0⟩|⟨g,cap',cur,hvs,hbg,TS,hnc,hcm,hcs,htk⟩
  ·left
   have:h=0:=by omega
   subst this;have e3:=hv0.symm.trans hvq;simp only[Value.slice.injEq]at e3;exact⟨by rw[a4x,<-e3.1,<-e3.2.2],rfl⟩
  ·right
   have e3:=hvs.symm.trans hvq;simp only[Value.slice.injEq]at e3;refine⟨g,cap',cur,by rw[a4x,<-e3.1,<-e3.2.2],hbg,TS,by omega,hcm,hcs,?_⟩;have h3:(cur.toList.take (rows.length*sz)).take (h*sz)=(c1++c2).take (h*sz):=by rw[htk]
   rw[wD,fE (dZ _ hle)]at h3;rw[h3];exact jF hc1
 obtain⟨cs',bs',p1,p2,p3,p4⟩:=hsplit;refine wpList_plain hg fun K hK=>?_
 unfold Oper.wp;rw[hrun,Oper.upon_value,hd];let n:=st.H.length
 have Zn:id<n:=(aH.1 hH).1;let Θ':Nat->Nat:=fun b=>if some b=v'.ownBlock then n+2 else Θ b
 let ρ':Nat->Nat:=fun b=>if ρ b=id+1 then n+1 else ρ b
 have hvt:∀g,v'.ownBlock=some g->Θ g=id+2:=fun g Zm=>I5 g (CN▸Zm)
 have k:jY w w Θ Θ' (id+2):=by
  refine⟨by omega,rfl,rfl,rfl,bR _,fun _ _ _=>rfl,fun b hb hne=>?_,fun b hb=>?_⟩
  ·simp only[Θ'];rw[bH fun e=>hne (hvt b e.symm)]
  ·simp only[Θ']at hb;split at hb
   ·rename_i e;exact hs.own b (by rw[hvt b e.symm];omega)
   ·exact hs.own b hb
 have hm:∀b,2<=Θ' b->Cz Γ b:=by
  intro b hb;simp only[Θ']at hb;split at hb
  ·rename_i e;exact hs.mine b (by rw[hvt b e.symm];omega)
  ·exact hs.mine b hb
 have hnn:=zx (hs.rX n (bR _)) (some v');have xI:=hs.qf k hnn hu;have Rk:∀b∈bs',Θ' b=0:=by
  intro b hb;have h1:=(hu.free b (by rw[hρ b (p4 b hb)];omega)).1;simp only[Θ'];rw[bH fun e=>by have:=hvt b e.symm;omega];exact h1
 have key:∀(j:Nat) y,(kill st.H [id]++[.row .uq e sz (rows.take h)])[j]?=some y->(j=n/\y=.row .uq e sz (rows.take h))\/(j≠n/\(y=.gone\/(j∉[id]/\st.H[j]?=some y))):=by
  intro j y hj;rcases E5 j y hj with⟨h1,h2⟩|⟨h1,h2⟩
  ·rw[iK]at h1;exact .inl ⟨h1,h2⟩
  ·rw[iK]at h1;exact .inr ⟨h1,vA h2⟩
 have hs':eO Γ ⟨st.σ,kill st.H [id]++[.row .uq e sz (rows.take h)]⟩ (Ad κ n (some v')) Θ' a w:=by
  refine hs.step k hm hnn ?_ ?_ ?_ ⟨ρ',fun b hb=>?_,fun j e2 Xf fo hj=>?_,fun j y hj=>?_⟩
  ·intro i hi;simp only[aX,aK,bK,iK]at hi;unfold Ad;rw[bH (by omega)];exact hs.rX i (by omega)
  ·intro i y hy;unfold Ad at hy;split at hy
   ·cases hy;exact hone
   ·exact hs.qp i y hy
  ·intro j y hj;rcases key j y hj with⟨rfl,rfl⟩|⟨_,hy|⟨hjk,hy⟩⟩
   ·exact .inr (.inr ⟨hsz,fun r hr=>hrl r (cH hr),v',cs',bs',mF _ _ _,p1,p2,fun g Zm=>by simp only[Θ'];rw[bS Zm.symm],Rk⟩)
   ·exact .inl hy
   ·exact .inr (.inl ⟨fun e=>hjk (by simp;omega),hy⟩)
  ·refine xI.1 b fun h0=>hb ?_
   simp only[ρ'];rw[bH (by omega)];exact h0
  ·rcases key j _ hj with⟨rfl,hy⟩|⟨_,hy|⟨hjk,hy⟩⟩
   ·simp only[Ob.row.injEq,wF]at hy;obtain⟨rfl,rfl,rfl⟩:=hy;exact⟨v',cs',bs',mF _ _ _,p1,p2,p3,fun b hb=>by simp only[ρ'];rw[bS (hρ b (p4 b hb))]⟩
   ·cases hy
   ·obtain⟨v3,c3,b3,q1,q2,q3,q4,q5⟩:=xI.2.1 j e2 Xf fo (fun e=>hjk (by simp;omega)) hy;refine⟨v3,c3,b3,q1,q2,q3,q4,fun b hb=>?_⟩;have hne:j≠id:=fun e=>hjk (by simp[e])
    simp only[ρ'];rw[bH (by rw[q5 b hb];omega)];exact q5 b hb
  ·rcases key j _ hj with⟨rfl,hy⟩|⟨_,hy|⟨hjk,hy⟩⟩
   ·subst hy;exact PY.Aq rfl
   ·subst hy;trivial
   ·refine(xI.2.2 j y (fun e=>hjk (by simp;omega)) hy).re fun b hb=>?_
    have hne:j≠id:=fun e=>hjk (by simp[e])
    simp only[ρ'];rw[bH (by omega)];exact hb
 refine hK _ _ (hn _ _ _ _ (hs'.set (t:=t) (d:=.acc n) (bs:=[]) ht ?_ (by simp)));exact(Ba.acc n _ (mF _ _ _)).UI
end
section
variable{P:Program}{Γ:w5}{Q:Exit->St->Prop}{st:St}{κ κ':Nat->Option Value}{Θ Θ':Nat->Nat}{a:Act}{w w':World}{all:Array Oper}{rest:List Oper}
theorem eO.a8V(hs:eO Γ st κ Θ a w):
 eO Γ ⟨st.σ,st.H++[.mp []]⟩ (Ad κ st.H.length (some (.map (some w.heap.size)))) (fun b=>if b=w.heap.size then st.H.length+2 else Θ b) a (w.alloc (.map #[] 0)):=by
 have k:=jY.alloc hs (.map #[] 0) (tag:=st.H.length+2) (by omega);refine hs.push rfl k (hs.Bc (fun b hb=>by by_cases e:b=w.heap.size<;>simp_all)) ?_ rfl;exact⟨w.heap.size,#[],0,by simp[Ad],heap_alloc_new w _,by simp,rfl,by simp⟩
theorem WT{o:Oper}{T t:Nat}(hop:o.op=.makeMap T none)(hd:o.dst=some t)(hg:o.guard=none)(ht:t<Γ.nt)
 (h:AO P Γ all rest Q ⟨(t,.acc st.H.length)::st.σ,st.H++[.mp []]⟩):AO P Γ all (o::rest) Q st:=by
 intro κ Θ a w hs;have hs':=hs.a8V;refine wpList_plain hg fun K hK=>?_
 unfold Oper.wp;have hrun:(execOp a.eval o).run P w=.ok (.value (.map (some w.heap.size))) (w.alloc (.map #[] 0)):=by
  simp[execOp,hop,Instr.makeMap,newObj];rfl
 rw[hrun,Oper.upon_value,hd];refine hK _ _ (h _ _ _ _ (hs'.set (t:=t) (d:=.acc st.H.length) (bs:=[]) ht ?_ (by simp)));exact(Ba.acc st.H.length _ (mF _ _ _)).UI
theorem Az.push{es:List MapEntry}{kv:List (D×D)}{k v:D}{u x:Value}(h:Az w es kv)(hk:Rd w u k [])(hv:Rd w x v [])(c:Nat):Az w (es++[{key:=u,val:=x,born:=c}]) (kv++[(k,v)]):=by
 refine⟨by simp[h.1],fun j e p h1 h2=>?_⟩;by_cases hj:j<es.length
 ·rw[b9 hj]at h1;rw[b9 (by rw[<-h.1];exact hj)]at h2;exact h.2 j e p h1 h2
 ·rw[bE (by omega)]at h1;rw[bE (by rw[<-h.1];omega),<-h.1]at h2;have e0:j-es.length=0:=by
   have:=(aH.1 h1).1;simp at this;omega
  rw[e0]at h1 h2;simp at h1 h2;subst h1;subst h2;exact⟨hk,hv⟩
theorem Az.put{es:List MapEntry}{kv:List (D×D)}{k v:D}{u x:Value}(h:Az w es kv)(hk:Rd w u k [])(hv:Rd w x v [])(i:Nat){es':List MapEntry}(hl:es'.length=es.length)
 (he:∀(j:Nat) e,es'[j]?=some e->(j=i/\e.key=u/\e.val=x)\/(j≠i/\es[j]?=some e)):Az w es' (kv.set i (k,v)):=by
 refine⟨by simp[hl,h.1],fun j e p h1 h2=>?_⟩;rcases he j e h1 with⟨rfl,h3,h4⟩|⟨hne,h3⟩
 ·have hlt:j<kv.length:=by
   have:=(aH.1 h2).1;simpa using this
  rw[dX hlt]at h2;cases h2;rw[h3,h4];exact⟨hk,hv⟩
 ·rw[cG (uA hne)]at h2;exact h.2 j e p h3 h2
theorem a8Q{kd:TypeDesc}{k v:D}{u:Value}(Ry:M9 kd k=true)(hu:Rd w u k []):∀ {es:List MapEntry} {kv kv':List (D×D)} (i:Nat),Az w es kv->Nl k v kv=some kv'->
 (Instr.findNow kd u es i=some none/\kv'=kv++[(k,v)])\/∃j x e,Instr.findNow kd u es i=some (some (i+j,x))/\es[j]?=some e/\e.key=u/\kv'=kv.set j (k,v):=by
 intro es
 induction es with
 |nil=>
  intro kv kv' i hr h;cases kv with
  |nil=>cases h;exact .inl ⟨rfl,rfl⟩
  |cons p kv=>exact absurd hr.1 (by simp)
 |cons e es ih=>
  intro kv kv' i hr h;cases kv with
  |nil=>exact absurd hr.1 (by simp)
  |cons p kv=>
   obtain⟨r1,r2,r3⟩:=hr.cons;simp only[Nl]at h;split at h
   ·rename_i hq;cases h;have:=Q8 Ry hu r1 hq;exact .inr ⟨0,e.val,e,by simp[Instr.findNow,this.1],rfl,this.2 rfl,rfl⟩
   ·rename_i hq;have Rz:=(Q8 Ry hu r1 hq).1;cases hk:Nl k v kv with
    |none=>rw[hk]at h;cases h
    |some kv1=>
     rw[hk]at h;cases h;rcases ih (i+1) r3 hk with⟨h1,h2⟩|⟨j,x,e',h1,h2,h3,h4⟩
     ·exact .inl ⟨by simpa[Instr.findNow,Rz]using h1,by rw[h2];rfl⟩
     ·exact .inr ⟨j+1,x,e',by simp only[Instr.findNow,Rz];rw[h1];congr 3;omega,by simpa using h2,h3,by rw[h4];rfl⟩
   ·cases h
theorem U8{kd:TypeDesc}{u:Value}(h:MapKept.IsKey kd u)(n:Nat):Instr.sameBits n u u=true:=by
 cases kd<;>cases u<;>simp[MapKept.IsKey]at h<;>simp[Instr.sameBits]
 all_goals first
  |exact(MapKept.bytes_beq _ _).2 rfl
  |rfl
def D.scalar:D->Bool
 | .str _=>true
 | .int _ _=>true
 | .bool _=>true
 |_=>false
theorem Vo{v:Value}{d:D}{bs:af}(hd:d.scalar=true)(hu:uB w κ v d bs):Rd w v d []:=by
 cases d<;>simp[D.scalar]at hd
 all_goals cases hu with|v h=>cases h with|cell h=>cases h with|pure h=>cases h<;>(constructor<;>assumption)
theorem T6{o:Oper}{T id:Nat}{x i y:Operand}{kd:TypeDesc}{dz:D}{kv kv':List (D×D)}(hop:o.op=.mapUpdate T x i y)(hd:o.dst=none)(hg:o.guard=none)
 (hT:a0T P T=some (kd,dz)) (hx:st.ev x=.acc id) (hH:st.H[id]?=some (.mp kv)) (Ry:M9 kd (st.ev i)=true) (hsc:(st.ev y).scalar=true) (hput:Nl (st.ev i) (st.ev y) kv=some kv')
 (h:AO P Γ all rest Q ⟨st.σ,st.H.set id (.mp kv')⟩):AO P Γ all (o::rest) Q st:=by
 intro κ Θ a w hs;obtain⟨g,es,c,q1,q2,q3,q4⟩:=hs.ob id _ hH;obtain⟨bs,r,_⟩:=hs.ev x;rw[hx]at r;obtain⟨hk,_⟩:=r.xy;rw[q1]at hk;have hxv:a.eval x=.map (some g):=(qw hk).symm;obtain⟨bi,ri,_⟩:=hs.ev i;obtain⟨by',ry,_⟩:=hs.ev y;have hu:=Sc Ry ri;have hv:=Vo hsc ry;obtain⟨kt,et,z,t1,t2,t3,t4⟩:=Re hT;have hik:=VO Ry hu;have hck:=MapKept.run_checkKey (P:=P) (w:=w) t2 hik false 9999;have aCl:g<w.heap.size:=(bL.1 q2).1;have Zn:id<st.H.length:=(aH.1 hH).1;have hrun:∃es' c',(execOp a.eval o).run P w=.ok .skip {w with heap:=w.heap.setIfInBounds g (.map es' c')}/\Az w es'.toList kv':=by
  rcases a8Q Ry hu 0 q4 hput with⟨hn,rfl⟩|⟨j,x',e,hn,he,hek,rfl⟩
  ·have hfk:=MapKept.run_findKey (P:=P) (w:=w) t2 hn;refine⟨es.push {key:=a.eval i,val:=a.eval y,born:=c},c+1,?_,?_⟩
   ·simp[execOp,hop,hxv,Instr.mapUpdate,run_underlying t1,MapKept.run_getObj_map q2,hck,hfk,MapKept.run_setObj_map _ q2]
   ·rw[Array.toList_push];exact q4.push hu hv c
  ·rw[cr]at hn;have hfk:=MapKept.run_findKey (P:=P) (w:=w) t2 hn;have hej:es[j]?=some e:=by simpa using he
   have hst:(Instr.keyThatStays (((es[j]?).map (·.key)).getD (a.eval i)) (a.eval i)).run P w=.ok (a.eval i) w:=by
    rw[hej];simp[Instr.keyThatStays,hek,U8 hik]
   refine⟨es.modify j fun e=> {e with key:=a.eval i,val:=a.eval y},c,?_,?_⟩
   ·simp[execOp,hop,hxv,Instr.mapUpdate,run_underlying t1,MapKept.run_getObj_map q2,hck,hfk,hst,MapKept.run_setObj_map _ q2]
   ·refine q4.put hu hv j (by simp) fun m e' hm=>?_
    rw[vY,zF]at hm;by_cases hmj:j=m
    ·subst hmj;rw[bS rfl,hej]at hm;cases hm;exact .inl ⟨rfl,rfl,rfl⟩
    ·rw[bH hmj]at hm;exact .inr ⟨uA hmj,by simpa using hm⟩
 obtain⟨es',c',hr,aD7⟩:=hrun;have a7m:∀b,b≠g->(w.heap.setIfInBounds g (.map es' c'))[b]?=w.heap[b]?:=fun b hb=>by simp[uA hb]
 have k:jY w {w with heap:=w.heap.setIfInBounds g (.map es' c')} Θ Θ (id+2):=by
  refine⟨by omega,rfl,rfl,rfl,by simp,fun b hb hne=>a7m b fun e=>hne (e▸q3),fun _ _ _=>rfl,fun b hb=>?_⟩;simpa using hs.own b hb
 have hs':eO Γ ⟨st.σ,st.H.set id (.mp kv')⟩ κ Θ a {w with heap:=w.heap.setIfInBounds g (.map es' c')}:=by
  obtain⟨ρ,BT⟩:=hs.wq;have xI:=hs.qf k (fun _ _ h=>h) BT;refine hs.step k hs.mine (fun _ _ h=>h) (fun i hi=>hs.rX i (by simpa using hi)) hs.qp ?_ ⟨ρ,xI.1,fun j e sz rows hj=>?_,fun j y hj=>?_⟩
  ·intro j y' hj;by_cases e:j=id
   ·subst e;rw[dX Zn]at hj;cases hj;exact .inr (.inr ⟨g,es',c',q1,by simp[aCl],q3,aD7.stay⟩)
   ·rw[cG (uA e)]at hj;exact .inr (.inl ⟨by omega,hj⟩)
  ·by_cases e':j=id
   ·subst e';rw[dX Zn]at hj;cases hj
   ·rw[cG (uA e')]at hj;exact xI.2.1 j e sz rows (by omega) hj
  ·by_cases e':j=id
   ·subst e';rw[dX Zn]at hj;cases hj;trivial
   ·rw[cG (uA e')]at hj;exact xI.2.2 j y (by omega) hj
 refine wpList_plain hg fun K hK=>?_
 unfold Oper.wp;rw[hr,Oper.upon_skip,hd];exact hK _ _ (h _ _ _ _ hs')
end
def UZ(P:Program)(f:FuncId)(e:TypeId)(sz:Nat)(rows dQ:List aR):Prop:=
 (∃fn,P.funcs[f]?=some fn/\fn.body.isSome=true/\(fn.name== "runtime.NumGoroutine")=false)/\
 ∀(w:World) (v:Value) (cs:br),0<sz->(∀r∈rows,r.length=sz)->w.ownsRow 0 e sz v rows.length cs->mZ w cs rows.flatten []->
  Calls P f #[v] w (fun x w'=>x=.returned (.tuple #[])/\w'.os=w.os/\w'.tape=w.tape/\w'.output=w.output/\w.heap.size<=w'.heap.size/\
   (∀b,b<w.heap.size->v.ownBlock≠some b->w'.heap[b]?=w.heap[b]?)/\(∀r∈dQ,r.length=sz)/\∃cs',w'.ownsRow 0 e sz v dQ.length cs'/\mZ w' cs' dQ.flatten [])
section
variable{P:Program}{Γ:w5}{Q:Exit->St->Prop}{st:St}{κ:Nat->Option Value}{Θ:Nat->Nat}{a:Act}{w:World}{all:Array Oper}{rest:List Oper}
theorem a0z{o:Oper}{f id e sz:Nat}{x:Operand}{ts:Array TypeId}{k0:RK}{rows dQ:List aR}(hop:o.op=.call {callee:=.value (.func f),args:= #[x],argTypes:=ts})(hd:∀t,o.dst=some t->t<Γ.nt)(hg:o.guard=none)
 (hx:st.ev x=.acc id) (hH:st.H[id]?=some (.row k0 e sz rows)) (hk0:k0.hand=true) (hfl:rows.flatten.all D.flat=true) (pX:UZ P f e sz rows dQ)
 (h:AO P Γ all rest Q (St.put ⟨st.σ,st.H.set id (.row k0 e sz dQ)⟩ o.dst (.gZ []))):AO P Γ all (o::rest) Q st:=by
 intro κ Θ a w hs;obtain⟨b1,r1,_⟩:=hs.ev x;rw[hx]at r1;obtain⟨hkv,_⟩:=r1.xy;obtain⟨hsz,hrl,v,cs,bs,hk1,hown,hrd,I5,hz⟩:=hs.ob id _ hH;rw[hkv]at hk1;cases hk1;have I2:=hrd.flat hfl;subst I2;obtain⟨ρ,hu⟩:=hs.wq;refine wpList_plain hg fun K hK=>?_
 unfold Oper.wp;rw[AV hop pX.1,Oper.upon_enter];have e1:(#[x]:Array Operand).map a.eval= #[a.eval x]:=by simp
 rw[e1];refine(pX.2 w _ cs hsz hrl hown hrd).mono ?_;rintro e' w' ⟨rfl,k1,k2,k3,k4,k5,Po,cs',Nd,Qt⟩;have kk:jY w w' Θ Θ (id+2):=⟨by omega,k1,k2,k3,k4,fun b hb ht=>k5 b hb fun e=>ht (I5 b e),fun _ _ _=>rfl,fun b hb=>eE (hs.own b hb) k4⟩
 have hs':eO Γ ⟨st.σ,st.H.set id (.row k0 e sz dQ)⟩ κ Θ a w':=by
  refine hs.put [] BW (fun _ _ h=>h) (fun i hi=>hs.rX i (by simpa using hi)) hs.qp kk hs.mine ?_ hu (by simp) ?_ ?_
  ·refine⟨hsz,Po,_,cs',[],hkv,Nd,Qt,I5,?_⟩;cases k0 with
   |cl=>simp[RK.hand]at hk0
   |mv n=>simp[RK.hand]at hk0
   |sh=>simp
   |uq=>simp
  ·intro e2 Xf fo he;cases he;exact⟨_,cs',[],hkv,Nd,Qt,by simp,by simp⟩
  ·cases k0 with
   |mv n=>simp[RK.hand]at hk0
   |_=>rfl
 show K (a.put o.dst (.tuple #[])) w';refine hK _ _ (h κ Θ _ w' ?_);cases TQ:o.dst with
 |none=>exact hs'
 |some t=>exact hs'.set (hd t TQ) (.gZ [] [] [] .nil) (by simp)
end
inductive An where
 |b (v:Bool)
 |row (r:aR)
 |ix (i:Nat)
 |ch (x:UInt8)
 |cut (l h:Nat)
 |d (x:D)
 |fl (v:Bool)
 |n (k:Nat)
 |n2 (π ρ:af) (k m:Nat) (L X:af)
 |sk (id:Nat)
 |Pt (t:Nat)
 |pb (id off e sz:Nat)
 |vw (t:Nat)
 |cn (K o:af)
 |hl (m:Nat) (K o:af)
 |mu (id:Nat) (rows:List aR)
 |dc (x:D)
 |gv (ms:af) (outs:List Rw) (d:D)
 |mg (id i off:Nat) (r:aR)
 |ov (id:Nat) (rows:List aR)
 |kv (m:List (D×D))
 |gp (nz:List (List (Option (Nat×Nat)))) (cells:aR) (d:D)
 |dn (cells:aR)
 |fz
 |nl (x:D)
 |ds (x:D)
 |mz (id:Nat)
 |tk (r:aR)
abbrev EJ:=List Prop
def zc:EJ->Prop
 | []=>True
 |p::ps=>p/\zc ps
theorem zc.app{p q:EJ}(h:zc (p++q)):zc p/\zc q:=by
 induction p with
 |nil=>exact⟨trivial,h⟩
 |cons x p ih=>exact⟨⟨h.1,(ih h.2).1⟩,(ih h.2).2⟩
def KC(P:Program)(st:St)(op:Op)(A:List An):Option (D×List An×EJ):=match op with
 | .indexAddr t x i=>(match Ia P t,st.ev x,st.ev i,A with
  |some (_,sz),.sl rows,.int _ n,.row r::A=>some (.ep r 0,A,[0<=n/\rows[n.toNat]?=some r/\r.length=sz])
  |some (_,sz),.acc id,.int _ n,.ix k::A=>(match st.H[id]? with|some (.row _ _ sz' rows)=>some (.op id k sz 0,A,[sz=sz'/\n=(k:Int)/\k<rows.length])|_=>none)
  |_,.val (.pointer (some ⟨g,o,none⟩)),.int _ n,.ix k::A=>(match a92 P t with|some (sz,len)=>some (.val (.pointer (some ⟨g,o+k*sz,none⟩)),A,[n=(k:Int)/\k<len])|none=>none)
  |_,_,_,_=>none)
 | .index t x i=>(match P5 P t,st.ev x,st.ev i,A with
  |true,.str s,.int _ n,.ch c::A=>some (.int .u8 c.toNat,A,[0<=n/\s[n.toNat]?=some c])
  |_,_,_,_=>none)
 | .load t x=>(match st.ev x with
  | .op id i sz off=>(match CL P t,st.H[id]?,A with
   |some ag,some (.row k _ sz' rows),.row r::A=>(match KT ag (Be P t) r off with
    |some d=>some (d,A,[sz'=sz/\k.Tt=true/\rows[i]?=some r/\off+(bif ag then Be P t else 1)<=sz])
    |none=>none)
   |_,_,_=>none)
  | .val (.pointer (some ⟨g,o,none⟩))=>(match CL P t,A with
   |some false,.d d::A=>some (d,A,[ZA g o=some d])
   |_,_=>none)
  |_=>(match pv P st op with|some d=>some (d,A,[])|none=>none))
 | .slice t x lo hi none=>(match st.ev x,A with
  | .str s,.cut l h::A=>(match P5 P t with
   |true=>some (.str ((s.take h).drop l),A,[Ps s.length (lo.map st.ev) (hi.map st.ev)=some (l,h)])
   |false=>none)
  | .sl rows,.cut l h::A=>(match Ia P t with
   |some (_,sz)=>some (.sl ((rows.take h).drop l),A,[Ps rows.length (lo.map st.ev) (hi.map st.ev)=some (l,h)/\(rows.all fun r=>r.length==sz)=true])
   |none=>none)
  |_,_=>none)
 | .binOp op' t x y t'=>(match op',st.ev x,st.ev y with
  | .add,.str a,.str b=>some (.str (a++b),A,[a.length+b.length<=maxLen])
  | .quo,.int k a,.int k' b=>some (.int k (a/b),A,[k=k'/\0<=a/\0<b])
  | .rem,.int k a,.int k' b=>some (.int k (a%b),A,[k=k'/\0<=a/\0<b])
  |_,_,_=>(match pv P st op with|some d=>some (d,A,[])|none=>none))
 | .lookup T x i ok=>(match st.ev x,A with
  | .acc id,.d d::A=>(match st.H[id]? with
   |some (.mp kv)=>some (d,A,[plk P T kv (st.ev i) ok=some d])
   |_=>none)
  |_,_=>none)
 | .pick c a b=>(match st.ev c,A with
  | .bool t,.b v::A=>(match v with|true=>some (st.ev a,A,[t=true])|false=>some (st.ev b,A,[t=false]))
  |_,_=>none)
 |_=>(match pv P st op with|some d=>some (d,A,[])|none=>none)
theorem Z8{P:Program}{st:St}{op:Op}{A A':List An}{d:D}{p:EJ}(h:KC P st op A=some (d,A',p))(hp:zc p):pv P st op=some d:=by
 have plain:∀ {op},(match pv P st op with|some d=>some (d,A,([]:EJ))|none=>none)=some (d,A',p)->pv P st op=some d:=by
  intro op h;split at h
  ·cases h;assumption
  ·cases h
 unfold KC at h;split at h
 ·rename_i t x i;split at h
  ·rename_i e sz rows kk n r A1 h1 h2 h3;cases h;obtain⟨⟨q1,q2,q3⟩,_⟩:=hp;simp only[pv,h1,h2,h3,q1,q2,sN,q3]
  ·rename_i e sz id kk n k A1 h1 h2 h3;split at h
   ·rename_i k' e' sz' rows hH;cases h;obtain⟨⟨rfl,rfl,q3⟩,_⟩:=hp;simp[pv,h1,h2,h3,hH,q3]
   ·cases h
  ·rename_i g o' kk n k A1 h2 h3;split at h
   ·rename_i sz len hT;cases h;obtain⟨⟨rfl,q3⟩,_⟩:=hp;simp[pv,h2,h3,hT,q3]
   ·cases h
  ·cases h
 ·rename_i t x i;split at h
  ·rename_i s kk n c A1 h1 h2 h3;cases h;obtain⟨⟨q1,q2⟩,_⟩:=hp;simp only[pv,h1,h2,h3,q1,q2,sN]
  ·cases h
 ·rename_i t x;split at h
  ·rename_i id i sz off h1;split at h
   ·rename_i ag k e sz' rows r A1 h2 h3;split at h
    ·rename_i d' hd;cases h;obtain⟨⟨rfl,q2,q3,q4⟩,_⟩:=hp;simp only[pv,h2,h1,h3,q3,q2,q4,wF,and_self,sN,hd]
    ·cases h
   ·cases h
  ·rename_i g o' h1;split at h
   ·rename_i d' A1 h2;cases h;simp only[pv,h2,h1];exact hp.1
   ·cases h
  ·exact plain h
 ·rename_i t x lo hi;split at h
  ·rename_i s l hh A1 h1;split at h
   ·rename_i h2;cases h;obtain⟨q1,_⟩:=hp;simp only[pv,h1,h2,q1,sN]
   ·cases h
  ·rename_i rows l hh A1 h1;split at h
   ·rename_i e sz h2;cases h;obtain⟨⟨q1,q2⟩,_⟩:=hp;simp only[pv,h1,h2,q1,q2,sN]
   ·cases h
  ·cases h
 ·rename_i op' t x y t';split at h
  ·rename_i a b h1 h2;cases h;obtain⟨q1,_⟩:=hp;simp only[pv,h1,h2,a0B,q1,sN]
  ·rename_i k a k' b h1 h2;cases h;obtain⟨⟨rfl,q1,q2⟩,_⟩:=hp;simp only[pv,h1,h2,a0B,q1,q2,sN,and_self]
  ·rename_i k a k' b h1 h2;cases h;obtain⟨⟨rfl,q1,q2⟩,_⟩:=hp;simp only[pv,h1,h2,a0B,q1,q2,sN,and_self]
  ·exact plain h
 ·rename_i T x i ok;split at h
  ·rename_i id d' A1 h1;split at h
   ·rename_i kv hH;cases h;simp only[pv,h1,hH];exact hp.1
   ·cases h
  ·cases h
 ·split at h
  ·rename_i t v A1 h1;split at h
   ·cases h;obtain⟨rfl,_⟩:=hp;simp[pv,h1]
   ·cases h;obtain⟨rfl,_⟩:=hp;simp[pv,h1]
  ·cases h
 ·exact plain h
def bytesOf:List aR->Option Bytes
 | []=>some []
 |r::rs=>match r,bytesOf rs with
  | [.int .u8 n],some bs=>some (UInt8.ofNat n.toNat::bs)
  |_,_=>none
theorem Uv:∀ {rows:List aR} {bs:Bytes},bytesOf rows=some bs->∃xs:bI,rows=xs.map (fun n=>[D.int .u8 n])/\bs=xs.map (fun n=>UInt8.ofNat n.toNat):=by
 intro rows
 induction rows with
 |nil=>intro bs h;cases h;exact⟨[],rfl,rfl⟩
 |cons r rs ih=>
  intro bs h;simp only[bytesOf]at h;split at h
  ·rename_i n bs' h1;cases h;obtain⟨xs,rfl,rfl⟩:=ih h1;exact⟨n::xs,rfl,rfl⟩
  ·cases h
theorem Qk:∀(xs:bI),(xs.map (fun n=>[D.int .u8 n])).flatten=xs.map (fun n=>D.int .u8 n)
 | []=>rfl
 |n::xs=>by simp only[bG,eV,Qk xs];rfl
def aAy(A:List An)(t:Nat):Option (List An):=match A with
 | .Pt u::A=>if u=t then some A else none
 |_=>none
def apS(H:bX)(d:D)(e sz:Nat):Option (List aR×Bool×af):=match d with
 | .nil=>some ([],true,[])
 | .acc m=>(match H[m]? with
  |some (.row k e' sz' rows)=>(match k with| .cl=>none| .uq=>(if e'=e/\sz'=sz then some (rows,true,[m])else none)| .sh=>(if e'=e/\sz'=sz then some (rows,false,[m])else none)| .mv _=>none)
  |_=>none)
 |_=>none
def apX(H:bX)(d:D)(sz:Nat)(A:List An):Option (List aR×Bool×af×List An×EJ):=match d,A with
 | .nil,A=>some ([],true,[],A,[])
 | .acc m,A=>(match H[m]? with
  |some (.row k _ sz' rows)=>(match k with| .cl=>none| .uq=>(if sz'=sz then some (rows,true,[m],A,[])else none)| .sh=>(if sz'=sz then some (rows,false,[m],A,[])else none)| .mv _=>none)
  |_=>none)
 | .sl rows,.fl f::A=>some (rows,f,[],A,[(∀r∈rows,r.length=sz)/\(f=true->D.oA rows=true)])
 |_,_=>none
def R4(st:St)(d:D):Option (Nat×Nat×List aR×Option Value):=match d with
 | .acc id=>(match st.H[id]? with|some (.fG sz rows u)=>some (id,sz,rows,u)|_=>none)
 |_=>none
theorem R5{st:St}{d:D}{id sz:Nat}{rows:List aR}{u:Option Value}(h:R4 st d=some (id,sz,rows,u)):d=.acc id/\st.H[id]?=some (.fG sz rows u):=by
 unfold R4 at h;split at h
 ·split at h
  ·rename_i hH;cases h;exact⟨rfl,hH⟩
  ·cases h
 ·cases h
def Ti(st:St)(d:D):Option (Nat×Nat×Nat×Nat×List aR×Option Value):=match d with
 | .op id i sz off=>(match st.H[id]? with|some (.fG sz' rows u)=>if sz'=sz then some (id,i,off,sz,rows,u)else none|_=>none)
 |_=>none
theorem XH{st:St}{d:D}{id i off sz:Nat}{rows:List aR}{u:Option Value}(h:Ti st d=some (id,i,off,sz,rows,u)):d=.op id i sz off/\st.H[id]?=some (.fG sz rows u):=by
 unfold Ti at h;split at h
 ·split at h
  ·split at h
   ·rename_i hH he;subst he;cases h;exact⟨rfl,hH⟩
   ·cases h
  ·cases h
 ·cases h
def XK(H:bX)(A:List An):Option (bX×List An×EJ):=match A with
 | .mg id i off r::A=>(match H[id]? with
  |some (.hole sz rows u p n)=>(match H[n]?,r[off]? with
   |some (.fG _ fo _),some _=>some ((H.set n .gone).set id (.fG sz (rows.set i (r.set off (.sl fo))) u),A,[rows[i]?=some r,p=i*sz+off])
   |_,_=>none)
  |_=>none)
 |A=>some (H,A,[])
def wo(n:Nat):aR->aR×bX
 | []=>([],[])
 |d::ds=>match d with
  | .sl rows=>(.acc n::(wo (n+1) ds).1,.tk rows::(wo (n+1) ds).2)
  |d=>(d::(wo n ds).1,(wo n ds).2)
def UE(r:aR):Bool:=r.all fun d=>match d with| .sl _=>true|d=>d.flat
def KZ(P:Program)(nt:Nat)(o:Oper)(st:St)(A:List An):Option (St×List An×EJ):=match o.op,o.dst with
 | .box _ x,some t=>(if t<nt then match(st.ev x).cellsOf with|some ds=>some (⟨(t,.ptr st.H.length 0)::st.σ,st.H++[.box ds]⟩,A,[])|none=>none else none)
 | .alloc T,some t=>(if t<nt then match tz P T with|some ds=>some (⟨(t,.ptr st.H.length 0)::st.σ,st.H++[.box ds]⟩,A,[])|none=>none else none)
 | .store T x y,none=>(match st.ev x,(st.ev y).cellsOf with
  | .ptr id off,some ds=>(match st.H[id]? with
   |some ob=>(match ob.ZX with
    |some cells=>(if UF P T=true/\ds.length=Be P T/\off+ds.length<=cells.length then some (⟨st.σ,st.H.set id (ob.re (cells.take off++ds++cells.drop (off+ds.length)))⟩,A,[])else none)
    |none=>none)
   |none=>none)
  | .op id i sz off,some ds=>(match st.H[id]?,OH st.H ds,A with
   |some (.fG sz' rows u),_,.row r::A=>(if UF P T=true/\ds.length=Be P T/\0<ds.length/\sz'=sz/\off+ds.length<=sz/\ds.all D.flat=true then
    some (⟨st.σ,st.H.set id (.fG sz (rows.set i (r.take off++ds++r.drop (off+ds.length))) u)⟩,A,[rows[i]?=some r])else none)
   |some (.row k e sz' rows),some (es,ms),.row r::A=>(if UF P T=true/\ds.length=Be P T/\sz'=sz/\k.Tt=true/\off+ds.length<=sz/\ms.Nodup/\id∉ms then
    some (⟨st.σ,(kill st.H ms).set id (.row (k.after (ds.all (Z7 st.H))) e sz (rows.set i (r.take off++es++r.drop (off+ds.length))))⟩,A,[rows[i]?=some r])else none)
   |_,_,_=>none)
  |_,_=>none)
 | .makeMap _ none,some t=>(if t<nt then some (⟨(t,.acc st.H.length)::st.σ,st.H++[.mp []]⟩,A,[])else none)
 | .mapUpdate T x i y,none=>(match a0T P T,st.ev x,A with
  |some (kd,_),.acc id,.kv m::A=>(match st.H[id]? with
   |some (.mp kv)=>(if M9 kd (st.ev i)=true/\(st.ev y).scalar=true then some (⟨st.σ,st.H.set id (.mp m)⟩,A,[Nl (st.ev i) (st.ev y) kv=some m])else none)
   |_=>none)
  |_,_,_=>none)
 | .makeSlice T x y,some t=>(match Ia P T,st.ev x,st.ev y with
  |some (e,sz),.int _ n,.int _ n'=>(match tz P e with
   |some zs=>(if t<nt/\0<sz then some (⟨(t,.acc st.H.length)::st.σ,st.H++[.row .uq e sz (List.replicate n.toNat (zs.map D.KX))]⟩,A,[n'=n/\0<=n/\tby P e*n.toNat<=281474976710656/\n.toNat<=4611686018427387904])else none)
   |none=>none)
  |_,_,_=>none)
 | .buildSlice T len parts,some t=>(match Ia P T with
  |some (e,sz)=>(match tz P e with
   |some zs=>(match AT (vW len sz) (List.replicate len zs).flatten (parts.toList.map fun p=>(p.1,st.ev p.2))with
    |some ds=>(match OH st.H ds with
     |some (es,ms)=>(if t<nt/\0<sz/\len*sz<=16777216/\ms.Nodup then some (⟨(t,.acc st.H.length)::st.σ,kill st.H ms++[.row (BV (ds.all (Z7 st.H))) e sz (chunk sz len es)]⟩,A,[])else none)
     |none=>none)
    |none=>none)
   |none=>none)
  |none=>none)
 | .call c,some t=>(match c.callee,c.args.toList,c.argTypes.toList with
  | .builtin .append,[s,x],[T,T']=>(match Ia P T with
   |some (e,sz)=>(match tz P e,apS st.H (st.ev s) e sz,apX st.H (st.ev x) sz A with
    |some _,some (rows,u1,k1),some (fo,u2,k2,A,ow)=>(if t<nt/\0<sz/\T'=T/\(k1++k2).Nodup then
     some (⟨(t,.acc st.H.length)::st.σ,kill st.H (k1++k2)++[.row (BV (u1&&u2)) e sz (rows++fo)]⟩,A,(rows.length+fo.length<=maxLen/\(rows.length+fo.length)*tby P e<=140737488355328)::ow)else none)
    |_,_,_=>none)
   |none=>none)
  | .builtin .len,[x],[T]=>(match R4 st (st.ev x)with
   |some (_,_,rows,_)=>(if t<nt/\(Ia P T).isSome=true then some (⟨(t,.int .i64 rows.length)::st.σ,st.H⟩,A,[])else none)
   |none=>(if t<nt then match KC P st o.op A with|some (d,A,ow)=>some (⟨(t,d)::st.σ,st.H⟩,A,ow)|none=>none else none))
  | .value (.func f),xs,_=>(match MM st.H (xs.map st.ev),A with
   |_,.gv ms outs d::A=>(match R3 st.H ms with
    |some ins=>(if t<nt/\ms.Nodup/\((xs.map st.ev).all D.bare)=true then
     (match XK (Tw st.H ms outs) A with
     |some (H',A',ow)=>some (⟨(t,d)::st.σ,H'⟩,A',tu P f ((xs.map st.ev).map (D.Yp ms)) ins outs d::ow)
     |none=>none)else none)
    |none=>none)
   |_,.gp nz cells' d::A=>(match xs with
    |x0::xr=>(match st.ev x0 with
     | .ptr id 0=>(match st.H[id]? with
      |some ob=>(match ob.ZX with
       |some OK=>(match E7 st.H nz (.agg OK::xr.map st.ev)with
        |some (.agg cells::ds,ms,qs)=>(if t<nt/\ms.Nodup/\qs.Nodup then
         some (⟨(t,(rW (st.H.length+(oB st.H.length cells').2.length) d).1)::st.σ,(kill st.H (ms++qs)).set id (ob.re (oB st.H.length cells').1)++((oB st.H.length cells').2++(rW (st.H.length+(oB st.H.length cells').2.length) d).2)⟩,A,[Bj P f cells cells' ds d])else none)
        |_=>none)
       |none=>none)
      |none=>none)
     |_=>none)
    | []=>none)
   |some (ds,ms),.dn cells::A=>(if t<nt/\ms=[]then some (⟨(t,.ptr st.H.length 0)::st.σ,st.H++[.box cells]⟩,A,[a62 P f ds cells])else none)
   |some (ds,_),.dc d::A=>(if t<nt/\d.RN=true then some (⟨(t,(rW st.H.length d).1)::st.σ,st.H++(rW st.H.length d).2.map Ob.close⟩,A,[Good P f ds d])else none)
   |_,.ov id dQ::A=>(match st.H[id]? with
    |some (.row .uq e sz rows)=>(if t<nt/\((xs.map st.ev).all D.bare)=true then some (⟨(t,.acc st.H.length)::st.σ,kill st.H [id]++[.row .uq e sz dQ]⟩,A,[rows.flatten.all D.flat=true,KH P f ((xs.map st.ev).map (D.Yp [id])) e sz rows dQ])else none)
    |_=>none)
   |_,.mu id dQ::A=>(match xs,st.H[id]? with
    | [x],some (.row k e sz rows)=>(match st.ev x with
     | .acc id'=>(if t<nt/\id'=id/\k.hand=true then some (⟨(t,.gZ [])::st.σ,st.H.set id (.row k e sz dQ)⟩,A,[rows.flatten.all D.flat=true,UZ P f e sz rows dQ])else none)
     |_=>none)
    |_,_=>none)
   |some (ds,ms),.d d::A=>(if t<nt/\(ms=[]\/d.RN=true)then some (⟨(t,(rW st.H.length d).1)::st.σ,st.H++(rW st.H.length d).2⟩,A,[Good P f ds d])else none)
   |_,.nl d::A=>(if t<nt/\(xs.map st.ev).all PK=true then some (⟨(t,(rW st.H.length d).1)::st.σ,st.H++(rW st.H.length d).2⟩,A,[Good P f (xs.map st.ev) d])else none)
   |_,_=>none)
  |_,_,_=>(if t<nt then match KC P st o.op A with|some (d,A,ow)=>some (⟨(t,d)::st.σ,st.H⟩,A,ow)|none=>none else none))
 | .convert s d x,some t=>(match st.ev x with
  | .acc id=>(match st.H[id]?,Ia P s with
   |some (.row _ _ _ rows),some (e,sz)=>(match bytesOf rows with
    |some bs=>(if t<nt/\sz=1/\Xo P e=some .u8/\P5 P d=true then some (⟨(t,.str bs)::st.σ,st.H⟩,A,[])else none)
    |none=>none)
   |_,_=>none)
  |_=>(if t<nt then match KC P st o.op A with|some (d,A,ow)=>some (⟨(t,d)::st.σ,st.H⟩,A,ow)|none=>none else none))
 | .assign x,some t=>(match aAy A t with
  |some A=>(match st.ev x,Ia P o.type with
   | .nil,some (e,sz)=>(if t<nt/\0<sz then some (⟨(t,.acc st.H.length)::st.σ,st.H++[.row .uq e sz []]⟩,A,[])else none)
   |_,_=>none)
  |none=>(if t<nt then some (⟨(t,st.ev x)::st.σ,st.H⟩,A,[])else none))
 | .slice T x none (some hi) none,some t=>(match st.ev x with
  | .acc id=>(match st.H[id]?,Ia P T,st.ev hi,A with
   |some (.row .uq e sz rows),some (_,sz'),.int _ n,.cut 0 h::A=>(if t<nt/\sz'=sz then some (⟨(t,.acc st.H.length)::st.σ,kill st.H [id]++[.row .uq e sz (rows.take h)]⟩,A,[n=((h:Nat):Int)/\h<=rows.length])else none)
   |_,_,_,_=>none)
  |_=>(if t<nt then match KC P st o.op A with|some (d,A,ow)=>some (⟨(t,d)::st.σ,st.H⟩,A,ow)|none=>none else none))
 | .slice T (.tmp s) (some lo) none none,some t=>(match A,lk st.σ s with
  | .fz::A,.acc id=>(match st.H[id]? with
   |some (.row k e sz rows)=>(if t<nt/\k.Tt=true then match KC P ⟨(s,.sl rows)::st.σ,st.H.set id .gone⟩ o.op A with|some (d,A,ow)=>some (⟨(t,d)::(s,.sl rows)::st.σ,st.H.set id .gone⟩,A,ow)|none=>none else none)
   |_=>none)
  |_,_=>(if t<nt then match KC P st o.op A with|some (d,A,ow)=>some (⟨(t,d)::st.σ,st.H⟩,A,ow)|none=>none else none))
 | .indexAddr T x i,some t=>(match R4 st (st.ev x)with
  |some (id,sz,rows,_)=>(match Ia P T,st.ev i,A with
   |some (_,sz'),.int _ n,.ix m::A=>(if t<nt/\sz'=sz then some (⟨(t,.op id m sz 0)::st.σ,st.H⟩,A,[n=(m:Int)/\m<rows.length])else none)
   |_,_,_=>none)
  |none=>(if t<nt then match KC P st o.op A with|some (d,A,ow)=>some (⟨(t,d)::st.σ,st.H⟩,A,ow)|none=>none else none))
 | .load T x,some t=>(match Ti st (st.ev x)with
  |some (id,i,off,sz,rows,u)=>(match CL P T,A with
   |some false,.row r::A=>(match r[off]? with
    |some (.sl fo)=>(match Ia P T with
     |some (_,Xf)=>(if t<nt then some (⟨(t,.acc st.H.length)::st.σ,st.H.set id (.hole sz (rows.set i (r.set off .any)) u (i*sz+off) st.H.length)++[.fG Xf fo none]⟩,A,[rows[i]?=some r,∀q∈fo,q.length=Xf])else none)
     |none=>none)
    |some d=>(if t<nt/\d.flat=true then some (⟨(t,d)::st.σ,st.H⟩,A,[rows[i]?=some r])else none)
    |none=>none)
   |_,_=>none)
  |none=>(match A,st.ev x with
   | .tk r::A,.op id i sz 0=>(match st.H[id]? with
    |some (.row (.mv n) e sz' rows)=>(if t<nt/\sz'=sz/\CL P T=some true/\Be P T=sz then
     some (⟨(t,.agg (wo st.H.length r).1)::st.σ,st.H.set id (.row (.mv (n+1)) e sz rows)++(wo st.H.length r).2⟩,A,[i=n/\rows[n]?=some r/\UE r=true])else none)
    |_=>none)
   |A,_=>(if t<nt then match KC P st o.op A with|some (d,A,ow)=>some (⟨(t,d)::st.σ,st.H⟩,A,ow)|none=>none else none)))
 |op,some t=>(if t<nt then match KC P st op A with|some (d,A,ow)=>some (⟨(t,d)::st.σ,st.H⟩,A,ow)|none=>none else none)
 |_,none=>none
section
variable{P:Program}{Γ:w5}{Q:Exit->St->Prop}{st:St}{all:Array Oper}{rest:List Oper}
theorem eO.a2h{κ:Nat->Option Value}{Θ:Nat->Nat}{a:Act}{w:World}(hs:eO Γ st κ Θ a w)(e sz:Nat)(hsz:0<sz):eO Γ ⟨st.σ,st.H++[.row .uq e sz []]⟩ (Ad κ st.H.length (some (.slice none 0 0))) Θ a w:=by
 obtain⟨ρ,hu⟩:=hs.wq;refine hs.put [] E5 (zx (hs.rX _ (bR _)) _) ?_ ?_ (jY.refl hs.own (by omega)) hs.mine ?_ hu (by simp) ?_
 ·intro i hi;simp only[aX,aK,bK]at hi;unfold Ad;rw[bH (by omega)];exact hs.rX i (by omega)
 ·intro i x hx;unfold Ad at hx;split at hx
  ·cases hx;rfl
  ·exact hs.qp i x hx
 ·exact⟨hsz,by simp,_,[],[],mF _ _ _,World.ownsRow_nil w 0 e sz,.nil,by simp[Value.ownBlock],by simp⟩
 ·intro e' sz' dQ he;simp only[Ob.row.injEq,wF]at he;obtain⟨rfl,rfl,rfl⟩:=he;exact⟨_,[],[],mF _ _ _,World.ownsRow_nil w 0 e sz,.nil,by simp,by simp⟩
theorem a7H{o:Oper}{x:Operand}{t e sz:Nat}(hop:o.op=.assign x)(hd:o.dst=some t)(hg:o.guard=none)(ht:t<Γ.nt)(hx:st.ev x=.nil)(hsz:0<sz)
 (h:AO P Γ all rest Q ⟨(t,.acc st.H.length)::st.σ,st.H++[.row .uq e sz []]⟩):AO P Γ all (o::rest) Q st:=by
 intro κ Θ a w hs;obtain⟨bs,r,_⟩:=hs.ev x;rw[hx]at r;have hv:=r.Nt;have hp:pv P st o.op=some .nil:=by rw[hop];simp[pv,hx]
 obtain⟨v,b2,hrun,hrd,hz⟩:=IF hs hp;have VJ:=hrd.Nt;subst VJ;refine wpList_plain hg fun K hK=>?_
 unfold Oper.wp;rw[hrun,Oper.upon_value,hd];refine hK _ _ (h _ _ _ _ ((hs.a2h e sz hsz).set (t:=t) (d:=.acc st.H.length) (bs:=[]) ht ?_ (by simp)));exact(Ba.acc st.H.length _ (mF _ _ _)).UI
theorem fP.a8z{κ:Nat->Option Value}{w:World}{n:Nat}(hk:κ n=some (.slice none 0 0)):∀ {vs:br} {ds:aR} {bs:af},fP w κ vs ds bs->∀ {off:Nat},ds[off]?=some .nil->∃bs',fP w κ vs (ds.set off (.acc n)) bs'/\∀b∈bs',b∈bs:=by
 intro vs ds bs h
 induction h with
 |nil=>intro off h;simp at h
 |cons v vs d ds b1 b2 h1 h2 h3 ih=>
  intro off h;cases off with
  |zero=>
   simp only[DL,az]at h;subst h;have hv:v=.slice none 0 0:=by
    cases h2 with
    |pure h2=>cases h2;rfl
   subst hv;exact⟨[]++b2,.cons _ _ _ _ _ _ h1 (.acc n _ hk) h3,fun b hb=>by simp at hb;simp[hb]⟩
  |succ off=>
   obtain⟨bs',q1,q2⟩:=ih (off:=off) (by simpa using h);exact⟨b1++bs',.cons _ _ _ _ _ _ h1 h2 q1,fun b hb=>by
    rcases au.1 hb with hb|hb
    ·exact au.2 (.inl hb)
    ·exact au.2 (.inr (q2 b hb))⟩
def St.prom(st:St)(id off e sz:Nat):Option St:=match st.H[id]? with
 |some (.box cells)=>(match cells[off]? with
  |some .nil=>(if 0<sz then some ⟨st.σ,(st.H++[Ob.row .uq e sz []]).set id (Ob.box (cells.set off (.acc st.H.length)))⟩else none)
  |_=>none)
 |_=>none
theorem eO.prom{κ:Nat->Option Value}{Θ:Nat->Nat}{a:Act}{w:World}{xw:St}{id off e sz:Nat}(hs:eO Γ st κ Θ a w)(h:st.prom id off e sz=some xw):∃κ',eO Γ xw κ' Θ a w:=by
 unfold St.prom at h;split at h
 ·rename_i cells hH;split at h
  ·rename_i hc;split at h
   ·rename_i hsz;cases h;have hlt:id<st.H.length:=(aH.1 hH).1;have hs1:=hs.a2h e sz hsz;refine⟨_,hs1.defers,hs1.size,fun i hi=>hs1.rX i (by simpa using hi),hs1.qp,hs1.slot,?_,hs1.own,hs1.old,hs1.mine,hs1.stays,?_⟩
    ·intro j y hj;simp only[gK]at hj;split at hj
     ·rename_i e1;subst e1;split at hj
      ·cases hj;obtain⟨g,cs,T,q1,q2,q3,bs,q4,q5⟩:=hs1.ob id (.box cells) (by simpa[b9 hlt]using hH);obtain⟨bs',p1,p2⟩:=fP.a8z (n:=st.H.length) (mF _ _ _) q4 hc;exact⟨g,cs,T,q1,q2,q3,bs',p1,fun b hb=>q5 b (p2 b hb)⟩
      ·cases hj
     ·exact hs1.ob j y hj
    ·obtain⟨ρ,hu⟩:=hs1.wq;refine⟨ρ,hu.free,fun i e' sz' rows hi=>hu.rows i e' sz' rows ?_,fun i o hi=>?_⟩
     ·simp only[gK]at hi;split at hi
      ·split at hi<;>cases hi
      ·exact hi
     ·simp only[gK]at hi;split at hi
      ·split at hi
       ·cases hi;trivial
       ·cases hi
      ·exact hu.more i o hi
   ·cases h
  ·cases h
 ·cases h
theorem eO.aBN{κ:Nat->Option Value}{Θ:Nat->Nat}{a:Act}{w:World}{id e sz:Nat}{rows:List aR}(hs:eO Γ st κ Θ a w)(hH:st.H[id]?=some (.row .uq e sz rows)):eO Γ ⟨st.σ,st.H.set id (.row .sh e sz rows)⟩ κ Θ a w:=by
 have hlt:id<st.H.length:=(aH.1 hH).1;refine⟨hs.defers,hs.size,fun i hi=>hs.rX i (by simpa using hi),hs.qp,hs.slot,?_,hs.own,hs.old,hs.mine,hs.stays,?_⟩
 ·intro j y hj;simp only[gK,hlt,sN]at hj;split at hj
  ·rename_i e1;subst e1;cases hj;exact(show yo w κ Θ id (.row .uq e sz rows)from hs.ob id _ hH)
  ·exact hs.ob j y hj
 ·obtain⟨ρ,hu⟩:=hs.wq;refine⟨ρ,hu.free,fun i e' sz' dQ hi=>hu.rows i e' sz' dQ ?_,fun i o hi=>?_⟩
  ·simp only[gK,hlt,sN]at hi;split at hi
   ·cases hi
   ·exact hi
  ·simp only[gK,hlt,sN]at hi;split at hi
   ·cases hi;trivial
   ·exact hu.more i o hi
theorem eO.mvz{κ:Nat->Option Value}{Θ:Nat->Nat}{a:Act}{w:World}{id e sz:Nat}{rows:List aR}(hs:eO Γ st κ Θ a w)(hH:st.H[id]?=some (.row .uq e sz rows)):eO Γ ⟨st.σ,st.H.set id (.row (.mv 0) e sz rows)⟩ κ Θ a w:=by
 have hlt:id<st.H.length:=(aH.1 hH).1;refine⟨hs.defers,hs.size,fun i hi=>hs.rX i (by simpa using hi),hs.qp,hs.slot,?_,hs.own,hs.old,hs.mine,hs.stays,?_⟩
 ·intro j y hj;simp only[gK,hlt,sN]at hj;split at hj
  ·rename_i e1;subst e1;cases hj;exact(show yo w κ Θ id (.row .uq e sz rows)from hs.ob id _ hH)
  ·exact hs.ob j y hj
 ·obtain⟨ρ,hu⟩:=hs.wq;refine⟨ρ,hu.free,fun i e' sz' dQ hi=>hu.rows i e' sz' dQ ?_,fun i o hi=>?_⟩
  ·simp only[gK,hlt,sN]at hi;split at hi
   ·cases hi
   ·exact hi
  ·simp only[gK,hlt,sN]at hi;split at hi
   ·rename_i e1;subst e1;cases hi;obtain⟨v,cs,bs,q1,q2,q3,q4,q5⟩:=hu.rows id e sz rows hH;exact⟨v,cs,bs,q1,q2,by simpa using q3,q4,q5⟩
   ·exact hu.more i o hi
def shares:List An->St->St×List An
 | .sk id::A,st=>(match st.H[id]? with
  |some (.row .uq e sz rows)=>shares A ⟨st.σ,st.H.set id (.row .sh e sz rows)⟩
  |_=>(st,.sk id::A))
 | .mz id::A,st=>(match st.H[id]? with
  |some (.row .uq e sz rows)=>shares A ⟨st.σ,st.H.set id (.row (.mv 0) e sz rows)⟩
  |_=>(st,.mz id::A))
 |A,st=>(st,A)
theorem eO.shares{κ:Nat->Option Value}{Θ:Nat->Nat}{a:Act}{w:World}:∀ {A A1:List An} {st AX:St},eO Γ st κ Θ a w->shares A st=(AX,A1)->eO Γ AX κ Θ a w:=by
 intro A
 induction A with
 |nil=>intro A1 st AX hs h;simp only[Cx.shares,cV]at h;obtain⟨rfl,_⟩:=h;exact hs
 |cons x A ih=>
  intro A1 st AX hs h;cases x
  case sk id=>
   simp only[Cx.shares]at h;split at h
   ·rename_i e sz rows hH;exact ih (hs.aBN hH) h
   ·simp only[cV]at h;obtain⟨rfl,_⟩:=h;exact hs
  case mz id=>
   simp only[Cx.shares]at h;split at h
   ·rename_i e sz rows hH;exact ih (hs.mvz hH) h
   ·simp only[cV]at h;obtain⟨rfl,_⟩:=h;exact hs
  all_goals(simp only[Cx.shares,cV]at h;obtain⟨rfl,_⟩:=h;exact hs)
theorem a4M{o:Oper}{s d:TypeId}{x:Operand}{t id e e' sz':Nat}{k:RK}{rows:List aR}{bs:Bytes}(hop:o.op=.convert s d x)(hd:o.dst=some t)(hg:o.guard=none)(ht:t<Γ.nt)(hx:st.ev x=.acc id)
 (hH:st.H[id]?=some (.row k e' sz' rows)) (hT:Ia P s=some (e,1)) (he:Xo P e=some .u8) (hs':P5 P d=true) (hb:bytesOf rows=some bs) (h:AO P Γ all rest Q ⟨(t,.str bs)::st.σ,st.H⟩):AO P Γ all (o::rest) Q st:=by
 intro κ Θ a w hs;obtain⟨b0,r,_⟩:=hs.ev x;rw[hx]at r;obtain⟨hk,_⟩:=r.xy;obtain⟨hsz,hrl,v,cs,b1,hk2,hown,vq,_,_⟩:=hs.ob id _ hH;rw[hk]at hk2;cases hk2;obtain⟨xs,rfl,rfl⟩:=Uv hb;obtain⟨hu,_,_⟩:=qJ hT;have hue:P.underlying e=some (.int .u8):=by
  unfold Xo at he;split at he
  ·rename_i k' hk';cases he;exact hk'
  ·cases he
 have hud:=zi hs';have hfl:(xs.map (fun n=>[D.int .u8 n])).flatten=xs.map (fun n=>D.int .u8 n):=Qk xs;rw[hfl]at vq;have hcs:∀(xs:bI) (cs:br) (b:af),mZ w cs (xs.map (fun n=>D.int .u8 n)) b->cs=xs.map (Value.int .u8):=by
  intro xs
  induction xs with
  |nil=>intro cs b h;cases h;rfl
  |cons n xs ih=>
   intro cs b h;cases h with
   |cons v vs _ _ b1 b2 _ h2 h3=>
    cases h2;rw[ih _ _ h3];rfl
 have hce:=hcs xs cs b1 vq;have hlen:xs.length<=maxLen:=by
  rcases hown.2 with⟨_,hn⟩|⟨g,cap,cur,_,_,_,hnc,hcm,_⟩
  ·simp at hn;rw[hn];simp
  ·simp at hnc;omega
 have hrun:(convert s d (a.eval x)).run P w=.ok (.string (strOfNums xs)) w:=by
  rcases hown.2 with⟨hv,hn⟩|⟨g,cap,cur,hv,_,hg,hnc,hcm,_,_⟩
  ·have hx0:xs=[]:=by simpa using hn
   subst hx0;rw[hv,run_convert_bytes_nil w s e hu hue 0 0 d hud];rfl
  ·rw[hv];have hcell:=hown.cells (g:=g) (by rw[hv];simp[Value.ownBlock]);refine run_convert_bytes_arg w s e hu hue g 0 _ cap xs (by simp) (fun i hi=>?_) d hud;have hi':i<xs.length:=by simpa using hi
   have:=hcell i (.int .u8 (xs.getD i 0)) (by rw[hce];simp[List.getD,ai hi']);simpa[Addr.add_lit]using this
 refine wpList_plain hg fun K hK=>?_
 unfold Oper.wp;have VG:(execOp a.eval o).run P w=.ok (.value (.string (strOfNums xs))) w:=by
  simp only[execOp,hop];simp[hrun]
 rw[VG,Oper.upon_value,hd];refine hK _ _ (h _ _ _ _ (hs.set (t:=t) (bs:=[]) ht ?_ (by simp)));have hsl:(strOfNums xs).data.toList=xs.map (fun n=>UInt8.ofNat n.toNat):=by simp[strOfNums]
 have hss:(strOfNums xs).size<=maxLen:=by
  have:(strOfNums xs).size=xs.length:=by
   have:=congrArg List.length hsl;simpa using this
  omega
 have:=Rd.str (w:=w) (strOfNums xs) hss;rw[hsl]at this;exact .of this
theorem a7D{o:Oper}{t:Nat}{s x:Operand}{T e sz:Nat}{zs:aR}{rows fo:List aR}{u1 u2:Bool}{k1 k2:af}{A A':List An}{ow:EJ}
 (hop:o.op=.call {callee:=.builtin .append,args:= #[s,x],argTypes:= #[T,T]}) (hd:o.dst=some t) (hg:o.guard=none) (ht:t<Γ.nt) (hT:Ia P T=some (e,sz)) (hz:tz P e=some zs) (hsz:0<sz)
 (hS:apS st.H (st.ev s) e sz=some (rows,u1,k1)) (hX:apX st.H (st.ev x) sz A=some (fo,u2,k2,A',ow)) (how:zc ow) (hnd:(k1++k2).Nodup)
 (h63:rows.length+fo.length<=maxLen) (hby:(rows.length+fo.length)*tby P e<=140737488355328)
 (h:AO P Γ all rest Q ⟨(t,.acc st.H.length)::st.σ,kill st.H (k1++k2)++[.row (BV (u1&&u2)) e sz (rows++fo)]⟩):AO P Γ all (o::rest) Q st:=by
 refine ZE hop hd hg ht hT hz hsz h63 hby ?_ h;intro κ Θ a w ρ hs hu;have one:∃i1 b1 c1,a1A w Θ ρ e sz (a.eval s) rows u1 i1 b1 c1/\((k1=[]/\i1=st.H.length)\/k1=[i1]):=by
  obtain⟨bs,r,_⟩:=hs.ev s;unfold apS at hS;split at hS
  ·rename_i MO;cases hS;rw[MO]at r;have:=r.Nt;rw[this];exact⟨st.H.length,[],[],a1H,.inl ⟨rfl,rfl⟩⟩
  ·rename_i m MO;rw[MO]at r;obtain⟨hk,_⟩:=r.xy;split at hS
   ·rename_i k e' sz' dQ hH;split at hS
    ·cases hS
    ·split at hS
     ·rename_i hc;obtain⟨rfl,rfl⟩:=hc;cases hS;obtain⟨b1,c1,hA⟩:=Mb hs hu hk hH rfl;exact⟨m,b1,c1,hA,.inr rfl⟩
     ·cases hS
    ·split at hS
     ·rename_i hc;obtain⟨rfl,rfl⟩:=hc;cases hS;obtain⟨b1,c1,hA⟩:=Mb hs hu hk hH rfl;exact⟨m,b1,c1,hA,.inr rfl⟩
     ·cases hS
    ·cases hS
   ·cases hS
  ·cases hS
 have two:∃i2 b2 c2,ZI w Θ ρ sz (a.eval x) fo u2 i2 b2 c2/\(u2=true->b2=[]\/i2∈k2):=by
  obtain⟨bs,r,hz⟩:=hs.ev x;unfold apX at hX;split at hX
  ·rename_i A1 MO;cases hX;rw[MO]at r;have:=r.Nt;rw[this];exact⟨0,[],[],a1I,fun _=>.inl rfl⟩
  ·rename_i A1 m MO;rw[MO]at r;obtain⟨hk,_⟩:=r.xy;split at hX
   ·rename_i k e' sz' dQ hH;split at hX
    ·cases hX
    ·split at hX
     ·rename_i hc;subst hc;cases hX;obtain⟨b1,c1,hA⟩:=Ul hs hu hk hH rfl;exact⟨m,b1,c1,hA,fun _=>.inr (by simp)⟩
     ·cases hX
    ·split at hX
     ·rename_i hc;subst hc;cases hX;obtain⟨b1,c1,hA⟩:=Ul hs hu hk hH rfl;exact⟨m,b1,c1,hA,fun _=>.inr (by simp)⟩
     ·cases hX
    ·cases hX
   ·cases hX
  ·rename_i dQ f A1 MO;cases hX;rw[MO]at r;obtain⟨⟨q1,q2⟩,_⟩:=how;obtain⟨b2,c2,hA,hb⟩:=a4W (ρ:=ρ) r.UA hz q1 0 u2 q2;exact⟨0,b2,c2,hA,fun e=>.inl (hb e)⟩
  ·cases hX
 obtain⟨i1,b1,c1,hA,hk1⟩:=one;obtain⟨i2,b2,c2,hB,hk2⟩:=two;refine⟨u1,u2,i1,i2,b1,b2,c1,c2,hA,hB,?_,fun BT=>?_⟩
 ·rcases hk1 with⟨_,h⟩|h
  ·exact .inr h
  ·exact .inl (by simp[h])
 ·simp only[aY]at BT;refine⟨BT.1,BT.2,?_⟩;rcases hk2 BT.2 with h|hmem
  ·exact .inl h
  ·refine .inr ⟨by simp[hmem],fun e=>?_⟩;rcases hk1 with⟨h1,h2⟩|h1
   ·
    have hlt:i2<st.H.length:=by
     unfold apX at hX;split at hX
     ·cases hX;cases hmem
     ·rename_i A1 m MO;split at hX
      ·rename_i k e' sz' dQ hH;have:=(aH.1 hH).1;split at hX
       ·cases hX
       ·split at hX
        ·cases hX;simp at hmem;omega
        ·cases hX
       ·split at hX
        ·cases hX;simp at hmem;omega
        ·cases hX
       ·cases hX
      ·cases hX
     ·cases hX;cases hmem
     ·cases hX
    omega
   ·subst e;have:=(bO.1 hnd).2.2 i1 (by simp[h1]) i1 hmem;exact this rfl
theorem a3g{κ:Nat->Option Value}{w:World}:∀ {ds:aR} {n:Nat} {vs:br} {bs:af},mZ w vs ds bs->(∀d∈ds,d.flat=true\/∃rows,d=.sl rows)->bs.Nodup->
 ∃(us:br) (L:List af),us.length=(wo n ds).2.length/\L.length=us.length/\L.flatten=bs/\
  (∀(j:Nat) o,(wo n ds).2[j]?=some o->∃rows u b,o=.tk rows/\us[j]?=some u/\u.oneCell'=true/\L[j]?=some b/\Rd w u (.sl rows) b)/\
  (∀κ':Nat->Option Value,(∀(j:Nat) u,us[j]?=some u->κ' (n+j)=some u)->fP w κ' vs (wo n ds).1 []):=by
 intro ds
 induction ds with
 |nil=>intro n vs bs h _ _;cases h;exact⟨[],[],rfl,rfl,rfl,by simp[wo],fun _ _=>.nil⟩
 |cons d ds ih=>
  intro n vs bs h hd hnd;cases h with
  |cons v vs _ _ b1 b2 h1 h2 h3=>
   obtain⟨n1,n2,n3⟩:=bO.1 hnd;rcases hd d (by simp)with hf|⟨rows,rfl⟩
   ·have hb:=h2.flat hf;subst hb;obtain⟨us,L,q1,q2,q3,q4,q5⟩:=ih (n:=n) h3 (fun x hx=>hd x (by simp[hx])) n2;have e:wo n (d::ds)=(d::(wo n ds).1,(wo n ds).2):=by cases d<;>first|rfl| (simp[D.flat]at hf)
    rw[e];exact⟨us,L,q1,q2,q3,q4,fun κ' hk=>by simpa using fP.cons v vs d _ [] [] h1 (.pure h2) (q5 κ' hk)⟩
   ·obtain⟨us,L,q1,q2,q3,q4,q5⟩:=ih (n:=n+1) h3 (fun x hx=>hd x (by simp[hx])) n2;refine⟨v::us,b1::L,by simp[wo,q1],by simp[q2],by simp[q3],fun j o hj=>?_,fun κ' hk=>?_⟩
    ·cases j with
     |zero=>simp[wo]at hj;subst hj;exact⟨rows,v,b1,rfl,rfl,h1,rfl,h2⟩
     |succ j=>
      obtain⟨dQ,u,b,r1,r2,r3,r4,r5⟩:=q4 j o (by simpa[wo]using hj);exact⟨dQ,u,b,r1,by simpa using r2,r3,by simpa using r4,r5⟩
    ·have:=fP.cons v vs (.acc n) _ [] [] h1 (.acc n v (by have:=hk 0 v rfl;simpa using this)) (q5 κ' (fun j u hj=>by have:=hk (j+1) u (by simpa using hj);rw[<-this];congr 1;omega));simpa[wo]using this
theorem Xm{r:aR}(h:UE r=true):∀d∈r,d.flat=true\/∃rows,d=.sl rows:=by
 intro d hd;have:=bB.1 h d hd;cases d<;>first|exact .inr ⟨_,rfl⟩|exact .inl this
theorem a4P{o:Oper}{T id i sz e t:Nat}{x:Operand}{rows:List aR}{r:aR}(hop:o.op=.load T x)(hd:o.dst=some t)(hg:o.guard=none)(ht:t<Γ.nt)
 (hx:st.ev x=.op id i sz 0) (hH:st.H[id]?=some (.row (.mv i) e sz rows)) (hrow:rows[i]?=some r) (hT:CL P T=some true) (hsz:Be P T=sz) (hok:UE r=true)
 (h:AO P Γ all rest Q ⟨(t,.agg (wo st.H.length r).1)::st.σ,st.H.set id (.row (.mv (i+1)) e sz rows)++(wo st.H.length r).2⟩):AO P Γ all (o::rest) Q st:=by
 intro κ Θ a w hs;obtain⟨b1,r1,_⟩:=hs.ev x;rw[hx]at r1;obtain⟨g,o0,len,cap,hk,hv⟩:=r1.IE;obtain⟨ρ,hu⟩:=hs.wq;obtain⟨a7r,hrl,vk0,cs0,bs0,aAF,a6I,aDA,hΘ,Ab⟩:=hs.ob id _ hH;obtain⟨vk,cs,bs,Yc,hown,vq,hnd,hρ⟩:=hu.more id _ hH;rw[hk]at Yc aAF;cases Yc;cases aAF;have ho0:=F2 hown;subst ho0;rw[cr]at hv;have Yb:r.length=sz:=hrl r (aC hrow);have hlt:i<rows.length:=(aH.1 hrow).1;have VC:rows.drop i=r::rows.drop (i+1):=by
  rw[mm hlt]
  congr 1
  rw[ai hlt]at hrow;exact qw hrow
 rw[VC,eV]at vq;obtain⟨v1,v2,c1,c2,Qu,I2,k1,k2⟩:=vq.split;have l1:v1.length=sz:=by rw[k1.length,Yb]
 have hcells:∀j c,cs[j]?=some c->w.cell? ⟨g,0+j,none⟩=some c:=by
  intro j c hj;have:=hown.cells (g:=g) (by simp[Value.ownBlock]) j c hj;simpa[Addr.add_lit]using this
 have L0:=qd (P:=P) (w:=w) hT (o:=i*sz+0) hcells;simp only[cr,BG]at L0 hv;have hle:(i+1)*sz<=rows.length*sz:=dZ _ hlt;rw[kn,o6]at hle;have a1c:=hown.1;have hval:(cs.drop (i*sz)).take sz=v1:=by rw[Qu];exact jF l1
 have hrun:(execOp a.eval o).run P w=.ok (.value (.agg v1.toArray)) w:=by
  simp only[execOp,hop,hv];have:=L0.1 trivial (by rw[hsz,a1c];omega);rw[hsz,hval]at this;simp[this]
 refine wpList_plain hg fun K hK=>?_
 unfold Oper.wp;rw[hrun,Oper.upon_value,hd];rw[I2]at hnd hρ;obtain⟨n1,n2,n3⟩:=bO.1 hnd;obtain⟨us,L,q1,q2,q3,q4,q5⟩:=a3g (κ:=κ) (n:=st.H.length) k1 (Xm hok) n1;let N:=st.H.length
 let κ':Nat->Option Value:=fun j=>if j<N then κ j else us[j-N]?
 let ρ':Nat->Nat:=fun b=>match ix (fun x:af=>x.contains b) L with|some j=>N+j+1|none=>ρ b
 have hn:∀(j:Nat) v,κ j=some v->κ' j=some v:=by
  intro j v hj;have:j<N:=by
   rcases eR j N with h|h
   ·exact h
   ·rw[hs.rX j h]at hj;cases hj
  simp only[κ'];rw[bS this];exact hj
 have hk':∀(j:Nat) u,us[j]?=some u->κ' (N+j)=some u:=fun j u hj=>by
  simp only[κ'];rw[bH (by omega),eA];exact hj
 have a9c:L.flatten.Nodup:=by rw[q3];exact n1
 have aAJ:∀(j:Nat) x b,L[j]?=some x->b∈x->ρ' b=N+j+1:=by
  intro j x b hj hb;have:ix (fun x:af=>x.contains b) L=some j:=F0 hj (by simpa using hb) (fun m y hm hy=>by
   have hy':b∈y:=by simpa using hy
   exact jX fun hne=>by
    have key:∀(L:List af),L.flatten.Nodup->∀(p q:Nat) x y,L[p]?=some x->L[q]?=some y->b∈x->b∈y->p=q:=by
     intro L
     induction L with
     |nil=>intro _ p q x y hp;simp at hp
     |cons z L ih=>
      intro hnd p q x y hp hq I3 hby;simp only[eV]at hnd;obtain⟨m1,m2,m3⟩:=bO.1 hnd;cases p with
      |zero=>
       cases q with
       |zero=>rfl
       |succ q=>
        simp at hp hq;subst hp;exact absurd rfl (m3 b I3 b (dw.2 ⟨y,aC hq,hby⟩))
      |succ p=>
       cases q with
       |zero=>
        simp at hp hq;subst hq;exact absurd rfl (m3 b hby b (dw.2 ⟨x,aC hp,I3⟩))
       |succ q=>simp at hp hq;rw[ih m2 p q x y hp hq I3 hby]
    exact hne (key L a9c m j y x hm hj hy' hb))
  simp only[ρ',this]
 have TY:∀b,b∉c1->ρ' b=ρ b:=by
  intro b hb;simp only[ρ'];cases hi:ix (fun x:af=>x.contains b) L with
  |none=>rfl
  |some j=>
   obtain⟨x,hx',hp⟩:=zv hi;exact absurd (by rw[<-q3];exact dw.2 ⟨x,aC hx',by simpa using hp⟩) hb
 have aFM:id<N:=(aH.1 hH).1;have key:∀(j:Nat) y,(st.H.set id (.row (.mv (i+1)) e sz rows)++(wo st.H.length r).2)[j]?=some y->(j=id/\y=.row (.mv (i+1)) e sz rows)\/(j≠id/\j<N/\st.H[j]?=some y)\/∃m,j=N+m/\(wo st.H.length r).2[m]?=some y:=by
  intro j y hj;by_cases hlt:j<N
  ·rw[b9 (by simpa using hlt)]at hj;rcases BW j y hj with h|⟨h1,h2⟩
   ·exact .inl h
   ·exact .inr (.inl ⟨h1,hlt,h2⟩)
  ·rw[bE (by simpa using hlt)]at hj;exact .inr (.inr ⟨j-N,by omega,by simpa using hj⟩)
 have kk:jY w w Θ Θ (id+2):=jY.refl hs.own (by omega);have xI:=hs.qf kk hn hu;have hone:∀(j:Nat) u,κ' j=some u->u.oneCell'=true:=by
  intro j u hj;simp only[κ']at hj;split at hj
  ·exact hs.qp j u hj
  ·have hjl:j-N<(wo st.H.length r).2.length:=by rw[<-q1];exact(aH.1 hj).1
   obtain⟨_,u',_,_,r2,r3,_⟩:=q4 (j-N) _ (ai hjl);rw[hj]at r2;cases r2;exact r3
 have VK:∀b∈c1,Θ b=0:=fun b hb=>(hu.free b (by rw[hρ b (by simp[hb])];omega)).1
 have hs':eO Γ ⟨st.σ,st.H.set id (.row (.mv (i+1)) e sz rows)++(wo st.H.length r).2⟩ κ' Θ a w:=by
  refine hs.step kk hs.mine hn (fun j hj=>?_) hone (fun j y hj=>?_) ⟨ρ',fun b hb=>?_,fun j e2 Xf fo hj=>?_,fun j y hj=>?_⟩
  ·simp only[aX,bf]at hj;simp only[κ'];rw[bH (by omega)];exact ck (by rw[q1];exact Nat.le_sub_of_add_le' hj)
  ·rcases key j y hj with⟨rfl,rfl⟩|⟨h1,h2,h3⟩|⟨m,rfl,hm⟩
   ·exact .inr (.inr ⟨a7r,hrl,_,cs0,bs0,hn _ _ hk,a6I,aDA,hΘ,Ab⟩)
   ·exact .inr (.inl ⟨by omega,h3⟩)
   ·obtain⟨dQ,u,b,rfl,r2,r3,r4,r5⟩:=q4 m y hm;exact .inr (.inr ⟨u,b,hk' m u r2,r5,fun x hx'=>VK x (by rw[<-q3];exact dw.2 ⟨b,aC r4,hx'⟩)⟩)
  ·by_cases hb':b∈c1
   ·exact xI.1 b (by rw[hρ b (by simp[hb'])];omega)
   ·rw[TY b hb']at hb;exact xI.1 b hb
  ·rcases key j _ hj with⟨_,h⟩|⟨h1,h2,h3⟩|⟨m,rfl,hm⟩
   ·cases h
   ·obtain⟨v',cs',bs',p1,p2,p3,p4,p5⟩:=xI.2.1 j e2 Xf fo (by omega) h3;refine⟨v',cs',bs',p1,p2,p3,p4,fun b hb=>?_⟩;rw[TY b (fun hb'=>by have:=hρ b (by simp[hb']);have:=p5 b hb;omega)];exact p5 b hb
   ·obtain⟨_,_,_,h,_⟩:=q4 m _ hm;cases h
  ·rcases key j _ hj with⟨rfl,rfl⟩|⟨h1,h2,h3⟩|⟨m,rfl,hm⟩
   ·refine⟨_,cs,c2,hn _ _ hk,hown,?_,n2,fun b hb=>?_⟩
    ·have e1:cs.drop ((i+1)*sz)=v2:=by
      rw[kn,o6,<-gz,Qu];exact fy l1
     rw[e1];exact k2
    ·rw[TY b (fun hb'=>n3 b hb' b hb rfl)];exact hρ b (by simp[hb])
   ·refine(xI.2.2 j y (by omega) h3).re fun b hb=>?_
    rw[TY b (fun hb'=>by have:=hρ b (by simp[hb']);omega)];exact hb
   ·obtain⟨dQ,u,b,rfl,r2,r3,r4,r5⟩:=q4 m y hm;have hsub:∀x∈b,ρ' x=N+m+1:=fun x hx'=>aAJ m b x r4 hx'
    have aCW:b.Nodup:=by
     have a8P:∀(L:List af),L.flatten.Nodup->∀x∈L,x.Nodup:=by
      intro L
      induction L with
      |nil=>intro _ x hx';cases hx'
      |cons z L ih=>
       intro hnd x hx';simp only[eV]at hnd;obtain⟨m1,m2,_⟩:=bO.1 hnd;rcases bM.1 hx' with rfl|hx'
       ·exact m1
       ·exact ih m2 x hx'
     exact a8P L a9c b (aC r4)
    exact⟨u,b,hk' m u r2,r5,aCW,hsub⟩
 refine hK _ _ (h κ' Θ _ w (hs'.set (t:=t) ht (.v (.agg v1 _ [] (q5 κ' hk'))) (by simp)))
theorem EI{o:Oper}{t:Nat}{d:D}{A A':List An}{p:EJ}(hd:o.dst=some t)(hg:o.guard=none)(ht:t<Γ.nt)(hv:KC P st o.op A=some (d,A',p))(hp:zc p)(h:AO P Γ all rest Q ⟨(t,d)::st.σ,st.H⟩):
 AO P Γ all (o::rest) Q st:=a61 hd hg ht (Z8 hv hp) h
theorem ZF{o:Oper}{s id e sz:Nat}{k:RK}{rows:List aR}(hx:lk st.σ s=.acc id)(hH:st.H[id]?=some (.row k e sz rows))(hk:k.Tt=true)
 (h:AO P Γ all (o::rest) Q ⟨(s,.sl rows)::st.σ,st.H.set id .gone⟩):AO P Γ all (o::rest) Q st:=by
 intro κ Θ a w hs;obtain⟨ρ,hu⟩:=hs.wq;obtain⟨Θ',ρ',hs',_,⟨v,bs,hkm,hrd,hz,_⟩,_⟩:=hs.a8U hu hH hk;obtain⟨bx,rx,_⟩:=hs.slot s;rw[hx]at rx;obtain⟨hkx,_⟩:=rx.xy;have hv:a.tmps.getD s undef=v:=by rw[hkm]at hkx;cases hkx;rfl
 refine h κ Θ' a w ⟨hs'.defers,hs'.size,hs'.rX,hs'.qp,fun u=>?_,hs'.ob,hs'.own,hs'.old,hs'.mine,hs'.stays,hs'.wq⟩;show∃bs,uB w κ (a.tmps.getD u undef) (if u=s then .sl rows else lk st.σ u) bs/\_;by_cases xI:u=s
 ·subst xI;rw[bS rfl,hv];exact⟨bs,.of hrd,hz⟩
 ·rw[bH xI];exact hs'.slot u
theorem sZ(c:Call){callee:Callee}{xs:List Operand}{ts:List TypeId}(h1:c.callee=callee)(h2:c.args.toList=xs)(h3:c.argTypes.toList=ts):c= {callee:=callee,args:=xs.toArray,argTypes:=ts.toArray}:=by
 cases c;simp only at h1 h2 h3;subst h1;subst h2;subst h3;simp
theorem Tl{H H':bX}{A A':List An}{p:EJ}{σ:List (Nat×D)}(h:XK H A=some (H',A',p))(hp:zc p)(hn:AO P Γ all rest Q ⟨σ,H'⟩):AO P Γ all rest Q ⟨σ,H⟩:=by
 unfold XK at h;split at h
 ·split at h
  ·rename_i sz rows u p' n hH;split at h
   ·rename_i Xf fo u2 d hN hc;cases h;have he:=hp.2.1;subst he;exact a16 (st:=⟨σ,H⟩) hH hN hp.1 hc hn
   ·cases h
  ·cases h
 ·cases h;exact hn
theorem T7{o:Oper}{A A':List An}{xw:St}{p:EJ}{nt:Nat}(hnt:Γ.nt=nt)(hg:o.guard=none)(h:KZ P nt o st A=some (xw,A',p))(hp:zc p)(hn:AO P Γ all rest Q xw):AO P Γ all (o::rest) Q st:=by
 subst hnt;unfold KZ at h;split at h
 ·rename_i T x t hop hd;split at h
  ·split at h
   ·cases h;exact a7E hop hd hg (by assumption) (by assumption) hn
   ·cases h
  ·cases h
 ·rename_i T t hop hd;split at h
  ·split at h
   ·cases h;exact a0w hop hd hg (by assumption) (by assumption) hn
   ·cases h
  ·cases h
 ·rename_i T x y hop hd;split at h
  ·rename_i id off ds h1 h2;split at h
   ·rename_i ob h3;split at h
    ·rename_i cells h4;split at h
     ·rename_i hc;cases h;exact a18 hop hd hg h1 h3 h4 h2 hc.1 hc.2.1 hc.2.2 hn
     ·cases h
    ·cases h
   ·cases h
  ·rename_i id i sz off ds h1 h2;split at h
   ·rename_i sz' rows u _ r A1 h3;split at h
    ·rename_i hc;obtain⟨c1,c2,c3,rfl,c5,c6⟩:=hc;cases h;exact ZG hop hd hg h1 h3 hp.1 h2 c6 c1 c2 c3 c5 hn
    ·cases h
   ·rename_i k e sz' rows es ms r A1 h3 h4;split at h
    ·rename_i hc;obtain⟨c1,c2,rfl,c4,c5,c6,c7⟩:=hc;cases h;exact UX hop hd hg h1 h3 c4 hp.1 h2 h4 c6 c7 c1 c2 c5 hn
    ·cases h
   ·cases h
  ·cases h
 ·rename_i T t hop hd;split at h
  ·cases h;exact WT hop hd hg (by assumption) hn
  ·cases h
 ·rename_i T x i y hop hd;split at h
  ·rename_i kd dz id m A1 h1 h2;split at h
   ·rename_i kv h3;split at h
    ·rename_i hc;cases h;exact T6 hop hd hg h1 h2 h3 hc.1 hc.2 hp.1 hn
    ·cases h
   ·cases h
  ·cases h
 ·rename_i T x y t hop hd;split at h
  ·rename_i e sz k n k' n' h1 h2 h3;split at h
   ·rename_i zs h4;split at h
    ·rename_i hc;cases h;obtain⟨⟨rfl,q2,q3,q4⟩,_⟩:=hp;exact T5 hop hd hg hc.1 h1 h4 hc.2 h2 h3 q2 q3 q4 hn
    ·cases h
   ·cases h
  ·cases h
 ·rename_i T len parts t hop hd;split at h
  ·rename_i e sz h1;split at h
   ·rename_i zs h2;split at h
    ·rename_i ds h3;split at h
     ·rename_i es ms h4;split at h
      ·rename_i hc;cases h;exact Rm hop hd hg hc.1 h1 h2 hc.2.1 hc.2.2.1 h3 h4 hc.2.2.2 hn
      ·cases h
     ·cases h
    ·cases h
   ·cases h
  ·cases h
 ·rename_i c t hop hd;split at h
  ·rename_i s x T T' h1 h2 h3;split at h
   ·rename_i e sz h4;split at h
    ·rename_i zs rows u1 k1 fo u2 k2 A1 ow h5 h6 h7;split at h
     ·rename_i hc;obtain⟨c1,c2,rfl,c4⟩:=hc;cases h;obtain⟨⟨q1,q2⟩,q3⟩:=hp;exact a7D (hop.trans (congrArg Op.call (sZ c h1 h2 h3))) hd hg c1 h4 h5 c2 h6 h7 q3 c4 q1 q2 hn
     ·cases h
    ·cases h
   ·cases h
  ·rename_i x T h1 h2 h3;split at h
   ·rename_i id sz rows u h4;obtain⟨h5,h6⟩:=R5 h4;split at h
    ·rename_i hc;cases h;exact a4O (hop.trans (congrArg Op.call (sZ c h1 h2 h3))) hd hg hc.1 hc.2 h5 h6 hn
    ·cases h
   ·split at h
    ·split at h
     ·rename_i d A1 ow h4;cases h;exact EI hd hg (by assumption) h4 hp hn
     ·cases h
    ·cases h
  ·rename_i f xs ts h1;split at h
   ·rename_i ms outs d A1 h4;split at h
    ·rename_i ins h5;split at h
     ·rename_i hc;obtain⟨c1,c2,c3⟩:=hc;split at h
      ·rename_i H' A2 ow h6;cases h;exact a14 (hop.trans (congrArg Op.call (sZ c h1 rfl rfl))) hd hg c1 c2 h5 (by simpa using c3) (by simpa using hp.1) (Tl h6 hp.2 hn)
      ·cases h
     ·cases h
    ·cases h
   ·rename_i nz cells' d A1 h4;split at h
    ·rename_i x0 xr h5;split at h
     ·rename_i id h6;split at h
      ·rename_i ob h7;split at h
       ·rename_i OK h8;split at h
        ·rename_i cells ds ms qs h9;split at h
         ·rename_i hc;obtain⟨c1,c2,c3⟩:=hc;cases h;exact a13 (hop.trans (congrArg Op.call (sZ c h1 rfl rfl))) hd hg c1 (by simpa using h5) h6 h7 h8 h9 c2 c3 hp.1 hn
         ·cases h
        ·cases h
       ·cases h
      ·cases h
     ·cases h
    ·cases h
   ·rename_i ds ms cells A1 h4;split at h
    ·rename_i hc;obtain⟨c1,rfl⟩:=hc;cases h;exact a10 (hop.trans (congrArg Op.call (sZ c h1 rfl rfl))) hd hg c1 (by simpa using h4) hp.1 hn
    ·cases h
   ·rename_i ds ms d A1 h4;split at h
    ·rename_i hc;cases h;exact a0x (hop.trans (congrArg Op.call (sZ c h1 rfl rfl))) hd hg hc.1 (by simpa using h4) hc.2 hp.1 hn
    ·cases h
   ·rename_i id dQ A1 h4;split at h
    ·rename_i e sz rows h5;split at h
     ·rename_i hc;obtain⟨c1,c3⟩:=hc;cases h;exact a11 (hop.trans (congrArg Op.call (sZ c h1 rfl rfl))) hd hg c1 h5 hp.1 (by simpa using c3) (by simpa using hp.2.1) hn
     ·cases h
    ·cases h
   ·rename_i id dQ A1 h4;split at h
    ·rename_i x k e sz rows h5 h6;split at h
     ·rename_i id' h7;split at h
      ·rename_i hc;obtain⟨c1,rfl,c3⟩:=hc;cases h;have e1:c.args= #[x]:=by rw[<-wv];simpa using h5
       refine a0z (ts:=c.argTypes) (hop.trans (congrArg Op.call ?_)) (fun t' ht'=>?_) hg h7 h6 c3 hp.1 hp.2.1 ?_
       ·rw[<-e1];exact sZ c h1 rfl rfl
       ·rw[hd]at ht';cases ht';exact c1
       ·rw[hd];exact hn
      ·cases h
     ·cases h
    ·cases h
   ·rename_i ds ms d A1 h4;split at h
    ·rename_i hc;cases h;exact a4L (hop.trans (congrArg Op.call (sZ c h1 rfl rfl))) hd hg hc.1 (by simpa using h4) hc.2 hp.1 hn
    ·cases h
   ·rename_i d A1;split at h
    ·rename_i hc;cases h;exact a0y (hop.trans (congrArg Op.call (sZ c h1 rfl rfl))) hd hg hc.1 (by simpa using hc.2) (by simpa using hp.1) hn
    ·cases h
   ·cases h
  ·split at h
   ·split at h
    ·rename_i d A1 ow h4;cases h;exact EI hd hg (by assumption) h4 hp hn
    ·cases h
   ·cases h
 ·rename_i s d x t hop hd;split at h
  ·rename_i id h1;split at h
   ·rename_i k e' sz' rows e sz h2 h3;split at h
    ·rename_i bs h4;split at h
     ·rename_i hc;obtain⟨c1,rfl,c3,c4⟩:=hc;cases h;exact a4M hop hd hg c1 h1 h2 h3 c3 c4 h4 hn
     ·cases h
    ·cases h
   ·cases h
  ·split at h
   ·split at h
    ·rename_i d A1 ow h4;cases h;exact EI hd hg (by assumption) h4 hp hn
    ·cases h
   ·cases h
 ·rename_i x t hop hd;split at h
  ·rename_i A1;split at h
   ·rename_i e sz h1 h2;split at h
    ·rename_i hc;cases h;exact a7H hop hd hg hc.1 h1 hc.2 hn
    ·cases h
   ·cases h
  ·split at h
   ·cases h;exact a61 hd hg (by assumption) (by rw[hop];rfl) hn
   ·cases h
 ·rename_i T x hi t hop hd;split at h
  ·rename_i id h1;split at h
   ·rename_i e sz rows e' sz' kk n hh A1 h2 h3 h4;split at h
    ·rename_i hc;obtain⟨c1,rfl⟩:=hc;cases h;exact a4N hop hd hg c1 h3 h1 h2 (by rw[h4,hp.1.1]) hp.1.2 hn
    ·cases h
   ·cases h
  ·split at h
   ·split at h
    ·rename_i d A1 ow h4;cases h;exact EI hd hg (by assumption) h4 hp hn
    ·cases h
   ·cases h
 ·rename_i T s lo t hop hd;split at h
  ·rename_i A0 id h1;split at h
   ·rename_i k e sz rows h2;split at h
    ·rename_i hc;split at h
     ·rename_i d A1 ow h4;cases h;exact ZF h1 h2 hc.2 (EI hd hg hc.1 h4 hp hn)
     ·cases h
    ·cases h
   ·cases h
  ·split at h
   ·split at h
    ·rename_i d A1 ow h4;cases h;exact EI hd hg (by assumption) h4 hp hn
    ·cases h
   ·cases h
 ·rename_i T x i t hop hd;split at h
  ·rename_i id sz rows u h1;obtain⟨h2,h3⟩:=R5 h1;split at h
   ·rename_i e sz' k n m A1 h4 h5;split at h
    ·rename_i hc;obtain⟨c1,rfl⟩:=hc;cases h;exact a7F hop hd hg c1 h4 h2 h5 h3 hp.1.1 hp.1.2 hn
    ·cases h
   ·cases h
  ·split at h
   ·split at h
    ·rename_i d A1 ow h4;cases h;exact EI hd hg (by assumption) h4 hp hn
    ·cases h
   ·cases h
 ·rename_i T x t hop hd;split at h
  ·rename_i id i off sz rows u h1;obtain⟨h2,h3⟩:=XH h1;split at h
   ·rename_i r A1 h4;split at h
    ·rename_i fo h5;split at h
     ·rename_i e Xf h6;split at h
      ·rename_i hc;cases h;exact a17 hop hd hg hc h4 h2 h3 hp.1 h5 hp.2.1 hn
      ·cases h
     ·cases h
    ·rename_i d _ h5;split at h
     ·rename_i hc;cases h;exact a15 hop hd hg hc.1 h4 h2 h3 hp.1 h5 hc.2 hn
     ·cases h
    ·cases h
   ·cases h
  ·split at h
   ·rename_i r A1 id i sz h1;split at h
    ·rename_i n e sz' rows h2;split at h
     ·rename_i hc;obtain⟨c1,rfl,c3,c4⟩:=hc;cases h;obtain⟨⟨rfl,q2,q3⟩,_⟩:=hp;exact a4P hop hd hg c1 h1 h2 q2 c3 c4 q3 hn
     ·cases h
    ·cases h
   ·split at h
    ·split at h
     ·rename_i d A1 ow h4;cases h;exact EI hd hg (by assumption) h4 hp hn
     ·cases h
    ·cases h
 ·split at h
  ·split at h
   ·rename_i d A1 ow h4;cases h;exact EI (by assumption) hg (by assumption) h4 hp hn
   ·cases h
  ·cases h
 ·cases h
theorem a3b{o:Oper}{A A':List An}{xw:St}{p:EJ}{nt:Nat}(hnt:Γ.nt=nt)(h:KZ P nt o st A=some (xw,A',p)):∀ {t:Nat},o.dst=some t->t<Γ.nt:=by
 intro t ht;subst hnt;unfold KZ at h;split at h
 all_goals first
  | (rename_i hd;rw[ht]at hd;cases hd;done)
  |skip
 all_goals(try(rename_i hd;rw[ht]at hd;cases hd))
 all_goals(repeat' split at h)
 all_goals(try cases h)
 all_goals first
  |assumption
  | (
   have hc:_/\_:=by assumption
   exact hc.1)
  | (simp_all;done)
end
end Go.Cx

/- Regions whose order is drawn: where each operation of the head only computes or calls a function that leaves what was there as it was, every order gives the state of the text's order. No condition; plain lemmas. -/
import Derived.Test.YtbeaohmbmfjabaaGreatDoorPTakeFromNetworkG1
import Derived.StillTail
import Derived.MapKept
import Derived.Laws.BytesArg
set_option linter.unusedVariables false
set_option linter.unusedSimpArgs false
namespace Go.Cx
open Go.RowKit
abbrev og:=List Fs
section
variable{P:Program}{Γ:vP}{Q:Exit->St->Prop}{st:St}{κ:Nat->Option Value}{Θ:Nat->Nat}{a:Act}{w:World}{all:Array Oper}
def Ext(H H':bU):Prop:=∀(i:Nat) o,H[i]?=some o->H'[i]?=some o
theorem Uf(σ:List (Nat×D))(H H':bU)(x:Operand):St.ev ⟨σ,H⟩ x=St.ev ⟨σ,H'⟩ x:=by cases x<;>rfl
theorem TY{σ σ':List (Nat×D)}{H H':bU}{op:Op}{d:D}(hx:Ext H H')(he:∀x∈op.operands.toList,St.ev ⟨σ,H⟩ x=St.ev ⟨σ',H'⟩ x)(h:pv P ⟨σ,H⟩ op=some d):pv P ⟨σ',H'⟩ op=some d:=by
 have hm:∀(o:Option Operand),(∀x∈o.toArray.toList,St.ev ⟨σ,H⟩ x=St.ev ⟨σ',H'⟩ x)->o.map (St.ev ⟨σ,H⟩)=o.map (St.ev ⟨σ',H'⟩):=by
  intro o h;cases o with
  |none=>rfl
  |some x=>simp[h x (by simp)]
 cases op<;>simp only[pv]at h⊢ <;>(try cases h)
 case move x=>rw[he x (by simp[Op.operands])]at*
 case assign x=>rw[he x (by simp[Op.operands])]at*
 case nilCheck x=>rw[he x (by simp[Op.operands])]at h;exact h
 case pick c x y=>rw[he c (by simp[Op.operands]),he x (by simp[Op.operands]),he y (by simp[Op.operands])]at h;exact h
 case binOp op t x y t'=>rw[he x (by simp[Op.operands]),he y (by simp[Op.operands])]at h;exact h
 case unOp op t x=>cases op<;>simp only[pv]at h⊢ <;>(try cases h)<;>(rw[he x (by simp[Op.operands])]at h;exact h)
 case convert s d x=>rw[he x (by simp[Op.operands])]at h;exact h
 case field t x f=>rw[he x (by simp[Op.operands])]at h;exact h
 case fieldAddr t x f=>rw[he x (by simp[Op.operands])]at h;exact h
 case indexAddr t x i=>
  rw[he x (by simp[Op.operands]),he i (by simp[Op.operands])]at h;split at h
  ·rename_i e sz rows kk n h1 h2 h3
   (try simp only[h1,h2,h3]);exact h
  ·rename_i e sz id kk n h1 h2 h3
   (try simp only[h1,h2,h3])
   split at h
   ·rename_i k e' sz' rows hH;simp only[hx id _ hH];exact h
   ·cases h
  ·rename_i g o' kk n h1 h2
   (try simp only[h1,h2])
   generalize IJ P t=q at h⊢;cases q<;>exact h
  ·cases h
 case load t x=>
  rw[he x (by simp[Op.operands])]at h;split at h
  ·rename_i ag row off h1 h2
   (try simp only[h1,h2]);exact h
  ·rename_i ag id off h1 h2
   (try simp only[h1,h2])
   split at h
   ·rename_i cells hH;obtain⟨ob,hH,C8⟩:=o6.1 hH;simp only[hx id _ hH,aA,C8];exact h
   ·cases h
  ·rename_i ag id i sz off h1 h2
   (try simp only[h1,h2])
   split at h
   ·rename_i k e' sz' rows hH;simp only[hx id _ hH];exact h
   ·cases h
  ·rename_i ag g o' h1 h2
   (try simp only[h1,h2]);exact h
  ·cases h
 case lookup T x i ok=>
  rw[he x (by simp[Op.operands]),he i (by simp[Op.operands])]at h;split at h
  ·rename_i id h1
   (try simp only[h1])
   split at h
   ·rename_i kv hH;simp only[hx id _ hH];exact h
   ·cases h
  ·cases h
 case extract x i=>rw[he x (by simp[Op.operands])]at h;exact h
 case index t x i=>rw[he x (by simp[Op.operands]),he i (by simp[Op.operands])]at h;exact h
 case slice t x lo hi mx=>
  cases mx with
  |none=>
   simp only[pv]at h⊢;rw[he x (by simp[Op.operands]),hm lo (fun y hy=>he y (by simp only[Op.operands,lq,ar];exact .inl (.inl (.inr hy)))),
    hm hi (fun y hy=>he y (by simp only[Op.operands,lq,ar];exact .inl (.inr hy)))]at h
   exact h
  |some m=>simp only[pv]at h;cases h
 case build t parts=>
  have:(parts.toList.map fun p=>(p.1,St.ev ⟨σ,H⟩ p.2))=parts.toList.map fun p=>(p.1,St.ev ⟨σ',H'⟩ p.2):=by
   apply mB;intro p hp;rw[he p.2 (by simp only[Op.operands];simp;exact⟨p.1,by simpa using hp⟩)]
  rw[this]at h;exact h
 case call c=>
  split at h
  ·rename_i x t h1 h2 h3;have hxm:x∈(Op.call c).operands.toList:=by
    simp only[Op.operands,Call.operands,lq,ar,h2];exact .inr (by simp)
   (try simp only[h1,h2,h3])
   unfold a4o at h⊢;rw[he x hxm]at h;split at h
   ·rename_i s hs;(try simp only[hs]);exact h
   ·rename_i rows hs;(try simp only[hs]);exact h
   ·rename_i hs;(try simp only[hs]);exact h
   ·rename_i id hs
    (try simp only[hs])
    split at h
    ·rename_i kk k e sz rows h4 h5;simp only[h4,hx id _ h5];exact h
    ·cases h
   ·cases h
  ·rename_i x y t t' h1 h2 h3;have hxm:x∈(Op.call c).operands.toList:=by
    simp only[Op.operands,Call.operands,lq,ar,h2];exact .inr (by simp)
   have hym:y∈(Op.call c).operands.toList:=by
    simp only[Op.operands,Call.operands,lq,ar,h2];exact .inr (by simp)
   (try simp only[h1,h2,h3])
   rw[he x hxm,he y hym]at h;exact h
  ·cases h
theorem Vd{H H':bU}(hx:Ext H H'){d e:D}{ms:aa}(h:vwC H d=some (e,ms)):vwC H' d=some (e,ms):=by
 cases d<;>simp only[vwC]at h⊢ <;>(try exact h)
 split at h
 ·rename_i k e' sz rows hH;simp only[hx _ _ hH];exact h
 ·rename_i sz rows u hH;simp only[hx _ _ hH];exact h
 ·rename_i rows hH;simp only[hx _ _ hH];exact h
 ·cases h
theorem a09{H H':bU}(hx:Ext H H'):∀ {ds es:aR} {ms:aa},Ve H ds=some (es,ms)->Ve H' ds=some (es,ms):=by
 intro ds
 induction ds with
 |nil=>intro es ms h;exact h
 |cons d ds ih=>
  intro es ms h;simp only[Ve]at h⊢;split at h
  ·rename_i e m es' ms' h1 h2;rw[Vd hx h1,ih h2];exact h
  ·cases h
theorem a3E{H H':bU}(hx:Ext H H'){d e:D}{ms:aa}(h:vwV H d=some (e,ms)):vwV H' d=some (e,ms):=by
 by_cases vT:∃ds,d=.agg ds
 ·obtain⟨ds,rfl⟩:=vT;simp only[vwV]at h⊢;split at h
  ·rename_i es ms' h1;rw[a09 hx h1];exact h
  ·cases h
 ·by_cases ht:∃vs,d=.gb vs
  ·obtain⟨vs,rfl⟩:=ht;simp[vwV]at h
  ·have e1:∀H,vwV H d=vwC H d:=by intro H;cases d<;>first|rfl|exact absurd ⟨_,rfl⟩ vT|exact absurd ⟨_,rfl⟩ ht
   rw[e1]at h⊢;exact Vd hx h
theorem a0A{H H':bU}(hx:Ext H H'):∀ {ds es:aR} {ms:aa},Lx H ds=some (es,ms)->Lx H' ds=some (es,ms):=by
 intro ds
 induction ds with
 |nil=>intro es ms h;exact h
 |cons d ds ih=>
  intro es ms h;simp only[Lx]at h⊢;split at h
  ·rename_i e m es' ms' h1 h2;rw[a3E hx h1,ih h2];exact h
  ·cases h
structure Cp where
 t:Option Nat
 d:D
 r:Nat
 obs:bU
 up:Option (Nat×Ob)
def Looks(H:bU)(vs ds:aR)(ms:aa):Prop:=Lx H vs=some (ds,ms)\/(vs.all Ot=true/\ds=vs/\ms=[])
def Ns(P:Program)(H:bU)(σ:List (Nat×D))(o:Oper)(p:Cp):Prop:=
 (pv P ⟨σ,H⟩ o.op=some p.d/\p.obs=[])\/∃(f:FuncId) (xs:Array Operand) (ts:Array TypeId) (ds:aR) (ms:aa) (d:D),o.op=.call {callee:=.value (.func f),args:=xs,argTypes:=ts}/\
  Looks H (xs.toList.map (St.ev ⟨σ,H⟩)) ds ms/\(ms=[]\/d.Qu=true)/\Good P f ds d/\(rC p.r d=(p.d,p.obs)\/(d.a7o=true/\p.d=d.shV/\p.obs=[]))
def Sg(P:Program)(H:bU)(σ:List (Nat×D))(o:Oper)(p:Cp):Prop:=
 (∃T zs,o.op=.alloc T/\tz P T=some zs/\p.d=.ptr p.r 0/\p.obs=[.box zs])\/∃T x ds,o.op=.box T x/\(St.ev ⟨σ,H⟩ x).cellsOf=some ds/\p.d=.ptr p.r 0/\p.obs=[.box ds]
def Sj(P:Program)(H:bU)(σ:List (Nat×D))(o:Oper)(p:Cp):Prop:=
 ∃T e sz len parts zs ds es,o.op=.buildSlice T len parts/\IJ P T=some (e,sz)/\tz P e=some zs/\0<sz/\len*sz<=16777216/\
  A7 (ux len sz) (List.replicate len zs).flatten (parts.toList.map fun q=>(q.1,St.ev ⟨σ,H⟩ q.2))=some ds/\Nv H ds=some (es,[])/\p.d=.acc p.r/\p.obs=[.row (BC (ds.all (Yg H))) e sz (chunk sz len es)]
def Si(P:Program)(H:bU)(σ:List (Nat×D))(o:Oper)(p:Cp):Prop:=
 ∃T e sz len parts zs ds,o.op=.buildSlice T len parts/\IJ P T=some (e,sz)/\tz P e=some zs/\0<sz/\len*sz<=16777216/\
  A7 (ux len sz) (List.replicate len zs).flatten (parts.toList.map fun q=>(q.1,St.ev ⟨σ,H⟩ q.2))=some ds/\ds.all D.U5=true/\ds.all D.flat=true/\p.d=.sl (chunk sz len ds)/\p.obs=[]
def M6(P:Program)(H:bU)(σ:List (Nat×D))(o:Oper)(p:Cp):Prop:=Ns P H σ o p\/Sg P H σ o p\/Sj P H σ o p\/Si P H σ o p
def a8i(P:Program)(Γ:vP)(all:Array Oper)(H:bU)(σ:List (Nat×D))(o:Oper)(p:Cp):Prop:=
 ∃t,p.t=some t/\p.up=none/\o.dst=some t/\t<Γ.nt/\((o.guard=none/\M6 P H σ o p)\/
  (∃(j s:Nat) (want b:Bool),o.guard=some (j,want)/\(all[j]?).bind (·.dst)=some s/\lk σ s=.bool b/\((b=want/\M6 P H σ o p)\/(b≠want/\p.d=.gb []/\p.obs=[])))\/
  ∃(j s:Nat) (want:Bool),o.guard=some (j,want)/\(all[j]?).bind (·.dst)=some s/\lk σ s=.gb []/\p.d=.gb []/\p.obs=[])
def a8h(P:Program)(H:bU)(σ:List (Nat×D))(o:Oper)(p:Cp):Prop:=
 p.t=none/\p.obs=[]/\o.dst=none/\o.guard=none/\∃T x y id ds,o.op=.store T x y/\St.ev ⟨σ,H⟩ x=.ptr id 0/\H.length<=id/\(St.ev ⟨σ,H⟩ y).cellsOf=some ds/\Tr P T=true/\ds.length=BK P T/\p.up=some (id,.box ds)
def vY(P:Program)(Γ:vP)(all:Array Oper)(H:bU)(σ:List (Nat×D))(o:Oper)(p:Cp):Prop:=a8i P Γ all H σ o p\/a8h P H σ o p
def Cp.slot(p:Cp)(σ:List (Nat×D)):List (Nat×D):=match p.t with|some t=>(t,p.d)::σ|none=>σ
def Cp.fill(n:Nat)(p:Cp)(acc:bU):bU:=match p.up with|some (id,ob)=>acc.set (id-n) ob|none=>acc++p.obs
def Cp.aAi(n:Nat)(p:Cp)(U:aa)(acc:bU):Prop:=match p.up with|some (id,ob)=>id∉U/\n<=id/\∃zs ds,acc[id-n]?=some (.box zs)/\ob=.box ds/\zs.length=ds.length|none=>True
def Cp.ups(p:Cp)(U:aa):aa:=match p.up with|some (id,_)=>id::U|none=>U
def Oe(P:Program)(Γ:vP)(all:Array Oper)(H:bU)(K:List (Nat×D)->bU->Prop):List Oper->List (Nat×D)->bU->aa->Prop
 | [],σ,acc,_=>K σ acc
 |o::os,σ,acc,U=>∃p:Cp,p.r=H.length+acc.length/\vY P Γ all H σ o p/\p.aAi H.length U acc/\Oe P Γ all H K os (p.slot σ) (p.fill H.length acc) (p.ups U)
theorem C7{Q':Exit->Act->World->Prop}{ops:Array Oper}{i:Nat}{o:Oper}{K:Act->World->Prop}(hi:ops[i]?=some o)(hw:Region.wanted o (yielded ops a.tmps)=true)(h:o.wp P a w K Q'):wpOp P ops Q' i K a w:=by
 unfold wpOp;simp only[hi,hw,rq];exact .inl h
theorem eE.a8T(hs:eE Γ st κ Θ a w){ops:Array Oper}{j s:Nat}{b:Bool}(hj:(ops[j]?).bind (·.dst)=some s)(hb:lk st.σ s=.bool b):yielded ops a.tmps j=some b:=by
 obtain⟨bs,r,_⟩:=hs.slot s;rw[hb]at r;have hv:=r.yQ;have hlt:s<a.tmps.size:=by
  rcases eH s a.tmps.size with h|h
  ·exact h
  ·exfalso;rw[cO,tO h]at hv;simp[undef]at hv
 have h1:a.tmps[s]?=some (.bool b):=by
  rw[cO,cR hlt]at hv;rw[cR hlt];simpa using hv
 simp[yielded,hj,h1]
theorem QF{st xQ:St}{ops:Array Oper}{o:Oper}(h:∀t∈o.looksAt ops,lk st.σ t=lk xQ.σ t):∀x∈o.op.operands.toList,st.ev x=xQ.ev x:=by
 intro x hx;cases x with
 |tmp t=>
  refine h t ?_;unfold Oper.looksAt;exact ar.2 (.inl (cD.2 ⟨.tmp t,hx,rfl⟩))
 |const v=>rfl
 |global g=>rfl
 |func f=>rfl
theorem Hs(l:List (Nat×D))(σ:List (Nat×D))(t:Nat):(∀p∈l,p.1≠t)->lk (l++σ) t=lk σ t:=by
 induction l with
 |nil=>intro _;rfl
 |cons q l ih=>
  intro h;obtain⟨u,d⟩:=q;simp only[dP,lk];rw[bH (fun e=>h (u,d) (by simp) e.symm)];exact ih (fun p hp=>h p (by simp[hp]))
theorem Ll(l:List (Nat×D))(σ:List (Nat×D))(p:Nat×D)(hp:p∈l)(hd:∀q∈l,q.1=p.1->q=p):lk (l++σ) p.1=p.2:=by
 induction l with
 |nil=>cases hp
 |cons q l ih=>
  obtain⟨u,d⟩:=q;simp only[dP,lk];by_cases e:p.1=u
  ·rw[bP e];have:=hd (u,d) (by simp) e.symm;rw[<-this]
  ·rw[bH e];rcases bM.1 hp with rfl|hp
   ·exact absurd rfl e
   ·exact ih hp (fun q hq=>hd q (by simp[hq]))
def a10(ops:Array Oper)(n:Nat):Bool:=
 decide (n<=ops.size)&&(decide (n=ops.size)||(decide (n<ops.size)&&(Region.sinkB .any ops n&&Region.chainB .any ops n)))&&
 Region.seqB .any ops (ops.size-n) n (Array.replicate n true++Array.replicate (ops.size-n) false)&&
 (List.range n).all fun i=>match ops[i]? with
  |none=>false
  |some o=>(o.after.all fun e=> !Region.binds .any e||decide (e.on<i))&&
   ((o.looksAt ops).all fun t=>(List.range n).all fun j=>match ops[j]? with|some oj=> !(oj.dst==some t)||(decide (j<i)&&Region.waitsFor .any ops i j)|none=>true)&&
   (List.range n).all fun j=>j==i||(match ops[j]? with|some oj=> !(oj.dst==o.dst)||o.dst.isNone|none=>true)
def place(H:bU)(r:Nat)(obs:bU):bU:=H.take r++(obs++H.drop (r+obs.length))
theorem wM{H:bU}{r:Nat}{obs:bU}(h:r+obs.length<=H.length)(j:Nat):(place H r obs)[j]?=if j<r then H[j]? else if j<r+obs.length then obs[j-r]? else H[j]?:=by
 unfold place;have hl:(H.take r).length=r:=by rw[cL];omega
 by_cases h1:j<r
 ·rw[bP h1,b9 (by omega),cI,bP h1]
 ·rw[bH h1,bE (by omega),hl];by_cases h2:j<r+obs.length
  ·rw[bP h2,b9 (by omega)]
  ·rw[bH h2,bE (by omega),dl]
   congr 1;omega
theorem wN{H:bU}{r:Nat}{obs:bU}(h:r+obs.length<=H.length):(place H r obs).length=H.length:=by
 unfold place;simp;omega
theorem Ns.wp{Q':Exit->Act->World->Prop}{σ:List (Nat×D)}{H H':bU}{o:Oper}{p:Cp}{K:Act->World->Prop}(hs:eE Γ ⟨σ,H'⟩ κ Θ a w)(hx:Ext H H'){t:Nat}(hd:o.dst=some t)(ht:t<Γ.nt)(h:Ns P H σ o p)
 (hr:p.r+p.obs.length<=H'.length) (hfree:∀i,i<p.obs.length->κ (p.r+i)=none)
 (hK:∀κ' Θ' a' w',eE Γ ⟨(t,p.d)::σ,place H' p.r p.obs⟩ κ' Θ' a' w'->(∀j,(j<p.r\/p.r+p.obs.length<=j)->κ' j=κ j)->K a' w'):o.wp P a w K Q':=by
 rcases h with⟨h,hno⟩|⟨f,xs,ts,ds,ms,d,hop,hds,hsh,pL,hi⟩
 ·have h':=TY (σ:=σ) (σ':=σ) hx (fun x _=>Uf σ H H' x) h;obtain⟨v,bs,hrun,hrd,hz⟩:=Hy hs h';unfold Oper.wp;rw[hrun,Oper.upon_value,hd];have hp:place H' p.r p.obs=H':=by rw[hno];simp[place]
  exact hK κ Θ _ _ (by rw[hp];exact hs.set ht hrd hz) (fun _ _=>rfl)
 ·have hev:xs.toList.map (St.ev ⟨σ,H⟩)=xs.toList.map (St.ev ⟨σ,H'⟩):=mB (fun x _=>Uf σ H H' x);have a6n:∃bs,Xj w (xs.toList.map a.eval) ds bs/\∀b∈bs,Seen Θ ms b:=by
   rcases hds with hds|⟨hk,rfl,rfl⟩
   ·have:=a0A hx hds;rw[hev]at this;exact Po hs this
   ·rw[hev]at hk⊢;exact SA hs hk
  obtain⟨bs,hargs,hz⟩:=a6n;let Θc:Nat->Nat:=fun b=>if Θ b=0\/ms.any (fun m=>Θ b==m+2)then 0 else 1
  have Oo:∀b,Seen Θ ms b->Θc b=0:=by
   intro b h;simp only[Θc];rw[bP];rcases h with h|⟨m,h1,h2⟩
   ·exact .inl h
   ·exact .inr (dO.2 ⟨m,h1,by simp[h2]⟩)
  have hc:=pL.2 w Θc _ bs hs.vok hargs (fun b hb=>Oo b (hz b hb)) (fun b hb=>hs.own b (fun e=>hb (Oo b (.inl e)))) (fun b=>by simp only[Θc];split<;>omega);unfold Oper.wp;rw[A9 hop pL.1,Oper.upon_enter];have e:xs.map a.eval=(xs.toList.map a.eval).toArray:=by rw[<-j7,kU]
  rw[e];refine hc.mono ?_;rintro e w' ⟨v,bs',tb,ub,rfl,hb,hr',RG,htb,hnd,hfr,hsub⟩;show K (a.put o.dst v) w';rw[hd];rcases hi with hi|⟨hown,Wb,U4⟩
  rotate_left
  ·cases hr' with
   |gb=>cases hown
   |v hv=>
    have Hi:bs'=[]:=hv.own (by
     unfold D.a7o at hown;split at hown
     ·cases hown
     ·exact hown)
    obtain⟨b,q,s⟩:=hv.Ek;have hp:place H' p.r p.obs=H':=by rw[U4];simp[place]
    refine hK κ Θ _ w' ?_ (fun _ _=>rfl);rw[hp,Wb];refine(hs.grow hb).set ht (.v (.cell (.pure q))) fun x hx'=>?_
    rcases s x hx' with h|h
    ·rw[Hi]at h;cases h
    ·by_cases h0:Θ x=0
     ·exact h0
     ·have:=hs.own x h0;have:=(hfr x h).1;omega
  obtain⟨L,q1,q2,q3,q4,q5⟩:=hr'.inst p.r;rw[hi]at q1 q5;simp only at q1 q5;have hLl:L.length=p.obs.length:=by have:=congrArg List.length q1;simpa using this
  obtain⟨κ',Θ',hs',hnm,_,hno,hsame⟩:=hs.S9 hb L q2 (q3▸hnd) (fun b hb'=>hfr b (q3▸hb')) p.r (place H' p.r p.obs) (fun i hi'=>hfree i (by omega)) (by rw[wN hr];exact bR _) (by rw[wN hr];omega) (by
   intro j y hj;rw[wM hr]at hj;split at hj
   ·rename_i h1;exact .inr ⟨.inl h1,.inr hj⟩
   ·rename_i h1;split at hj
    ·rename_i h2;rw[<-q1,bz]at hj;cases hx':L[j-p.r]? with
     |none=>simp[hx']at hj
     |some x=>simp[hx']at hj;exact .inl ⟨j-p.r,x,by omega,hx',hj.symm⟩
    ·exact .inr ⟨.inr (by omega),.inr hj⟩)
  refine hK κ' Θ' _ w' (hs'.set (t:=t) ht (q5 κ' hnm) fun b hb'=>?_) (fun j hj=>hsame j (by omega));rw[hno b (q4▸htb b hb')];rcases hsh with T5|hown
  ·by_cases hlt:b<w.heap.size
   ·have h0:=RG b hb' hlt;simp only[Θc,T5,M4]at h0;by_cases h1:Θ b=0
    ·exact h1
    ·simp[h1]at h0
   ·by_cases h0:Θ b=0
    ·exact h0
    ·exact absurd (hs.own b h0) hlt
  ·rw[hr'.own hown]at hb';cases hb'
theorem eE.VB{σ:List (Nat×D)}{H':bU}(hs:eE Γ ⟨σ,H'⟩ κ Θ a w){r:Nat}(hr:r+1<=H'.length)(hfree:κ r=none){cs:Array Value}{ds:aR}{bs:aa}(T:TypeId)(hrd:fF w κ cs.toList ds bs)(hz:∀b∈bs,Θ b=0):
 eE Γ ⟨σ,place H' r [.box ds]⟩ (AH κ r (some (.pointer (some ⟨w.heap.size,0,none⟩)))) (fun b=>if b=w.heap.size then r+2 else Θ b) a (w.alloc (.cells cs T)):=by
 have k:=jP.alloc hs (.cells cs T) (tag:=r+2) (by omega);have hn:=zV hfree (some (Value.pointer (some ⟨w.heap.size,0,none⟩)));obtain⟨h1,h2⟩:=fF.stay k hn hrd hz;obtain⟨ρ,hu⟩:=hs.wE;refine hs.put (id:=r) (o:=.box ds) [] ?_ hn ?_ ?_ k (hs.BI (fun b hb=>by by_cases e:b=w.heap.size<;>simp_all)) ?_ hu (by simp) (by intro e sz rows h;cases h)
 ·intro j y hj;rw[wM (by simpa using hr)]at hj;split at hj
  ·exact .inr ⟨by omega,hj⟩
  ·split at hj
   ·rename_i h2;simp only[aK,bK]at h2;have e:j=r:=by omega
    subst e;simp at hj;exact .inl ⟨rfl,hj.symm⟩
   ·rename_i h2;simp only[aK,bK]at h2;exact .inr ⟨by omega,hj⟩
 ·intro i hi;rw[wN (by simpa using hr)]at hi;unfold AH;rw[bH (by omega)];exact hs.rD i hi
 ·intro i x hx;unfold AH at hx;split at hx
  ·cases hx;rfl
  ·exact hs.qR i x hx
 ·exact⟨w.heap.size,cs,T,by simp[AH],heap_alloc_new w _,by simp,bs,h1,h2⟩
theorem Sg.wp{Q':Exit->Act->World->Prop}{σ:List (Nat×D)}{H H':bU}{o:Oper}{p:Cp}{K:Act->World->Prop}(hs:eE Γ ⟨σ,H'⟩ κ Θ a w){t:Nat}(hd:o.dst=some t)(ht:t<Γ.nt)(h:Sg P H σ o p)
 (hr:p.r+p.obs.length<=H'.length) (hfree:∀i,i<p.obs.length->κ (p.r+i)=none)
 (hK:∀κ' Θ' a' w',eE Γ ⟨(t,p.d)::σ,place H' p.r p.obs⟩ κ' Θ' a' w'->(∀j,(j<p.r\/p.r+p.obs.length<=j)->κ' j=κ j)->K a' w'):o.wp P a w K Q':=by
 rcases h with⟨T,zs,hop,hz,Wb,U4⟩|⟨T,x,ds,hop,hc,Wb,U4⟩
 ·rw[U4]at hr hfree hK;rw[Wb]at hK;obtain⟨i,z,hi,AE,hsz,hlen,hone,rfl⟩:=zO hz;have hs':=hs.VB (r:=p.r) hr (by simpa using hfree 0 (by simp)) T (cs:=z.cells) (Dl z.cells.toList hone) (by simp);unfold Oper.wp;have hrun:(execOp a.eval o).run P w=.ok (.value (.pointer (some ⟨w.heap.size,0,none⟩))) (w.alloc (.cells z.cells T)):=by
   simp[execOp,hop,Instr.alloc,zeroValue,typeInfo,hi,AE,newVar,newRow]
  rw[hrun,Oper.upon_value,hd];refine hK _ _ _ _ (hs'.set (t:=t) (d:=.ptr p.r 0) (bs:=[]) ht ?_ (by simp)) (fun j hj=>?_)
  ·exact(BH.ptr p.r 0 w.heap.size (by simp[AH])).Tu
  ·unfold AH;simp only[aK,bK]at hj;rw[bH (by omega)]
 ·rw[U4]at hr hfree hK;rw[Wb]at hK;obtain⟨bs,rr,hz⟩:=hs.ev x;rw[Uf σ H' H x]at rr;have hcs:=DH hs.qR rr hc;have hs':=hs.VB (r:=p.r) hr (by simpa using hfree 0 (by simp)) T hcs hz;unfold Oper.wp;have hrun:(execOp a.eval o).run P w=.ok (.value (.pointer (some ⟨w.heap.size,0,none⟩))) (w.alloc (.cells (a.eval x).cells T)):=by
   simp[execOp,hop,Instr.box,newVar,newRow]
  rw[hrun,Oper.upon_value,hd];refine hK _ _ _ _ (hs'.set (t:=t) (d:=.ptr p.r 0) (bs:=[]) ht ?_ (by simp)) (fun j hj=>?_)
  ·exact(BH.ptr p.r 0 w.heap.size (by simp[AH])).Tu
  ·unfold AH;simp only[aK,bK]at hj;rw[bH (by omega)]
theorem eE.a2A{σ:List (Nat×D)}{H':bU}(hs:eE Γ ⟨σ,H'⟩ κ Θ a w){r:Nat}(hr:r+1<=H'.length)(hfree:κ r=none){u:Bool}{e sz cap:Nat}{rows:List aR}{bs:aa}(cur:Array Value)(hsz:0<sz)(hrl:∀x∈rows,x.length=sz)
 (QO:cur.size=cap*sz) (hn:rows.length<=cap) (hcap:cap<=maxLen) (hrd:mR w (cur.toList.take (rows.length*sz)) rows.flatten bs) (hz:∀b∈bs,Θ b=0) (hq:u=true->bs=[]):
 eE Γ ⟨σ,place H' r [.row (BC u) e sz rows]⟩ (AH κ r (some (.slice (some ⟨w.heap.size,0,none⟩) rows.length cap))) (fun b=>if b=w.heap.size then r+2 else Θ b) a (w.alloc (.cells cur e)):=by
 have k:=jP.alloc hs (.cells cur e) (tag:=r+2) (by omega);have hkn:=zV hfree (some (Value.slice (some ⟨w.heap.size,0,none⟩) rows.length cap));obtain⟨h1,h2⟩:=mR.over k hrd hz;have hlen:(cur.toList.take (rows.length*sz)).length=rows.length*sz:=by
  have:rows.length*sz<=cap*sz:=dR _ hn;have h3:cur.toList.length=cap*sz:=by rw[<-QO];simp
  rw[cL,h3,eo this]
 have hown:(w.alloc (.cells cur e)).ownsRow 0 e sz (.slice (some ⟨w.heap.size,0,none⟩) rows.length cap) rows.length (cur.toList.take (rows.length*sz)):=
  ⟨hlen,.inr ⟨w.heap.size,cap,cur,rfl,by omega,heap_alloc_new w _,hn,hcap,QO,rfl⟩⟩
 obtain⟨ρ,hu⟩:=hs.wE;refine hs.put (id:=r) (o:=.row (BC u) e sz rows) [] ?_ hkn ?_ ?_ k (hs.BI (fun b hb=>by by_cases e:b=w.heap.size<;>simp_all)) ?_ hu (by simp) ?_
 ·intro j y hj;rw[wM (by simpa using hr)]at hj;split at hj
  ·exact .inr ⟨by omega,hj⟩
  ·split at hj
   ·rename_i h2;simp only[aK,bK]at h2;have e:j=r:=by omega
    subst e;simp at hj;exact .inl ⟨rfl,hj.symm⟩
   ·rename_i h2;simp only[aK,bK]at h2;exact .inr ⟨by omega,hj⟩
 ·intro i hi;rw[wN (by simpa using hr)]at hi;unfold AH;rw[bH (by omega)];exact hs.rD i hi
 ·intro i x hx;unfold AH at hx;split at hx
  ·cases hx;rfl
  ·exact hs.qR i x hx
 ·refine⟨hsz,hrl,_,_,bs,by simp[AH],hown,h1,?_,?_⟩
  ·intro g hg;simp only[Value.ownBlock,av]at hg;subst hg;simp
  ·cases u<;>exact h2
 ·intro e' sz' dN he;cases u with
  |false=>simp[BC]at he
  |true=>
   simp only[BC,Ob.row.injEq,vX]at he;obtain⟨rfl,rfl,rfl⟩:=he;have:=hq rfl;subst this;exact⟨_,_,[],by simp[AH],hown,h1,by simp,by simp⟩
theorem Sj.wp{Q':Exit->Act->World->Prop}{σ:List (Nat×D)}{H H':bU}{o:Oper}{p:Cp}{K:Act->World->Prop}(hs:eE Γ ⟨σ,H'⟩ κ Θ a w)(hx:Ext H H'){t:Nat}(hd:o.dst=some t)(ht:t<Γ.nt)(h:Sj P H σ o p)
 (hr:p.r+p.obs.length<=H'.length) (hfree:∀i,i<p.obs.length->κ (p.r+i)=none)
 (hK:∀κ' Θ' a' w',eE Γ ⟨(t,p.d)::σ,place H' p.r p.obs⟩ κ' Θ' a' w'->(∀j,(j<p.r\/p.r+p.obs.length<=j)->κ' j=κ j)->K a' w'):o.wp P a w K Q':=by
 obtain⟨T,e,sz,len,parts,zs,ds,es,hop,hT,hz,hsz,hsmall,hf,habs,Wb,U4⟩:=h;rw[U4]at hr hfree hK;rw[Wb]at hK;have hf':A7 (ux len sz) (List.replicate len zs).flatten (parts.toList.map fun q=>(q.1,St.ev ⟨σ,H'⟩ q.2))=some ds:=by
  rw[<-hf];congr 1
 obtain⟨arr,b0,hrun,RU,hb0,hal,hdl⟩:=BX (st:=⟨σ,H'⟩) hop hT hz hsz hsmall hf' hs;obtain⟨ρ,hu⟩:=hs.wE;obtain⟨bs,q1,q2,q3⟩:=Vw (H:=H) (ρ:=ρ) habs (by simp) RU hb0 (by simp);have hel:es.length=len*sz:=by rw[<-q1.length,RU.length,hdl]
 obtain⟨c1,c2,c3⟩:=G8 sz len es hel;have hs':=hs.a2A (r:=p.r) hr (by simpa using hfree 0 (by simp)) (u:=ds.all (Yg H)) (e:=e) (sz:=sz) (cap:=len) (rows:=chunk sz len es) (bs:=bs) arr hsz c3 hal (by rw[c1];exact bR _)
  (by unfold maxLen;have:len*1<=len*sz:=eG _ hsz;omega) (by rw[c1,c2,oy (by simp[hal])];exact q1) q2
  (fun hq=>by
   obtain⟨_,h2⟩:=q3 hq;cases bs with
   |nil=>rfl
   |cons b bs=>obtain⟨m,hm,_⟩:=h2 b (by simp);cases hm)
 unfold Oper.wp;rw[hrun,Oper.upon_value,hd];rw[c1]at hs';refine hK _ _ _ _ (hs'.set (t:=t) (d:=.acc p.r) (bs:=[]) ht ?_ (by simp)) (fun j hj=>?_)
 ·exact(BH.acc p.r _ (by simp[AH])).Tu
 ·unfold AH;simp only[aK,bK]at hj;rw[bH (by omega)]
theorem Si.wp{Q':Exit->Act->World->Prop}{σ:List (Nat×D)}{H H':bU}{o:Oper}{p:Cp}{K:Act->World->Prop}(hs:eE Γ ⟨σ,H'⟩ κ Θ a w){t:Nat}(hd:o.dst=some t)(ht:t<Γ.nt)(h:Si P H σ o p)
 (hK:∀κ' Θ' a' w',eE Γ ⟨(t,p.d)::σ,place H' p.r p.obs⟩ κ' Θ' a' w'->(∀j,(j<p.r\/p.r+p.obs.length<=j)->κ' j=κ j)->K a' w'):o.wp P a w K Q':=by
 obtain⟨T,e,sz,len,parts,zs,ds,hop,hT,hz,hsz,hsmall,hf,aC9,NE,Wb,U4⟩:=h;rw[U4]at hK;rw[Wb]at hK;have hf':A7 (ux len sz) (List.replicate len zs).flatten (parts.toList.map fun q=>(q.1,St.ev ⟨σ,H'⟩ q.2))=some ds:=by
  rw[<-hf];congr 1
 obtain⟨arr,b0,hrun,RU,hb0,hal,hdl⟩:=BX (st:=⟨σ,H'⟩) hop hT hz hsz hsmall hf' hs;have hrd:=RU.pure aC9;have aBo:b0=[]:=hrd.flat NE;subst aBo;obtain⟨c1,c2,c3⟩:=G8 sz len ds hdl;have WT:Below w.heap.size w (w.alloc (.cells arr e)):=by
  have k:=jP.alloc hs (.cells arr e) (tag:=2) (by omega);refine⟨k.os,k.tape,k.output,k.size,fun b hlt=>?_⟩;simp only[World.alloc];rw[Array.getElem?_push,bH (by omega)]
 have hs':=hs.grow WT;unfold Oper.wp;rw[hrun,Oper.upon_value,hd];have hpl:place H' p.r ([]:bU)=H':=by simp[place]
 rw[hpl]at hK;refine hK _ _ _ _ (hs'.set (t:=t) (d:=.sl (chunk sz len ds)) (bs:=[w.heap.size]) ht ?_ ?_) (fun j hj=>rfl)
 ·have hcell:∀j c,arr.toList[j]?=some c->(w.alloc (.cells arr e)).cell? ⟨w.heap.size,0+j,none⟩=some c:=by
   intro j c hj;simp only[cm,World.cell?,heap_alloc_new w _];simpa using hj
  have hlt:w.heap.size<(w.alloc (.cells arr e)).heap.size:=(bL.1 (heap_alloc_new w _)).1;have:=Rd.sl (w:=w.alloc (.cells arr e)) w.heap.size 0 len sz (chunk sz len ds) arr.toList [] hlt (by rw[c1];exact bR _) (by unfold maxLen;have:len*1<=len*sz:=eG _ hsz;omega) c3 hcell (by rw[c2];exact hrd.keep (by simp));rw[c1]at this;exact .of this
 ·intro b hb;simp only[dw]at hb;subst hb;cases h:Θ w.heap.size with
  |zero=>rfl
  |succ m=>exact absurd (hs.own w.heap.size (by omega)) (by omega)
theorem M6.wp{Q':Exit->Act->World->Prop}{σ:List (Nat×D)}{H H':bU}{o:Oper}{p:Cp}{K:Act->World->Prop}(hs:eE Γ ⟨σ,H'⟩ κ Θ a w)(hx:Ext H H'){t:Nat}(hd:o.dst=some t)(ht:t<Γ.nt)(h:M6 P H σ o p)
 (hr:p.r+p.obs.length<=H'.length) (hfree:∀i,i<p.obs.length->κ (p.r+i)=none)
 (hK:∀κ' Θ' a' w',eE Γ ⟨(t,p.d)::σ,place H' p.r p.obs⟩ κ' Θ' a' w'->(∀j,(j<p.r\/p.r+p.obs.length<=j)->κ' j=κ j)->K a' w'):o.wp P a w K Q':=by
 rcases h with h|h|h|h
 ·exact h.wp hs hx hd ht hr hfree hK
 ·exact h.wp hs hd ht hr hfree hK
 ·exact h.wp hs hx hd ht hr hfree hK
 ·exact h.wp hs hd ht hK
theorem eE.a36(hs:eE Γ st κ Θ a w){ops:Array Oper}{j s:Nat}(hj:(ops[j]?).bind (·.dst)=some s)(hb:lk st.σ s=.gb []):yielded ops a.tmps j=none:=by
 obtain⟨bs,r,_⟩:=hs.slot s;rw[hb]at r;have hv:=r.SV;rcases eH s a.tmps.size with hlt|hlt
 ·have h1:a.tmps[s]?=some (.tuple #[]):=by
   rw[cO,cR hlt]at hv;rw[cR hlt];simpa using hv
  simp[yielded,hj,h1]
 ·simp[yielded,hj,tO hlt]
def Cp.Cy(p:Cp)(H':bU):bU:=match p.up with|some (id,ob)=>H'.set id ob|none=>place H' p.r p.obs
theorem vY.wp{Q':Exit->Act->World->Prop}{σ:List (Nat×D)}{H H':bU}{ops:Array Oper}{i:Nat}{o:Oper}{p:Cp}{K:Act->World->Prop}(hs:eE Γ ⟨σ,H'⟩ κ Θ a w)(hx:Ext H H')(hi:ops[i]?=some o)(h:vY P Γ ops H σ o p)
 (hr:p.r+p.obs.length<=H'.length) (hfree:∀i,i<p.obs.length->κ (p.r+i)=none) (Vm:∀id ob,p.up=some (id,ob)->∃zs ds,H'[id]?=some (.box zs)/\ob=.box ds/\zs.length=ds.length)
 (hK:∀κ' Θ' a' w',eE Γ ⟨p.slot σ,p.Cy H'⟩ κ' Θ' a' w'->(∀j,(j<p.r\/p.r+p.obs.length<=j)->κ' j=κ j)->K a' w'):wpOp P ops Q' i K a w:=by
 rcases h with⟨t,hpt,YB,hd,ht,h⟩|⟨hpt,U4,hd,hg,T,x,y,id,ds,hop,hev,hlen,hc,hT,hl,YB⟩
 ·have e1:p.slot σ=(t,p.d)::σ:=by simp[Cp.slot,hpt]
  have e2:p.Cy H'=place H' p.r p.obs:=by simp[Cp.Cy,YB]
  rw[e1,e2]at hK;rcases h with⟨hg,hc⟩|⟨j,s,want,b,hg,hj,hb,hc⟩|⟨j,s,want,hg,hj,hb,a6m,hno⟩
  ·exact C7 hi (by simp[Region.wanted,hg]) (hc.wp hs hx hd ht hr hfree hK)
  ·have hy:=hs.a8T hj hb;rcases hc with⟨rfl,hc⟩|⟨hne,a6m,hno⟩
   ·exact C7 hi (by simp[Region.wanted,hg,hy]) (hc.wp hs hx hd ht hr hfree hK)
   ·unfold wpOp;have hw:Region.wanted o (yielded ops a.tmps)=false:=by simp[Region.wanted,hg,hy,hne]
    simp only[hi,hw,BN,DB,hd];have hp:place H' p.r p.obs=H':=by rw[hno];simp[place]
    exact hK κ Θ _ _ (by rw[hp,a6m];exact hs.set ht (.gb [] [] [] .nil) (by simp)) (fun _ _=>rfl)
  ·have hy:=hs.a36 hj hb;unfold wpOp;have hw:Region.wanted o (yielded ops a.tmps)=false:=by simp[Region.wanted,hg,hy]
   simp only[hi,hw,BN,DB,hd];have hp:place H' p.r p.obs=H':=by rw[hno];simp[place]
   exact hK κ Θ _ _ (by rw[hp,a6m];exact hs.set ht (.gb [] [] [] .nil) (by simp)) (fun _ _=>rfl)
 ·have e1:p.slot σ=σ:=by simp[Cp.slot,hpt]
  have e2:p.Cy H'=H'.set id (.box ds):=by simp[Cp.Cy,YB]
  rw[e1,e2]at hK;obtain⟨zs,ds',hz,he,hzl⟩:=Vm id _ YB;cases he;obtain⟨w',hrun,hs'⟩:=SM (st:=⟨σ,H'⟩) hop (by rw[Uf σ H' H x];exact hev) hz rfl (by rw[Uf σ H' H y];exact hc) hT hl (by omega) hs;refine C7 hi (by simp[Region.wanted,hg]) ?_;unfold Oper.wp;rw[hrun,Oper.upon_skip,hd];have e3:zs.take 0++ds++zs.drop (0+ds.length)=ds:=by
   rw[Dx (by omega)];simp
  rw[e3]at hs';exact hK κ Θ _ _ hs' (fun _ _=>rfl)
theorem Ns.congr{H:bU}{σ σ':List (Nat×D)}{o:Oper}{p:Cp}(he:∀x∈o.op.operands.toList,St.ev ⟨σ,H⟩ x=St.ev ⟨σ',H⟩ x)(h:Ns P H σ o p):Ns P H σ' o p:=by
 rcases h with⟨h,hno⟩|⟨f,xs,ts,ds,ms,d,hop,hds,hsh,pL,hi⟩
 ·exact .inl ⟨TY (fun _ _ h=>h) he h,hno⟩
 ·have hm:xs.toList.map (St.ev ⟨σ,H⟩)=xs.toList.map (St.ev ⟨σ',H⟩):=by
   apply mB;intro x hx;refine he x ?_;rw[hop];simp only[Op.operands,Call.operands,lq,ar];exact .inr hx
  rw[hm]at hds;exact .inr ⟨f,xs,ts,ds,ms,d,hop,hds,hsh,pL,hi⟩
theorem M6.congr{H:bU}{σ σ':List (Nat×D)}{o:Oper}{p:Cp}(he:∀x∈o.op.operands.toList,St.ev ⟨σ,H⟩ x=St.ev ⟨σ',H⟩ x)(h:M6 P H σ o p):M6 P H σ' o p:=by
 rcases h with h| (h|⟨T,x,ds,hop,hc,Wb,U4⟩)|⟨T,e,sz,len,parts,zs,ds,es,hop,hT,hz,hsz,hsmall,hf,habs,Wb,U4⟩|⟨T,e,sz,len,parts,zs,ds,hop,hT,hz,hsz,hsmall,hf,habs,hfl,Wb,U4⟩
 ·exact .inl (h.congr he)
 ·exact .inr (.inl (.inl h))
 ·exact .inr (.inl (.inr ⟨T,x,ds,hop,by rw[<-he x (by rw[hop];simp[Op.operands])];exact hc,Wb,U4⟩))
 ·refine .inr (.inr (.inl ⟨T,e,sz,len,parts,zs,ds,es,hop,hT,hz,hsz,hsmall,?_,habs,Wb,U4⟩));rw[<-hf]
  congr 1
  apply mB;intro q hq;rw[he q.2 ?_];rw[hop];simp only[Op.operands,j7];exact cH.2 ⟨q,hq,rfl⟩
 ·refine .inr (.inr (.inr ⟨T,e,sz,len,parts,zs,ds,hop,hT,hz,hsz,hsmall,?_,habs,hfl,Wb,U4⟩));rw[<-hf]
  congr 1
  apply mB;intro q hq;rw[he q.2 ?_];rw[hop];simp only[Op.operands,j7];exact cH.2 ⟨q,hq,rfl⟩
theorem vY.congr{H:bU}{σ σ':List (Nat×D)}{ops:Array Oper}{o:Oper}{p:Cp}(he:∀t∈o.looksAt ops,lk σ t=lk σ' t)(h:vY P Γ ops H σ o p):vY P Γ ops H σ' o p:=by
 have hev:=QF (st:=⟨σ,H⟩) (xQ:=⟨σ',H⟩) he;have hgu:∀ {j s:Nat} {want:Bool},o.guard=some (j,want)->(ops[j]?).bind (·.dst)=some s->lk σ s=lk σ' s:=by
  intro j s want hg hj;refine he s ?_;unfold Oper.looksAt;refine ar.2 (.inr ?_);simp[hg,hj]
 rcases h with⟨t,hpt,YB,hd,ht,h⟩|⟨hpt,U4,hd,hg,T,x,y,id,ds,hop,hx,hlen,hc,hT,hl,YB⟩
 ·refine .inl ⟨t,hpt,YB,hd,ht,?_⟩;rcases h with⟨hg,hc⟩|⟨j,s,want,b,hg,hj,hb,hc⟩|⟨j,s,want,hg,hj,hb,hc⟩
  ·exact .inl ⟨hg,hc.congr hev⟩
  ·refine .inr (.inl ⟨j,s,want,b,hg,hj,by rw[<-hgu hg hj];exact hb,?_⟩);rcases hc with⟨h1,hc⟩|hc
   ·exact .inl ⟨h1,hc.congr hev⟩
   ·exact .inr hc
  ·exact .inr (.inr ⟨j,s,want,hg,hj,by rw[<-hgu hg hj];exact hb,hc⟩)
 ·refine .inr ⟨hpt,U4,hd,hg,T,x,y,id,ds,hop,?_,hlen,?_,hT,hl,YB⟩
  ·rw[<-hev x (by rw[hop];simp[Op.operands])];exact hx
  ·rw[<-hev y (by rw[hop];simp[Op.operands])];exact hc
def Cp.sl(p:Cp):Option (Nat×D):=p.t.map fun t=>(t,p.d)
theorem Cp.a54(p:Cp)(σ:List (Nat×D)):p.slot σ=p.sl.toList++σ:=by
 unfold Cp.slot Cp.sl;cases p.t<;>rfl
theorem Pe(p:Cp)(ps:List Cp)(σ:List (Nat×D)):((p::ps).filterMap Cp.sl).reverse++σ=(ps.filterMap Cp.sl).reverse++p.slot σ:=by
 rw[Cp.a54,Aa];cases p.sl<;>simp
theorem vY.a39{H:bU}{σ:List (Nat×D)}{o:Oper}{p:Cp}(h:vY P Γ all H σ o p):p.up=none\/p.obs=[]:=by
 rcases h with⟨_,_,h,_⟩|⟨_,h,_⟩
 ·exact .inl h
 ·exact .inr h
theorem vY.slots{H:bU}{σ:List (Nat×D)}{o:Oper}{p:Cp}(h:vY P Γ all H σ o p):o.dst=p.t:=by
 rcases h with⟨t,h1,_,h2,_⟩|⟨h1,_,h2,_⟩
 ·rw[h1,h2]
 ·rw[h1,h2]
theorem Oe.unfold{H:bU}{K:List (Nat×D)->bU->Prop}:∀(l:List Oper) (σ:List (Nat×D)) (acc:bU) (U:aa),Oe P Γ all H K l σ acc U->
 ∃(ps:List Cp) (PF:bU),ps.length=l.length/\(∀(i:Nat) o p,l[i]?=some o->ps[i]?=some p->vY P Γ all H (((ps.take i).filterMap Cp.sl).reverse++σ) o p/\p.r=H.length+acc.length+((ps.take i).flatMap Cp.obs).length/\
  ∀id ob,p.up=some (id,ob)->id∉U/\H.length<=id/\(∃zs ds,ob=.box ds/\zs.length=ds.length/\(acc++(ps.take i).flatMap Cp.obs)[id-H.length]?=some (.box zs))/\∀(i2:Nat) q D4,i2<i->ps[i2]?=some q->q.up≠some (id,D4))/\
  K ((ps.filterMap Cp.sl).reverse++σ) PF/\PF.length=acc.length+(ps.flatMap Cp.obs).length/\
  (∀k,(∀(i:Nat) q ob,ps[i]?=some q->q.up≠some (H.length+k,ob))->PF[k]?=(acc++ps.flatMap Cp.obs)[k]?)/\
  ∀(i:Nat) q id ob,ps[i]?=some q->q.up=some (id,ob)->PF[id-H.length]?=some ob:=by
 intro l
 induction l with
 |nil=>
  intro σ acc U h;have h:K σ acc:=h;exact⟨[],acc,rfl,by simp,by simpa using h,by simp,by simp,by simp⟩
 |cons o l ih=>
  intro σ acc U h;obtain⟨p,hr,hc,hok,xN⟩:=h;obtain⟨ps,PF,h1,h2,h3,h4,h5,h6⟩:=ih _ _ _ xN;cases Vm:p.up with
  |none=>
   have ef:p.fill H.length acc=acc++p.obs:=by simp[Cp.fill,Vm]
   have eu:p.ups U=U:=by simp[Cp.ups,Vm]
   rw[ef]at h2 h4 h5;rw[eu]at h2;refine⟨p::ps,PF,by simp[h1],?_,by rw[Pe];exact h3,by rw[h4];simp;omega,?_,?_⟩
   ·intro i o' p' ho hp;cases i with
    |zero=>
     simp at ho hp;subst ho;subst hp;refine⟨by simpa using hc,by simpa using hr,?_⟩;intro id ob he;rw[Vm]at he;cases he
    |succ i=>
     simp at ho hp;obtain⟨q1,q2,q3⟩:=h2 i o' p' ho hp;refine⟨by rw[wZ,Pe];exact q1,by rw[q2];simp;omega,?_⟩;intro id ob he;obtain⟨r1,r2,⟨zs,ds,r3,r4,r5⟩,r6⟩:=q3 id ob he;refine⟨r1,r2,⟨zs,ds,r3,r4,by rw[<-r5];simp⟩,?_⟩;intro i2 q D4 hlt hq;cases i2 with
     |zero=>simp at hq;subst hq;rw[Vm];simp
     |succ i2=>exact r6 i2 q D4 (by omega) (by simpa using hq)
   ·intro k hk;rw[h5 k (fun i q ob hq=>hk (i+1) q ob (by simpa using hq))];simp
   ·intro i q id ob hq he;cases i with
    |zero=>simp at hq;subst hq;rw[Vm]at he;cases he
    |succ i=>exact h6 i q id ob (by simpa using hq) he
  |some x=>
   obtain⟨YH,ob0⟩:=x;have ef:p.fill H.length acc=acc.set (YH-H.length) ob0:=by simp[Cp.fill,Vm]
   have eu:p.ups U=YH::U:=by simp[Cp.ups,Vm]
   have ho0:p.obs=[]:=by
    rcases hc.a39 with h|h
    ·rw[h]at Vm;cases Vm
    ·exact h
   rw[ef]at h2 h4 h5;rw[eu]at h2;simp only[Cp.aAi,Vm]at hok;obtain⟨u1,u2,zs0,ds0,u3,u4,u5⟩:=hok;have qT:∀(X:bU) (k:Nat),k≠YH-H.length->(acc.set (YH-H.length) ob0++X)[k]?=(acc++X)[k]?:=by
    intro X k hk;by_cases hl:k<acc.length
    ·rw[b9 (by simpa using hl),b9 hl,cE (tP hk)]
    ·rw[bE (by simpa using hl),bE (by omega)];simp
   have hno:∀(i:Nat) q D4,ps[i]?=some q->q.up≠some (YH,D4):=by
    intro i q D4 hq he;have hlt:i<l.length:=by have:=(aH.1 hq).1;omega
    have:=(h2 i l[i] q (ai hlt) hq).2.2 YH D4 he;exact this.1 (by simp)
   refine⟨p::ps,PF,by simp[h1],?_,by rw[Pe];exact h3,by rw[h4];simp[ho0],?_,?_⟩
   ·intro i o' p' ho hp;cases i with
    |zero=>
     simp at ho hp;subst ho;subst hp;refine⟨by simpa using hc,by simpa using hr,?_⟩;intro id ob he;rw[Vm]at he;cases he;exact⟨u1,u2,⟨zs0,ds0,u4,u5,by simpa using u3⟩,by intro i2 q D4 hlt;omega⟩
    |succ i=>
     simp at ho hp;obtain⟨q1,q2,q3⟩:=h2 i o' p' ho hp;refine⟨by rw[wZ,Pe];exact q1,by rw[q2];simp[ho0],?_⟩;intro id ob he;obtain⟨r1,r2,⟨zs,ds,r3,r4,r5⟩,r6⟩:=q3 id ob he;have hne:id≠YH:=fun e=>r1 (by simp[e])
     refine⟨fun h=>r1 (by simp[h]),r2,⟨zs,ds,r3,r4,?_⟩,?_⟩
     ·rw[<-r5,qT _ _ (by omega)];simp[ho0]
     ·intro i2 q D4 hlt hq;cases i2 with
      |zero=>simp at hq;subst hq;rw[Vm];intro e;cases e;exact hne rfl
      |succ i2=>exact r6 i2 q D4 (by omega) (by simpa using hq)
   ·intro k hk;rw[h5 k (fun i q ob hq=>hk (i+1) q ob (by simpa using hq))];have hne:k≠YH-H.length:=fun e=>hk 0 p ob0 rfl (by rw[Vm,e,show H.length+(YH-H.length)=YH from by omega])
    rw[qT _ _ hne];simp[ho0]
   ·intro i q id ob hq he;cases i with
    |zero=>
     simp at hq;subst hq;rw[Vm]at he;cases he;rw[h5 (YH-H.length) (fun i q D4 hq=>by rw[show H.length+(YH-H.length)=YH from by omega];exact hno i q D4 hq)];have hl:YH-H.length<acc.length:=(aH.1 u3).1;rw[b9 (by simpa using hl),dQ hl]
    |succ i=>exact h6 i q id ob (by simpa using hq) he
theorem eE.same{σ':List (Nat×D)}(h:∀t,lk st.σ t=lk σ' t)(hs:eE Γ st κ Θ a w):eE Γ ⟨σ',st.H⟩ κ Θ a w:=
 ⟨hs.defers,hs.size,hs.rD,hs.qR,fun t=>by show∃bs,tQ w κ _ (lk σ' t) bs/\_;rw[<-h t];exact hs.slot t,hs.ob,hs.own,hs.old,hs.mine,hs.stays,hs.wE⟩
theorem eE.room(hs:eE Γ st κ Θ a w)(m:Nat):eE Γ ⟨st.σ,st.H++List.replicate m .gone⟩ κ Θ a w:=by
 have key:∀(j:Nat) y,(st.H++List.replicate m .gone)[j]?=some y->y=.gone\/st.H[j]?=some y:=by
  intro j y hj;by_cases hlt:j<st.H.length
  ·rw[b9 hlt]at hj;exact .inr hj
  ·rw[bE (by omega)]at hj;rw[List.getElem?_replicate]at hj;split at hj
   ·cases hj;exact .inl rfl
   ·cases hj
 obtain⟨ρ,hu⟩:=hs.wE;refine⟨hs.defers,hs.size,fun i hi=>hs.rD i (by simp at hi;omega),hs.qR,hs.slot,?_,hs.own,hs.old,hs.mine,hs.stays,ρ,hu.free,?_,?_⟩
 ·intro j o hj;rcases key j o hj with rfl|h
  ·trivial
  ·exact hs.ob j o h
 ·intro id e sz rows hj;rcases key id _ hj with h|h
  ·cases h
  ·exact hu.rows id e sz rows h
 ·intro id o hj;rcases key id _ hj with h|h
  ·subst h;trivial
  ·exact hu.more id o h
theorem rX{ps:List Cp}{i:Nat}{p:Cp}(h:ps[i]?=some p):ps.flatMap Cp.obs=(ps.take i).flatMap Cp.obs++(p.obs++(ps.drop (i+1)).flatMap Cp.obs):=by
 have e:ps=ps.take i++(p::ps.drop (i+1)):=by
  obtain⟨hlt,rfl⟩:=aH.1 h;rw[Dy,cA]
 conv=>lhs;rw[e]
 simp
theorem B8{ps:List Cp}:∀ {k:Nat},k<(ps.flatMap Cp.obs).length->∃(i:Nat) (p:Cp) (j:Nat),ps[i]?=some p/\j<p.obs.length/\k=((ps.take i).flatMap Cp.obs).length+j:=by
 induction ps with
 |nil=>intro k h;simp at h
 |cons p ps ih=>
  intro k h;by_cases hk:k<p.obs.length
  ·exact⟨0,p,k,rfl,hk,by simp⟩
  ·simp only[dM,aX]at h;obtain⟨i,q,j,h1,h2,h3⟩:=ih (k:=k-p.obs.length) (by omega);refine⟨i+1,q,j,by simpa using h1,h2,?_⟩;rw[wZ,dM,aX];omega
theorem SK{ps:List Cp}{i j:Nat}{p:Cp}(hp:ps[i]?=some p)(hij:i<j):((ps.take i).flatMap Cp.obs).length+p.obs.length<=((ps.take j).flatMap Cp.obs).length:=by
 have h:(ps.take j)[i]?=some p:=by rw[cI,bP hij];exact hp
 have:=rX h;rw[this];have e:(ps.take j).take i=ps.take i:=by rw[vU,eo (by omega)]
 rw[e];simp only[aX];omega
theorem a3j{id:Nat}{l:List Oper}(n:Nat)(hm:P.follows .mixedOrders=true)(hB:a10 l.toArray n=true)
 (h:Oe P Γ l.toArray st.H (fun σ acc=>AO P Γ l.toArray (l.drop n) Q ⟨σ,st.H++acc⟩) (l.take n) st.σ [] []):AW P Γ (.region id l.toArray true) Q st:=by
 simp only[a10,aY,oU,bI]at hB;obtain⟨⟨⟨hn,hsc⟩,a4F⟩,Ol⟩:=hB;obtain⟨ps,PF,hlen,QN,hK,hFl,hFo,hFu⟩:=Oe.unfold _ _ _ _ h;simp only[cN,bK,Av,cm]at QN hK hFl hFo;have hn':n<=l.length:=by simpa using hn
 have hpl:ps.length=n:=by rw[hlen];simp;omega
 have hop:∀(i:Nat),i<n->∃o p,l.toArray[i]?=some o/\ps[i]?=some p/\o.dst=p.t/\vY P Γ l.toArray st.H (((ps.take i).filterMap Cp.sl).reverse++st.σ) o p/\p.r=st.H.length+((ps.take i).flatMap Cp.obs).length:=by
  intro i hi;have h1:l[i]?=some l[i]:=ai (by omega);have h2:ps[i]?=some ps[i]:=ai (by omega);have h3:=QN i l[i] ps[i] (by rw[cI,bP hi];exact h1) h2;exact⟨l[i],ps[i],by simp[mY,h1],h2,h3.1.slots,h3.1,h3.2.1⟩
 have Wd:∀(i:Nat) p,ps[i]?=some p->p.r=st.H.length+((ps.take i).flatMap Cp.obs).length:=by
  intro i p hp;have hi:i<n:=by have:=(aH.1 hp).1;omega
  obtain⟨_,p',_,hp',_,_,hr⟩:=hop i hi;rw[hp]at hp';cases hp';exact hr
 have T6:∀(i:Nat) p id ob,ps[i]?=some p->p.up=some (id,ob)->st.H.length<=id/\(∃zs ds,ob=.box ds/\zs.length=ds.length/\((ps.take i).flatMap Cp.obs)[id-st.H.length]?=some (.box zs))/\∀(i2:Nat) q D4,i2<i->ps[i2]?=some q->q.up≠some (id,D4):=by
  intro i p id ob hp he;have hi:i<n:=by have:=(aH.1 hp).1;omega
  have h1:l[i]?=some l[i]:=ai (by omega);have h3:=(QN i l[i] p (by rw[cI,bP hi];exact h1) hp).2.2 id ob he;exact⟨h3.2.1,h3.2.2.1,h3.2.2.2⟩
 have a1R:∀(i j:Nat) p q id ob D4,ps[i]?=some p->ps[j]?=some q->p.up=some (id,ob)->q.up=some (id,D4)->i=j:=by
  intro i j p q id ob D4 hp hq he Lh;rcases yM i j with h|h|h
  ·exact absurd he ((T6 j q id D4 hq Lh).2.2 i p ob h hp)
  ·exact h
  ·exact absurd Lh ((T6 i p id ob hp he).2.2 j q D4 h hq)
 have a1S:∀(i:Nat) p id ob,ps[i]?=some p->p.up=some (id,ob)->p.obs=[]:=by
  intro i p id ob hp he;have hi:i<n:=by have:=(aH.1 hp).1;omega
  obtain⟨_,p',_,hp',_,hc,_⟩:=hop i hi;rw[hp]at hp';cases hp';rcases hc.a39 with h|h
  ·rw[h]at he;cases he
  ·exact h
 have hfit:∀(i:Nat) p,ps[i]?=some p->p.r+p.obs.length<=st.H.length+(ps.flatMap Cp.obs).length:=by
  intro i p hp;rw[Wd i p hp,rX hp];simp only[aX];omega
 have Sz:∀(i j:Nat) p q,ps[i]?=some p->ps[j]?=some q->i<j->p.r+p.obs.length<=q.r:=by
  intro i j p q hp hq hij;rw[Wd i p hp,Wd j q hq];have:=SK hp hij;omega
 have hdist:∀(i j:Nat) p q t,ps[i]?=some p->ps[j]?=some q->p.t=some t->q.t=some t->i=j:=by
  intro i j p q t hp hq he1 Lh;have hi:i<n:=by have:=(aH.1 hp).1;omega
  have hj:j<n:=by have:=(aH.1 hq).1;omega
  obtain⟨oi,p',ho,hp',hdi,_⟩:=hop i hi;obtain⟨oj,q',zx,RX,hdj,_⟩:=hop j hj;rw[hp]at hp';cases hp';rw[hq]at RX;cases RX;have:=bA.1 Ol i (bp.2 hi);simp only[ho,aY]at this;have:=bA.1 this.2 j (bp.2 hj);simp only[zx,hdi,hdj,he1,Lh,cu,bQ,ua,Option.isNone_some,ua,cj]at this;exact this.symm
 have Hl:∀(i:Nat) p t,ps[i]?=some p->p.t=some t->∀q∈ps.filterMap Cp.sl,q.1=t->q=(t,p.d):=by
  intro i p t hp hpt q hq he;obtain⟨q',RX,QT⟩:=cD.1 hq;obtain⟨j,hj,rfl⟩:=eL.1 RX;have M2:ps[j]?=some ps[j]:=ai hj;unfold Cp.sl at QT;cases hpj:ps[j].t with
  |none=>rw[hpj]at QT;cases QT
  |some u=>
   rw[hpj]at QT;simp only[cY,av]at QT;subst QT;simp only at he;subst he;have:=hdist j i _ p u M2 hp hpj hpt;subst this;rw[hp]at M2;cases M2;rfl
 intro κ Θ a w hs;have main:∀(f:Nat) (listed:Array Bool) (σ':List (Nat×D)) (H':bU) (κ:Nat->Option Value) (Θ:Nat->Nat) (a:Act) (w:World),HeadInv .any l.toArray n listed->
  ((List.range n).filter fun i=> !listed.getD i false).length=f->
  (∀(i:Nat) p t,ps[i]?=some p->p.t=some t->listed.getD i false=true->lk σ' t=p.d)->
  (∀t,(∀(i:Nat) p,ps[i]?=some p->listed.getD i false=true->p.t≠some t)->lk σ' t=lk st.σ t)->
  H'.length=st.H.length+(ps.flatMap Cp.obs).length->Ext st.H H'->
  (∀(i:Nat) p,ps[i]?=some p->listed.getD i false=true->∀(j:Nat) o,p.obs[j]?=some o->(∀(i2:Nat) q ob,ps[i2]?=some q->listed.getD i2 false=true->q.up≠some (p.r+j,ob))->H'[p.r+j]?=some o)->
  (∀(i:Nat) q id ob,ps[i]?=some q->listed.getD i false=true->q.up=some (id,ob)->H'[id]?=some ob/\∃v,κ id=some v)->
  (∀(i:Nat) p,ps[i]?=some p->listed.getD i false=false->∀j,j<p.obs.length->κ (p.r+j)=none)->
  eE Γ ⟨σ',H'⟩ κ Θ a w->
  wpAny P .any l.toArray (fun e a' w'=>∃xQ κ' Θ',eE Γ xQ κ' Θ' a' w'/\Q e xQ) (f+(l.toArray.size-n)) listed a w:=by
  intro f
  induction f with
  |zero=>
   intro listed σ' H' κ Θ a w inv p7 hA hB hHl hHe Y7 hHu Y6 hs;have hall:∀i,i<n->listed.getD i false=true:=by
    intro i hi;have h0:=cZ p7;cases hl:listed.getD i false with
    |true=>rfl
    |false=>
     have:i∈(List.range n).filter fun i=> !listed.getD i false:=fY.2 ⟨bp.2 hi,by simp[hl]⟩
     rw[h0]at this;cases this
   have a1H:listed=Array.replicate n true++Array.replicate (l.toArray.size-n) false:=by
    apply Array.ext
    ·rw[inv.size];simp;simp at hn;omega
    ·intro i h1 h2;by_cases hi:i<n
     ·have:=hall i hi;rw[C9 (by simpa using hi)];simp[h1]at this;simp[this]
     ·have hi':i<l.toArray.size:=by rw[<-inv.size];exact h1
      have:=inv.tail i (by omega) hi';rw[BM (by simpa using hi)];simp[h1]at this;simp[this]
   rw[cm];have OM:∀t,lk σ' t=lk ((ps.filterMap Cp.sl).reverse++st.σ) t:=by
    intro t;by_cases hex:∃(i:Nat) (p:Cp),ps[i]?=some p/\p.t=some t
    ·obtain⟨i,p,hp,hpt⟩:=hex;have hi:i<n:=by have:=(aH.1 hp).1;omega
     rw[hA i p t hp hpt (hall i hi)];have:=Ll (ps.filterMap Cp.sl).reverse st.σ (t,p.d) (by rw[dX];exact cD.2 ⟨p,aC hp,by simp[Cp.sl,hpt]⟩) (fun q hq he=>Hl i p t hp hpt q (by simpa using hq) he);exact this.symm
    ·rw[hB t (fun i p hp _ he=>hex ⟨i,p,hp,he⟩),Hs];intro q hq he;obtain⟨p,hp,hps⟩:=cD.1 (dX.1 hq);obtain⟨i,hi,hpi⟩:=eL.1 hp;refine hex ⟨i,p,by rw[<-hpi];exact ai hi,?_⟩;unfold Cp.sl at hps;cases hpt:p.t with
     |none=>rw[hpt]at hps;cases hps
     |some u=>rw[hpt]at hps;simp only[cY,av]at hps;subst hps;simp only at he;rw[he]
   have a16:H'=st.H++PF:=by
    apply o5;intro k;by_cases h1:k<st.H.length
    ·rw[b9 h1];exact hHe k _ (ai h1)|>.trans (ai h1).symm
    ·rw[bE (by omega)];by_cases hex:∃(i:Nat) (q:Cp) (ob:Ob),ps[i]?=some q/\q.up=some (k,ob)
     ·obtain⟨i,q,ob,hq,he⟩:=hex;have hi:i<n:=by have:=(aH.1 hq).1;omega
      rw[(hHu i q k ob hq (hall i hi) he).1,hFu i q k ob hq he]
     ·have hno:∀(i:Nat) q ob,ps[i]?=some q->q.up≠some (k,ob):=fun i q ob hq he=>hex ⟨i,q,ob,hq,he⟩
      rw[hFo (k-st.H.length) (fun i q ob hq=>by rw[show st.H.length+(k-st.H.length)=k from by omega];exact hno i q ob hq)];by_cases h2:k-st.H.length<(ps.flatMap Cp.obs).length
      ·obtain⟨i,p,j,hp,hj,hk⟩:=B8 h2;have hi:i<n:=by have:=(aH.1 hp).1;omega
       have e3:p.r+j=k:=by rw[Wd i p hp];omega
       have h3:=Y7 i p hp (hall i hi) j _ (ai hj) (fun i2 q ob hq _=>by rw[e3];exact hno i2 q ob hq);rw[e3]at h3;rw[h3,rX hp,hk,bE (by omega),dY,b9 hj,ai hj]
      ·rw[ck (by omega),ck (by omega)]
   have hs2:=eE.same (st:=⟨σ',H'⟩) (σ':=(ps.filterMap Cp.sl).reverse++st.σ) OM hs;simp only[a16]at hs2;have hwp:=hK κ Θ a w hs2;have hdl:(l.drop n).length=l.toArray.size-n:=by simp
   have:=wpAny_of_seq (md:=.any) (l.drop n) n listed a w (fun j=>by simp[dl]) (by rw[hdl,a1H];exact a4F) hwp
   rwa[hdl]at this
  |succ f ih=>
   intro listed σ' H' κ Θ a w inv p7 hA hB hHl hHe Y7 hHu Y6 hs;have hun:∃i,i<n/\listed.getD i false=false:=by
    have hne:((List.range n).filter fun i=> !listed.getD i false)≠[]:=by
     intro h0;rw[h0]at p7;simp at p7
    obtain⟨i,hi⟩:=wR _ hne;obtain⟨h1,h2⟩:=fY.1 hi;exact⟨i,bp.1 h1,by simpa using h2⟩
   have hsz:=inv.size;rw[show f+1+(l.toArray.size-n)=(f+(l.toArray.size-n))+1 from by omega];refine⟨fun h0=>?_,fun i hi=>?_⟩
   ·exfalso;obtain⟨i,⟨hin,Vk⟩,hmin⟩:=exists_least (p:=fun i=>i<n/\listed.getD i false=false) hun;obtain⟨o,p,ho,_,_,_⟩:=hop i hin;have:i∈Region.ready .any l.toArray listed:=by
     refine mem_ready.2 ⟨getD_in (by rw[hsz];omega) Vk,o,ho,fun e he hb=>?_⟩;have:=bA.1 Ol i (bp.2 hin);simp only[ho,aY]at this;have:=xU.1 this.1.1 e he;simp only[hb,bQ,pF,bI]at this;cases hl:listed.getD e.on false with
     |true=>rfl
     |false=>
      have:=hmin e.on ⟨by omega,hl⟩;omega
    rw[h0]at this;cases this
   ·obtain⟨i0,hi0,hl0⟩:=hun;have hin:i<n:=by
     rcases eH i n with h|h
     ·exact h
     ·rcases hsc with he|⟨hn2,a9T,hchain⟩
      ·obtain⟨_,oi,hoi,_⟩:=mem_ready.1 hi;have:=(bL.1 hoi).1;omega
      ·exact absurd hi (tail_waits a9T hchain hn2 inv _ i0 rfl hi0 (getD_in (by rw[hsz];omega) hl0) i h)
    obtain⟨o,p,ho,hp,hd,hc,_⟩:=hop i hin;obtain⟨Vk,o',ho',hall⟩:=mem_ready.1 hi;rw[ho]at ho';cases ho';have Cr:=getD_both Vk;have hc':vY P Γ l.toArray st.H σ' o p:=by
     refine vY.congr (σ:=((ps.take i).filterMap Cp.sl).reverse++st.σ) (σ':=σ') ?_ hc;intro t ht;have ND:=bA.1 Ol i (bp.2 hin);simp only[ho,aY]at ND;have ND:=bA.1 ND.1.2 t ht;by_cases hex:∃(j:Nat) (q:Cp),ps[j]?=some q/\q.t=some t
     ·obtain⟨j,q,hq,PM⟩:=hex;have hj:j<n:=by have:=(aH.1 hq).1;omega
      obtain⟨oj,q',zx,RX,hdj,_⟩:=hop j hj;rw[hq]at RX;cases RX;have:=bA.1 ND j (bp.2 hj);simp only[zx,hdj,PM,cu,bQ,pF,aY,bI]at this;obtain⟨hji,a1T⟩:=this;obtain⟨oi',a1M,e,he,hb,hon⟩:=Region.waitsFor_spec a1T;rw[ho]at a1M;cases a1M;have hjl:=hall e he hb;rw[hon]at hjl;rw[hA j q t hq PM hjl];refine Ll ((ps.take i).filterMap Cp.sl).reverse st.σ (t,q.d) ?_ (fun q2 M2 Lh=>Hl j q t hq PM q2 ?_ Lh)
      ·rw[dX];exact cD.2 ⟨q,aC (i:=j) (by rw[cI,bP hji];exact hq),by simp[Cp.sl,PM]⟩
      ·obtain⟨q3,We,zy⟩:=cD.1 (dX.1 M2);exact cD.2 ⟨q3,cF We,zy⟩
     ·rw[hB t (fun j q hq _ he=>hex ⟨j,q,hq,he⟩),Hs];intro q hq he;obtain⟨q3,We,zy⟩:=cD.1 (dX.1 hq);obtain⟨j,hj,hqj⟩:=eL.1 (cF We);refine hex ⟨j,q3,by rw[<-hqj];exact ai hj,?_⟩;unfold Cp.sl at zy;cases hpt:q3.t with
      |none=>rw[hpt]at zy;cases zy
      |some u=>rw[hpt]at zy;simp only[cY,av]at zy;subst zy;simp only at he;rw[he]
    have hfp:=hfit i p hp;have a1F:∀id ob,p.up=some (id,ob)->∃v,κ id=some v:=by
     intro id ob he;rcases hc' with⟨_,_,h,_⟩|⟨_,_,_,_,T,x,y,id',ds,WZ,hx',_,_,_,_,YB⟩
     ·rw[h]at he;cases he
     ·rw[YB]at he;cases he;obtain⟨b1,r1,_⟩:=hs.ev x;rw[Uf σ' H' st.H x,hx']at r1;obtain⟨g,hk,_⟩:=r1.CX;exact⟨_,hk⟩
    have a1Q:∀id ob,p.up=some (id,ob)->∃zs ds,H'[id]?=some (.box zs)/\ob=.box ds/\zs.length=ds.length:=by
     intro id ob he;obtain⟨u1,⟨zs,ds,u2,u3,u4⟩,_⟩:=T6 i p id ob hp he;refine⟨zs,ds,?_,u2,u3⟩;obtain⟨i1,p1,j1,hp1,K4,hk1⟩:=B8 (aH.1 u4).1;have Wa:ps[i1]?=some p1:=by
      have:=(aH.1 hp1).1;rw[cI]at hp1;split at hp1
      ·exact hp1
      ·cases hp1
     have hi1:i1<i:=by have:=(aH.1 hp1).1;simp at this;omega
     have et:(ps.take i).take i1=ps.take i1:=by rw[vU,eo (by omega)]
     rw[et]at hk1;have e1:p1.r+j1=id:=by rw[Wd i1 p1 Wa];omega
     have C8:p1.obs[j1]?=some (.box zs):=by
      rw[rX hp1,et,hk1,bE (by omega),dY,b9 K4]at u4;exact u4
     have hl1:listed.getD i1 false=true:=by
      cases hl:listed.getD i1 false with
      |true=>rfl
      |false=>
       have h0:=Y6 i1 p1 Wa hl j1 K4;rw[e1]at h0;obtain⟨v,hv⟩:=a1F id ob he;rw[h0]at hv;cases hv
     have:=Y7 i1 p1 Wa hl1 j1 _ C8 (fun i2 q D4 hq hl Lh=>by
      rw[e1]at Lh;have:=a1R i i2 p q id ob D4 hp hq he Lh;subst this;rw[Cr]at hl;cases hl)
     rw[e1]at this;exact this
    refine hc'.wp hs hHe ho (by omega) (fun j hj=>Y6 i p hp Cr j hj) a1Q fun κ' Θ' a' w' hs' hsame=>?_
    have qT:∀(j:Nat),(listed.setIfInBounds i true).getD j false=true↔(j=i\/listed.getD j false=true):=by
     intro j;by_cases e:i=j
     ·subst e;have:i<listed.size:=by rw[hsz];omega
      simp[this]
     ·rw[getD_set_ne false e];constructor
      ·exact .inr
      ·rintro(rfl|h)
       ·exact absurd rfl e
       ·exact h
    have hput:(p.Cy H').length=H'.length:=by
     unfold Cp.Cy;split
     ·simp
     ·exact wN (by omega)
    have a6v:∀(k:Nat),k<st.H.length->(p.Cy H')[k]?=H'[k]?:=by
     intro k hk;unfold Cp.Cy;split
     ·rename_i id ob he;have:=(T6 i p id ob hp he).1;rw[cE (by omega)]
     ·rw[wM (by omega),bP (by rw[Wd i p hp];omega)]
    refine ih (listed.setIfInBounds i true) (p.slot σ') (p.Cy H') κ' Θ' a' w' (inv.set hi hin) ?_ ?_ ?_ (by rw[hput];exact hHl) ?_ ?_ ?_ ?_ hs'
    ·have ZG:((List.range n).filter fun j=> !(listed.setIfInBounds i true).getD j false)=((List.range n).filter fun j=> !listed.getD j false).erase i:=by
      have hnd:((List.range n).filter fun j=> !listed.getD j false).Nodup:=zW _ D8;rw[hnd.erase_eq_filter,xV];apply yL;intro j _;by_cases e:j=i
      ·subst e;have:=(qT j).2 (.inl rfl);rw[this];simp
      ·rw[getD_set_ne false (tP e)];simp[e]
     rw[ZG,rF (fY.2 ⟨bp.2 hin,by simp[Cr]⟩),p7];rfl
    ·intro j q t hq PM hl;unfold Cp.slot;rcases(qT j).1 hl with rfl|Ef
     ·rw[hp]at hq;cases hq;rw[PM];simp[lk]
     ·cases hpt:p.t with
      |none=>exact hA j q t hq PM Ef
      |some u=>
       simp only[lk];rw[bH,hA j q t hq PM Ef];intro e;have:=hdist j i q p t hq hp PM (by rw[hpt,e]);subst this;rw[Cr]at Ef;cases Ef
    ·intro t ht;unfold Cp.slot;have xN:=hB t (fun j q hq hl=>ht j q hq ((qT j).2 (.inr hl)));cases hpt:p.t with
     |none=>exact xN
     |some u=>
      simp only[lk];rw[bH (fun e=>ht i p hp ((qT i).2 (.inl rfl)) (by rw[hpt,e]))];exact xN
    ·intro j y hj;rw[a6v j (aH.1 hj).1];exact hHe j y hj
    ·intro j q hq hl k y hy hno;have hkl:=(aH.1 hy).1;unfold Cp.Cy;split
     ·rename_i id ob he;have hne:q.r+k≠id:=fun e=>hno i p ob hp ((qT i).2 (.inl rfl)) (by rw[e];exact he)
      rw[cE (tP hne)];rcases(qT j).1 hl with rfl|Ef
      ·rw[hp]at hq;cases hq;rw[a1S j p id ob hp he]at hy;simp at hy
      ·exact Y7 j q hq Ef k y hy (fun i2 q2 D4 M2 hl3=>hno i2 q2 D4 M2 ((qT i2).2 (.inr hl3)))
     ·rw[wM (by omega)];rcases(qT j).1 hl with rfl|Ef
      ·rw[hp]at hq;cases hq;rw[bH (by omega),bP (by omega),dY];exact hy
      ·have hne:j≠i:=fun e=>by subst e;rw[Cr]at Ef;cases Ef
       have h3:=Y7 j q hq Ef k y hy (fun i2 q2 D4 M2 hl3=>hno i2 q2 D4 M2 ((qT i2).2 (.inr hl3)));rcases xW hne with h|h
       ·have:=Sz j i q p hq hp h;rw[bP (by omega)];exact h3
       ·have:=Sz i j p q hp hq h;rw[bH (by omega),bH (by omega)];exact h3
    ·intro j q id ob hq hl he;rcases(qT j).1 hl with rfl|Ef
     ·rw[hp]at hq;cases hq;obtain⟨zs,ds,z1,_⟩:=a1Q id ob he;have hlt:=(aH.1 z1).1;refine⟨by simp only[Cp.Cy,he];rw[dQ hlt],?_⟩;obtain⟨v,hv⟩:=a1F id ob he;refine⟨v,?_⟩;rw[hsame id (by rw[a1S j p id ob hp he];simp;omega)];exact hv
     ·obtain⟨h1,v,hv⟩:=hHu j q id ob hq Ef he;have hout:id<p.r\/p.r+p.obs.length<=id:=by
       rcases eH id p.r with h|h
       ·exact .inl h
       ·rcases eH id (p.r+p.obs.length)with h2|h2
        ·have:=Y6 i p hp Cr (id-p.r) (by omega);rw[show p.r+(id-p.r)=id from by omega,hv]at this;cases this
        ·exact .inr h2
      refine⟨?_,v,by rw[hsame id hout];exact hv⟩;unfold Cp.Cy;split
      ·rename_i id2 D4 Lh;have hne:id2≠id:=fun e=>by
        subst e;have:=a1R i j p q id2 D4 ob hp hq Lh he;subst this;rw[Cr]at Ef;cases Ef
       rw[cE hne];exact h1
      ·rw[wM (by omega)];rcases hout with h|h
       ·rw[bP h];exact h1
       ·rw[bH (by omega),bH (by omega)];exact h1
    ·intro j q hq hl k hk;have hne:j≠i:=fun e=>by
      subst e;have:=(qT j).2 (.inl rfl);rw[this]at hl;cases hl
     have Ef:listed.getD j false=false:=by
      cases h:listed.getD j false with
      |false=>rfl
      |true=>have:=(qT j).2 (.inr h);rw[this]at hl;cases hl
     have h3:=Y6 j q hq Ef k hk;rw[hsame,h3];rcases xW hne with h|h
     ·have:=Sz j i q p hq hp h;omega
     ·have:=Sz i j p q hp hq h;omega
 refine wp_region_any hm ?_;have a7d:HeadInv .any l.toArray n (Array.replicate l.toArray.size false):=
  ⟨by simp,fun j oj _ hl=>(by rw[getD_replicate_false]at hl;cases hl),fun t _ ht=>getD_in (by simpa using ht) (getD_replicate_false _ _)⟩
 have p7:((List.range n).filter fun i=> !(Array.replicate l.toArray.size false).getD i false).length=n:=by
  rw[List.filter_eq_self.2]
  ·simp
  ·intro i _;rw[getD_replicate_false];rfl
 have:=main n (Array.replicate l.toArray.size false) st.σ (st.H++List.replicate (ps.flatMap Cp.obs).length .gone) κ Θ a w.drew a7d p7 (fun i p t _ _ hl=>by rw[getD_replicate_false]at hl;cases hl) (fun t _=>rfl)
  (by simp) (fun i o h=>by rw[b9 (aH.1 h).1];exact h) (fun i p _ hl=>by rw[getD_replicate_false]at hl;cases hl)
  (fun i q id ob _ hl=>by rw[getD_replicate_false]at hl;cases hl)
  (fun i p hp _ j _=>hs.rD _ (by rw[Wd i p hp];omega)) (hs.drew.room _)
 rw[show n+(l.toArray.size-n)=l.toArray.size from by omega]at this;exact this
end
end Go.Cx
namespace Go.Cx
open Go.RowKit
def pos(o:aa)(i:Nat):Option Nat:=ix (fun j=>j==i) o
def D.YO(o:aa)(d:D):D:=match d with
 | .acc i=>(match pos o i with|some j=>.acc j|none=>.any)
 | .ptr i off=>(match pos o i with|some j=>.ptr j off|none=>.any)
 | .op i a b c=>(match pos o i with|some j=>.op j a b c|none=>.any)
 |d=>d
def D.rnV(o:aa)(d:D):D:=match d with
 | .agg cs=>.agg (cs.map (D.YO o))
 |d=>d.YO o
def D.YP(o:aa)(d:D):D:=match d with
 | .gb vs=>.gb (vs.map (D.rnV o))
 |d=>d.rnV o
def Ob.rn(o:aa)(x:Ob):Ob:=match x with
 | .box cells=>.box (cells.map (D.YO o))
 | .PS cells v=>.PS (cells.map (D.YO o)) v
 | .hole _ _ _ _ _=>.gone
 |x=>x
def St.Eu(st:St)(K o:aa):St:=⟨K.map fun t=>(t,(lk st.σ t).YP o),o.map fun i=>((st.H[i]?).getD .gone).rn o⟩
section
variable{P:Program}{Γ:vP}{Q:Exit->St->Prop}{st:St}{κ κ':Nat->Option Value}{Θ Θ':Nat->Nat}{a:Act}{w:World}{o:aa}
theorem SH:∀ {o:aa},o.Nodup->∀(i j x:Nat),o[i]?=some x->o[j]?=some x->i=j:=by
 intro o
 induction o with
 |nil=>intro _ i j x h;simp at h
 |cons y o ih=>
  intro hnd i j x hi hj;obtain⟨h1,h2⟩:=eP.1 hnd;cases i with
  |zero=>
   cases j with
   |zero=>rfl
   |succ j=>simp at hi hj;subst hi;exact absurd (aC hj) h1
  |succ i=>
   cases j with
   |zero=>simp at hi hj;subst hj;exact absurd (aC hi) h1
   |succ j=>simp at hi hj;rw[ih h2 i j x hi hj]
theorem TW{i j:Nat}(h:pos o i=some j):o[j]?=some i:=by
 obtain⟨x,h1,h2⟩:=zU h;simp only[cj]at h2;subst h2;exact h1
theorem X8{i j:Nat}(hnd:o.Nodup)(h:o[j]?=some i):pos o i=some j:=
 Eh h (by simp) (fun k y hk hy=>by
  simp only[cj]at hy;subst hy;obtain⟨h1,h2⟩:=aH.1 h;obtain⟨h3,h4⟩:=aH.1 hk;exact SH hnd k j _ hk h)
section
variable(hk:∀(i j:Nat) v,pos o i=some j->κ i=some v->κ' j=some v)(AE:∀b,Θ b=0->Θ' b=0)
include hk AE
theorem BH.rn{v:Value}{d:D}{bs:aa}(h:BH w κ v d bs)(hz:∀b∈bs,Θ b=0):∃b',BH w κ' v (d.YO o) b'/\∀b∈b',Θ' b=0:=by
 cases h with
 |pure h=>
  have e:d.YO o=d:=by cases h<;>rfl
  rw[e];exact⟨bs,.pure h,fun b hb=>AE b (hz b hb)⟩
 |acc i v hi=>
  simp only[D.YO];cases hp:pos o i with
  |none=>exact⟨[],.pure (.any _),by simp⟩
  |some j=>exact⟨[],.acc j v (hk i j v hp hi),by simp⟩
 |ptr i off b hi=>
  simp only[D.YO];cases hp:pos o i with
  |none=>exact⟨[],.pure (.any _),by simp⟩
  |some j=>exact⟨[],.ptr j off b (hk i j _ hp hi),by simp⟩
 |op i x sz off b o0 len cap hi=>
  simp only[D.YO];cases hp:pos o i with
  |none=>exact⟨[],.pure (.any _),by simp⟩
  |some j=>exact⟨[],.op j x sz off b o0 len cap (hk i j _ hp hi),by simp⟩
theorem fF.rn{vs:br}{ds:aR}{bs:aa}(h:fF w κ vs ds bs)(hz:∀b∈bs,Θ b=0):∃b',fF w κ' vs (ds.map (D.YO o)) b'/\∀b∈b',Θ' b=0:=by
 induction h with
 |nil=>exact⟨[],.nil,by simp⟩
 |cons v vs d ds b1 b2 h1 h2 _ ih=>
  obtain⟨c1,q1,q2⟩:=BH.rn hk AE h2 (fun b hb=>hz b (by simp[hb]));obtain⟨c2,p1,p2⟩:=ih (fun b hb=>hz b (by simp[hb]));refine⟨c1++c2,.cons _ _ _ _ _ _ h1 q1 p1,fun b hb=>?_⟩;rcases ar.1 hb with hb|hb
  ·exact q2 b hb
  ·exact p2 b hb
theorem Pt.rn{v:Value}{d:D}{bs:aa}(h:Pt w κ v d bs)(hz:∀b∈bs,Θ b=0):∃b',Pt w κ' v (d.rnV o) b'/\∀b∈b',Θ' b=0:=by
 cases h with
 |cell h=>
  by_cases vT:∃ds,d=.agg ds
  ·obtain⟨ds,rfl⟩:=vT;cases h with
   |pure h=>
    cases h with
    |agg cs _ _ h=>
     obtain⟨b',q1,q2⟩:=fF.rn hk AE (fF.Ew (κ:=κ) h) hz;exact⟨b',.agg _ _ _ q1,q2⟩
  ·have e:d.rnV o=d.YO o:=by cases d<;>first|rfl|exact absurd ⟨_,rfl⟩ vT
   rw[e];obtain⟨b',q1,q2⟩:=BH.rn hk AE h hz;exact⟨b',.cell q1,q2⟩
 |agg cs ds bs h=>
  obtain⟨b',q1,q2⟩:=fF.rn hk AE h hz;exact⟨b',.agg _ _ _ q1,q2⟩
theorem E4.rn{vs:br}{ds:aR}{bs:aa}(h:E4 w κ vs ds bs)(hz:∀b∈bs,Θ b=0):∃b',E4 w κ' vs (ds.map (D.rnV o)) b'/\∀b∈b',Θ' b=0:=by
 induction h with
 |nil=>exact⟨[],.nil,by simp⟩
 |cons v vs d ds b1 b2 h2 _ ih=>
  obtain⟨c1,q1,q2⟩:=Pt.rn hk AE h2 (fun b hb=>hz b (by simp[hb]));obtain⟨c2,p1,p2⟩:=ih (fun b hb=>hz b (by simp[hb]));refine⟨c1++c2,.cons _ _ _ _ _ _ q1 p1,fun b hb=>?_⟩;rcases ar.1 hb with hb|hb
  ·exact q2 b hb
  ·exact p2 b hb
theorem tQ.rn{v:Value}{d:D}{bs:aa}(h:tQ w κ v d bs)(hz:∀b∈bs,Θ b=0):∃b',tQ w κ' v (d.YP o) b'/\∀b∈b',Θ' b=0:=by
 cases h with
 |v h=>
  have hnt:∀vs,d≠ .gb vs:=by
   intro vs e;subst e;cases h with
   |cell h=>cases h with|pure h=>cases h
  have e:d.YP o=d.rnV o:=by cases d<;>first|rfl|exact absurd rfl (hnt _)
  rw[e];obtain⟨b',q1,q2⟩:=Pt.rn hk AE h hz;exact⟨b',.v q1,q2⟩
 |gb vs ds bs h=>
  obtain⟨b',q1,q2⟩:=E4.rn hk AE h hz;exact⟨b',.gb _ _ _ q1,q2⟩
end
theorem a1x(σ:List (Nat×D))(K:aa)(f:D->D)(t:Nat):lk (K.map fun t=>(t,f (lk σ t))) t=if t∈K then f (lk σ t)else .any:=by
 induction K with
 |nil=>simp[lk]
 |cons u K ih=>
  simp only[bG,lk];by_cases e:t=u
  ·subst e;simp
  ·rw[bH e,ih];simp[e]
theorem eE.Eu(hs:eE Γ st κ Θ a w)(K o:aa)(hnd:o.Nodup):∃κ' Θ',eE Γ (st.Eu K o) κ' Θ' a w:=by
 let κ':Nat->Option Value:=fun j=>(o[j]?).bind κ
 let Θ':Nat->Nat:=fun b=>if Θ b<=1 then Θ b else match pos o (Θ b-2)with|some j=>j+2|none=>1
 have AE:∀b,Θ b=0->Θ' b=0:=fun b h=>by simp[Θ',h]
 have hk:∀(i j:Nat) v,pos o i=some j->κ i=some v->κ' j=some v:=fun i j v h1 h2=>by simp[κ',TW h1,h2]
 have hk2:∀(i j:Nat),o[j]?=some i->κ' j=κ i:=fun i j h=>by simp[κ',h]
 have RY:∀b (i j:Nat),o[j]?=some i->Θ b=i+2->Θ' b=j+2:=by
  intro b i j hj h;simp only[Θ'];rw[bH (by omega),h,BP,X8 hnd hj]
 have key:∀(j:Nat) x,(st.Eu K o).H[j]?=some x->∃i,o[j]?=some i/\((st.H[i]?=none/\x=.gone)\/∃y,st.H[i]?=some y/\x=y.rn o):=by
  intro j x hj;simp only[St.Eu,bz]at hj;cases ho:o[j]? with
  |none=>simp[ho]at hj
  |some i=>
   simp only[ho,cY,av]at hj;refine⟨i,rfl,?_⟩;cases hH:st.H[i]? with
   |none=>rw[hH]at hj;exact .inl ⟨rfl,hj.symm⟩
   |some y=>rw[hH]at hj;exact .inr ⟨y,rfl,hj.symm⟩
 obtain⟨ρ,hu⟩:=hs.wE;let ρ':Nat->Nat:=fun b=>if ρ b=0 then 0 else match pos o (ρ b-1)with|some j=>j+1|none=>0
 refine⟨κ',Θ',hs.defers,hs.size,?_,?_,?_,?_,?_,?_,?_,hs.stays,ρ',?_,?_,?_⟩
 ·intro i hi;simp only[St.Eu,aZ]at hi;simp[κ',ck hi]
 ·intro i u BA;simp only[κ']at BA;cases ho:o[i]? with
  |none=>simp[ho]at BA
  |some j=>simp[ho]at BA;exact hs.qR j u BA
 ·intro t;show∃bs,tQ w κ' _ (lk (K.map fun t=>(t,(lk st.σ t).YP o)) t) bs/\_;rw[a1x st.σ K (fun d=>d.YP o) t];split
  ·obtain⟨bs,hr,hz⟩:=hs.slot t;exact tQ.rn hk AE hr hz
  ·exact⟨[],.of (.any _),by simp⟩
 ·intro j x hj;obtain⟨i,ho,⟨_,rfl⟩|⟨y,hH,rfl⟩⟩:=key j x hj
  ·trivial
  ·have C8:=hs.ob i y hH;cases y with
   |gone=>trivial
   |hole=>trivial
   |tk rows=>
    obtain⟨v,bs,q1,q2,q3⟩:=C8;exact⟨v,bs,by rw[hk2 i j ho];exact q1,q2,fun b hb=>AE b (q3 b hb)⟩
   |mp kv=>
    obtain⟨g,es,c,q1,q2,q3,q4⟩:=C8;exact⟨g,es,c,by rw[hk2 i j ho];exact q1,q2,RY g i j ho q3,q4⟩
   |ew sz rows u=>
    obtain⟨q1,q0,v,bs,q2,q3,q4,q5⟩:=C8;exact⟨q1,fun x hx=>by rw[hk2 i j ho];exact q0 x hx,v,bs,by rw[hk2 i j ho];exact q2,q3,q4,fun b hb=>⟨RY b i j ho (q5 b hb).1,(q5 b hb).2⟩⟩
   |box cells=>
    obtain⟨g,cs,T,q1,q2,q3,bs,q4,q5⟩:=C8;obtain⟨b',p1,p2⟩:=fF.rn hk AE q4 q5;exact⟨g,cs,T,by rw[hk2 i j ho];exact q1,q2,RY g i j ho q3,b',p1,p2⟩
   |PS cells u=>
    obtain⟨q0,g,cs,T,q1,q2,q3,bs,q4,q5⟩:=C8;obtain⟨b',p1,p2⟩:=fF.rn hk AE q4 q5;exact⟨by rw[hk2 i j ho];exact q0,g,cs,T,by rw[hk2 i j ho];exact q1,q2,RY g i j ho q3,b',p1,p2⟩
   |row k e sz rows=>
    obtain⟨q1,q2,v,cs,bs,q3,q4,q5,q6,q7⟩:=C8;refine⟨q1,q2,v,cs,bs,by rw[hk2 i j ho];exact q3,q4,q5,fun g hg=>RY g i j ho (q6 g hg),?_⟩;cases k with
    |cl=>exact⟨q7.1,fun b hb=>⟨RY b i j ho (q7.2.1 b hb).1,(q7.2.1 b hb).2⟩,q7.2.2⟩
    |sh=>exact fun b hb=>AE b (q7 b hb)
    |uq=>exact fun b hb=>AE b (q7 b hb)
    |mv n=>exact fun b hb=>AE b (q7 b hb)
 ·intro b hb;exact hs.own b (fun h=>hb (AE b h))
 ·intro b hb hx;obtain⟨h1,h2⟩:=hs.old b hb hx;simp only[Θ'];rw[bP h2];exact⟨h1,h2⟩
 ·intro b hb;refine hs.mine b ?_;simp only[Θ']at hb;split at hb<;>omega
 ·intro b hb;have hb':ρ b≠0:=fun h=>hb (by simp[ρ',h])
  obtain⟨h1,h2⟩:=hu.free b hb';exact⟨AE b h1,h2⟩
 ·intro j e sz rows hj;obtain⟨i,ho,⟨_,h⟩|⟨y,hH,h⟩⟩:=key j _ hj
  ·cases h
  ·have hy:y=.row .uq e sz rows:=by cases y<;>first| (simp only[Ob.rn]at h;exact h.symm)|cases h
   subst hy;obtain⟨v,cs,bs,q1,q2,q3,q4,q5⟩:=hu.rows i e sz rows hH;refine⟨v,cs,bs,by rw[hk2 i j ho];exact q1,q2,q3,q4,fun b hb=>?_⟩;simp only[ρ'];rw[q5 b hb,bH (by omega),BP,X8 hnd ho]
 ·intro j x hj;obtain⟨i,ho,⟨_,h⟩|⟨y,hH,h⟩⟩:=key j _ hj
  ·subst h;trivial
  ·have hm:=hu.more i y hH;have a9b:∀b,ρ b=i+1->ρ' b=j+1:=fun b hb=>by
    simp only[ρ'];rw[hb,bH (by omega),BP,X8 hnd ho]
   subst h;cases y with
   |tk rows=>
    obtain⟨v,bs,q1,q2,q3,q4⟩:=hm;exact⟨v,bs,by rw[hk2 i j ho];exact q1,q2,q3,fun b hb=>a9b b (q4 b hb)⟩
   |row k e sz rows=>
    cases k with
    |mv n=>
     obtain⟨v,cs,bs,q1,q2,q3,q4,q5⟩:=hm;exact⟨v,cs,bs,by rw[hk2 i j ho];exact q1,q2,q3,q4,fun b hb=>a9b b (q5 b hb)⟩
    |_=>trivial
   |_=>trivial
end
end Go.Cx
namespace Go.Cx
open Go.RowKit
abbrev Rw:=Nat×List (List D)
def Rw.ob(x:Rw)(v:Option Value):Ob:=.ew x.1 x.2 v
def CP(w:World)(κ:Nat->Option Value):Nat->List Rw->aa->Prop
 |_,[],us=>us=[]
 |n,x::xs,us=>∃v bs us',κ n=some v/\(∀r∈x.2,r.length=x.1)/\Rd w v (.sl x.2) bs/\us=bs++us'/\CP w κ (n+1) xs us'
def rj(P:Program)(f:FuncId)(ds:aR)(ins outs:List Rw)(d:D):Prop:=
 (∃fn,P.funcs[f]?=some fn/\fn.body.isSome=true/\(fn.name== "runtime.NumGoroutine")=false)/\outs.length=ins.length/\d.flat=true/\
 ∀(w:World) (κ:Nat->Option Value) (args:br) (us:aa),Sk w (fun b=>b∈us)->args.length=ds.length->(∀(i:Nat) d,ds[i]?=some d->∃v,args[i]?=some v/\tQ w κ v d [])->
  (∀i,ins.length<=i->κ i=none)->(∀(i:Nat) u,κ i=some u->u.oneCell'=true)->CP w κ 0 ins us->us.Nodup->(∀b∈us,Wr w b)->
  Calls P f args.toArray w (fun e w'=>∃v us',e=.returned v/\Rd w' v d []/\CP w' κ 0 outs us'/\us'.Nodup/\(∀b∈us',(b∈us\/w.heap.size<=b)/\Wr w' b)/\
   w'.os=w.os/\w'.tape=w.tape/\w'.output=w.output/\w.heap.size<=w'.heap.size/\∀b,b<w.heap.size->b∉us->w'.heap[b]?=w.heap[b]?)
section
variable{P:Program}{Γ:vP}{Q:Exit->St->Prop}{st:St}{κ κ':Nat->Option Value}{Θ Θ':Nat->Nat}{a:Act}{w w':World}{all:Array Oper}{rest:List Oper}
theorem CP.at:∀ {xs:List Rw} {n:Nat} {us:aa},CP w κ n xs us->∀(i:Nat) x,xs[i]?=some x->∃v bs,κ (n+i)=some v/\(∀r∈x.2,r.length=x.1)/\Rd w v (.sl x.2) bs/\∀b∈bs,b∈us:=by
 intro xs
 induction xs with
 |nil=>intro n us _ i x hx;simp at hx
 |cons y ys ih=>
  intro n us h i x hx;obtain⟨v,bs,us',h1,h2,h3,rfl,h5⟩:=h;cases i with
  |zero=>simp at hx;subst hx;exact⟨v,bs,h1,h2,h3,fun b hb=>by simp[hb]⟩
  |succ i=>
   simp at hx;obtain⟨v',bs',q1,q2,q3,q4⟩:=ih h5 i x hx;exact⟨v',bs',by rw[<-q1];congr 1;omega,q2,q3,fun b hb=>by simp[q4 b hb]⟩
theorem CP.parts:∀ {xs:List Rw} {n:Nat} {us:aa},CP w κ n xs us->∃L:List aa,L.length=xs.length/\us=L.flatten/\∀(i:Nat) x bs,xs[i]?=some x->L[i]?=some bs->∃v,κ (n+i)=some v/\(∀r∈x.2,r.length=x.1)/\Rd w v (.sl x.2) bs:=by
 intro xs
 induction xs with
 |nil=>intro n us h;exact⟨[],rfl,by simpa[CP]using h,by simp⟩
 |cons y ys ih=>
  intro n us h;obtain⟨v,bs,us',h1,h2,h3,rfl,h5⟩:=h;obtain⟨L,q1,rfl,q3⟩:=ih h5;refine⟨bs::L,by simp[q1],by simp,?_⟩;intro i x b hx hb;cases i with
  |zero=>simp at hx hb;subst hx;subst hb;exact⟨v,h1,h2,h3⟩
  |succ i=>
   simp at hx hb;obtain⟨v',r1,r2,r3⟩:=q3 i x b hx hb;exact⟨v',by rw[<-r1];congr 1;omega,r2,r3⟩
theorem CP.of:∀ {xs:List Rw} {n:Nat} {L:List aa},L.length=xs.length->(∀(i:Nat) x bs,xs[i]?=some x->L[i]?=some bs->∃v,κ (n+i)=some v/\(∀r∈x.2,r.length=x.1)/\Rd w v (.sl x.2) bs)->CP w κ n xs L.flatten:=by
 intro xs
 induction xs with
 |nil=>
  intro n L hl _;have:L=[]:=cZ (by simpa using hl);subst this;rfl
 |cons y ys ih=>
  intro n L hl h;cases L with
  |nil=>simp at hl
  |cons bs L=>
   obtain⟨v,h1,h2,h3⟩:=h 0 y bs rfl rfl;refine⟨v,bs,L.flatten,h1,h2,h3,by simp,ih (by simpa using hl) ?_⟩;intro i x b hx hb;obtain⟨v',r1,r2,r3⟩:=h (i+1) x b (by simpa using hx) (by simpa using hb);exact⟨v',by rw[<-r1];congr 1;omega,r2,r3⟩
theorem eE.forget(hs:eE Γ st κ Θ a w)(ms:aa):eE Γ ⟨st.σ,kill st.H ms⟩ κ (fun b=>if ms.any (fun m=>Θ b==m+2)then st.H.length+2 else Θ b) a w:=by
 have h0:∀b,Θ b=0->(if ms.any (fun m=>Θ b==m+2)then st.H.length+2 else Θ b)=0:=by
  intro b hb;rw[bH,hb];intro h;obtain⟨m,_,hm⟩:=dO.1 h;simp[hb]at hm
 have hk:∀(j:Nat) o,(kill st.H ms)[j]?=some o->o=.gone\/(j∉ms/\st.H[j]?=some o):=fun j o h=>uV h
 have hold:∀b j,j∉ms->Θ b=j+2->(if ms.any (fun m=>Θ b==m+2)then st.H.length+2 else Θ b)=j+2:=by
  intro b j hj hb;rw[bH,hb];intro h;obtain⟨m,hm,he⟩:=dO.1 h;simp only[hb,cj]at he;exact hj (by
   have:j=m:=by omega
   rw[this];exact hm)
 obtain⟨ρ,hu⟩:=hs.wE;refine⟨hs.defers,hs.size,fun i hi=>hs.rD i (by simpa[hO]using hi),hs.qR,?_,?_,?_,?_,?_,hs.stays,ρ,?_,?_,?_⟩
 ·intro t;obtain⟨bs,hr,hz⟩:=hs.slot t;exact⟨bs,hr,fun b hb=>h0 b (hz b hb)⟩
 ·intro j o hj;rcases hk j o hj with rfl|⟨hn,hj'⟩
  ·trivial
  ·have C8:=hs.ob j o hj';cases o with
   |gone=>trivial
   |tk rows=>
    obtain⟨v,bs,q1,q2,q3⟩:=C8;exact⟨v,bs,q1,q2,fun b hb=>h0 b (q3 b hb)⟩
   |box cells=>
    obtain⟨g,cs,T,q1,q2,q3,bs,q4,q5⟩:=C8;exact⟨g,cs,T,q1,q2,hold g j hn q3,bs,q4,fun b hb=>h0 b (q5 b hb)⟩
   |PS cells u=>
    obtain⟨q0,g,cs,T,q1,q2,q3,bs,q4,q5⟩:=C8;exact⟨q0,g,cs,T,q1,q2,hold g j hn q3,bs,q4,fun b hb=>h0 b (q5 b hb)⟩
   |row k e sz rows=>
    obtain⟨q1,q2,v,cs,bs,q3,q4,q5,q6,q7⟩:=C8;refine⟨q1,q2,v,cs,bs,q3,q4,q5,fun g hg=>hold g j hn (q6 g hg),?_⟩;cases k with
    |cl=>exact⟨q7.1,fun b hb=>⟨hold b j hn (q7.2.1 b hb).1,(q7.2.1 b hb).2⟩,q7.2.2⟩
    |sh=>exact fun b hb=>h0 b (q7 b hb)
    |uq=>exact fun b hb=>h0 b (q7 b hb)
    |mv n=>exact fun b hb=>h0 b (q7 b hb)
   |ew sz rows u=>
    obtain⟨q1,q0,v,bs,q2,q3,q4,q5⟩:=C8;exact⟨q1,q0,v,bs,q2,q3,q4,fun b hb=>⟨hold b j hn (q5 b hb).1,(q5 b hb).2⟩⟩
   |hole sz rows u p n=>
    obtain⟨q1,q0,v,bs,q2,q3,q4,q5⟩:=C8;exact⟨q1,q0,v,bs,q2,q3,q4,fun b hb=>⟨hold b j hn (q5 b hb).1,(q5 b hb).2⟩⟩
   |mp kv=>
    obtain⟨g,es,c,q1,q2,q3,q4⟩:=C8;exact⟨g,es,c,q1,q2,hold g j hn q3,q4⟩
 ·intro b hb;refine hs.own b fun h=>hb ?_
  exact h0 b h
 ·intro b hb hx;obtain⟨h1,h2⟩:=hs.old b hb hx;have:(if ms.any (fun m=>Θ b==m+2)then st.H.length+2 else Θ b)=Θ b:=by
   rw[bH];intro h;obtain⟨m,_,hm⟩:=dO.1 h;simp only[cj]at hm;omega
  show(if ms.any (fun m=>Θ b==m+2)then st.H.length+2 else Θ b)=_/\(if ms.any (fun m=>Θ b==m+2)then st.H.length+2 else Θ b)<=1;rw[this];exact⟨h1,h2⟩
 ·intro b hb;refine hs.mine b ?_;by_cases h:ms.any (fun m=>Θ b==m+2)=true
  ·obtain⟨m,_,hm⟩:=dO.1 h;simp only[cj]at hm;omega
  ·simp only[h]at hb;simpa using hb
 ·intro b hb;obtain⟨h1,h2⟩:=hu.free b hb;exact⟨h0 b h1,h2⟩
 ·intro id e sz rows hj;rcases hk id _ hj with h|⟨_,h⟩
  ·cases h
  ·exact hu.rows id e sz rows h
 ·intro id o hj;rcases hk id _ hj with h|⟨_,h⟩
  ·subst h;trivial
  ·exact hu.more id o h
def lv(H:bU)(m:Nat):Option Value:=match H[m]? with|some (.ew _ _ v)=>v|_=>none
def TX:bU->aa->List Rw->bU
 |H,m::ms,x::xs=>TX (H.set m (x.ob (lv H m))) ms xs
 |H,_,_=>H
theorem Oy:∀(H:bU) (ms:aa) (xs:List Rw),(TX H ms xs).length=H.length:=by
 intro H ms
 induction ms generalizing H with
 |nil=>intro xs;cases xs<;>rfl
 |cons m ms ih=>intro xs;cases xs with|nil=>rfl|cons x xs=>simp[TX,ih]
theorem a2I:∀ {H:bU} {ms:aa} {xs:List Rw} {j:Nat} {y:Ob},ms.Nodup->xs.length=ms.length->(TX H ms xs)[j]?=some y->(∃(i:Nat) (x:Rw),ms[i]?=some j/\xs[i]?=some x/\y=x.ob (lv H j))\/(j∉ms/\H[j]?=some y):=by
 intro H ms
 induction ms generalizing H with
 |nil=>intro xs j y _ _ h;cases xs<;>exact .inr ⟨by simp,h⟩
 |cons m ms ih=>
  intro xs j y hnd hl h;cases xs with
  |nil=>simp at hl
  |cons x xs=>
   obtain⟨n1,n2⟩:=eP.1 hnd;rcases ih n2 (by simpa using hl) h with⟨i,z,h1,h2,h3⟩|⟨h1,h2⟩
   ·refine .inl ⟨i+1,z,by simpa using h1,by simpa using h2,?_⟩;rw[h3];have hne:m≠j:=fun e=>n1 (by rw[e];exact aC h1)
    simp only[lv,cE hne]
   ·rcases BD j y h2 with⟨rfl,rfl⟩|⟨h3,h4⟩
    ·exact .inl ⟨0,x,rfl,rfl,rfl⟩
    ·exact .inr ⟨by simp[h1,h3],h4⟩
def Qd(H:bU):aa->Option (List Rw)
 | []=>some []
 |m::ms=>match H[m]?,Qd H ms with|some (.ew sz rows _),some xs=>some ((sz,rows)::xs)|_,_=>none
theorem Wn{H:bU}:∀ {ms:aa} {xs:List Rw},Qd H ms=some xs->xs.length=ms.length/\∀(i m:Nat) x,ms[i]?=some m->xs[i]?=some x->∃v,H[m]?=some (x.ob v):=by
 intro ms
 induction ms with
 |nil=>intro xs h;cases h;simp
 |cons m ms ih=>
  intro xs h;simp only[Qd]at h;split at h
  ·rename_i sz rows u ys h1 h2;cases h;obtain⟨q1,q2⟩:=ih h2;refine⟨by simp[q1],?_⟩;intro i m' x hm hx;cases i with
   |zero=>simp at hm hx;subst hm;subst hx;exact⟨u,h1⟩
   |succ i=>exact q2 i m' x (by simpa using hm) (by simpa using hx)
  ·cases h
def D.Jx(d:D):Bool:=match d with
 | .acc _=>true
 |d=>d.flat
def D.bare(d:D):Bool:=match d with
 | .agg cs=>cs.all D.Jx
 |d=>d.Jx
theorem BH.Pc{v:Value}{d:D}{bs:aa}(h:BH w κ v d bs)(hf:d.Jx=true):bs=[]:=by
 cases h with
 |pure h=>
  refine h.flat ?_;cases h<;>exact hf
 |_=>rfl
theorem fF.Pc{vs:br}{ds:aR}{bs:aa}(h:fF w κ vs ds bs)(hf:ds.all D.Jx=true):bs=[]:=by
 induction h with
 |nil=>rfl
 |cons v vs d ds b1 b2 h1 h2 _ ih=>
  simp only[dG,aY]at hf;rw[h2.Pc hf.1,ih hf.2];rfl
theorem tQ.Xq{v:Value}{d:D}{bs:aa}(h:tQ w κ v d bs)(hf:d.bare=true):bs=[]:=by
 cases h with
 |v h=>
  cases h with
  |cell h=>
   cases h with
   |pure h=>
    cases h with
    |agg cs ds _ h=>exact fF.Pc (fF.Ew (κ:=κ) h) hf
    |_=>first|rfl|exact absurd hf (by simp[D.bare,D.Jx,D.flat])
   |_=>rfl
  |agg cs ds bs h=>exact h.Pc hf
 |gb=>simp[D.bare,D.Jx,D.flat]at hf
theorem D.a0p(o:aa){c:D}(h:c.Jx=true):(c.YO o).Jx=true:=by
 cases c with
 |acc m=>simp only[D.YO];cases pos o m<;>rfl
 |_=>first|exact h| (simp[D.Jx,D.flat]at h)
theorem D.Xr(o:aa){d:D}(h:d.bare=true):(d.YP o).bare=true:=by
 cases d with
 |agg cs=>
  simp only[D.YP,D.rnV,D.bare,Dw]at h⊢;rw[bA]at h⊢;intro c hcm;exact D.a0p o (h c hcm)
 |acc m=>simp only[D.YP,D.rnV,D.YO];cases pos o m<;>rfl
 |_=>first|exact h| (simp[D.bare,D.Jx,D.flat]at h)
theorem Oj{L:List aa}(h:L.flatten.Nodup):∀(i j:Nat) x y b,L[i]?=some x->L[j]?=some y->b∈x->b∈y->i=j:=by
 intro i j x y b hi hj hx hy;have:=yD (f:=fun l:aa=>l) (l:=L) (by simpa[List.flatMap_id]using h);exact this i j x y b hi hj hx hy
theorem QK{L:List aa}(h:L.flatten.Nodup):∀x∈L,x.Nodup:=by
 induction L with
 |nil=>intro x hx;cases hx
 |cons y L ih=>
  intro x hx;simp only[eO]at h;obtain⟨h1,h2,_⟩:=bN.1 h;rcases bM.1 hx with rfl|hx
  ·exact h1
  ·exact ih h2 x hx
theorem K6:∀ {L:List aa},(∀x∈L,x.Nodup)->(∀(i j:Nat) x y b,L[i]?=some x->L[j]?=some y->b∈x->b∈y->i=j)->L.flatten.Nodup:=by
 intro L
 induction L with
 |nil=>intro _ _;simp
 |cons y L ih=>
  intro h1 h2;simp only[eO];refine bN.2 ⟨h1 y (by simp),ih (fun x hx=>h1 x (by simp[hx])) (fun i j x z b hi hj hx hz=>?_),?_⟩
  ·have:=h2 (i+1) (j+1) x z b (by simpa using hi) (by simpa using hj) hx hz;omega
  ·intro b hb c hc e;subst e;obtain⟨x,hx,Hj⟩:=dW.1 hc;obtain⟨j,hj⟩:=cq hx;have:=h2 0 (j+1) y x b rfl (by simpa using hj) hb Hj;omega
theorem a0a{o:Oper}{f t:Nat}{xs:Array Operand}{ts:Array TypeId}{ms:aa}{ins outs:List Rw}{d:D}(hop:o.op=.call {callee:=.value (.func f),args:=xs,argTypes:=ts})(hd:o.dst=some t)(hg:o.guard=none)
 (ht:t<Γ.nt) (hnd:ms.Nodup) (hins:Qd st.H ms=some ins) (hb:((xs.toList.map st.ev).all D.bare)=true) (pL:rj P f ((xs.toList.map st.ev).map (D.YP ms)) ins outs d)
 (h:AO P Γ all rest Q ⟨(t,d)::st.σ,TX st.H ms outs⟩):AO P Γ all (o::rest) Q st:=by
 intro κ Θ a w hs;obtain⟨Vk,hig⟩:=Wn hins;obtain⟨hfn,hol,hfl,a90⟩:=pL;let κc:Nat->Option Value:=fun j=>(ms[j]?).bind κ
 have hkc:∀(i m:Nat),ms[i]?=some m->κc i=κ m:=fun i m h=>by simp[κc,h]
 have C8:∀(i m:Nat) x,ms[i]?=some m->ins[i]?=some x->∃v bs,κ m=some v/\(∀r∈x.2,r.length=x.1)/\Rd w v (.sl x.2) bs/\bs.Nodup/\∀b∈bs,Θ b=m+2/\Wr w b:=by
  intro i m x hm hx;obtain⟨u,hu⟩:=hig i m x hm hx;obtain⟨q1,_,v,bs,q2,q3,q4,q5⟩:=hs.ob m _ hu;exact⟨v,bs,q2,q1,q3,q4,q5⟩
 have hL:∃L:List aa,L.length=ins.length/\∀(i m:Nat) x bs,ms[i]?=some m->ins[i]?=some x->L[i]?=some bs->(∃v,κ m=some v/\(∀r∈x.2,r.length=x.1)/\Rd w v (.sl x.2) bs)/\bs.Nodup/\∀b∈bs,Θ b=m+2/\Wr w b:=by
  have key:∀(ms:aa) (ins:List Rw),ins.length=ms.length->(∀(i m:Nat) x,ms[i]?=some m->ins[i]?=some x->∃v bs,κ m=some v/\(∀r∈x.2,r.length=x.1)/\Rd w v (.sl x.2) bs/\bs.Nodup/\∀b∈bs,Θ b=m+2/\Wr w b)->
   ∃L:List aa,L.length=ins.length/\∀(i m:Nat) x bs,ms[i]?=some m->ins[i]?=some x->L[i]?=some bs->(∃v,κ m=some v/\(∀r∈x.2,r.length=x.1)/\Rd w v (.sl x.2) bs)/\bs.Nodup/\∀b∈bs,Θ b=m+2/\Wr w b:=by
   intro ms
   induction ms with
   |nil=>intro ins hl _;exact⟨[],by simpa using hl.symm,by simp⟩
   |cons m ms ih=>
    intro ins hl C8;cases ins with
    |nil=>simp at hl
    |cons x ins=>
     obtain⟨L,q1,q2⟩:=ih ins (by simpa using hl) (fun i m' x' hm hx=>C8 (i+1) m' x' (by simpa using hm) (by simpa using hx));obtain⟨v,bs,r1,r2,r3,r4,r5⟩:=C8 0 m x rfl rfl;refine⟨bs::L,by simp[q1],?_⟩;intro i m' x' b hm hx hb;cases i with
     |zero=>simp at hm hx hb;subst hm;subst hx;subst hb;exact⟨⟨v,r1,r2,r3⟩,r4,r5⟩
     |succ i=>exact q2 i m' x' b (by simpa using hm) (by simpa using hx) (by simpa using hb)
  exact key ms ins Vk C8
 obtain⟨L,hLl,hLi⟩:=hL;have hmi:∀(i:Nat) bs,L[i]?=some bs->∃m x,ms[i]?=some m/\ins[i]?=some x:=by
  intro i bs hb';have hlt:=(aH.1 hb').1;exact⟨_,_,ai (by omega),ai (by omega)⟩
 have hmem:∀b∈L.flatten,∃m∈ms,Θ b=m+2:=by
  intro b hb';obtain⟨x,hx,Hj⟩:=dW.1 hb';obtain⟨i,hi⟩:=cq hx;obtain⟨m,y,h1,h2⟩:=hmi i x hi;exact⟨m,aC h1,((hLi i m y x h1 h2 hi).2.2 b Hj).1⟩
 have wV:L.flatten.Nodup:=by
  refine K6 (fun x hx=>?_) (fun i j x y b hi hj hx hy=>?_)
  ·obtain⟨i,hi⟩:=cq hx;obtain⟨m,y,h1,h2⟩:=hmi i x hi;exact(hLi i m y x h1 h2 hi).2.1
  ·obtain⟨m1,y1,h1,h2⟩:=hmi i x hi;obtain⟨m2,y2,h3,h4⟩:=hmi j y hj;have e1:=((hLi i m1 y1 x h1 h2 hi).2.2 b hx).1;have e2:=((hLi j m2 y2 y h3 h4 hj).2.2 b hy).1;have:m1=m2:=by omega
   subst this;exact SH hnd i j m1 h1 h3
 have QS:CP w κc 0 ins L.flatten:=CP.of hLl (fun i x bs hx hb'=>by
  obtain⟨m,y,h1,h2⟩:=hmi i bs hb';rw[hx]at h2;cases h2;obtain⟨⟨v,q1,q2,q3⟩,_⟩:=hLi i m x bs h1 hx hb';exact⟨v,by rw[cm,hkc i m h1];exact q1,q2,q3⟩)
 have hwr:∀b∈L.flatten,Wr w b:=by
  intro b hb';obtain⟨x,hx,Hj⟩:=dW.1 hb';obtain⟨i,hi⟩:=cq hx;obtain⟨m,y,h1,h2⟩:=hmi i x hi;exact((hLi i m y x h1 h2 hi).2.2 b Hj).2
 have hargs:∀(i:Nat) d,((xs.toList.map st.ev).map (D.YP ms))[i]?=some d->∃v,(xs.toList.map a.eval)[i]?=some v/\tQ w κc v d []:=by
  intro i d M1;rw[bz,bz]at M1;cases hx:xs.toList[i]? with
  |none=>rw[hx]at M1;cases M1
  |some x=>
   rw[hx]at M1;simp only[cY,av]at M1;subst M1;refine⟨a.eval x,by rw[bz,hx];rfl,?_⟩;obtain⟨bs,r,hz⟩:=hs.ev x;have a17:(st.ev x).bare=true:=bA.1 hb _ (cH.2 ⟨x,aC hx,rfl⟩);obtain⟨b',r',_⟩:=tQ.rn (o:=ms) (κ':=κc) (Θ:=fun _=>0) (Θ':=fun _=>0) (fun i j v h1 h2=>by simp[κc,TW h1,h2]) (fun _ _=>rfl) r (fun _ _=>rfl);have:=r'.Xq (D.Xr ms a17);subst this;exact r'
 have T7:Sk w fun b=>b∈L.flatten:=by
  obtain⟨B,v1,v2⟩:=hs.vsb;refine⟨B,v1,fun b hB=>⟨(v2 b hB).2.1,fun hb'=>?_⟩⟩;obtain⟨x,hx,Hj⟩:=dW.1 hb';obtain⟨i,hi⟩:=cq hx;obtain⟨m,y,h1,h2⟩:=hmi i x hi;have e1:=((hLi i m y x h1 h2 hi).2.2 b Hj).1;rcases hs.mine b (by omega)with q|q
  ·have:=(v2 b hB).1;omega
  ·exact(v2 b hB).2.2 q
 have hc:=a90 w κc (xs.toList.map a.eval) L.flatten T7 (by simp) hargs (fun i hi=>by simp[κc,ck (by omega:ms.length<=i)]) (fun i u hu=>by
  simp only[κc]at hu;cases hm:ms[i]? with
  |none=>rw[hm]at hu;cases hu
  |some m=>rw[hm]at hu;exact hs.qR m u hu) QS wV hwr
 refine wpList_plain hg fun K hK=>?_
 unfold Oper.wp;rw[A9 hop hfn,Oper.upon_enter];have e:xs.map a.eval=(xs.toList.map a.eval).toArray:=by rw[<-j7,kU]
 rw[e];refine hc.mono ?_;rintro e w' ⟨v,us',rfl,hv,hl',Jq,WU,k1,k2,k3,k4,k5⟩;show K (a.put o.dst v) w';rw[hd];obtain⟨L',a8s,rfl,WS⟩:=hl'.parts;have a1K:∀(i:Nat) bs,L'[i]?=some bs->∃m x,ms[i]?=some m/\outs[i]?=some x:=by
  intro i bs hb';have hlt:=(aH.1 hb').1;exact⟨_,_,ai (by omega),ai (by omega)⟩
 have hs1:=hs.forget ms;let Θ1:Nat->Nat:=fun b=>if ms.any (fun m=>Θ b==m+2)then st.H.length+2 else Θ b
 have a9a:∀b,b∈L.flatten->Θ1 b=st.H.length+2:=by
  intro b hb';obtain⟨m,hm,he⟩:=hmem b hb';simp only[Θ1];rw[bP (dO.2 ⟨m,hm,by simp[he]⟩)]
 let Θ2:Nat->Nat:=fun b=>match ix (fun x:aa=>x.contains b) L' with|some i=>(match ms[i]? with|some m=>m+2|none=>1)|none=>if Θ1 b=st.H.length+2 then 1 else Θ1 b
 have aCj:∀(i m:Nat) bs b,ms[i]?=some m->L'[i]?=some bs->b∈bs->Θ2 b=m+2:=by
  intro i m bs b hm hi hb';have:ix (fun x:aa=>x.contains b) L'=some i:=Eh hi (by simpa using hb') (fun j y hj hy=>Oj Jq j i y bs b hj hi (by simpa using hy) hb');simp only[Θ2,this,hm]
 have a1W:∀b,b∉L'.flatten->Θ2 b=if Θ1 b=st.H.length+2 then 1 else Θ1 b:=by
  intro b hb';simp only[Θ2];cases h:ix (fun x:aa=>x.contains b) L' with
  |none=>rfl
  |some i=>
   obtain⟨x,hx,hp⟩:=zU h;exact absurd (dW.2 ⟨x,aC hx,by simpa using hp⟩) hb'
 have hlt':∀b∈L'.flatten,b<w'.heap.size:=fun b hb'=>by
  obtain⟨cs,T,hx⟩:=(WU b hb').2;exact(bL.1 hx).1
 have kk:jP w w' Θ1 Θ2 (st.H.length+2):=by
  refine⟨by omega,k1,k2,k3,k4,fun b hlt hne=>k5 b hlt fun hb'=>hne (a9a b hb'),fun b hlt hne=>?_,fun b hb'=>?_⟩
  ·by_cases hin:b∈L'.flatten
   ·rcases(WU b hin).1 with h'|h'
    ·exact absurd (a9a b h') hne
    ·omega
   ·rw[a1W b hin,bH hne]
  ·by_cases hin:b∈L'.flatten
   ·exact hlt' b hin
   ·rw[a1W b hin]at hb';refine e9 (hs1.own b ?_) k4;intro h0;have h0':Θ1 b=0:=h0;rw[h0']at hb';rw[bH (by omega)]at hb';exact hb' rfl
 have hm2:∀b,2<=Θ2 b->Cf Γ b:=by
  intro b hb';by_cases hin:b∈L'.flatten
  ·rcases(WU b hin).1 with h'|h'
   ·obtain⟨m,_,he⟩:=hmem b h';exact hs.mine b (by omega)
   ·exact .inl (cQ hs.base h')
  ·rw[a1W b hin]at hb';split at hb'
   ·omega
   ·exact hs1.mine b hb'
 obtain⟨ρ,hu⟩:=hs1.wE;have a7C:=hs1.qJ kk (κ':=κ) (fun _ _ h=>h) hu;have hkl:(kill st.H ms).length=st.H.length:=hO _ _;have hpk:∀(j:Nat) y,(TX st.H ms outs)[j]?=some y->(∃(i:Nat) (x:Rw),ms[i]?=some j/\outs[i]?=some x/\y=x.ob (lv st.H j))\/(j∉ms/\(kill st.H ms)[j]?=some y):=by
  intro j y hj;rcases a2I hnd (by omega) hj with h'|⟨h1,h2⟩
  ·exact .inl h'
  ·exact .inr ⟨h1,by rw[ji h1];exact h2⟩
 have QR:∀(j:Nat) y,(TX st.H ms outs)[j]?=some y->j+2≠st.H.length+2:=fun j y hj=>by
  have:=(aH.1 hj).1;rw[Oy]at this;omega
 have hs2:eE Γ ⟨st.σ,TX st.H ms outs⟩ κ Θ2 a w':=by
  refine hs1.step kk hm2 (fun _ _ h=>h) (fun i hi=>hs.rD i (by rw[Oy]at hi;exact hi)) hs.qR ?_ ⟨ρ,a7C.1,?_,?_⟩
  ·intro j y hj;have hjl:=QR j y hj;rcases hpk j y hj with⟨i,x,h1,h2,rfl⟩|⟨_,h2⟩
   ·right;right
    have ZF:∃bs,L'[i]?=some bs:=⟨_,ai (by have:=(aH.1 h2).1;omega)⟩
    obtain⟨bs,ZF⟩:=ZF;obtain⟨v',q1,q2,q3⟩:=WS i x bs h2 ZF;rw[cm,hkc i j h1]at q1;refine⟨q2,fun x hx=>?_,v',bs,q1,q3,QK Jq bs (aC ZF),fun b hb'=>⟨aCj i j bs b h1 ZF hb',(WU b (dW.2 ⟨bs,aC ZF,hb'⟩)).2⟩⟩;unfold lv at hx;split at hx
    ·rename_i sz0 aDk u0 hH0;subst hx;obtain⟨_,q0,_⟩:=hs.ob j _ hH0;exact q0 x rfl
    ·cases hx
   ·exact .inr (.inl ⟨hjl,h2⟩)
  ·intro id e' sz' dN hj;have hjl:=QR id _ hj;rcases hpk id _ hj with⟨i,x,h1,h2,h3⟩|⟨_,h2⟩
   ·simp[Rw.ob]at h3
   ·exact a7C.2.1 id e' sz' dN hjl h2
  ·intro id y hj;have hjl:=QR id _ hj;rcases hpk id _ hj with⟨i,x,h1,h2,h3⟩|⟨_,h2⟩
   ·subst h3;exact P9.AV rfl
   ·exact a7C.2.2 id y hjl h2
 have vL:tQ w' κ v d []:=.of hv;exact hK _ _ (h κ Θ2 _ w' (hs2.set (t:=t) ht vL (by simp)))
def Ob.close:Ob->Ob
 | .row _ _ sz rows=>.ew sz rows none
 |o=>o
theorem eE.ZN(hs:eE Γ st κ Θ a w)(hb:Below w.heap.size w w')(L:og)(hL:∀x∈L,x.ok w')(hnd:(L.flatMap Fs.bl).Nodup)(hfr:∀b∈L.flatMap Fs.bl,w.heap.size<=b/\Wr w' b):
 ∃κ' Θ',eE Γ ⟨st.σ,st.H++(L.map Fs.ob).map Ob.close⟩ κ' Θ' a w'/\Names κ' st.H.length L:=by
 let n:=st.H.length
 let κ':Nat->Option Value:=fun j=>if j<n\/n+L.length<=j then κ j else(L[j-n]?).map Fs.v
 let Θ':Nat->Nat:=fun b=>match ix (fun x:Fs=>x.bl.contains b) L with|some i=>n+i+2|none=>Θ b
 have hu1:∀(i j:Nat) x y b,L[i]?=some x->L[j]?=some y->b∈x.bl->b∈y.bl->i=j:=fun i j x y b=>yD hnd i j x y b
 have hts:∀(i:Nat) x b,L[i]?=some x->b∈x.bl->Θ' b=n+i+2:=by
  intro i x b hi hxb;have:ix (fun x:Fs=>x.bl.contains b) L=some i:=Eh hi (by simpa using hxb) (fun j y hj hy=>hu1 j i y x b hj hi (by simpa using hy) hxb);simp only[Θ',this]
 have hno:∀b,b∉L.flatMap Fs.bl->Θ' b=Θ b:=by
  intro b hb';simp only[Θ'];cases h:ix (fun x:Fs=>x.bl.contains b) L with
  |none=>rfl
  |some i=>
   obtain⟨x,hx,hp⟩:=zU h;exact absurd (cC.2 ⟨x,aC hx,by simpa using hp⟩) hb'
 have hold:∀b,b<w.heap.size->Θ' b=Θ b:=fun b hlt=>hno b (fun h=>by have:=(hfr b h).1;omega)
 have hn:∀(j:Nat) v,κ j=some v->κ' j=some v:=by
  intro j v hj;have:j<n:=by
   rcases eH j n with h|h
   ·exact h
   ·have:=hs.rD j h;rw[hj]at this;cases this
  simp only[κ'];rw[bP (.inl this)];exact hj
 have Bx:Names κ' n L:=by
  intro i x hx;have hlt:=(aH.1 hx).1;simp only[κ'];rw[bH (by omega),dY,hx];rfl
 have hlen:(st.H++(L.map Fs.ob).map Ob.close).length=n+L.length:=by simp[n]
 have k:jP w w' Θ Θ' (n+L.length+2):=by
  refine⟨by omega,hb.os,hb.tape,hb.output,hb.size,fun b hlt _=>hb.block b hlt,fun b hlt _=>hold b hlt,fun b h=>?_⟩;by_cases hin:b∈L.flatMap Fs.bl
  ·obtain⟨cs,T,hx⟩:=(hfr b hin).2;exact(bL.1 hx).1
  ·rw[hno b hin]at h;exact e9 (hs.own b h) hb.size
 have hm:∀b,2<=Θ' b->Cf Γ b:=by
  intro b h;by_cases hin:b∈L.flatMap Fs.bl
  ·exact .inl (cQ hs.base (hfr b hin).1)
  ·rw[hno b hin]at h;exact hs.mine b h
 have key:∀(j:Nat) y,(st.H++(L.map Fs.ob).map Ob.close)[j]?=some y->(∃i x,j=n+i/\L[i]?=some x/\y=.ew x.sz x.rows none)\/(j<n/\st.H[j]?=some y):=by
  intro j y hj;by_cases hlt:j<st.H.length
  ·rw[b9 hlt]at hj;exact .inr ⟨hlt,hj⟩
  ·rw[bE (by omega),bz,bz]at hj;cases hx:L[j-st.H.length]? with
   |none=>simp[hx]at hj
   |some x=>simp[hx]at hj;exact .inl ⟨j-st.H.length,x,by omega,hx,hj.symm⟩
 have QR:∀(j:Nat) y,(st.H++(L.map Fs.ob).map Ob.close)[j]?=some y->j+2≠n+L.length+2:=fun j y hj=>by
  have:=(aH.1 hj).1;omega
 obtain⟨ρ,hu⟩:=hs.wE;have wV:=hs.qJ k hn hu;refine⟨κ',Θ',hs.step k hm hn (fun i hi=>?_) (fun i u BA=>?_) (fun j y hj=>?_) ⟨ρ,wV.1,fun id e sz rows hj=>?_,fun id y hj=>?_⟩,Bx⟩
 ·rw[hlen]at hi;simp only[κ'];rw[bP (by omega)];exact hs.rD i (by omega)
 ·simp only[κ']at BA;split at BA
  ·exact hs.qR i u BA
  ·cases hx:L[i-n]? with
   |none=>simp[hx]at BA
   |some x=>simp[hx]at BA;subst BA;exact(hL x (aC hx)).2.2.2.2
 ·have hjl:=QR j y hj;rcases key j y hj with⟨i,x,rfl,hx,rfl⟩|⟨hlt,hy⟩
  ·right;right
   obtain⟨q1,q2,q3,q4,_⟩:=hL x (aC hx);have OP:x.bl.Nodup:=by
    have:∀(l:og),(l.flatMap Fs.bl).Nodup->∀x∈l,x.bl.Nodup:=by
     intro l
     induction l with
     |nil=>intro _ x hx;cases hx
     |cons z r ih=>
      intro hnd x hx;simp only[dM]at hnd;obtain⟨n1,n2,_⟩:=bN.1 hnd;rcases bM.1 hx with rfl|hx
      ·exact n1
      ·exact ih n2 x hx
    exact this L hnd x (aC hx)
   exact⟨q2,by simp,x.v,x.bl,Bx i x hx,xk q2 q3 q4,OP,fun b hb'=>⟨hts i x b hx hb',(hfr b (cC.2 ⟨x,aC hx,hb'⟩)).2⟩⟩
  ·exact .inr (.inl ⟨hjl,hy⟩)
 ·have hjl:=QR id _ hj;rcases key id _ hj with⟨i,x,_,_,h⟩|⟨hlt,hy⟩
  ·cases h
  ·exact wV.2.1 id e sz rows hjl hy
 ·have hjl:=QR id _ hj;rcases key id _ hj with⟨i,x,_,_,h⟩|⟨hlt,hy⟩
  ·subst h;exact P9.AV rfl
  ·exact wV.2.2 id y hjl hy
theorem a0U{o:Oper}{f t:Nat}{xs:Array Operand}{ts:Array TypeId}{ds:aR}{ms:aa}{d:D}(hop:o.op=.call {callee:=.value (.func f),args:=xs,argTypes:=ts})(hd:o.dst=some t)(hg:o.guard=none)
 (ht:t<Γ.nt) (hds:Lx st.H (xs.toList.map st.ev)=some (ds,ms)) (hown:d.Qu=true) (pL:Good P f ds d)
 (h:AO P Γ all rest Q ⟨(t,(rC st.H.length d).1)::st.σ,st.H++(rC st.H.length d).2.map Ob.close⟩):AO P Γ all (o::rest) Q st:=by
 intro κ Θ a w hs;obtain⟨bs,hargs,hz⟩:=Po hs hds;let Θc:Nat->Nat:=fun b=>if Θ b=0\/ms.any (fun m=>Θ b==m+2)then 0 else 1
 have Oo:∀b,Seen Θ ms b->Θc b=0:=by
  intro b h;simp only[Θc];rw[bP];rcases h with h|⟨m,h1,h2⟩
  ·exact .inl h
  ·exact .inr (dO.2 ⟨m,h1,by simp[h2]⟩)
 have hc:=pL.2 w Θc _ bs hs.vok hargs (fun b hb=>Oo b (hz b hb)) (fun b hb=>hs.own b (fun e=>hb (Oo b (.inl e)))) (fun b=>by simp only[Θc];split<;>omega);refine wpList_plain hg fun K hK=>?_
 unfold Oper.wp;rw[A9 hop pL.1,Oper.upon_enter];have e:xs.map a.eval=(xs.toList.map a.eval).toArray:=by rw[<-j7,kU]
 rw[e];refine hc.mono ?_;rintro e w' ⟨v,bs',tb,ub,rfl,hb,hr,RG,htb,hnd,hfr,hsub⟩;show K (a.put o.dst v) w';rw[hd];obtain⟨L,q1,q2,q3,q4,q5⟩:=hr.inst st.H.length;obtain⟨κ',Θ',hs',hnm⟩:=hs.ZN hb L q2 (q3▸hnd) (fun b hb'=>hfr b (q3▸hb'));rw[q1]at hs';refine hK _ _ (h κ' Θ' _ w' (hs'.set (t:=t) ht (q5 κ' hnm) fun b hb'=>?_));rw[hr.own hown]at hb';cases hb'
def AS:List Rw->br->bU
 |x::xs,v::vs=>x.ob (some v)::AS xs vs
 |_,_=>[]
theorem Lj:∀ {xs:List Rw} {vs:br} {j:Nat} {y:Ob},(AS xs vs)[j]?=some y->∃x v,xs[j]?=some x/\vs[j]?=some v/\y=x.ob (some v):=by
 intro xs
 induction xs with
 |nil=>intro vs j y h;simp[AS]at h
 |cons x xs ih=>
  intro vs j y h;cases vs with
  |nil=>simp[AS]at h
  |cons v vs=>
   cases j with
   |zero=>simp[AS]at h;exact⟨x,v,rfl,rfl,h.symm⟩
   |succ j=>simp only[AS,eZ]at h⊢;exact ih h
theorem RZ:∀(xs:List Rw) (vs:br),(AS xs vs).length=min xs.length vs.length:=by
 intro xs
 induction xs with
 |nil=>intro vs;simp[AS]
 |cons x xs ih=>intro vs;cases vs with|nil=>simp[AS]|cons v vs=>simp[AS,ih]
def uz(P:Program)(fn:Func)(vs:br)(outs:List Rw)(d:D)(e:Exit)(st:St):Prop:=
 (e=.ret\/e=.normal)/\∃ds,Ex P st fn.results.toList=some ds/\ds.all D.flat=true/\C1 ds=d/\∀(i:Nat) x v,outs[i]?=some x->vs[i]?=some v->st.H[i]?=some (x.ob (some v))
theorem rj.of{f:FuncId}{fn:Func}{c:Code}{ds:aR}{ins outs:List Rw}{d:D}(hf:P.funcs[f]?=some fn)(hb:fn.body=some c)(hn:(fn.name== "runtime.NumGoroutine")=false)
 (hl:ds.length<=fn.ntmps) (hol:outs.length=ins.length) (hfl:d.flat=true) (h:(∀x∈ins,x.2.length<=maxLen)->∀Γ:vP,Γ.nt=fn.ntmps->∀vs:br,vs.length=ins.length->AW P Γ c (uz P fn vs outs d) ⟨CQ 0 ds,AS ins vs⟩):rj P f ds ins outs d:=by
 refine⟨⟨fn,hf,by simp[hb],hn⟩,hol,hfl,?_⟩;intro w κ args us T7 hlen hargs hko hk1 QS hnd hwr;obtain⟨L,hLl,rfl,hLi⟩:=QS.parts;have hvs:∃vs:br,vs.length=ins.length/\∀(i:Nat) v,vs[i]?=some v->κ i=some v:=by
  have:∀(xs:List Rw) (n:Nat),(∀(i:Nat) x,xs[i]?=some x->∃v,κ (n+i)=some v)->∃vs:br,vs.length=xs.length/\∀(i:Nat) v,vs[i]?=some v->κ (n+i)=some v:=by
   intro xs
   induction xs with
   |nil=>intro n _;exact⟨[],rfl,by simp⟩
   |cons x xs ih=>
    intro n h;obtain⟨v,hv⟩:=h 0 x rfl;obtain⟨vs,q1,q2⟩:=ih (n+1) (fun i y hy=>by
     obtain⟨v,hv⟩:=h (i+1) y (by simpa using hy);exact⟨v,by rw[<-hv];congr 1;omega⟩)
    refine⟨v::vs,by simp[q1],?_⟩;intro i u hu;cases i with
    |zero=>simp at hu;subst hu;exact hv
    |succ i=>
     have:=q2 i u (by simpa using hu);rw[<-this];congr 1;omega
  obtain⟨vs,q1,q2⟩:=this ins 0 (fun i x hx=>by
   obtain⟨v,bs,h1,_⟩:=QS.at i x hx;exact⟨v,h1⟩)
  exact⟨vs,q1,fun i v hv=>by have:=q2 i v hv;rwa[cm]at this⟩
 obtain⟨vs,hvl,YD⟩:=hvs;refine calls_of_wp hf hb ?_;let Θ:Nat->Nat:=fun b=>match ix (fun x:aa=>x.contains b) L with|some i=>i+2|none=>if b<w.heap.size then 1 else 0
 have hΘ:∀(i:Nat) bs b,L[i]?=some bs->b∈bs->Θ b=i+2:=by
  intro i bs b hi hb';have:ix (fun x:aa=>x.contains b) L=some i:=Eh hi (by simpa using hb') (fun j y hj hy=>Oj hnd j i y bs b hj hi (by simpa using hy) hb');simp only[Θ,this]
 have a7F:∀b,b∉L.flatten->Θ b=if b<w.heap.size then 1 else 0:=by
  intro b hb';simp only[Θ];cases h:ix (fun x:aa=>x.contains b) L with
  |none=>rfl
  |some i=>
   obtain⟨x,hx,hp⟩:=zU h;exact absurd (dW.2 ⟨x,aC hx,by simpa using hp⟩) hb'
 have hlt:∀b∈L.flatten,b<w.heap.size:=fun b hb'=>by
  obtain⟨cs,T,hx⟩:=hwr b hb';exact(bL.1 hx).1
 let Γ:vP:=⟨w,Θ,fun b=>b∈L.flatten,fn.ntmps,fun _=>False,T7⟩
 have Cs:∀x∈ins,x.2.length<=maxLen:=by
  intro x hx;obtain⟨i,hi⟩:=cq hx;obtain⟨v,bs,_,_,hr,_⟩:=QS.at i x hi;exact(dS.sl ⟨w,v,bs,hr⟩).1
 have hs:eE Γ ⟨CQ 0 ds,AS ins vs⟩ κ Θ {tmps:=args.toArray++Array.replicate (fn.ntmps-args.toArray.size) undef,defers:=[]} w:=by
  refine⟨rfl,?_,fun i hi=>hko i (by rw[RZ]at hi;omega),hk1,?_,?_,?_,?_,?_,⟨rfl,rfl,rfl,bR _,fun _ _ _=>rfl⟩,⟨fun _=>0,by simp,?_,?_⟩⟩
  ·simp[Γ];omega
  ·intro t;rw[NN];simp only[AJ,DB,Aw];cases hd:ds[t]? with
   |none=>exact⟨[],.of (.any _),by simp⟩
   |some x=>
    obtain⟨v,k1,k2⟩:=hargs t x hd;refine⟨[],?_,by simp⟩;have hlt:t<args.length:=(aH.1 k1).1;have:(args.toArray++Array.replicate (fn.ntmps-args.toArray.size) undef).getD t undef=v:=by
     rw[cO,fZ (by simpa using hlt)];simp[k1]
    rw[this];exact k2
  ·intro j o hj;obtain⟨x,v0,hx,hv0,rfl⟩:=Lj hj;have ZF:∃bs,L[j]?=some bs:=⟨_,ai (by have:=(aH.1 hx).1;omega)⟩
   obtain⟨bs,ZF⟩:=ZF;obtain⟨v,q1,q2,q3⟩:=hLi j x bs hx ZF;refine⟨q2,fun y hy=>by cases hy;exact YD j v0 hv0,v,bs,by rw[<-q1];congr 1;omega,q3,QK hnd bs (aC ZF),fun b hb'=>⟨hΘ j bs b ZF hb',hwr b (dW.2 ⟨bs,aC ZF,hb'⟩)⟩⟩
  ·intro b hb';by_cases hin:b∈L.flatten
   ·exact hlt b hin
   ·rw[a7F b hin]at hb';split at hb'
    ·assumption
    ·exact absurd rfl hb'
  ·intro b hb' hx;refine⟨rfl,?_⟩;rw[a7F b hx];split<;>omega
  ·intro b hb';by_cases hin:b∈L.flatten
   ·exact .inr hin
   ·rw[a7F b hin]at hb';split at hb'<;>omega
  ·intro id e sz rows hj;obtain⟨x,v0,_,_,h⟩:=Lj hj;simp[Rw.ob]at h
  ·intro id o hj;obtain⟨x,v0,_,_,h⟩:=Lj hj;subst h;exact P9.AV rfl
 refine wp_mono (h Cs Γ rfl vs hvl _ _ _ _ hs) ?_;rintro e a' w' ⟨Vn,κ0,Θ0,hs0,NG,ds0,hres,NE,rfl,hout⟩;obtain⟨rs,bs',m1,m2,m3,m4,m5⟩:=ID hs0 hres;have OM:∃v,(results fn a'.tmps).run P w'=.ok v w'/\Rd w' v (C1 ds0) []:=by
  have hrun:(results fn a'.tmps).run P w'=.ok (if h:rs.toArray.size=1 then rs.toArray[0]else .tuple rs.toArray) w':=by
   rw[results_eq,qS];simp[m1]
  match ds0,rs,m2,m3,m4,NE,hfl,hrun with
  | [x],[v],_,_,m4,NE,_,hrun=>
   obtain⟨v',b,k1,k2,_⟩:=m4 0 x rfl;simp at k1;subst k1;refine⟨v,by simpa using hrun,?_⟩;simp only[dG,List.all_nil,uZ]at NE;simp only[C1];cases k2 with
   |v k2=>
    cases k2 with
    |cell k2=>
     cases k2 with
     |pure k2=>have:=k2.flat NE;subst this;exact k2
     |_=>simp[D.flat]at NE
    |agg=>simp[D.flat]at NE
   |gb=>simp[D.flat]at NE
  | [],_,_,_,_,_,hfl,_=>simp[C1,D.flat]at hfl
  |_::_::_,_,_,_,_,_,hfl,_=>simp[C1,D.flat]at hfl
  | [x],[],h1,h2,_,_,_,_=>simp at h1 h2;omega
  | [x],_::_::_,h1,h2,_,_,_,_=>simp at h1 h2;omega
 obtain⟨v,ZJ,hr2⟩:=OM;have C8:∀(i:Nat) x,outs[i]?=some x->∃v bs,κ i=some v/\(∀r∈x.2,r.length=x.1)/\Rd w' v (.sl x.2) bs/\bs.Nodup/\∀b∈bs,Θ0 b=i+2/\Wr w' b:=by
  intro i x hx;have hlt:i<vs.length:=by have:=(aH.1 hx).1;omega
  obtain⟨q1,q0,v,bs,q2,q3,q4,q5⟩:=hs0.ob i _ (hout i x _ hx (ai hlt));have e1:=q0 _ rfl;rw[q2]at e1;cases e1;exact⟨_,bs,YD i _ (ai hlt),q1,q3,q4,q5⟩
 have hL':∃L':List aa,L'.length=outs.length/\∀(i:Nat) x bs,outs[i]?=some x->L'[i]?=some bs->(∃v,κ i=some v/\(∀r∈x.2,r.length=x.1)/\Rd w' v (.sl x.2) bs)/\bs.Nodup/\∀b∈bs,Θ0 b=i+2/\Wr w' b:=by
  have key:∀(xs:List Rw) (n:Nat),(∀(i:Nat) x,xs[i]?=some x->∃v bs,κ (n+i)=some v/\(∀r∈x.2,r.length=x.1)/\Rd w' v (.sl x.2) bs/\bs.Nodup/\∀b∈bs,Θ0 b=(n+i)+2/\Wr w' b)->
   ∃L':List aa,L'.length=xs.length/\∀(i:Nat) x bs,xs[i]?=some x->L'[i]?=some bs->(∃v,κ (n+i)=some v/\(∀r∈x.2,r.length=x.1)/\Rd w' v (.sl x.2) bs)/\bs.Nodup/\∀b∈bs,Θ0 b=(n+i)+2/\Wr w' b:=by
   intro xs
   induction xs with
   |nil=>intro n _;exact⟨[],rfl,by simp⟩
   |cons x xs ih=>
    intro n h;obtain⟨v,bs,r1,r2,r3,r4,r5⟩:=h 0 x rfl;obtain⟨L',q1,q2⟩:=ih (n+1) (fun i y hy=>by
     have:=h (i+1) y (by simpa using hy);rw[show n+(i+1)=n+1+i from by omega]at this;exact this)
    refine⟨bs::L',by simp[q1],?_⟩;intro i y b hy hb';cases i with
    |zero=>simp at hy hb';subst hy;subst hb';exact⟨⟨v,r1,r2,r3⟩,r4,r5⟩
    |succ i=>
     have:=q2 i y b (by simpa using hy) (by simpa using hb');rw[show n+1+i=n+(i+1)from by omega]at this;exact this
  obtain⟨L',q1,q2⟩:=key outs 0 (fun i x hx=>by rw[cm];exact C8 i x hx);exact⟨L',q1,fun i x bs hx hb'=>by have:=q2 i x bs hx hb';rwa[cm]at this⟩
 obtain⟨L',a8s,WS⟩:=hL';have a1K:∀(i:Nat) bs,L'[i]?=some bs->∃x,outs[i]?=some x:=fun i bs hb'=>⟨_,ai (by have:=(aH.1 hb').1;omega)⟩
 have Jq:L'.flatten.Nodup:=by
  refine K6 (fun x hx=>?_) (fun i j x y b hi hj hx hy=>?_)
  ·obtain⟨i,hi⟩:=cq hx;obtain⟨y,h1⟩:=a1K i x hi;exact(WS i y x h1 hi).2.1
  ·obtain⟨y1,h1⟩:=a1K i x hi;obtain⟨y2,h2⟩:=a1K j y hj;have e1:=((WS i y1 x h1 hi).2.2 b hx).1;have e2:=((WS j y2 y h2 hj).2.2 b hy).1;omega
 have hbl:∀b∈L'.flatten,2<=Θ0 b/\Wr w' b:=by
  intro b hb';obtain⟨x,hx,Hj⟩:=dW.1 hb';obtain⟨i,hi⟩:=cq hx;obtain⟨y,h1⟩:=a1K i x hi;have:=(WS i y x h1 hi).2.2 b Hj;exact⟨by omega,this.2⟩
 have Om:∀b∈L'.flatten,b∈L.flatten\/w.heap.size<=b:=by
  intro b hb';rcases hs0.mine b (hbl b hb').1 with h|h
  ·exact .inr h
  ·exact .inl h
 have post:a'.defers=[]/\∃v,(results fn a'.tmps).run P w'=.ok v w'/\∃u us',Ending.returned v=.returned u/\Rd w' u (C1 ds0) []/\CP w' κ 0 outs us'/\us'.Nodup/\(∀b∈us',(b∈L.flatten\/w.heap.size<=b)/\Wr w' b)/\
  w'.os=w.os/\w'.tape=w.tape/\w'.output=w.output/\w.heap.size<=w'.heap.size/\∀b,b<w.heap.size->b∉L.flatten->w'.heap[b]?=w.heap[b]?:=by
  refine⟨hs0.defers,v,ZJ,v,L'.flatten,rfl,hr2,CP.of a8s (fun i x bs hx hb'=>?_),Jq,fun b hb'=>⟨Om b hb',(hbl b hb').2⟩,hs0.stays.os,hs0.stays.tape,hs0.stays.output,hs0.stays.size,fun b hb' hx=>hs0.stays.block b hb' hx⟩;obtain⟨⟨v',q1,q2,q3⟩,_⟩:=WS i x bs hx hb';exact⟨v',by rw[cm];exact q1,q2,q3⟩
 rcases NG with rfl|rfl
 ·exact post
 ·exact post
end
end Go.Cx
namespace Go.Cx
open Go.RowKit
section
variable{P:Program}{Γ:vP}{Q:Exit->St->Prop}{st:St}{κ κ':Nat->Option Value}{Θ Θ':Nat->Nat}{a:Act}{w w':World}{all:Array Oper}{rest:List Oper}
theorem eE.XB(hs:eE Γ st κ Θ a w)(ms:aa){H':bU}(h1:w'.os=w.os)(h2:w'.tape=w.tape)(h3:w'.output=w.output)(h4:w.heap.size<=w'.heap.size)
 (QM:∀b,b<w.heap.size->(∀m∈ms,Θ b≠m+2)->w'.heap[b]?=w.heap[b]?) (a73:∀b,b<w.heap.size->(∀m∈ms,Θ b≠m+2)->Θ' b=Θ b) (hown:∀b,Θ' b≠0->b<w'.heap.size)
 (hm:∀b,2<=Θ' b->Cf Γ b) (hn:∀(j:Nat) v,κ j=some v->κ' j=some v) (hko:∀i,H'.length<=i->κ' i=none) (hk1:∀(i:Nat) u,κ' i=some u->u.oneCell'=true)
 (C8:∀(j:Nat) y,H'[j]?=some y->y=.gone\/(j∉ms/\st.H[j]?=some y)\/(yP w' κ' Θ' j y/\y.uqB=false)):eE Γ ⟨st.σ,H'⟩ κ' Θ' a w':=by
 have hs1:=hs.forget ms;have hin:∀b,(ms.any (fun m=>Θ b==m+2))=false->∀m∈ms,Θ b≠m+2:=by
  intro b h m hm' he;have:ms.any (fun m=>Θ b==m+2)=true:=dO.2 ⟨m,hm',by simp[he]⟩;rw[h]at this;cases this
 have hlt2:∀b,(if ms.any (fun m=>Θ b==m+2)then st.H.length+2 else Θ b)≠st.H.length+2->(ms.any (fun m=>Θ b==m+2))=false:=by
  intro b h;cases hc:ms.any (fun m=>Θ b==m+2)with
  |false=>rfl
  |true=>simp[hc]at h
 have kk:jP w w' (fun b=>if ms.any (fun m=>Θ b==m+2)then st.H.length+2 else Θ b) Θ' (st.H.length+2):=by
  refine⟨by omega,h1,h2,h3,h4,fun b hb hne=>QM b hb (hin b (hlt2 b hne)),fun b hb hne=>?_,hown⟩;have hc:=hlt2 b hne;rw[a73 b hb (hin b hc)];simp[hc]
 obtain⟨ρ,hu⟩:=hs1.wE;have wV:=hs1.qJ kk hn hu;refine hs1.step kk hm hn hko hk1 (fun j y hj=>?_) ⟨ρ,wV.1,fun id e sz rows hj=>?_,fun id y hj=>?_⟩
 ·rcases C8 j y hj with h|⟨h,hy⟩|⟨h,_⟩
  ·exact .inl h
  ·have:=(aH.1 hy).1;exact .inr (.inl ⟨by omega,by rw[ji h];exact hy⟩)
  ·exact .inr (.inr h)
 ·rcases C8 id _ hj with h|⟨h,hy⟩|⟨_,h⟩
  ·cases h
  ·have:=(aH.1 hy).1;exact wV.2.1 id e sz rows (by omega) (by rw[ji h];exact hy)
  ·simp[Ob.uqB]at h
 ·rcases C8 id _ hj with h|⟨h,hy⟩|⟨_,h⟩
  ·subst h;trivial
  ·have:=(aH.1 hy).1;exact wV.2.2 id y (by omega) (by rw[ji h];exact hy)
  ·exact P9.plain h
theorem Rd.a8J{v:Value}{rows:List aR}{bs:aa}(h:Rd w v (.sl rows) bs):(∃q c,v=.slice q rows.length c)/\rows.length<=maxLen:=by
 cases h with
 |Au=>exact⟨⟨_,_,rfl⟩,by simp⟩
 |pE=>exact⟨⟨_,_,rfl⟩,by simp⟩
 |sl b off cap sz _ cs bs hb h1 h2=>exact⟨⟨_,_,rfl⟩,by omega⟩
theorem a3g{o:Oper}{t T id sz:Nat}{x:Operand}{rows:List aR}{u:Option Value}(hop:o.op=.call {callee:=.builtin .len,args:= #[x],argTypes:= #[T]})(hd:o.dst=some t)(hg:o.guard=none)(ht:t<Γ.nt)
 (hT:(IJ P T).isSome=true) (hx:st.ev x=.acc id) (hH:st.H[id]?=some (.ew sz rows u)) (h:AO P Γ all rest Q ⟨(t,.int .i64 rows.length)::st.σ,st.H⟩):AO P Γ all (o::rest) Q st:=by
 intro κ Θ a w hs;obtain⟨b1,r1,_⟩:=hs.ev x;rw[hx]at r1;obtain⟨hk,_⟩:=r1.xR;obtain⟨_,_,v,bs,hk2,hrd,_⟩:=hs.ob id _ hH;rw[hk]at hk2;cases hk2;obtain⟨⟨q,c,hv⟩,Cs⟩:=hrd.a8J;obtain⟨⟨e,sz'⟩,hT⟩:=eM.1 hT;obtain⟨hu,_,_⟩:=pg hT;refine wpList_plain hg fun K hK=>?_
 unfold Oper.wp;have hrun:(execOp a.eval o).run P w=.ok (.value (.int .i64 rows.length)) w:=by
  simp only[execOp,hop,resolve,invoke,builtin,pN,bG,bV,hv];simp[Builtin.len_,run_underlying hu,goInt]
 rw[hrun,Oper.upon_value,hd];exact hK _ _ (h κ Θ _ w (hs.set (d:=.int .i64 rows.length) (bs:=[]) ht (.of (.int _ _ (TQ Cs))) (by simp)))
theorem a6T{o:Oper}{t T id sz e m:Nat}{x i:Operand}{rows:List aR}{u:Option Value}{k:IntKind}{n:Int}(hop:o.op=.indexAddr T x i)(hd:o.dst=some t)(hg:o.guard=none)(ht:t<Γ.nt)
 (hT:IJ P T=some (e,sz)) (hx:st.ev x=.acc id) (hi:st.ev i=.int k n) (hH:st.H[id]?=some (.ew sz rows u)) (hn:n=(m:Int)) (hm:m<rows.length) (h:AO P Γ all rest Q ⟨(t,.op id m sz 0)::st.σ,st.H⟩):AO P Γ all (o::rest) Q st:=by
 intro κ Θ a w hs;obtain⟨b1,r1,_⟩:=hs.ev x;obtain⟨b2,r2,_⟩:=hs.ev i;rw[hx]at r1;rw[hi]at r2;have hiv:=r2.sA;obtain⟨hk,_⟩:=r1.xR;obtain⟨_,_,v,bs,hk2,hrd,_⟩:=hs.ob id _ hH;rw[hk]at hk2;cases hk2;obtain⟨hu,ON,NI⟩:=pg hT;have hsz:=xP (P:=P) ON w;subst hn;generalize YE:a.eval x=vx at hrd hk;cases hrd with
 |Au=>simp at hm
 |pE=>simp at hm
 |sl b off cap sz' _ cs bs hb hcap Cs hrl hc vL=>
  have hn':0<=(m:Int)/\(m:Int)<(rows.length:Int):=⟨by omega,by omega⟩
  refine wpList_plain hg fun K hK=>?_
  unfold Oper.wp;have hrun:(execOp a.eval o).run P w=.ok (.value (.pointer (some ⟨b,off+(m*sz+0),none⟩))) w:=by
   simp only[execOp,hop,YE,hiv];simp[Instr.indexAt,asIntOf,run_underlying hu,hn',hm,hsz,NI,Addr.add_lit]
  rw[hrun,Oper.upon_value,hd];exact hK _ _ (h κ Θ _ w (hs.set (d:=.op id m sz 0) (bs:=[]) ht (BH.op id m sz 0 b off _ _ hk).Tu (by simp)))
theorem Pd{rows:List aR}{sz i off:Nat}{r:aR}{d:D}(hrl:∀r∈rows,r.length=sz)(hr:rows[i]?=some r)(hd:r[off]?=some d):rows.flatten[i*sz+off]?=some d/\off<sz/\i*sz+off<rows.length*sz:=by
 have h1:=hrl r (aC hr);have h2:=(aH.1 hd).1;have hmid:=HZ hrl hr;have hlt:=(aH.1 hr).1;have hle:(i+1)*sz<=rows.length*sz:=dR _ hlt;rw[kV,ni]at hle;refine⟨?_,by omega,by omega⟩;rw[<-hmid,cI,bP (by omega),dl]at hd;exact hd
theorem a0b{o:Oper}{t T id i sz off:Nat}{x:Operand}{rows:List aR}{r:aR}{d:D}{u:Option Value}(hop:o.op=.load T x)(hd:o.dst=some t)(hg:o.guard=none)(ht:t<Γ.nt)
 (hT:C6 P T=some false) (hx:st.ev x=.op id i sz off) (hH:st.H[id]?=some (.ew sz rows u)) (hr:rows[i]?=some r) (hc:r[off]?=some d) (hfl:d.flat=true) (h:AO P Γ all rest Q ⟨(t,d)::st.σ,st.H⟩):AO P Γ all (o::rest) Q st:=by
 intro κ Θ a w hs;obtain⟨b1,r1,_⟩:=hs.ev x;rw[hx]at r1;obtain⟨g,o0,len,a3s,hk,hv⟩:=r1.Hx;obtain⟨hrl,_,v,bs,hk2,hrd,_⟩:=hs.ob id _ hH;rw[hk]at hk2;cases hk2;obtain⟨hf,_,_⟩:=Pd hrl hr hc;cases hrd with
 |pE=>simp at hr
 |sl _ _ _ sz' _ cs ns hb hcap Cs PN hcs vL=>
  obtain⟨c,b',h1,h2,h3,h4⟩:=vL.at hf;have L:=qH (P:=P) (w:=w) hT (o:=i*sz+off) hcs;have hb':=h3.flat hfl;subst hb';refine wpList_plain hg fun K hK=>?_
  unfold Oper.wp;have hrun:(execOp a.eval o).run P w=.ok (.value c) w:=by
   simp only[execOp,hop,hv];simp[L.2 rfl c h1]
  rw[hrun,Oper.upon_value,hd];exact hK _ _ (h κ Θ _ w (hs.set (d:=d) (bs:=[]) ht (.of h3) (by simp)))
theorem mR.aA3{vs:br}{ds:aR}{bs:aa}(h:mR w vs ds bs){p:Nat}{d:D}(hd:ds[p]?=some d):
 ∃c b1 b2 b3,vs[p]?=some c/\c.oneCell'=true/\Rd w c d b2/\bs=b1++(b2++b3)/\∀(e:D) (b4:aa),Rd w c e b4->mR w vs (ds.set p e) (b1++(b4++b3)):=by
 obtain⟨l,r,rfl,hl⟩:=SE hd;obtain⟨v1,v2,c1,c2,rfl,rfl,k1,k2⟩:=h.split;cases k2 with
 |cons c vs _ _ b2 b3 h1 h2 h3=>
  have hl1:v1.length=p:=by rw[k1.length];exact hl
  refine⟨c,c1,b2,b3,by rw[bE (by omega),hl1];simp,h1,h2,rfl,fun e b4 he=>?_⟩;have e1:(l++d::r).set p e=l++e::r:=by rw[mc _ _ (by omega),hl];simp
  rw[e1];exact k1.app (.cons _ _ _ _ _ _ h1 he h3)
theorem NB{rows:List aR}{sz i off:Nat}{r:aR}{d e:D}(hrl:∀r∈rows,r.length=sz)(hr:rows[i]?=some r)(hd:r[off]?=some d):(rows.set i (r.set off e)).flatten=rows.flatten.set (i*sz+off) e:=by
 have hlt:=(aH.1 hd).1;have h1:=hrl r (aC hr);have:=He (rows:=rows) (sz:=sz) (i:=i) (off:=off) (row:=r) (ds:=[e]) hrl hr (by simp;omega);have e1:r.set off e=r.take off++[e]++r.drop (off+[e].length):=by
  apply o5;intro j;rw[fq];simp only[bY,dK,aK,bK,cm];by_cases hj:j<off
  ·rw[bH (by omega),b9 (by simp;omega),cI,bP hj]
  ·rw[bE (by simp;omega),cL,eo (by omega)];by_cases he:off=j
   ·subst he;simp[hlt]
   ·rw[bH he];obtain⟨m,hm⟩:∃m,j-off=m+1:=⟨j-off-1,by omega⟩
    rw[hm,eZ,dl]
    congr 1;omega
 rw[e1,this];have hfl:=pK hrl;obtain⟨hf,_,hlt2⟩:=Pd hrl hr hd;apply o5;intro j;rw[fq];simp only[bY,dK,aK,bK,cm];by_cases hj:j<i*sz+off
 ·rw[bH (by omega),b9 (by rw[cL];omega),cI,bP hj]
 ·rw[bE (by rw[cL];omega),cL,eo (by omega)];by_cases he:i*sz+off=j
  ·subst he;rw[bP rfl,bP (by omega),oz];rfl
  ·rw[bH he];obtain⟨m,hm⟩:∃m,j-(i*sz+off)=m+1:=⟨j-(i*sz+off)-1,by omega⟩
   rw[hm,eZ,dl]
   congr 1;omega
theorem Pm{rows:List aR}{sz i:Nat}{r:aR}(hrl:∀r∈rows,r.length=sz)(hr:r.length=sz):∀x∈rows.set i r,x.length=sz:=by
 intro x hx;rcases CA hx with hx|rfl
 ·exact hrl x hx
 ·exact hr
theorem a0d{o:Oper}{t T id i sz off XI:Nat}{x:Operand}{rows fT:List aR}{r:aR}{u:Option Value}(hop:o.op=.load T x)(hd:o.dst=some t)(hg:o.guard=none)(ht:t<Γ.nt)
 (hT:C6 P T=some false) (hx:st.ev x=.op id i sz off) (hH:st.H[id]?=some (.ew sz rows u)) (hr:rows[i]?=some r) (hc:r[off]?=some (.sl fT)) (h2:∀q∈fT,q.length=XI)
 (h:AO P Γ all rest Q ⟨(t,.acc st.H.length)::st.σ,st.H.set id (.hole sz (rows.set i (r.set off .any)) u (i*sz+off) st.H.length)++[.ew XI fT none]⟩):AO P Γ all (o::rest) Q st:=by
 intro κ Θ a w hs;obtain⟨b1,r1,_⟩:=hs.ev x;rw[hx]at r1;obtain⟨g,o0,len,a3s,hk,hv⟩:=r1.Hx;obtain⟨hrl,hux,v,bs,hk2,hrd,hnd,Hi⟩:=hs.ob id _ hH;rw[hk]at hk2;cases hk2;obtain⟨hf,hoff,_⟩:=Pd hrl hr hc;cases hrd with
 |pE=>simp at hr
 |sl _ _ _ sz' _ cs ns hb hcap Cs PN hcs vL=>
  obtain⟨c,c1,c2,c3,h1,h1c,h3,rfl,qT⟩:=vL.aA3 hf;have L:=qH (P:=P) (w:=w) hT (o:=i*sz+off) hcs;have a9D:id<st.H.length:=(aH.1 hH).1;have hnew:=qT .any [] (.any c);have Jq:=hnd;simp only[eP,ar,KI]at Jq;obtain⟨⟨hg1,hg2,hg3⟩,OP⟩:=Jq;obtain⟨n1,n2,n3⟩:=bN.1 OP;obtain⟨n4,n5,n6⟩:=bN.1 n2;let Θ':Nat->Nat:=fun b=>if b∈c2 then st.H.length+2 else Θ b
  have hs':eE Γ ⟨st.σ,st.H.set id (.hole sz (rows.set i (r.set off .any)) u (i*sz+off) st.H.length)++[.ew XI fT none]⟩ (AH κ st.H.length (some c)) Θ' a w:=by
   have hn:=zV (hs.rD _ (bR _)) (some c);have RY:∀b∈c2,Θ b=id+2:=fun b hb'=>(Hi b (by simp[hb'])).1
   refine hs.XB [id] rfl rfl rfl (bR _) (fun _ _ _=>rfl) (fun b _ hne=>?_) (fun b hb'=>?_) (fun b hb'=>?_) hn (fun j hj=>?_) (fun j y hy=>?_) (fun j y hj=>?_)
   ·simp only[Θ'];rw[bH];intro hin;exact hne id (by simp) (RY b hin)
   ·simp only[Θ']at hb';split at hb'
    ·rename_i hin;exact hs.own b (by rw[RY b hin];omega)
    ·exact hs.own b hb'
   ·simp only[Θ']at hb';split at hb'
    ·rename_i hin;exact hs.mine b (by rw[RY b hin];omega)
    ·exact hs.mine b hb'
   ·simp only[aX,bZ,aK,bK]at hj;unfold AH;rw[bH (by omega)];exact hs.rD j (by omega)
   ·unfold AH at hy;split at hy
    ·cases hy;exact h1c
    ·exact hs.qR j y hy
   ·rcases Dn j y hj with⟨hjl,rfl⟩|⟨hjl,hy⟩
    ·right;right
     have hjn:j=st.H.length:=by rw[hjl];simp
     subst hjn;refine⟨⟨h2,by simp,c,c2,lg _ _ _,h3,n4,fun b hb'=>⟨by simp[Θ',hb'],(Hi b (by simp[hb'])).2⟩⟩,rfl⟩
    ·rcases BD j y hy with⟨rfl,rfl⟩|⟨hne,hy'⟩
     ·right;right
      refine⟨⟨Pm hrl (by rw[bZ];exact hrl r (aC hr)),fun z hz=>hn _ _ (hux z hz),_,g::(c1++([]++c3)),hn _ _ hk,⟨g,o0,a3s,cs,c1++([]++c3),by simp,hb,by simpa using hcap,Cs,hcs,?_,rfl,c,h1,lg _ _ _⟩,?_,fun b hb'=>?_⟩,rfl⟩
      ·rw[NB hrl hr hc];exact hnew
      ·simp only[cN,eP,ar,KI];exact⟨⟨hg1,hg3⟩,bN.2 ⟨n1,n5,fun x hx y hy e=>n3 x hx y (by simp[hy]) e⟩⟩
      ·have hbm:b∈g::(c1++(c2++c3)):=by
        simp only[cN,bM,ar]at hb'⊢;rcases hb' with h|h|h<;>simp[h]
       refine⟨?_,(Hi b hbm).2⟩;simp only[Θ'];rw[bH,(Hi b hbm).1];intro hin;simp only[cN,bM,ar]at hb';rcases hb' with h|h|h
       ·subst h;exact hg2 hin
       ·exact n3 b h b (by simp[hin]) rfl
       ·exact n6 b hin b h rfl
     ·exact .inr (.inl ⟨by simpa using hne,hy'⟩)
  refine wpList_plain hg fun K hK=>?_
  unfold Oper.wp;have hrun:(execOp a.eval o).run P w=.ok (.value c) w:=by
   simp only[execOp,hop,hv];simp[L.2 rfl c h1]
  rw[hrun,Oper.upon_value,hd];exact hK _ _ (h _ _ _ w (hs'.set (d:=.acc st.H.length) (bs:=[]) ht (BH.acc st.H.length c (lg _ _ _)).Tu (by simp)))
theorem a0c{id n i sz off XI:Nat}{rows fT:List aR}{r:aR}{d:D}{u u2:Option Value}(hH:st.H[id]?=some (.hole sz rows u (i*sz+off) n))(hN:st.H[n]?=some (.ew XI fT u2))(hr:rows[i]?=some r)(hc:r[off]?=some d)
 (h:AO P Γ all rest Q ⟨st.σ,(st.H.set n .gone).set id (.ew sz (rows.set i (r.set off (.sl fT))) u)⟩):AO P Γ all rest Q st:=by
 intro κ Θ a w hs;obtain⟨hrl,hux,v,bs,hk,⟨b,o0,cap,cs,ns,rfl,h1,h2,h3,h4,h5,rfl,c,h6,h7⟩,hnd,Hi⟩:=hs.ob id _ hH;obtain⟨aEp,_,v2,bs2,hk2,aCQ,aCH,a18⟩:=hs.ob n _ hN;rw[h7]at hk2;cases hk2;obtain⟨hf,hoff,_⟩:=Pd hrl hr hc;obtain⟨c',c1,c2,c3,q1,q1c,q3,rfl,qT⟩:=h5.aA3 hf;rw[h6]at q1;cases q1;have hnew:=qT (.sl fT) bs2 aCQ;have hne:n≠id:=fun e=>by subst e;rw[hH]at hN;cases hN
 have a9D:id<st.H.length:=(aH.1 hH).1;have Jq:=hnd;simp only[eP,ar,KI]at Jq;obtain⟨⟨hg1,hg2,hg3⟩,OP⟩:=Jq;obtain⟨n1,n2,n3⟩:=bN.1 OP;obtain⟨n4,n5,n6⟩:=bN.1 n2;have a6r:∀x∈bs2,∀y∈b::(c1++(c2++c3)),x≠y:=by
  intro x hx y hy e;subst e;have e1:=(a18 x hx).1;have e2:=(Hi x hy).1;omega
 let Θ':Nat->Nat:=fun x=>if x∈bs2 then id+2 else if Θ x=n+2 then 1 else Θ x
 refine h κ Θ' a w (hs.XB [id,n] rfl rfl rfl (bR _) (fun _ _ _=>rfl) (fun x _ hnx=>?_) (fun x hx=>?_) (fun x hx=>?_) (fun _ _ h=>h) (fun j hj=>hs.rD j (by simpa using hj)) hs.qR (fun j y hj=>?_))
 ·simp only[Θ'];rw[bH (fun hin=>hnx n (by simp) (a18 x hin).1),bH (hnx n (by simp))]
 ·simp only[Θ']at hx;split at hx
  ·rename_i hin;exact hs.own x (by rw[(a18 x hin).1];omega)
  ·split at hx
   ·rename_i he;exact hs.own x (by rw[he];omega)
   ·exact hs.own x hx
 ·simp only[Θ']at hx;split at hx
  ·rename_i hin;exact hs.mine x (by rw[(a18 x hin).1];omega)
  ·split at hx
   ·omega
   ·exact hs.mine x hx
 ·rcases BD j y hj with⟨rfl,rfl⟩|⟨K4,hy⟩
  ·right;right
   refine⟨⟨Pm hrl (by rw[bZ];exact hrl r (aC hr)),hux,_,b::(c1++(bs2++c3)),hk,?_,?_,fun x hx=>?_⟩,rfl⟩
   ·have hl:(rows.set i (r.set off (.sl fT))).length=rows.length:=by simp
    have:=Rd.sl (w:=w) b o0 cap sz (rows.set i (r.set off (.sl fT))) cs (c1++(bs2++c3)) h1 (by rw[hl];exact h2) h3 (Pm hrl (by rw[bZ];exact hrl r (aC hr))) h4 (by rw[NB hrl hr hc];exact hnew);rw[hl]at this;exact this
   ·simp only[eP,ar,KI];refine⟨⟨hg1,fun hin=>a6r b hin b (by simp) rfl,hg3⟩,bN.2 ⟨n1,bN.2 ⟨aCH,n5,fun x hx y hy e=>a6r x hx y (by simp[hy]) e⟩,fun x hx y hy e=>?_⟩⟩;rcases ar.1 hy with hy|hy
    ·exact a6r y hy x (by simp[hx]) e.symm
    ·exact n3 x hx y (by simp[hy]) e
   ·by_cases hin:x∈bs2
    ·exact⟨by simp[Θ',hin],(a18 x hin).2⟩
    ·have hbm:x∈b::(c1++(c2++c3)):=by
      simp only[bM,ar]at hx⊢;rcases hx with h|h|h|h
      ·simp[h]
      ·simp[h]
      ·exact absurd h hin
      ·simp[h]
     refine⟨?_,(Hi x hbm).2⟩;have e1:=(Hi x hbm).1;simp only[Θ'];rw[bH hin,bH (by omega),e1]
  ·rcases BD j y hy with⟨rfl,rfl⟩|⟨hj2,hy'⟩
   ·exact .inl rfl
   ·exact .inr (.inl ⟨by simp[K4,hj2],hy'⟩)
theorem mR.setCells{vs:br}{ds es:aR}{us:br}{bs:aa}(h:mR w vs ds bs)(p:Nat)(hp:p+es.length<=ds.length)(hu:mR w us es []):
 ∃b',mR w (vs.take p++us++vs.drop (p+us.length)) (ds.take p++es++ds.drop (p+es.length)) b'/\(∀b∈b',b∈bs)/\(bs.Nodup->b'.Nodup):=by
 have e:ds=ds.take p++((ds.drop p).take es.length++(ds.drop p).drop es.length):=by rw[cA,cA]
 rw[e]at h;obtain⟨v1,v2,b1,b2,rfl,rfl,k1,k2⟩:=h.split;obtain⟨v3,v4,b3,b4,rfl,rfl,k3,k4⟩:=k2.split;have l1:v1.length=p:=by rw[k1.length];simp;omega
 have l3:v3.length=es.length:=by rw[k3.length];simp;omega
 have lu:=hu.length;have t1:(v1++(v3++v4)).take p=v1:=j0 l1;have t2:(v1++(v3++v4)).drop (p+us.length)=v4:=by
  rw[<-gX,fX l1,lu,fX l3]
 rw[t1,t2];rw[gX]at k4;refine⟨b1++[]++b4,(k1.app hu).app k4,fun b hb=>?_,fun hnd=>?_⟩
 ·simp only[cM,ar]at hb⊢;rcases hb with h|h<;>simp[h]
 ·obtain⟨n1,n2,n3⟩:=bN.1 hnd;obtain⟨_,n5,_⟩:=bN.1 n2;simp only[cM];exact bN.2 ⟨n1,n5,fun x hx y hy e=>n3 x hx y (by simp[hy]) e⟩
theorem Yo{o:Oper}{T id i sz off:Nat}{x y:Operand}{rows:List aR}{r ds:aR}{u:Option Value}(hop:o.op=.store T x y)(hd:o.dst=none)(hg:o.guard=none)
 (hx:st.ev x=.op id i sz off) (hH:st.H[id]?=some (.ew sz rows u)) (hr:rows[i]?=some r) (hc:(st.ev y).cellsOf=some ds) (hfl:ds.all D.flat=true) (hT:Tr P T=true) (hl:ds.length=BK P T) (hpos:0<ds.length) (hfit:off+ds.length<=sz)
 (h:AO P Γ all rest Q ⟨st.σ,st.H.set id (.ew sz (rows.set i (r.take off++ds++r.drop (off+ds.length))) u)⟩):AO P Γ all (o::rest) Q st:=by
 intro κ Θ a w hs;obtain⟨b1,r1,_⟩:=hs.ev x;obtain⟨b2,r2,_⟩:=hs.ev y;rw[hx]at r1;obtain⟨g,o0,len,a3s,hk,hv⟩:=r1.Hx;obtain⟨hrl,hux,v,bs,hk2,hrd,hnd,Hi⟩:=hs.ob id _ hH;rw[hk]at hk2;cases hk2;have a1A:=DH hs.qR r2 hc;have hl1:=a1A.length;have aC2:ds.all D.U5=true:=by
  rw[bA]at hfl⊢;intro d M1;have:=hfl d M1;cases d<;>first|rfl| (simp[D.flat]at this)
 have hcp:=a1A.pure aC2;have Y9:=hcp.flat hfl;subst Y9;have hrow:=hrl r (aC hr);have hilt:=(aH.1 hr).1;have a6s:(i+1)*sz<=rows.length*sz:=dR _ hilt;rw[kV,ni]at a6s;cases hrd with
 |pE=>simp at hr
 |sl _ _ _ sz' _ cs ns hb hcap Cs PN hcs vL=>
  obtain⟨hgT,hgw⟩:=Hi g (by simp);obtain⟨cur,Tb,hgc⟩:=hgw;have a9A:=pK hrl;have hcl:cs.length=rows.length*sz:=by rw[vL.length,a9A]
  have QO:∀j c,cs[j]?=some c->cur[o0+j]?=some c:=by
   intro j c hj;have:=hcs j c hj;simpa[World.cell?,hgc]using this
  have a99:o0+(i*sz+off)+(a.eval y).cells.size<=cur.size:=by
   have e1:(a.eval y).cells.size=ds.length:=by rw[<-hl1];simp
   rw[e1];have:=QO (i*sz+off+ds.length-1) cs[i*sz+off+ds.length-1] (ai (by omega));have:=(bL.1 this).1;omega
  have a7A:(a.eval y).cells.size=BK P T:=by rw[<-hl,<-hl1];simp
  have hst:=I0 (P:=P) (T:=T) (off:=o0+(i*sz+off)) hgc a7A (eM.1 hT) a99 a1A.one;have hne:(a.eval y).cells.toList.length=ds.length:=hl1;let PI:Array Value:=(cur.toList.take (o0+(i*sz+off))++(a.eval y).cells.toList++cur.toList.drop (o0+(i*sz+off)+(a.eval y).cells.toList.length)).toArray
  have hw':∀x,x≠g->(w.setRow g PI).heap[x]?=w.heap[x]?:=fun x hx=>setRow_other w g x _ hx
  have hsame:∀x,x<w.heap.size->(∀m∈[id],Θ x≠m+2)->(w.setRow g PI).heap[x]?=w.heap[x]?:=fun x _ hx=>hw' x (fun e=>hx id (by simp) (by rw[e];exact hgT))
  simp only[eP]at hnd;have aCT:mR (w.setRow g PI) cs rows.flatten ns:=vL.keep fun b hb'=>hw' b (fun e=>hnd.1 (e▸hb'))
  have aBs:mR (w.setRow g PI) (a.eval y).cells.toList ds []:=hcp.keep (by simp);obtain⟨ns',q1,q2,q3⟩:=aCT.setCells (i*sz+off) (by rw[a9A];omega) aBs;have hfs:=He (ds:=ds) (off:=off) hrl hr hfit;have hl4:(rows.set i (r.take off++ds++r.drop (off+ds.length))).length=rows.length:=by simp
  have a9R:∀z∈rows.set i (r.take off++ds++r.drop (off+ds.length)),z.length=sz:=Pm hrl (by simp;omega);have hcell:∀j c,(cs.take (i*sz+off)++(a.eval y).cells.toList++cs.drop (i*sz+off+(a.eval y).cells.toList.length))[j]?=some c->(w.setRow g PI).cell? ⟨g,o0+j,none⟩=some c:=by
   intro j c hj;have hgh:(w.setRow g PI).heap[g]?=some (.cells PI Tb (0,0)):=setRow_heap w g cur _ Tb _ hgc;simp only[World.cell?,hgh];show PI[o0+j]?=some c;simp only[PI,mY,bY]at hj⊢;have hcz:o0+(i*sz+off)<=cur.toList.length:=by simp;omega
   by_cases K4:j<i*sz+off
   ·rw[b9 (by simp;omega),cI,bP K4]at hj;rw[b9 (by rw[cL];omega),cI,bP (by omega)];have:=QO j c hj;simpa using this
   ·rw[bE (by rw[cL];omega),cL,eo (by omega)]at hj;rw[bE (by rw[cL];omega),cL,eo hcz];rw[show o0+j-(o0+(i*sz+off))=j-(i*sz+off)from by omega];by_cases hj2:j-(i*sz+off)<(a.eval y).cells.toList.length
    ·rw[b9 hj2]at hj⊢;exact hj
    ·rw[bE (by omega),dl]at hj⊢;have:=QO _ c hj;rw[<-uy]at this;rw[<-this];congr 1;omega
  refine wpList_plain hg fun K hK=>?_
  unfold Oper.wp;have hrun:(execOp a.eval o).run P w=.ok .skip (w.setRow g PI):=by
   simp only[execOp,hop,hv];simp[hst,PI]
  rw[hrun,Oper.upon_skip,hd];refine hK _ _ (h κ Θ _ _ (hs.XB [id] rfl rfl rfl (by simp) hsame (fun _ _ _=>rfl) (fun b hb'=>by simpa using hs.own b hb') hs.mine (fun _ _ h=>h) (fun j hj=>hs.rD j (by simpa using hj)) hs.qR (fun j z hj=>?_)));rcases BD j z hj with⟨rfl,rfl⟩|⟨K4,hz⟩
  ·right;right
   refine⟨⟨a9R,hux,_,g::ns',hk,?_,?_,fun b hb'=>?_⟩,rfl⟩
   ·have:=Rd.sl (w:=w.setRow g PI) g o0 a3s sz (rows.set i (r.take off++ds++r.drop (off+ds.length))) _ ns' (by simpa using hb) (by rw[hl4];exact hcap) Cs a9R hcell (by rw[hfs];exact q1);rw[hl4]at this;exact this
   ·simp only[eP];exact⟨fun hin=>hnd.1 (q2 g hin),q3 hnd.2⟩
   ·rcases bM.1 hb' with rfl|hin
    ·exact⟨hgT,⟨_,Tb,setRow_heap w b cur _ Tb _ hgc⟩⟩
    ·have hm:=Hi b (by simp[q2 b hin]);refine⟨hm.1,?_⟩;obtain⟨xs,T',hxs⟩:=hm.2;exact⟨xs,T',(hw' b (fun e=>hnd.1 (e▸q2 b hin))).trans hxs⟩
  ·exact .inr (.inl ⟨by simpa using K4,hz⟩)
end
end Go.Cx
namespace Go.Cx
open Go.RowKit
def Jw(P:Program)(f:FuncId)(ds:aR)(e sz:Nat)(rows dN:List aR):Prop:=
 (∃fn,P.funcs[f]?=some fn/\fn.body.isSome=true/\(fn.name== "runtime.NumGoroutine")=false)/\
 ∀(w:World) (κ:Nat->Option Value) (args:br) (v:Value) (cs:br),Sk w (fun b=>v.ownBlock=some b)->args.length=ds.length->(∀(i:Nat) d,ds[i]?=some d->∃u,args[i]?=some u/\tQ w κ u d [])->
  κ 0=some v->(∀i,1<=i->κ i=none)->v.oneCell'=true->0<sz->(∀r∈rows,r.length=sz)->w.ownsRow 0 e sz v rows.length cs->mR w cs rows.flatten []->
  Calls P f args.toArray w (fun x w'=>∃v' cs',x=.returned v'/\v'.oneCell'=true/\(∀r∈dN,r.length=sz)/\w'.ownsRow 0 e sz v' dN.length cs'/\mR w' cs' dN.flatten []/\(∀g,v'.ownBlock=some g->w.heap.size<=g\/v.ownBlock=some g)/\
   w'.os=w.os/\w'.tape=w.tape/\w'.output=w.output/\w.heap.size<=w'.heap.size/\∀b,b<w.heap.size->v.ownBlock≠some b->w'.heap[b]?=w.heap[b]?)
section
variable{P:Program}{Γ:vP}{Q:Exit->St->Prop}{st:St}{κ κ':Nat->Option Value}{Θ Θ':Nat->Nat}{a:Act}{w w':World}{all:Array Oper}{rest:List Oper}
theorem Vs.out{fn:Func}{d:D}{e:Exit}{a':Act}{w':World}{Vn:St}{κ0:Nat->Option Value}{Θ0:Nat->Nat}(hs0:eE Γ Vn κ0 Θ0 a' w')(hrq:Vs P fn d e Vn):
 (e=.ret\/e=.normal)/\a'.defers=[]/\Xl Γ w'/\∃v bs ts us,(results fn a'.tmps).run P w'=.ok v w'/\E5 w' v d bs ts us/\∀b∈ts,Cf Γ b:=by
 obtain⟨NG,nz,ds0,es,ms,qs,hres,hrv,T5,QT,rfl⟩:=hrq;obtain⟨ρ0,hu0⟩:=hs0.wE;have Jp:=CY hrv;obtain⟨Θ1,ρ1,hs1,hu1,hm1,Uu,ZJ⟩:=eE.Ph ms hs0 hu0 T5 (fun m hm=>by
  obtain⟨e,sz,rows,hH⟩:=Jp.1 m hm;exact⟨_,e,sz,rows,hH,rfl⟩)
 obtain⟨vs,bs',m1,m2,m3,m4,m5⟩:=ID hs0 hres;have hq:∀m e sz rows,Vn.H[m]?=some (.row .uq e sz rows)->∃v cs ns,κ0 m=some v/\0<sz/\(∀r∈rows,r.length=sz)/\w'.ownsRow 0 e sz v rows.length cs/\mR w' cs rows.flatten ns/\ns.Nodup/\(∀b∈ns,ρ1 b=m+1)/\∀g,v.ownBlock=some g->Θ1 g=m+2:=by
  intro m e sz rows hH;have hnm:m∉ms:=fun hm=>by
   obtain⟨e',sz',dN,Lg⟩:=Jp.1 m hm;rw[hH]at Lg;cases Lg
  have Vj:(kill Vn.H ms)[m]?=some (.row .uq e sz rows):=by rw[ji hnm];exact hH
  obtain⟨v,cs,ns,r1,r2,r3,r4,r5⟩:=hu1.rows m e sz rows Vj;obtain⟨p1,p2,v2,_,_,p3,_,_,p4,_⟩:=hs1.ob m _ Vj;rw[r1]at p3;cases p3;exact⟨v,cs,ns,r1,p1,p2,r2,r3,r4,r5,p4⟩
 obtain⟨c,ts,us,On,NH⟩:=IE (w:=w') (vs:=vs) (fun b hb=>(hu1.free b hb).1) hq hs0.qR hrv QT (by omega) (fun i d hd=>by
  obtain⟨v,b,k1,k2,k3⟩:=m4 i d hd;exact⟨v,b,k1,k2,fun x hx=>Uu x (m5 x (k3 x hx))⟩) hm1
 have OM:∃v,(results fn a'.tmps).run P w'=.ok v w'/\E5 w' v (C1 es) c ts us:=by
  have hrun:(results fn a'.tmps).run P w'=.ok (if h:vs.toArray.size=1 then vs.toArray[0]else .tuple vs.toArray) w':=by
   rw[results_eq,qS];simp[m1]
  cases On with
  |nil=>exact⟨.tuple #[],by simpa using hrun,.gb [] [] [] [] [] .nil⟩
  |cons v vs d es b1 b2 t1 t2 u1 u2 hv xN=>
   cases xN with
   |nil=>
    simp only[cM];exact⟨v,by simpa using hrun,.v hv⟩
   |cons v2 vs d2 es b3 b4 t3 t4 u3 u4 Ut xN=>exact⟨.tuple (v::v2::vs).toArray,by simpa using hrun,.gb _ _ _ _ _ (.cons _ _ _ _ _ _ _ _ _ _ hv (.cons _ _ _ _ _ _ _ _ _ _ Ut xN))⟩
 obtain⟨v,a1N,Wf⟩:=OM;refine⟨NG,hs0.defers,hs0.stays,v,c,ts,us,a1N,Wf,fun b hb'=>?_⟩;obtain⟨⟨m,hm,hΘ⟩,_⟩:=NH.top b hb';exact hs1.mine b (by omega)
theorem Jw.of{f:FuncId}{fn:Func}{c:Code}{ds:aR}{e sz:Nat}{rows dN:List aR}(hf:P.funcs[f]?=some fn)(hb:fn.body=some c)(hn:(fn.name== "runtime.NumGoroutine")=false)
 (hl:ds.length<=fn.ntmps) (hfl:dN.flatten.all D.flat=true) (h:rows.length<=maxLen->∀Γ:vP,Γ.nt=fn.ntmps->AW P Γ c (Vs P fn (.fr e sz dN)) ⟨CQ 0 ds,[.row .uq e sz rows]⟩):Jw P f ds e sz rows dN:=by
 refine⟨⟨fn,hf,by simp[hb],hn⟩,?_⟩;intro w κ args v cs T7 hlen hargs hk0 hk1 hone hsz hrl hown hrd;refine calls_of_wp hf hb ?_;let Θ:Nat->Nat:=fun b=>if v.ownBlock=some b then 2 else if b<w.heap.size then 1 else 0
 let Γ:vP:=⟨w,Θ,fun b=>v.ownBlock=some b,fn.ntmps,fun _=>False,T7⟩
 have hlt:∀b,v.ownBlock=some b->b<w.heap.size:=fun b hb'=>(hown.lt b hb').2
 have Cs:rows.length<=maxLen:=(dS.sl ⟨w,v,_,xk hrl hown hrd⟩).1;have hs:eE Γ ⟨CQ 0 ds,[.row .uq e sz rows]⟩ κ Θ {tmps:=args.toArray++Array.replicate (fn.ntmps-args.toArray.size) undef,defers:=[]} w:=by
  refine⟨rfl,?_,fun i hi=>hk1 i (by simpa using hi),?_,?_,?_,?_,?_,?_,⟨rfl,rfl,rfl,bR _,fun _ _ _=>rfl⟩,⟨fun _=>0,by simp,?_,?_⟩⟩
  ·simp[Γ];omega
  ·intro id u hu;rcases Nat.eq_zero_or_pos id with rfl|hp
   ·rw[hk0]at hu;cases hu;exact hone
   ·rw[hk1 id hp]at hu;cases hu
  ·intro t;rw[NN];simp only[AJ,DB,Aw];cases hd:ds[t]? with
   |none=>exact⟨[],.of (.any _),by simp⟩
   |some x=>
    obtain⟨u,k1,k2⟩:=hargs t x hd;refine⟨[],?_,by simp⟩;have hlt:t<args.length:=(aH.1 k1).1;have:(args.toArray++Array.replicate (fn.ntmps-args.toArray.size) undef).getD t undef=u:=by
     rw[cO,fZ (by simpa using hlt)];simp[k1]
    rw[this];exact k2
  ·intro j o hj;cases j with
   |zero=>
    simp at hj;subst hj;exact⟨hsz,hrl,v,cs,[],hk0,hown,hrd,fun g hg=>by simp only[Θ];rw[bP hg],by simp⟩
   |succ j=>simp at hj
  ·intro b hb';simp only[Θ]at hb';split at hb'
   ·rename_i hv;exact hlt b hv
   ·split at hb'
    ·assumption
    ·exact absurd rfl hb'
  ·intro b hb' hx;refine⟨rfl,?_⟩;have hx':¬v.ownBlock=some b:=hx;simp only[Θ];rw[bH hx'];split<;>omega
  ·intro b hb';simp only[Θ]at hb';split at hb'
   ·rename_i hv;exact .inr hv
   ·split at hb'<;>omega
  ·intro id e' sz' fT hj;cases id with
   |zero=>
    simp at hj;obtain⟨rfl,rfl,rfl⟩:=hj;exact⟨v,cs,[],hk0,hown,hrd,by simp,by simp⟩
   |succ j=>simp at hj
  ·intro id o hj;cases id with
   |zero=>simp at hj;subst hj;exact P9.AV rfl
   |succ j=>simp at hj
 refine wp_mono (h Cs Γ rfl _ _ _ _ hs) ?_;rintro x a' w' ⟨Vn,κ0,Θ0,hs0,hrq⟩;obtain⟨NG,hdf,hst,u,bs,ts,us,hrun,hres,Om⟩:=Vs.out hs0 hrq;have OM:∃u cs',(results fn a'.tmps).run P w'=.ok u w'/\u.oneCell'=true/\(∀r∈dN,r.length=sz)/\w'.ownsRow 0 e sz u dN.length cs'/\mR w' cs' dN.flatten []/\(∀g,u.ownBlock=some g->w.heap.size<=g\/v.ownBlock=some g)/\
  w'.os=w.os/\w'.tape=w.tape/\w'.output=w.output/\w.heap.size<=w'.heap.size/\∀b,b<w.heap.size->v.ownBlock≠some b->w'.heap[b]?=w.heap[b]?:=by
  cases hres with
  |v hv=>
   cases hv with
   |cell hc=>
    cases hc with
    |pure hc=>cases hc
    |fr _ _ _ cs' ns h1 h2 h3 h4 h5=>
     have:=h4.flat hfl;subst this;exact⟨u,cs',hrun,h5,h2,h3,h4,fun g hg=>Om g (by simp[hg]),hst.os,hst.tape,hst.output,hst.size,fun b hb' hx=>hst.block b hb' hx⟩
 obtain⟨u,cs',q1,q2⟩:=OM;have post:a'.defers=[]/\∃v',(results fn a'.tmps).run P w'=.ok v' w'/\∃v2 cs2,Ending.returned v'=.returned v2/\v2.oneCell'=true/\(∀r∈dN,r.length=sz)/\w'.ownsRow 0 e sz v2 dN.length cs2/\mR w' cs2 dN.flatten []/\(∀g,v2.ownBlock=some g->w.heap.size<=g\/v.ownBlock=some g)/\
  w'.os=w.os/\w'.tape=w.tape/\w'.output=w.output/\w.heap.size<=w'.heap.size/\∀b,b<w.heap.size->v.ownBlock≠some b->w'.heap[b]?=w.heap[b]?:=⟨hdf,u,q1,u,cs',rfl,q2⟩
 rcases NG with rfl|rfl
 ·exact post
 ·exact post
theorem a0Y{o:Oper}{f t id:Nat}{xs:Array Operand}{ts:Array TypeId}{e sz:Nat}{rows dN:List aR}(hop:o.op=.call {callee:=.value (.func f),args:=xs,argTypes:=ts})(hd:o.dst=some t)(hg:o.guard=none)
 (ht:t<Γ.nt) (hH:st.H[id]?=some (.row .uq e sz rows)) (hfl:rows.flatten.all D.flat=true) (hb:((xs.toList.map st.ev).all D.bare)=true) (pL:Jw P f ((xs.toList.map st.ev).map (D.YP [id])) e sz rows dN)
 (h:AO P Γ all rest Q ⟨(t,.acc st.H.length)::st.σ,kill st.H [id]++[.row .uq e sz dN]⟩):AO P Γ all (o::rest) Q st:=by
 intro κ Θ a w hs;obtain⟨hsz,hrl,v,cs,bs,hk,hown,hrd,Ho,_⟩:=hs.ob id _ hH;have Hi:=hrd.flat hfl;subst Hi;have ZI:id<st.H.length:=(aH.1 hH).1;let κc:Nat->Option Value:=fun j=>if j=0 then some v else none
 have T7:Sk w fun b=>v.ownBlock=some b:=by
  obtain⟨B,v1,v2⟩:=hs.vsb;refine⟨B,v1,fun b hB=>⟨(v2 b hB).2.1,fun hb'=>?_⟩⟩;have e1:=Ho b hb';rcases hs.mine b (by omega)with q|q
  ·have:=(v2 b hB).1;omega
  ·exact(v2 b hB).2.2 q
 have hargs:∀(i:Nat) d,((xs.toList.map st.ev).map (D.YP [id]))[i]?=some d->∃u,(xs.toList.map a.eval)[i]?=some u/\tQ w κc u d []:=by
  intro i d M1;rw[bz,bz]at M1;cases hx:xs.toList[i]? with
  |none=>rw[hx]at M1;cases M1
  |some x=>
   rw[hx]at M1;simp only[cY,av]at M1;subst M1;refine⟨a.eval x,by rw[bz,hx];rfl,?_⟩;obtain⟨bs,r,hz⟩:=hs.ev x;have a17:(st.ev x).bare=true:=bA.1 hb _ (cH.2 ⟨x,aC hx,rfl⟩);obtain⟨b',r',_⟩:=tQ.rn (o:=[id]) (κ':=κc) (Θ:=fun _=>0) (Θ':=fun _=>0) (fun i j u h1 h2=>by
    have h3:=TW h1;cases j with
    |zero=>simp at h3;subst h3;rw[hk]at h2;simpa[κc]using h2
    |succ j=>simp at h3) (fun _ _=>rfl) r (fun _ _=>rfl)
   have:=r'.Xq (D.Xr [id] a17);subst this;exact r'
 have hc:=pL.2 w κc (xs.toList.map a.eval) v cs T7 (by simp) hargs (by simp[κc]) (fun i hi=>by simp only[κc];rw[bH (by omega)]) (hs.qR id v hk) hsz hrl hown hrd;refine wpList_plain hg fun K hK=>?_
 unfold Oper.wp;rw[A9 hop pL.1,Oper.upon_enter];have e0:xs.map a.eval=(xs.toList.map a.eval).toArray:=by rw[<-j7,kU]
 rw[e0];refine hc.mono ?_;rintro x w' ⟨v',cs',rfl,hone,PN,NF,QU,hat,h1,h2,h3,h4,QM⟩;show K (a.put o.dst v') w';rw[hd];let n:=st.H.length
 let Θ':Nat->Nat:=fun b=>if some b=v'.ownBlock then n+2 else Θ b
 have hvt:∀g,v'.ownBlock=some g->Θ g=id+2\/w.heap.size<=g:=by
  intro g ZH;rcases hat g ZH with h|h
  ·exact .inr h
  ·exact .inl (Ho g h)
 have k:jP w w' Θ Θ' (id+2):=by
  refine⟨by omega,h1,h2,h3,h4,fun b hb hne=>QM b hb (fun e=>hne (Ho b e)),fun b hb hne=>?_,fun b hb=>?_⟩
  ·simp only[Θ'];rw[bH];intro e;rcases hvt b e.symm with h|h
   ·exact hne h
   ·omega
  ·simp only[Θ']at hb;split at hb
   ·rename_i e;exact(NF.lt b e.symm).2
   ·exact e9 (hs.own b hb) h4
 have hm:∀b,2<=Θ' b->Cf Γ b:=by
  intro b hb;simp only[Θ']at hb;split at hb
  ·rename_i e;rcases hvt b e.symm with h|h
   ·exact hs.mine b (by omega)
   ·exact .inl (cQ hs.base h)
  ·exact hs.mine b hb
 have hn:=zV (hs.rD n (bR _)) (some v');obtain⟨ρ,hu⟩:=hs.wE;have wV:=hs.qJ k hn hu;have key:∀(j:Nat) y,(kill st.H [id]++[.row .uq e sz dN])[j]?=some y->(j=n/\y=.row .uq e sz dN)\/(j≠n/\(y=.gone\/(j∉[id]/\st.H[j]?=some y))):=by
  intro j y hj;rcases Dn j y hj with⟨h1,h2⟩|⟨h1,h2⟩
  ·rw[hO]at h1;exact .inl ⟨h1,h2⟩
  ·rw[hO]at h1;exact .inr ⟨h1,uV h2⟩
 have hs':eE Γ ⟨st.σ,kill st.H [id]++[.row .uq e sz dN]⟩ (AH κ n (some v')) Θ' a w':=by
  refine hs.step k hm hn ?_ ?_ ?_ ⟨ρ,wV.1,fun j e' sz' fT hj=>?_,fun j y hj=>?_⟩
  ·intro i hi;simp only[aX,aK,bK,hO]at hi;unfold AH;rw[bH (by omega)];exact hs.rD i (by omega)
  ·intro i y hy;unfold AH at hy;split at hy
   ·cases hy;exact hone
   ·exact hs.qR i y hy
  ·intro j y hj;rcases key j y hj with⟨rfl,rfl⟩|⟨_,hy|⟨hjk,hy⟩⟩
   ·exact .inr (.inr ⟨hsz,PN,v',cs',[],lg _ _ _,NF,QU,fun g ZH=>by simp only[Θ'];rw[bP ZH.symm],by simp⟩)
   ·exact .inl hy
   ·exact .inr (.inl ⟨fun e=>hjk (by simp;omega),hy⟩)
  ·rcases key j _ hj with⟨rfl,hy⟩|⟨_,hy|⟨hjk,hy⟩⟩
   ·simp only[Ob.row.injEq,vX]at hy;obtain⟨rfl,rfl,rfl⟩:=hy;exact⟨v',cs',[],lg _ _ _,NF,QU,by simp,by simp⟩
   ·cases hy
   ·exact wV.2.1 j e' sz' fT (fun e=>hjk (by simp;omega)) hy
  ·rcases key j _ hj with⟨rfl,hy⟩|⟨_,hy|⟨hjk,hy⟩⟩
   ·subst hy;exact P9.AV rfl
   ·subst hy;trivial
   ·exact wV.2.2 j y (fun e=>hjk (by simp;omega)) hy
 refine hK _ _ (h _ _ _ _ (hs'.set (t:=t) (d:=.acc n) (bs:=[]) ht ?_ (by simp)));exact(BH.acc n _ (lg _ _ _)).Tu
end
end Go.Cx
namespace Go.Cx
open Go.RowKit
def BR(P:Program)(f:FuncId)(cells cells':aR)(ds:aR)(d:D):Prop:=
 (∃fn,P.funcs[f]?=some fn/\fn.body.isSome=true/\(fn.name== "runtime.NumGoroutine")=false)/\
 ∀(w:World) (Θ:Nat->Nat) (g:Nat) (cs:Array Value) (T:TypeId) (args:br) (bs ts us:aa),
  Sk w (fun b=>b=g\/b∈ts)->w.heap[g]?=some (.cells cs T (0,0))->DC w (.agg cs::args) (.agg cells::ds) bs ts us->
  (∀b∈bs,Θ b=0)->(∀b,Θ b≠0->b<w.heap.size)->(∀b,Θ b<=1)->Θ g=1->(∀b∈ts,Θ b=1/\b∈us/\b≠g)->us.Nodup->(∀b∈us,(b∉ts->Θ b=0)/\Wr w b)->
  Calls P f (.pointer (some ⟨g,0,none⟩)::args).toArray w (fun e w'=>∃v cs' T' b2 t2 u2 b3 t3 u3,e=.returned v/\w'.os=w.os/\w'.tape=w.tape/\w'.output=w.output/\w.heap.size<=w'.heap.size/\
   (∀b,b<w.heap.size->b≠g->b∉ts->w'.heap[b]?=w.heap[b]?)/\w'.heap[g]?=some (.cells cs' T' (0,0))/\
   E5 w' v d b2 t2 u2/\vZ w' cs'.toList cells' b3 t3 u3/\(∀b∈b3++b2,(b<w.heap.size->Θ b=0\/b∈ts)/\b≠g/\b∉t3++t2)/\(u3++u2).Nodup/\
   (∀b∈u3++u2,(w.heap.size<=b\/b∈us)/\b≠g/\Wr w' b)/\∀b∈t3++t2,b∈u3++u2/\(w.heap.size<=b\/b∈ts))
section
variable{P:Program}{Γ:vP}{Q:Exit->St->Prop}{st:St}{κ κ':Nat->Option Value}{Θ Θ':Nat->Nat}{a:Act}{w w':World}{all:Array Oper}{rest:List Oper}
theorem IL.a0l{cs:Array Value}{ds:aR}{bs ts us:aa}(h:IL w (.agg cs) (.agg ds) bs ts us):vZ w cs.toList ds bs ts us:=by
 generalize hv:Value.agg cs=v at h;cases h with
 |cell h=>
  cases h with
  |pure h=>
   cases h with
   |agg l _ _ h=>cases hv;simpa using vZ.Ew h
 |agg l _ _ _ _ h=>cases hv;simpa using h
theorem Pt.a0l{cs:Array Value}{ds:aR}{bs:aa}(h:Pt w κ (.agg cs) (.agg ds) bs):fF w κ cs.toList ds bs:=by
 generalize hv:Value.agg cs=v at h;cases h with
 |cell h=>
  cases h with
  |pure h=>
   cases h with
   |agg l _ _ h=>cases hv;simpa using fF.Ew h
 |agg l _ _ h=>cases hv;simpa using h
theorem IK.shown{v:Value}{d:D}{bs ts us:aa}(h:IK w v d bs ts us):∃b,Rd w v d.shC b:=by
 cases h with
 |pure h=>
  have e:d.shC=d:=by cases h<;>rfl
  exact⟨_,e.symm▸h⟩
 |fr e sz rows cs ns h1 h2 h3 h4 h5=>exact⟨_,xk h2 h3 h4⟩
theorem vZ.shown{vs:br}{ds:aR}{bs ts us:aa}(h:vZ w vs ds bs ts us):∃b,mR w vs (ds.map D.shC) b:=by
 induction h with
 |nil=>exact⟨_,.nil⟩
 |cons v vs d ds b1 b2 t1 t2 u1 u2 h1 h2 _ ih=>
  obtain⟨b,q⟩:=h2.shown;obtain⟨b',q'⟩:=ih;exact⟨_,.cons _ _ _ _ _ _ h1 q q'⟩
theorem IL.shown{v:Value}{d:D}{bs ts us:aa}(h:IL w v d bs ts us):dS d.shV:=by
 cases h with
 |cell h=>
  by_cases vT:∃ds,d=.agg ds
  ·obtain⟨ds,rfl⟩:=vT;cases h with
   |pure h=>cases h with
    |agg cs _ _ h=>
     obtain⟨b,q⟩:=(vZ.Ew h).shown;exact⟨w,_,_,.agg _ _ _ q⟩
  ·have e:d.shV=d.shC:=by cases d<;>first|rfl|exact absurd ⟨_,rfl⟩ vT
   rw[e];obtain⟨b,q⟩:=h.shown;exact⟨w,_,_,q⟩
 |agg cs ds bs ts us h=>
  obtain⟨b,q⟩:=h.shown;exact⟨w,_,_,.agg _ _ _ q⟩
theorem DC.shown{vs:br}{ds:aR}{bs ts us:aa}(h:DC w vs ds bs ts us):∀d∈ds.map D.shV,dS d:=by
 induction h with
 |nil=>intro d hd;cases hd
 |cons v vs d ds b1 b2 t1 t2 u1 u2 h2 _ ih=>
  intro x hx;rcases bM.1 hx with rfl|hx
  ·exact h2.shown
  ·exact ih x hx
def SU(L:og)(b:Nat):Option Nat:=ix (fun x:Fs=>x.v.ownBlock==some b) L
def CR(L:og)(b:Nat):Option Nat:=ix (fun x:Fs=>x.ns.contains b) L
theorem Va{L:og}(hnd:(L.flatMap Fs.bl).Nodup){i:Nat}{x:Fs}{b:Nat}(hi:L[i]?=some x)(hb:x.v.ownBlock=some b):SU L b=some i:=
 Eh hi (by simp[hb]) (fun j y hj hy=>by
  simp only[cj]at hy;exact yD hnd j i y x b hj hi (by simp[Fs.bl,hy]) (by simp[Fs.bl,hb]))
theorem XY{L:og}{b i:Nat}(h:SU L b=some i):b∈L.flatMap Fs.ts:=by
 obtain⟨x,hx,hp⟩:=zU h;exact cC.2 ⟨x,aC hx,by simp only[cj]at hp;simp[Fs.ts,hp]⟩
theorem Lw{L:og}{b:Nat}(h:b∉L.flatMap Fs.ts):SU L b=none:=by
 cases hb:SU L b with
 |none=>rfl
 |some i=>exact absurd (XY hb) h
theorem Q0{L:og}(hnd:(L.flatMap Fs.bl).Nodup){i:Nat}{x:Fs}{b:Nat}(hi:L[i]?=some x)(hb:b∈x.ns):CR L b=some i:=
 Eh hi (by simpa using hb) (fun j y hj hy=>yD hnd j i y x b hj hi (by simp only[Fs.bl];exact ar.2 (.inr (by simpa using hy))) (by simp only[Fs.bl];exact ar.2 (.inr hb)))
theorem E6{L:og}{b i:Nat}(h:CR L b=some i):∃x,L[i]?=some x/\b∈x.ns:=by
 obtain⟨x,hx,hp⟩:=zU h;exact⟨x,hx,by simpa using hp⟩
theorem Q3{L:og}{b:Nat}(h:b∈L.flatMap Fs.ts):b∈L.flatMap Fs.bl:=by
 obtain⟨x,hx,Hj⟩:=cC.1 h;exact cC.2 ⟨x,hx,by simp only[Fs.bl,Fs.ts]at Hj⊢;exact ar.2 (.inl Hj)⟩
theorem DE{L:og}{i b:Nat}{x:Fs}(h:L[i]?=some x)(hb:b∈x.ns):b∈L.flatMap Fs.bl:=
 cC.2 ⟨x,aC h,by simp only[Fs.bl];exact ar.2 (.inr hb)⟩
theorem UR{L:og}(hnd:(L.flatMap Fs.bl).Nodup):∀x∈L,x.bl.Nodup:=by
 induction L with
 |nil=>intro x hx;cases hx
 |cons z r ih=>
  intro x hx;simp only[dM]at hnd;obtain⟨n1,n2,_⟩:=bN.1 hnd;rcases bM.1 hx with rfl|hx
  ·exact n1
  ·exact ih n2 x hx
theorem Qo{L:og}(hnd:(L.flatMap Fs.bl).Nodup){i b:Nat}{x:Fs}(h:L[i]?=some x)(hb:b∈x.ns):b∉L.flatMap Fs.ts:=by
 intro ht;obtain⟨y,hy,hby⟩:=cC.1 ht;obtain⟨j,hj⟩:=cq hy;have:=yD hnd j i y x b hj h (by simp only[Fs.bl,Fs.ts]at hby⊢;exact ar.2 (.inl hby)) (by simp only[Fs.bl];exact ar.2 (.inr hb));subst this;rw[hj]at h;cases h;have OP:=UR hnd x hy;simp only[Fs.bl]at OP;exact(bN.1 OP).2.2 b hby b hb rfl
theorem VD{L:og}(hnd:(L.flatMap Fs.bl).Nodup){i:Nat}{x:Fs}(h:L[i]?=some x):x.ns.Nodup:=by
 have:=UR hnd x (aC h);simp only[Fs.bl]at this;exact(bN.1 this).2.1
def a0j(P:Program)(fn:Func)(v0:Value)(cells':aR)(d:D)(e:Exit)(st:St):Prop:=
 (e=.ret\/e=.normal)/\∃nz ds0 Sq es ms qs,Ex P st fn.results.toList=some ds0/\st.H[0]?=some (.PS Sq v0)/\
  Dq st.H nz (.agg Sq::ds0)=some (.agg cells'::es,ms,qs)/\ms.Nodup/\qs.Nodup/\C1 es=d
theorem a0j.out{fn:Func}{v0:Value}{cells':aR}{d:D}{e:Exit}{a':Act}{w':World}{Vn:St}{κ0:Nat->Option Value}{Θ0:Nat->Nat}(hs0:eE Γ Vn κ0 Θ0 a' w')(hrq:a0j P fn v0 cells' d e Vn):
 (e=.ret\/e=.normal)/\a'.defers=[]/\Xl Γ w'/\∃v g cs' T b2 t2 u2 b3 t3 u3,(results fn a'.tmps).run P w'=.ok v w'/\v0=.pointer (some ⟨g,0,none⟩)/\w'.heap[g]?=some (.cells cs' T (0,0))/\
  E5 w' v d b2 t2 u2/\vZ w' cs'.toList cells' b3 t3 u3/\(∀b∈b3++b2,(b<Γ.W0.heap.size->¬Γ.X b->Γ.Θ0 b=0)/\b≠g/\b∉t3++t2)/\(u3++u2).Nodup/\
  (∀b∈u3++u2,a0i Γ b/\b≠g/\Wr w' b)/\∀b∈t3++t2,b∈u3++u2/\Cf Γ b:=by
 obtain⟨NG,nz,ds0,Sq,es,ms,qs,hres,hH0,hrv,T5,QT,rfl⟩:=hrq;obtain⟨ρ0,hu0⟩:=hs0.wE;have Jp:=CY hrv;obtain⟨Θ1,ρ1,hs1,hu1,hm1,Uu,ZJ⟩:=eE.Ph ms hs0 hu0 T5 (fun m hm=>by
  obtain⟨e,sz,rows,hH⟩:=Jp.1 m hm;exact⟨_,e,sz,rows,hH,rfl⟩)
 obtain⟨vs,bs',m1,m2,m3,m4,m5⟩:=ID hs0 hres;have hq:∀m e sz rows,Vn.H[m]?=some (.row .uq e sz rows)->∃v cs ns,κ0 m=some v/\0<sz/\(∀r∈rows,r.length=sz)/\w'.ownsRow 0 e sz v rows.length cs/\mR w' cs rows.flatten ns/\ns.Nodup/\(∀b∈ns,ρ1 b=m+1)/\∀g,v.ownBlock=some g->Θ1 g=m+2:=by
  intro m e sz rows hH;have hnm:m∉ms:=fun hm=>by
   obtain⟨e',sz',dN,Lg⟩:=Jp.1 m hm;rw[hH]at Lg;cases Lg
  have Vj:(kill Vn.H ms)[m]?=some (.row .uq e sz rows):=by rw[ji hnm];exact hH
  obtain⟨v,cs,ns,r1,r2,r3,r4,r5⟩:=hu1.rows m e sz rows Vj;obtain⟨p1,p2,v2,_,_,p3,_,_,p4,_⟩:=hs1.ob m _ Vj;rw[r1]at p3;cases p3;exact⟨v,cs,ns,r1,p1,p2,r2,r3,r4,r5,p4⟩
 have h0m:0∉ms:=fun hm=>by
  obtain⟨e',sz',dN,Lg⟩:=Jp.1 0 hm;rw[hH0]at Lg;cases Lg
 have h0q:0∉qs:=fun hm=>by
  obtain⟨e',sz',dN,Lg⟩:=Jp.2 0 hm;rw[hH0]at Lg;cases Lg
 obtain⟨hv0,g,cs',T,hk0,hg,T9,bb,hbb,hbz⟩:=hs1.ob 0 _ (show(kill Vn.H ms)[0]?=_ by rw[ji h0m];exact hH0);have e0:v0=.pointer (some ⟨g,0,none⟩):=by rw[hv0]at hk0;cases hk0;rfl
 have T9:Θ1 g=2:=T9;obtain⟨c,tt,uu,On,NH⟩:=IE (w:=w') (vs:=.agg cs'::vs) (fun b hb=>(hu1.free b hb).1) hq hs0.qR hrv QT (by simp;omega) (fun i d hd=>by
  cases i with
  |zero=>
   simp at hd;subst hd;have:=Pt.agg _ _ _ hbb;exact⟨_,bb,rfl,.v (by simpa using this),hbz⟩
  |succ i=>
   obtain⟨v,b,k1,k2,k3⟩:=m4 i d (by simpa using hd);exact⟨v,b,by simpa using k1,k2,fun x hx=>Uu x (m5 x (k3 x hx))⟩) hm1
 cases On with
 |cons _ _ _ _ b3 b2 t3 t2 u3 u2 a47 xN=>
 have OM:∃v,(results fn a'.tmps).run P w'=.ok v w'/\E5 w' v (C1 es) b2 t2 u2:=by
  have hrun:(results fn a'.tmps).run P w'=.ok (if h:vs.toArray.size=1 then vs.toArray[0]else .tuple vs.toArray) w':=by
   rw[results_eq,qS];simp[m1]
  cases xN with
  |nil=>exact⟨.tuple #[],by simpa using hrun,.gb [] [] [] [] [] .nil⟩
  |cons v vs d es b1 b2 t1 t2 u1 u2 hv xN=>
   cases xN with
   |nil=>
    simp only[cM];exact⟨v,by simpa using hrun,.v hv⟩
   |cons v2 vs d2 es b3 b4 t3 t4 u3 u4 Ut xN=>exact⟨.tuple (v::v2::vs).toArray,by simpa using hrun,.gb _ _ _ _ _ (.cons _ _ _ _ _ _ _ _ _ _ hv (.cons _ _ _ _ _ _ _ _ _ _ Ut xN))⟩
 obtain⟨v,a1N,Wf⟩:=OM;have Ho:∀b∈t3++t2,Wr w' b:=by
  intro b hb;rcases ar.1 hb with hb|hb
  ·exact Pu a47 b hb
  ·exact UC Wf b hb
 refine⟨NG,hs0.defers,hs0.stays,v,g,cs',T,b2,t2,u2,b3,t3,u3,a1N,e0,hg,Wf,a47.a0l,fun b hb=>⟨fun hlt hx=>?_,fun e=>?_,fun ht=>?_⟩,NH.nd,fun b hb=>?_,fun b hb=>?_⟩
 ·have:=NH.zero b hb;rw[<-(hs1.old b hlt hx).1];exact this
 ·have:=NH.zero b hb;subst e;omega
 ·obtain⟨⟨m,_,hΘ⟩,_⟩:=NH.top b ht;have:=NH.zero b hb;omega
 ·rcases NH.mem b hb with h|⟨m,hm,hρ⟩
  ·obtain⟨⟨m,hm,hΘ⟩,_⟩:=NH.top b h;refine⟨.inl (hs1.mine b (by omega)),fun e=>?_,Ho b h⟩;subst e;rw[T9]at hΘ;have:m=0:=by omega
   subst this;exact h0q hm
  ·have:=hu1.free b (by omega);refine⟨this.2.1,fun e=>?_,this.2.2⟩;have h0:=this.1;subst e;omega
 ·obtain⟨⟨m,hm,hΘ⟩,h2⟩:=NH.top b hb;exact⟨h2,hs1.mine b (by omega)⟩
theorem E4.len{vs:br}{ds:aR}{bs:aa}(h:E4 w κ vs ds bs):vs.length=ds.length:=by
 induction h with
 |nil=>rfl
 |cons v vs d ds b1 b2 h1 _ ih=>simp[ih]
theorem BR.of{f:FuncId}{fn:Func}{c:Code}{cells cells' G7 ds ds1:aR}{obs:bU}{d:D}(hf:P.funcs[f]?=some fn)(hb:fn.body=some c)(hn:(fn.name== "runtime.NumGoroutine")=false)
 (hI:Eg 1 (.agg cells::ds)=(.agg G7::ds1,obs)) (hl:ds1.length+1<=fn.ntmps)
 (h:(∀x∈(D.agg cells::ds).map D.shV,dS x)->∀(v0:Value) (Γ:vP),Γ.nt=fn.ntmps->AW P Γ c (a0j P fn v0 cells' d) ⟨CQ 0 (.ptr 0 0::ds1),.PS G7 v0::obs⟩):BR P f cells cells' ds d:=by
 refine⟨⟨fn,hf,by simp[hb],hn⟩,?_⟩;intro w Θ g cs T args bs ts us hvs hg hargs hz hown h1 hg1 hts hnd wV;have a78:=hargs.shown;obtain⟨L,q1,q2,rfl,rfl,q5⟩:=hargs.inst 1;rw[hI]at q1 q5;have q1:L.map Fs.ob=obs:=q1;refine calls_of_wp hf hb ?_;let v0:Value:=.pointer (some ⟨g,0,none⟩)
 let κ0:Nat->Option Value:=fun i=>if i=0 then some v0 else(L[i-1]?).map Fs.v
 let Θ0:Nat->Nat:=fun b=>if b=g then 2 else match SU L b with|some i=>i+3|none=>Θ b
 let ρ0:Nat->Nat:=fun b=>match CR L b with|some i=>i+2|none=>0
 let Γ:vP:=⟨w,Θ0,fun b=>b=g\/b∈L.flatMap Fs.ts,fn.ntmps,fun b=>b∈L.flatMap Fs.bl,hvs⟩
 have hgl:g<w.heap.size:=(bL.1 hg).1;have hk0:κ0 0=some v0:=rfl;have hkS:∀i x,L[i]?=some x->κ0 (i+1)=some x.v:=fun i x hx=>by simp[κ0,hx]
 have hnm:Names κ0 1 L:=fun i x hx=>by rw[Nat.add_comm];exact hkS i x hx
 have hrd:=q5 κ0 hnm;have hlen:=hrd.len;have a9W:∀(i:Nat) x b,L[i]?=some x->x.v.ownBlock=some b->b∈L.flatMap Fs.ts:=fun i x b hx hb'=>cC.2 ⟨x,aC hx,by simp[Fs.ts,hb']⟩
 have a7G:∀(i:Nat) x b,L[i]?=some x->x.v.ownBlock=some b->Θ0 b=i+3:=by
  intro i x b hx hb';have:=(hts b (a9W i x b hx hb')).2.2;simp only[Θ0,Va hnd hx hb'];rw[bH this]
 have a7H:∀b,Θ b=0->Θ0 b=0:=by
  intro b h0;have e1:b≠g:=fun e=>by subst e;omega
  have e2:b∉L.flatMap Fs.ts:=fun e=>by have:=(hts b e).1;omega
  simp only[Θ0,Lw e2];rw[bH e1,h0]
 have a9I:∀(i:Nat) x b,L[i]?=some x->b∈x.ns->Θ0 b=0:=fun i x b hx hb'=>a7H b ((wV b (DE hx hb')).1 (Qo hnd hx hb'))
 have OQ:∀b,Θ0 b≠Θ b->b=g\/b∈L.flatMap Fs.ts:=by
  intro b hne;by_cases e:b=g
  ·exact .inl e
  ·refine .inr (jO fun ht=>hne ?_);simp only[Θ0,Lw ht];rw[bH e]
 have a6y:∀(j:Nat) o,obs[j]?=some o->∃x,L[j]?=some x/\o=x.ob:=by
  intro j o hj;rw[<-q1,bz]at hj;cases hx:L[j]? with
  |none=>simp[hx]at hj
  |some x=>simp[hx]at hj;exact⟨x,rfl,hj.symm⟩
 have aCI:obs.length=L.length:=by rw[<-q1];simp
 have a47:∃b',fF w κ0 cs.toList G7 b'/\∀b∈b',Θ0 b=0:=by
  obtain⟨v,b',k1,k2,k3⟩:=hrd.at (i:=0) (d:=.agg G7) rfl;simp at k1;subst k1;exact⟨b',k2.a0l,fun b hb'=>a7H b (hz b (k3 b hb'))⟩
 have hs:eE Γ ⟨CQ 0 (.ptr 0 0::ds1),.PS G7 v0::obs⟩ κ0 Θ0 {tmps:=(v0::args).toArray++Array.replicate (fn.ntmps-(v0::args).toArray.size) undef,defers:=[]} w:=by
  refine⟨rfl,?_,fun i hi=>?_,?_,?_,?_,?_,?_,?_,⟨rfl,rfl,rfl,bR _,fun _ _ _=>rfl⟩,⟨ρ0,?_,?_,?_⟩⟩
  ·simp only[aK]at hlen;simp[Γ];omega
  ·simp only[aK]at hi;simp only[κ0];rw[bH (by omega),ck (by omega)];rfl
  ·intro id u hu;simp only[κ0]at hu;split at hu
   ·cases hu;rfl
   ·cases hx:L[id-1]? with
    |none=>simp[hx]at hu
    |some x=>simp[hx]at hu;subst hu;exact(q2 x (aC hx)).2.2.2.2
  ·intro t;rw[NN];simp only[AJ,DB,Aw];have a5U:∀v,(v0::args)[t]?=some v->((v0::args).toArray++Array.replicate (fn.ntmps-(v0::args).toArray.size) undef).getD t undef=v:=by
    intro v hv;have hlt:=(aH.1 hv).1;rw[cO,fZ (by simpa using hlt)];simp only[mY,hv,zD]
   cases t with
   |zero=>
    refine⟨[],?_,by simp⟩;rw[a5U v0 rfl];exact .v (.cell (.ptr 0 0 g hk0))
   |succ s=>
    rw[eZ];cases hd:ds1[s]? with
    |none=>exact⟨[],.of (.any _),by simp⟩
    |some x=>
     obtain⟨v,b',k1,k2,k3⟩:=hrd.at (i:=s+1) (d:=x) (by simpa using hd);rw[a5U v (by simpa using k1)];exact⟨b',.v k2,fun b hb'=>a7H b (hz b (k3 b hb'))⟩
  ·intro j o hj;cases j with
   |zero=>
    simp at hj;subst hj;obtain⟨b',k1,k2⟩:=a47;exact⟨hk0,g,cs,T,hk0,hg,by simp[Θ0],b',k1,k2⟩
   |succ j=>
    obtain⟨x,hx,rfl⟩:=a6y j o (by simpa using hj);obtain⟨p1,p2,p3,p4,_⟩:=q2 x (aC hx);exact⟨p1,p2,x.v,x.cs,x.ns,hkS j x hx,p3,p4,fun b hb'=>a7G j x b hx hb',fun b hb'=>a9I j x b hx hb'⟩
  ·intro b hb';by_cases e:Θ0 b=Θ b
   ·exact hown b (by rw[<-e];exact hb')
   ·rcases OQ b e with rfl|ht
    ·exact hgl
    ·exact hown b (by have:=(hts b ht).1;omega)
  ·intro b hlt hx;refine⟨rfl,?_⟩;have e:Θ0 b=Θ b:=jO fun e=>hx (OQ b e)
   rw[e];exact h1 b
  ·intro b hb';refine .inr (OQ b fun e=>?_);have:=h1 b;omega
  ·intro b hb';cases hbl:CR L b with
   |none=>simp[ρ0,hbl]at hb'
   |some i=>
    obtain⟨x,hx,Hj⟩:=E6 hbl;exact⟨a9I i x b hx Hj,.inr (DE hx Hj),(wV b (DE hx Hj)).2⟩
  ·intro id e sz rows hj;cases id with
   |zero=>simp at hj
   |succ j=>
    obtain⟨x,hx,hox⟩:=a6y j _ (by simpa using hj);simp only[Fs.ob,Ob.row.injEq,vX]at hox;obtain⟨rfl,rfl,rfl⟩:=hox;obtain⟨p1,p2,p3,p4,_⟩:=q2 x (aC hx);exact⟨x.v,x.cs,x.ns,hkS j x hx,p3,p4,VD hnd hx,fun b hb'=>by simp[ρ0,Q0 hnd hx hb']⟩
  ·intro id o hj;cases id with
   |zero=>simp at hj;subst hj;trivial
   |succ j=>
    obtain⟨x,hx,hox⟩:=a6y j _ (by simpa using hj);subst hox;exact P9.AV rfl
 refine wp_mono (h a78 v0 Γ rfl _ _ _ _ hs) ?_;rintro x a' w' ⟨Vn,κ1,Θ1,hs0,hrq⟩;obtain⟨NG,hdf,hst,v,g',cs',T',b2,t2,u2,b3,t3,u3,hrun,e0,hg',hres,aBt,aBp,Jq,BA,ht'⟩:=a0j.out hs0 hrq;obtain rfl:g=g':=by
  have e1:Value.pointer (some ⟨g,0,none⟩)=.pointer (some ⟨g',0,none⟩):=e0;cases e1;rfl
 have post:a'.defers=[]/\∃v',(results fn a'.tmps).run P w'=.ok v' w'/\∃v cs' T' b2 t2 u2 b3 t3 u3,Ending.returned v'=.returned v/\w'.os=w.os/\w'.tape=w.tape/\w'.output=w.output/\w.heap.size<=w'.heap.size/\
  (∀b,b<w.heap.size->b≠g->b∉L.flatMap Fs.ts->w'.heap[b]?=w.heap[b]?)/\w'.heap[g]?=some (.cells cs' T' (0,0))/\
  E5 w' v d b2 t2 u2/\vZ w' cs'.toList cells' b3 t3 u3/\(∀b∈b3++b2,(b<w.heap.size->Θ b=0\/b∈L.flatMap Fs.ts)/\b≠g/\b∉t3++t2)/\(u3++u2).Nodup/\
  (∀b∈u3++u2,(w.heap.size<=b\/b∈L.flatMap Fs.bl)/\b≠g/\Wr w' b)/\∀b∈t3++t2,b∈u3++u2/\(w.heap.size<=b\/b∈L.flatMap Fs.ts):=by
  refine⟨hdf,v,hrun,v,cs',T',b2,t2,u2,b3,t3,u3,rfl,hst.os,hst.tape,hst.output,hst.size,fun b hlt hne hnt=>hst.block b hlt (fun hx=>hx.elim hne hnt),hg',hres,aBt,fun b hb'=>?_,Jq,fun b hb'=>?_,fun b hb'=>?_⟩
  ·obtain⟨k1,k2,k3⟩:=aBp b hb';refine⟨fun hlt=>?_,k2,k3⟩;by_cases ht:b∈L.flatMap Fs.ts
   ·exact .inr ht
   ·refine .inl ?_;have:=k1 hlt (fun hx=>hx.elim k2 ht);have e:Θ0 b=Θ b:=jO fun e=>(OQ b e).elim k2 ht
    rw[<-e];exact this
  ·obtain⟨k1,k2,k3⟩:=BA b hb';refine⟨?_,k2,k3⟩;rcases k1 with(k1|k1|k1)|k1
   ·exact .inl k1
   ·exact absurd k1 k2
   ·exact .inr (Q3 k1)
   ·exact .inr k1
  ·obtain⟨k1,k2⟩:=ht' b hb';refine⟨k1,?_⟩;have:=(BA b k1).2.1;rcases k2 with k2|k2|k2
   ·exact .inl k2
   ·exact absurd k2 this
   ·exact .inr k2
 rcases NG with rfl|rfl
 ·exact post
 ·exact post
theorem a0Z{o:Oper}{f t id:Nat}{xs:Array Operand}{ty:Array TypeId}{x0:Operand}{xr:List Operand}{ob:Ob}{Nx cells cells' ds:aR}{d:D}{nz:List (List (Option (Nat×Nat)))}{ms qs:aa}
 (hop:o.op=.call {callee:=.value (.func f),args:=xs,argTypes:=ty}) (hd:o.dst=some t) (hg:o.guard=none) (ht:t<Γ.nt)
 (hxs:xs.toList=x0::xr) (hx0:st.ev x0=.ptr id 0) (hH:st.H[id]?=some ob) (C8:ob.Z6=some Nx)
 (NG:Dq st.H nz (.agg Nx::xr.map st.ev)=some (.agg cells::ds,ms,qs)) (T5:ms.Nodup) (QT:qs.Nodup) (pL:BR P f cells cells' ds d)
 (h:AO P Γ all rest Q ⟨(t,(rC (st.H.length+(nu st.H.length cells').2.length) d).1)::st.σ,
  (kill st.H (ms++qs)).set id (ob.re (nu st.H.length cells').1)++((nu st.H.length cells').2++(rC (st.H.length+(nu st.H.length cells').2.length) d).2)⟩):AO P Γ all (o::rest) Q st:=by
 intro κ Θ a w hs;have Jp:=CY NG;obtain⟨ρ,hu⟩:=hs.wE;obtain⟨Θ1,ρ1,hs1,hu1,hm1,Uu,ZJ⟩:=eE.Ph ms hs hu T5 (fun m hm=>by
  obtain⟨e,sz,rows,hH⟩:=Jp.1 m hm;exact⟨_,e,sz,rows,hH,rfl⟩)
 have ZI:id<st.H.length:=(aH.1 hH).1;have hnr:∀k e sz rows,st.H[id]?≠some (.row k e sz rows):=fun k e sz rows e1=>by rw[hH]at e1;cases e1;cases C8
 have aC7:id∉ms:=fun hm=>by obtain⟨e',sz',dN,Lg⟩:=Jp.1 id hm;exact hnr _ _ _ _ Lg
 have aC8:id∉qs:=fun hm=>by obtain⟨e',sz',dN,Lg⟩:=Jp.2 id hm;exact hnr _ _ _ _ Lg
 have Vj:(kill st.H ms)[id]?=some ob:=by rw[ji aC7];exact hH
 have a9K:=hs1.ob id _ Vj;obtain⟨g,cs,T,hk0,hgc,T9,bb,hbb,hbz⟩:=a9K.cs C8;have hgl:g<w.heap.size:=(bL.1 hgc).1;have hq:∀m e sz rows,st.H[m]?=some (.row .uq e sz rows)->∃v cs ns,κ m=some v/\0<sz/\(∀r∈rows,r.length=sz)/\w.ownsRow 0 e sz v rows.length cs/\mR w cs rows.flatten ns/\ns.Nodup/\(∀b∈ns,ρ1 b=m+1)/\∀g,v.ownBlock=some g->Θ1 g=m+2:=by
  intro m e sz rows hH;have hnm:m∉ms:=fun hm=>by
   obtain⟨e',sz',dN,Lg⟩:=Jp.1 m hm;rw[hH]at Lg;cases Lg
  have Vj:(kill st.H ms)[m]?=some (.row .uq e sz rows):=by rw[ji hnm];exact hH
  obtain⟨v,cs,ns,r1,r2,r3,r4,r5⟩:=hu1.rows m e sz rows Vj;obtain⟨p1,p2,v2,_,_,p3,_,_,p4,_⟩:=hs1.ob m _ Vj;rw[r1]at p3;cases p3;exact⟨v,cs,ns,r1,p1,p2,r2,r3,r4,r5,p4⟩
 obtain⟨bs,ts,us,On,NH⟩:=IE (w:=w) (vs:=.agg cs::xr.map a.eval) (fun b hb=>(hu1.free b hb).1) hq hs.qR NG QT (by simp) (fun i d hd=>by
  cases i with
  |zero=>
   simp at hd;subst hd;have:=Pt.agg _ _ _ hbb;exact⟨_,bb,rfl,.v (by simpa using this),hbz⟩
  |succ i=>
   rw[eZ,bz]at hd;cases hx:xr[i]? with
   |none=>rw[hx]at hd;cases hd
   |some x=>
    rw[hx]at hd;simp only[cY,av]at hd;subst hd;obtain⟨b,r,z⟩:=hs.ev x;exact⟨a.eval x,b,by simp[hx],r,fun y hy=>Uu y (z y hy)⟩) hm1
 let Θc:Nat->Nat:=fun b=>if Θ1 b=0 then 0 else 1
 have OQ:∀b,Θc b=0↔Θ1 b=0:=fun b=>by simp only[Θc];split<;>simp_all
 have Wg:∀b∈ts,∃m∈qs,Θ1 b=m+2:=fun b hb=>(NH.top b hb).1
 have aCc:∀b∈ts,b≠g:=fun b hb e=>by
  obtain⟨m,hm,hΘ⟩:=Wg b hb;subst e;rw[T9]at hΘ;exact aC8 (by
   have:id=m:=by omega
   rw[this];exact hm)
 have T7:Sk w fun b=>b=g\/b∈ts:=by
  obtain⟨B,v1,v2⟩:=hs1.vsb;refine⟨B,v1,fun b hB=>⟨(v2 b hB).2.1,fun hb'=>?_⟩⟩;have hm:Cf Γ b:=by
   rcases hb' with rfl|hb'
   ·exact hs1.mine b (by omega)
   ·obtain⟨m,hm,hΘ⟩:=Wg b hb';exact hs1.mine b (by omega)
  rcases hm with q|q
  ·have:=(v2 b hB).1;omega
  ·exact(v2 b hB).2.2 q
 have hwr:∀b∈us,Wr w b:=by
  intro b hb;rcases NH.mem b hb with h|⟨m,hm,hρ⟩
  ·exact Rk On b h
  ·exact(hu1.free b (by omega)).2.2
 have hc:=pL.2 w Θc g cs T (xr.map a.eval) bs ts us T7 hgc On (fun b hb=>(OQ b).2 (NH.zero b hb)) (fun b hb=>hs1.own b (fun e=>hb ((OQ b).2 e))) (fun b=>by simp only[Θc];split<;>omega)
  (by simp only[Θc];rw[bH (by omega)]) (fun b hb=>by
   obtain⟨m,hm,hΘ⟩:=Wg b hb;exact⟨by simp only[Θc];rw[bH (by omega)],(NH.top b hb).2,aCc b hb⟩) NH.nd (fun b hb=>⟨fun hnt=>by
   rcases NH.mem b hb with h|⟨m,hm,hρ⟩
   ·exact absurd h hnt
   ·exact(OQ b).2 (hu1.free b (by omega)).1,hwr b hb⟩)
 refine wpList_plain hg fun K hK=>?_
 unfold Oper.wp;rw[A9 hop pL.1,Oper.upon_enter];have e0:xs.map a.eval=(.pointer (some ⟨g,0,none⟩)::xr.map a.eval).toArray:=by
  obtain⟨b0,r0,_⟩:=hs.ev x0;rw[hx0]at r0;obtain⟨g',hk',hv⟩:=r0.CX;rw[hk0]at hk';cases hk';rw[<-wG,j7,hxs];simp[hv]
 rw[e0];refine hc.mono ?_;rintro x w' ⟨v,cs',T',b2,t2,u2,b3,t3,u3,rfl,k1,k2,k3,k4,a7e,kg,aD1,kcs,kb,knd,ku,kt⟩;show K (a.put o.dst v) w';rw[hd];let N:=st.H.length
 have hs2:=hs1.forget (id::qs);have hNl:(kill st.H ms).length=N:=hO _ _;simp only[hNl]at hs2;let Θ2:Nat->Nat:=fun b=>if(id::qs).any (fun m=>Θ1 b==m+2)then N+2 else Θ1 b
 have hs2:eE Γ ⟨st.σ,kill (kill st.H ms) (id::qs)⟩ κ Θ2 a w:=hs2;have a1X:∀b,Θ1 b=0->Θ2 b=0:=fun b hb=>by
  simp only[Θ2];rw[bH,hb];intro h;obtain⟨m,_,hm⟩:=dO.1 h;simp[hb]at hm
 have S8:∀b,b=g\/b∈ts->Θ2 b=N+2:=by
  intro b hb;simp only[Θ2];rw[bP];rcases hb with rfl|hb
  ·exact dO.2 ⟨id,by simp,by simp[T9]⟩
  ·obtain⟨m,hm,hΘ⟩:=Wg b hb;exact dO.2 ⟨m,by simp[hm],by simp[hΘ]⟩
 have hu2:CB Γ (kill (kill st.H ms) (id::qs)) κ Θ2 w ρ1:=by
  refine⟨fun b hb=>?_,fun j e sz rows hj=>?_,fun j o hj=>?_⟩
  ·obtain⟨q1,q2⟩:=hu1.free b hb;exact⟨a1X b q1,q2⟩
  ·rcases uV hj with h|⟨_,h⟩
   ·cases h
   ·exact hu1.rows j e sz rows h
  ·rcases uV hj with h|⟨_,h⟩
   ·subst h;trivial
   ·exact hu1.more j o h
 obtain⟨Lb,a1,a2,a3,a4,a5⟩:=kcs.inst N;obtain⟨Ld,c1,c2,c3,c4,c5⟩:=aD1.inst (N+(nu N cells').2.length);have aBj:Lb.length=(nu N cells').2.length:=by rw[<-a1];simp
 let L:=Lb++Ld
 have hbl:u3++u2=L.flatMap Fs.bl:=by simp[L,a3,c3]
 have aCb:t3++t2=L.flatMap Fs.ts:=by simp[L,a4,c4]
 rw[hbl]at knd ku kt;rw[aCb]at kt kb;have a6k:∀x∈L,x.ok w':=fun x hx=>by
  rcases ar.1 hx with hx|hx
  ·exact a2 x hx
  ·exact c2 x hx
 let κ':Nat->Option Value:=fun j=>if j<N then κ j else(L[j-N]?).map Fs.v
 let Θ':Nat->Nat:=fun b=>if b=g then id+2 else match SU L b with|some i=>N+i+2|none=>if Θ2 b=N+2 then 0 else Θ2 b
 let ρ':Nat->Nat:=fun b=>match CR L b with|some i=>N+i+1|none=>ρ1 b
 have hgt:g∉L.flatMap Fs.bl:=fun h=>(ku g h).2.1 rfl
 have a9Z:Θ' g=id+2:=by simp[Θ']
 have a4I:∀(i:Nat) x b,L[i]?=some x->x.v.ownBlock=some b->Θ' b=N+i+2:=by
  intro i x b hx hb;have hb':b∈L.flatMap Fs.ts:=cC.2 ⟨x,aC hx,by simp[Fs.ts,hb]⟩;have hne:b≠g:=fun e=>hgt (e▸Q3 hb')
  simp only[Θ',Va knd hx hb];rw[bH hne]
 have QW:∀b,b≠g->b∉L.flatMap Fs.ts->Θ' b=if Θ2 b=N+2 then 0 else Θ2 b:=by
  intro b h1 h2;simp only[Θ',Lw h2];rw[bH h1]
 have hzero:∀b,w.heap.size<=b->Θ2 b=0:=fun b hge=>by
  cases h:Θ2 b with
  |zero=>rfl
  |succ m=>exact absurd (hs2.own b (by omega)) (by omega)
 have a9S:∀b∈b3++b2,Θ' b=0:=by
  intro b hb;obtain⟨p1,p2,p3⟩:=kb b hb;rw[QW b p2 p3];by_cases hlt:b<w.heap.size
  ·rcases p1 hlt with h|h
   ·rw[a1X b ((OQ b).1 h)];simp
   ·rw[bP (S8 b (.inr h))]
  ·rw[hzero b (by omega)];simp
 have a9J:∀(i:Nat) x b,L[i]?=some x->b∈x.ns->Θ' b=0:=by
  intro i x b hx hb;have hmem:=DE hx hb;rw[QW b (ku b hmem).2.1 (Qo knd hx hb)];rcases(ku b hmem).1 with h|h
  ·rw[hzero b h];simp
  ·rcases NH.mem b h with h|⟨m,hm,hρ⟩
   ·rw[bP (S8 b (.inr h))]
   ·rw[a1X b (hu1.free b (by omega)).1];simp
 have hn:∀(j:Nat) v,κ j=some v->κ' j=some v:=by
  intro j v hj;have:j<N:=jO fun h=>by rw[hs.rD j (by omega)]at hj;cases hj
  simp only[κ'];rw[bP this];exact hj
 have Bx:Names κ' N L:=by
  intro i x hx;simp only[κ'];rw[bH (by omega),dY,hx];rfl
 have a9H:∀b∈L.flatMap Fs.ts,Cf Γ b:=by
  intro b hb;rcases(kt b hb).2 with h|h
  ·exact .inl (cQ hs.base h)
  ·obtain⟨m,hm,hΘ⟩:=Wg b h;exact hs1.mine b (by omega)
 have k:jP w w' Θ2 Θ' (N+2):=by
  refine⟨by omega,k1,k2,k3,k4,fun b hlt hne=>a7e b hlt (fun e=>hne (S8 b (.inl e))) (fun e=>hne (S8 b (.inr e))),fun b hlt hne=>?_,fun b hb=>?_⟩
  ·rw[QW b (fun e=>hne (S8 b (.inl e))) (fun e=>?_),bH hne];rcases(kt b e).2 with h|h
   ·omega
   ·exact hne (S8 b (.inr h))
  ·by_cases e:b=g
   ·subst e;omega
   ·by_cases ht':b∈L.flatMap Fs.ts
    ·obtain⟨x,T,hx⟩:=(ku b (Q3 ht')).2.2;exact(bL.1 hx).1
    ·rw[QW b e ht']at hb;split at hb
     ·exact absurd rfl hb
     ·exact e9 (hs2.own b hb) k4
 have hm:∀b,2<=Θ' b->Cf Γ b:=by
  intro b hb;by_cases e:b=g
  ·subst e;exact hs1.mine b (by omega)
  ·by_cases ht':b∈L.flatMap Fs.ts
   ·exact a9H b ht'
   ·rw[QW b e ht']at hb;split at hb
    ·omega
    ·exact hs2.mine b hb
 have wV:=hs2.qJ k hn hu2;have WR:((kill st.H (ms++qs)).set id (ob.re (nu N cells').1)).length=N:=by simp[hO,N]
 have a9w:∀(a_ bs:aa) (H:bU),kill H (a_++bs)=kill (kill H a_) bs:=by
  intro a_
  induction a_ with
  |nil=>intro bs H;rfl
  |cons x a_ ih=>intro bs H;simp only[dP,kill,ih]
 have aCJ:(nu N cells').2++(rC (N+(nu N cells').2.length) d).2=L.map Fs.ob:=by simp[L,a1,c1]
 have key:∀(j:Nat) y,((kill st.H (ms++qs)).set id (ob.re (nu N cells').1)++L.map Fs.ob)[j]?=some y->(∃i x,j=N+i/\L[i]?=some x/\y=x.ob)\/(j=id/\y=ob.re (nu N cells').1)\/(j≠id/\j<N/\(y=.gone\/(kill (kill st.H ms) (id::qs))[j]?=some y)):=by
  intro j y hj;by_cases hlt:j<N
  ·rw[b9 (by rw[WR];exact hlt)]at hj;rcases BD j y hj with⟨rfl,rfl⟩|⟨h1,h2⟩
   ·exact .inr (.inl ⟨rfl,rfl⟩)
   ·refine .inr (.inr ⟨h1,hlt,?_⟩);rcases uV h2 with h|⟨h3,h4⟩
    ·exact .inl h
    ·refine .inr ?_;simp only[ar,KI]at h3;rw[ji (by simp[h1,h3.2]),ji h3.1];exact h4
  ·rw[bE (by omega),WR,bz]at hj;cases hx:L[j-N]? with
   |none=>simp[hx]at hj
   |some x=>simp[hx]at hj;exact .inl ⟨j-N,x,by omega,hx,hj.symm⟩
 have hs':eE Γ ⟨st.σ,(kill st.H (ms++qs)).set id (ob.re (nu N cells').1)++L.map Fs.ob⟩ κ' Θ' a w':=by
  have Ur:∀(j:Nat) y,(kill (kill st.H ms) (id::qs))[j]?=some y->y≠ .gone->∀b,ρ1 b=j+1->ρ' b=j+1:=by
   intro j y hy hyg b aCl;have hjk:j∉id::qs:=by
    rcases uV hy with h|h
    ·exact absurd h hyg
    ·exact h.1
   have hnb:CR L b=none:=by
    cases hi:CR L b with
    |none=>rfl
    |some i=>
     exfalso;obtain⟨x,hx,Hj⟩:=E6 hi;obtain⟨z0,_,aEB,T'',aCf⟩:=hu1.free b (by omega);rcases(ku b (DE hx Hj)).1 with h|h
     ·have:=(bL.1 aCf).1;omega
     ·rcases NH.mem b h with h|⟨m,hm',hρ⟩
      ·obtain⟨m,hm',hΘ⟩:=Wg b h;omega
      ·exact hjk (by
        have:j=m:=by omega
        rw[this];simp[hm'])
   simp only[ρ',hnb];exact aCl
  refine hs2.step k hm hn ?_ ?_ ?_ ⟨ρ',?_,?_,?_⟩
  ·intro i hi;simp only[aX,WR,aZ]at hi;simp only[κ'];rw[bH (by omega),ck (by omega)];rfl
  ·intro i u BA;simp only[κ']at BA;split at BA
   ·exact hs.qR i u BA
   ·cases hx:L[i-N]? with
    |none=>simp[hx]at BA
    |some x=>simp[hx]at BA;subst BA;exact(a6k x (aC hx)).2.2.2.2
  ·intro j y hj;rcases key j y hj with⟨i,x,rfl,hx,rfl⟩|⟨rfl,rfl⟩|⟨hji,hjl,hy|hy⟩
   ·obtain⟨q1,q2,q3,q4,_⟩:=a6k x (aC hx);exact .inr (.inr ⟨q1,q2,x.v,x.cs,x.ns,Bx i x hx,q3,q4,fun g' hg'=>a4I i x g' hx hg',fun b hb'=>a9J i x b hx hb'⟩)
   ·refine .inr (.inr (yP.aAF C8 a9K (hn _) ⟨g,cs',T',hn _ _ hk0,kg,a9Z,b3,a5 κ' Bx.left,fun b hb=>a9S b (by simp[hb])⟩))
   ·exact .inl hy
   ·exact .inr (.inl ⟨by omega,hy⟩)
  ·intro b hb;cases WU:CR L b with
   |some i=>
    obtain⟨x,hx,Hj⟩:=E6 WU;have hmem:=DE hx Hj;refine⟨a9J i x b hx Hj,?_,(ku b hmem).2.2⟩;rcases(ku b hmem).1 with h|h
    ·exact .inl (.inl (cQ hs.base h))
    ·rcases NH.mem b h with h|⟨m,hm',hρ⟩
     ·obtain⟨m,hm',hΘ⟩:=Wg b h;exact .inl (hs1.mine b (by omega))
     ·exact(hu1.free b (by omega)).2.1
   |none=>
    simp only[ρ',WU]at hb;exact wV.1 b hb
  ·intro j e sz rows hj;rcases key j _ hj with⟨i,x,rfl,hx,hy⟩|⟨rfl,hy⟩|⟨hji,hjl,hy|hy⟩
   ·simp only[Fs.ob,Ob.row.injEq,vX]at hy;obtain⟨rfl,rfl,rfl⟩:=hy;obtain⟨q1,q2,q3,q4,_⟩:=a6k x (aC hx);exact⟨x.v,x.cs,x.ns,Bx i x hx,q3,q4,VD knd hx,fun b hb'=>by simp only[ρ',Q0 knd hx hb']⟩
   ·cases ob<;>simp[Ob.re]at hy
   ·cases hy
   ·obtain⟨v',c',bs',r1,r2,r3,r4,r5⟩:=wV.2.1 j e sz rows (by omega) hy;exact⟨v',c',bs',r1,r2,r3,r4,fun b hb'=>Ur j _ hy (by simp) b (r5 b hb')⟩
  ·intro j y hj;rcases key j _ hj with⟨i,x,rfl,hx,hy⟩|⟨rfl,hy⟩|⟨hji,hjl,hy|hy⟩
   ·subst hy;exact P9.AV rfl
   ·subst hy;cases ob<;>exact P9.AV rfl
   ·subst hy;trivial
   ·by_cases hg:y=.gone
    ·subst hg;trivial
    ·exact(wV.2.2 j y (by omega) hy).re (Ur j y hy hg)
 rw[aCJ]at h;refine hK _ _ (h _ _ _ _ (hs'.set (t:=t) ht (c5 κ' ?_) fun b hb=>a9S b (by simp[hb])));rw[<-aBj];exact Bx.right
def a5I(P:Program)(f:FuncId)(ds cells:aR):Prop:=
 (∃fn,P.funcs[f]?=some fn/\fn.body.isSome=true/\(fn.name== "runtime.NumGoroutine")=false)/\
 ∀(w:World) (Θ:Nat->Nat) (args:br) (bs:aa),Sk w (fun _=>False)->Xj w args ds bs->(∀b∈bs,Θ b=0)->(∀b,Θ b≠0->b<w.heap.size)->(∀b,Θ b<=1)->
  Calls P f args.toArray w (fun e w'=>∃g cs T bs',e=.returned (.pointer (some ⟨g,0,none⟩))/\Below w.heap.size w w'/\w.heap.size<=g/\w'.heap[g]?=some (.cells cs T (0,0))/\mR w' cs.toList cells bs'/\
   ∀b∈bs',(b<w.heap.size->Θ b=0)/\b≠g)
def aBS(P:Program)(fn:Func)(cells:aR)(e:Exit)(st:St):Prop:=
 (e=.ret\/e=.normal)/\∃j,Ex P st fn.results.toList=some [.ptr j 0]/\st.H[j]?=some (.box cells)/\cells.all D.U5=true
theorem a0X{o:Oper}{f t:Nat}{xs:Array Operand}{ts:Array TypeId}{ds cells:aR}(hop:o.op=.call {callee:=.value (.func f),args:=xs,argTypes:=ts})(hd:o.dst=some t)(hg:o.guard=none)
 (ht:t<Γ.nt) (hds:Lx st.H (xs.toList.map st.ev)=some (ds,[])) (pL:a5I P f ds cells)
 (h:AO P Γ all rest Q ⟨(t,.ptr st.H.length 0)::st.σ,st.H++[.box cells]⟩):AO P Γ all (o::rest) Q st:=by
 intro κ Θ a w hs;obtain⟨bs,hargs,hz⟩:=Po hs hds;have AE:∀b∈bs,Θ b=0:=fun b hb=>(hz b hb).elim id (fun⟨m,h1,_⟩=>by cases h1)
 let Θc:Nat->Nat:=fun b=>if Θ b=0 then 0 else 1
 have OQ:∀b,Θc b=0↔Θ b=0:=fun b=>by simp only[Θc];split<;>simp_all
 have hc:=pL.2 w Θc _ bs hs.vok hargs (fun b hb=>(OQ b).2 (AE b hb)) (fun b hb=>hs.own b (fun e=>hb ((OQ b).2 e))) (fun b=>by simp only[Θc];split<;>omega);refine wpList_plain hg fun K hK=>?_
 unfold Oper.wp;rw[A9 hop pL.1,Oper.upon_enter];have e:xs.map a.eval=(xs.toList.map a.eval).toArray:=by rw[<-j7,kU]
 rw[e];refine hc.mono ?_;rintro e w' ⟨g,cs,T,bs',rfl,hb,hge,hg',hrd,hbb⟩;show K (a.put o.dst (.pointer (some ⟨g,0,none⟩))) w';rw[hd];let Θ':Nat->Nat:=fun b=>if b=g then st.H.length+2 else Θ b
 have k:jP w w' Θ Θ' (st.H.length+2):=by
  refine⟨by omega,hb.os,hb.tape,hb.output,hb.size,fun b hlt _=>hb.block b hlt,fun b hlt _=>?_,fun b hb'=>?_⟩
  ·simp only[Θ'];rw[bH (by omega)]
  ·simp only[Θ']at hb';split at hb'
   ·rename_i e;subst e;exact(bL.1 hg').1
   ·exact e9 (hs.own b hb') hb.size
 have hbz:∀b∈bs',Θ' b=0:=by
  intro b hb';obtain⟨h1,h2⟩:=hbb b hb';simp only[Θ'];rw[bH h2];by_cases hlt:b<w.heap.size
  ·exact(OQ b).1 (h1 hlt)
  ·cases h:Θ b with
   |zero=>rfl
   |succ m=>exact absurd (hs.own b (by omega)) hlt
 have hs':=hs.push (o:=.box cells) (v:=.pointer (some ⟨g,0,none⟩)) rfl k (hs.BI (fun b hb'=>by
  simp only[Θ']at hb';split at hb'
  ·rename_i e;subst e;exact .inr hge
  ·exact .inl hb')) ⟨g,cs,T,lg _ _ _,hg',by simp[Θ'],bs',fF.Ew hrd,hbz⟩ rfl
 refine hK _ _ (h _ _ _ _ (hs'.set (t:=t) (d:=.ptr st.H.length 0) (bs:=[]) ht ?_ (by simp)));exact(BH.ptr st.H.length 0 g (lg _ _ _)).Tu
theorem a3f{o:Oper}{T t id e e' sz h:Nat}{kk:IntKind}{x hi:Operand}{rows:List aR}(hop:o.op=.slice T x none (some hi) none)(hd:o.dst=some t)(hg:o.guard=none)(ht:t<Γ.nt)
 (hT:IJ P T=some (e',sz)) (hx:st.ev x=.acc id) (hH:st.H[id]?=some (.row .uq e sz rows)) (hhi:st.ev hi=.int kk (h:Int)) (hle:h<=rows.length)
 (hn:AO P Γ all rest Q ⟨(t,.acc st.H.length)::st.σ,kill st.H [id]++[.row .uq e sz (rows.take h)]⟩):AO P Γ all (o::rest) Q st:=by
 intro κ Θ a w hs;obtain⟨hsz,hrl,v,cs0,bs0,hk,a5Y,aEn,Ho,AE⟩:=hs.ob id _ hH;obtain⟨ρ,hu⟩:=hs.wE;obtain⟨v2,cs,bs,hk2,hown,hrd,hnd,hρ⟩:=hu.rows id e sz rows hH;rw[hk]at hk2;cases hk2;obtain⟨bx,rx,_⟩:=hs.ev x;rw[hx]at rx;obtain⟨hkx,_⟩:=rx.xR;have YE:a.eval x=v:=by rw[hk]at hkx;cases hkx;rfl
 let v':Value:=match v with| .slice q _ cap=>.slice q h cap|u=>u
 have hc:Cw rows.length ((none:Option Operand).map st.ev) ((some hi).map st.ev)=some (0,h):=by
  simp[Cw,hhi,hle]
 have hrun:∃q cap,v=.slice q rows.length cap/\v'=.slice q h cap/\(execOp a.eval o).run P w=.ok (.value v') w:=by
  obtain⟨BA,ON,NI⟩:=pg hT;have main:∀(q:Option Addr) (cap:Nat),(∀b off sp,q=some ⟨b,off,sp⟩->off=0/\sp=none)->v=.slice q rows.length cap->rows.length<=cap->(execOp a.eval o).run P w=.ok (.value (.slice q h cap)) w:=by
   intro q cap hq0 hq hcap;obtain⟨hr,hl,hh⟩:=Td (P:=P) (isSlice:=true) (cap:=cap) hs hcap hc;have aEO:(if cap=0 then q else q.map (·.add (0*sz)))=q:=by
    split
    ·rfl
    ·cases q with
     |none=>rfl
     |some ad=>simp[Addr.add]
   simp only[AK,cY]at hr;simp only[execOp,hop,YE,hq];simp[Instr.sliceAt,Instr.slice,run_underlying BA,hr,xP (P:=P) ON w];intro hc0;cases q with
   |none=>rfl
   |some ad=>simp[Addr.add]
  rcases hown.2 with⟨rfl,h0⟩|⟨g,cap,cur,rfl,_,T4,hnc,hcm,hcs,htk⟩
  ·exact⟨none,0,by rw[h0],rfl,main none 0 (by simp) (by rw[h0]) (by omega)⟩
  ·exact⟨some ⟨g,0,none⟩,cap,rfl,rfl,main _ _ (by simp) rfl hnc⟩
 obtain⟨q,cap,hvq,a4H,hrun⟩:=hrun;have C8:v'.ownBlock=v.ownBlock:=by rw[a4H,hvq];cases q<;>rfl
 have hone:v'.oneCell'=true:=by
  have:=hs.qR id v hk;rw[hvq]at this;rw[a4H];exact this
 have hsplit:∃cs' bs',w.ownsRow 0 e sz v' (rows.take h).length cs'/\mR w cs' (rows.take h).flatten bs'/\bs'.Nodup/\∀b∈bs',b∈bs:=by
  have e1:rows.flatten=(rows.take h).flatten++(rows.drop h).flatten:=by rw[<-lz,cA]
  have QU:=hrd;rw[e1]at QU;obtain⟨c1,c2,b1,b2,rfl,rfl,k1,k2⟩:=QU.split;have htl:(rows.take h).length=h:=by rw[cL];omega
  have hc1:c1.length=h*sz:=by rw[k1.length,pK (fun r hr=>hrl r (cF hr)),htl]
  refine⟨c1,b1,?_,k1,(bN.1 hnd).1,fun b hb=>by simp[hb]⟩;rw[htl];refine⟨hc1,?_⟩;rcases hown.2 with⟨hv0,h0⟩|⟨g,cap',cur,hvs,hbg,T4,hnc,hcm,hcs,htk⟩
  ·left
   have:h=0:=by omega
   subst this;have e3:=hv0.symm.trans hvq;simp only[Value.slice.injEq]at e3;exact⟨by rw[a4H,<-e3.1,<-e3.2.2],rfl⟩
  ·right
   have e3:=hvs.symm.trans hvq;simp only[Value.slice.injEq]at e3;refine⟨g,cap',cur,by rw[a4H,<-e3.1,<-e3.2.2],hbg,T4,by omega,hcm,hcs,?_⟩;have h3:(cur.toList.take (rows.length*sz)).take (h*sz)=(c1++c2).take (h*sz):=by rw[htk]
   rw[vU,eo (dR _ hle)]at h3;rw[h3];exact j0 hc1
 obtain⟨cs',bs',p1,p2,p3,p4⟩:=hsplit;refine wpList_plain hg fun K hK=>?_
 unfold Oper.wp;rw[hrun,Oper.upon_value,hd];let n:=st.H.length
 have ZI:id<n:=(aH.1 hH).1;let Θ':Nat->Nat:=fun b=>if some b=v'.ownBlock then n+2 else Θ b
 let ρ':Nat->Nat:=fun b=>if ρ b=id+1 then n+1 else ρ b
 have hvt:∀g,v'.ownBlock=some g->Θ g=id+2:=fun g ZH=>Ho g (C8▸ZH)
 have k:jP w w Θ Θ' (id+2):=by
  refine⟨by omega,rfl,rfl,rfl,bR _,fun _ _ _=>rfl,fun b hb hne=>?_,fun b hb=>?_⟩
  ·simp only[Θ'];rw[bH fun e=>hne (hvt b e.symm)]
  ·simp only[Θ']at hb;split at hb
   ·rename_i e;exact hs.own b (by rw[hvt b e.symm];omega)
   ·exact hs.own b hb
 have hm:∀b,2<=Θ' b->Cf Γ b:=by
  intro b hb;simp only[Θ']at hb;split at hb
  ·rename_i e;exact hs.mine b (by rw[hvt b e.symm];omega)
  ·exact hs.mine b hb
 have hnn:=zV (hs.rD n (bR _)) (some v');have wV:=hs.qJ k hnn hu;have RG:∀b∈bs',Θ' b=0:=by
  intro b hb;have h1:=(hu.free b (by rw[hρ b (p4 b hb)];omega)).1;simp only[Θ'];rw[bH fun e=>by have:=hvt b e.symm;omega];exact h1
 have key:∀(j:Nat) y,(kill st.H [id]++[.row .uq e sz (rows.take h)])[j]?=some y->(j=n/\y=.row .uq e sz (rows.take h))\/(j≠n/\(y=.gone\/(j∉[id]/\st.H[j]?=some y))):=by
  intro j y hj;rcases Dn j y hj with⟨h1,h2⟩|⟨h1,h2⟩
  ·rw[hO]at h1;exact .inl ⟨h1,h2⟩
  ·rw[hO]at h1;exact .inr ⟨h1,uV h2⟩
 have hs':eE Γ ⟨st.σ,kill st.H [id]++[.row .uq e sz (rows.take h)]⟩ (AH κ n (some v')) Θ' a w:=by
  refine hs.step k hm hnn ?_ ?_ ?_ ⟨ρ',fun b hb=>?_,fun j e2 XI fT hj=>?_,fun j y hj=>?_⟩
  ·intro i hi;simp only[aX,aK,bK,hO]at hi;unfold AH;rw[bH (by omega)];exact hs.rD i (by omega)
  ·intro i y hy;unfold AH at hy;split at hy
   ·cases hy;exact hone
   ·exact hs.qR i y hy
  ·intro j y hj;rcases key j y hj with⟨rfl,rfl⟩|⟨_,hy|⟨hjk,hy⟩⟩
   ·exact .inr (.inr ⟨hsz,fun r hr=>hrl r (cF hr),v',cs',bs',lg _ _ _,p1,p2,fun g ZH=>by simp only[Θ'];rw[bP ZH.symm],RG⟩)
   ·exact .inl hy
   ·exact .inr (.inl ⟨fun e=>hjk (by simp;omega),hy⟩)
  ·refine wV.1 b fun h0=>hb ?_
   simp only[ρ'];rw[bH (by omega)];exact h0
  ·rcases key j _ hj with⟨rfl,hy⟩|⟨_,hy|⟨hjk,hy⟩⟩
   ·simp only[Ob.row.injEq,vX]at hy;obtain⟨rfl,rfl,rfl⟩:=hy;exact⟨v',cs',bs',lg _ _ _,p1,p2,p3,fun b hb=>by simp only[ρ'];rw[bP (hρ b (p4 b hb))]⟩
   ·cases hy
   ·obtain⟨v3,c3,b3,q1,q2,q3,q4,q5⟩:=wV.2.1 j e2 XI fT (fun e=>hjk (by simp;omega)) hy;refine⟨v3,c3,b3,q1,q2,q3,q4,fun b hb=>?_⟩;have hne:j≠id:=fun e=>hjk (by simp[e])
    simp only[ρ'];rw[bH (by rw[q5 b hb];omega)];exact q5 b hb
  ·rcases key j _ hj with⟨rfl,hy⟩|⟨_,hy|⟨hjk,hy⟩⟩
   ·subst hy;exact P9.AV rfl
   ·subst hy;trivial
   ·refine(wV.2.2 j y (fun e=>hjk (by simp;omega)) hy).re fun b hb=>?_
    have hne:j≠id:=fun e=>hjk (by simp[e])
    simp only[ρ'];rw[bH (by omega)];exact hb
 refine hK _ _ (hn _ _ _ _ (hs'.set (t:=t) (d:=.acc n) (bs:=[]) ht ?_ (by simp)));exact(BH.acc n _ (lg _ _ _)).Tu
end
end Go.Cx
namespace Go.Cx
open Go.RowKit
section
variable{P:Program}{Γ:vP}{Q:Exit->St->Prop}{st:St}{κ κ':Nat->Option Value}{Θ Θ':Nat->Nat}{a:Act}{w w':World}{all:Array Oper}{rest:List Oper}
theorem eE.a7l(hs:eE Γ st κ Θ a w):
 eE Γ ⟨st.σ,st.H++[.mp []]⟩ (AH κ st.H.length (some (.map (some w.heap.size)))) (fun b=>if b=w.heap.size then st.H.length+2 else Θ b) a (w.alloc (.map #[] 0)):=by
 have k:=jP.alloc hs (.map #[] 0) (tag:=st.H.length+2) (by omega);refine hs.push rfl k (hs.BI (fun b hb=>by by_cases e:b=w.heap.size<;>simp_all)) ?_ rfl;exact⟨w.heap.size,#[],0,by simp[AH],heap_alloc_new w _,by simp,rfl,by simp⟩
theorem Vq{o:Oper}{T t:Nat}(hop:o.op=.makeMap T none)(hd:o.dst=some t)(hg:o.guard=none)(ht:t<Γ.nt)
 (h:AO P Γ all rest Q ⟨(t,.acc st.H.length)::st.σ,st.H++[.mp []]⟩):AO P Γ all (o::rest) Q st:=by
 intro κ Θ a w hs;have hs':=hs.a7l;refine wpList_plain hg fun K hK=>?_
 unfold Oper.wp;have hrun:(execOp a.eval o).run P w=.ok (.value (.map (some w.heap.size))) (w.alloc (.map #[] 0)):=by
  simp[execOp,hop,Instr.makeMap,newObj];rfl
 rw[hrun,Oper.upon_value,hd];refine hK _ _ (h _ _ _ _ (hs'.set (t:=t) (d:=.acc st.H.length) (bs:=[]) ht ?_ (by simp)));exact(BH.acc st.H.length _ (lg _ _ _)).Tu
theorem Ac.push{es:List MapEntry}{kv:List (D×D)}{k v:D}{u x:Value}(h:Ac w es kv)(hk:Rd w u k [])(hv:Rd w x v [])(c:Nat):Ac w (es++[{key:=u,val:=x,born:=c}]) (kv++[(k,v)]):=by
 refine⟨by simp[h.1],fun j e p h1 h2=>?_⟩;by_cases hj:j<es.length
 ·rw[b9 hj]at h1;rw[b9 (by rw[<-h.1];exact hj)]at h2;exact h.2 j e p h1 h2
 ·rw[bE (by omega)]at h1;rw[bE (by rw[<-h.1];omega),<-h.1]at h2;have e0:j-es.length=0:=by
   have:=(aH.1 h1).1;simp at this;omega
  rw[e0]at h1 h2;simp at h1 h2;subst h1;subst h2;exact⟨hk,hv⟩
theorem Ac.put{es:List MapEntry}{kv:List (D×D)}{k v:D}{u x:Value}(h:Ac w es kv)(hk:Rd w u k [])(hv:Rd w x v [])(i:Nat){es':List MapEntry}(hl:es'.length=es.length)
 (he:∀(j:Nat) e,es'[j]?=some e->(j=i/\e.key=u/\e.val=x)\/(j≠i/\es[j]?=some e)):Ac w es' (kv.set i (k,v)):=by
 refine⟨by simp[hl,h.1],fun j e p h1 h2=>?_⟩;rcases he j e h1 with⟨rfl,h3,h4⟩|⟨hne,h3⟩
 ·have hlt:j<kv.length:=by
   have:=(aH.1 h2).1;simpa using this
  rw[dQ hlt]at h2;cases h2;rw[h3,h4];exact⟨hk,hv⟩
 ·rw[cE (tP hne)]at h2;exact h.2 j e p h3 h2
theorem a7g{kd:TypeDesc}{k v:D}{u:Value}(RW:Li kd k=true)(hu:Rd w u k []):∀ {es:List MapEntry} {kv kv':List (D×D)} (i:Nat),Ac w es kv->NM k v kv=some kv'->
 (Instr.findNow kd u es i=some none/\kv'=kv++[(k,v)])\/∃j x e,Instr.findNow kd u es i=some (some (i+j,x))/\es[j]?=some e/\e.key=u/\kv'=kv.set j (k,v):=by
 intro es
 induction es with
 |nil=>
  intro kv kv' i hr h;cases kv with
  |nil=>cases h;exact .inl ⟨rfl,rfl⟩
  |cons p kv=>exact absurd hr.1 (by simp)
 |cons e es ih=>
  intro kv kv' i hr h;cases kv with
  |nil=>exact absurd hr.1 (by simp)
  |cons p kv=>
   obtain⟨r1,r2,r3⟩:=hr.cons;simp only[NM]at h;split at h
   ·rename_i hq;cases h;have:=Pg RW hu r1 hq;exact .inr ⟨0,e.val,e,by simp[Instr.findNow,this.1],rfl,this.2 rfl,rfl⟩
   ·rename_i hq;have RX:=(Pg RW hu r1 hq).1;cases hk:NM k v kv with
    |none=>rw[hk]at h;cases h
    |some kv1=>
     rw[hk]at h;cases h;rcases ih (i+1) r3 hk with⟨h1,h2⟩|⟨j,x,e',h1,h2,h3,h4⟩
     ·exact .inl ⟨by simpa[Instr.findNow,RX]using h1,by rw[h2];rfl⟩
     ·exact .inr ⟨j+1,x,e',by simp only[Instr.findNow,RX];rw[h1];congr 3;omega,by simpa using h2,h3,by rw[h4];rfl⟩
   ·cases h
theorem Tk{kd:TypeDesc}{u:Value}(h:MapKept.IsKey kd u)(n:Nat):Instr.sameBits n u u=true:=by
 cases kd<;>cases u<;>simp[MapKept.IsKey]at h<;>simp[Instr.sameBits]
 all_goals first
  |exact(MapKept.bytes_beq _ _).2 rfl
  |rfl
def D.scalar:D->Bool
 | .str _=>true
 | .int _ _=>true
 | .bool _=>true
 |_=>false
theorem VN{v:Value}{d:D}{bs:aa}(hd:d.scalar=true)(hu:tQ w κ v d bs):Rd w v d []:=by
 cases d<;>simp[D.scalar]at hd
 all_goals cases hu with|v h=>cases h with|cell h=>cases h with|pure h=>cases h<;>(constructor<;>assumption)
theorem Se{o:Oper}{T id:Nat}{x i y:Operand}{kd:TypeDesc}{dz:D}{kv kv':List (D×D)}(hop:o.op=.mapUpdate T x i y)(hd:o.dst=none)(hg:o.guard=none)
 (hT:a01 P T=some (kd,dz)) (hx:st.ev x=.acc id) (hH:st.H[id]?=some (.mp kv)) (RW:Li kd (st.ev i)=true) (hsc:(st.ev y).scalar=true) (hput:NM (st.ev i) (st.ev y) kv=some kv')
 (h:AO P Γ all rest Q ⟨st.σ,st.H.set id (.mp kv')⟩):AO P Γ all (o::rest) Q st:=by
 intro κ Θ a w hs;obtain⟨g,es,c,q1,q2,q3,q4⟩:=hs.ob id _ hH;obtain⟨bs,r,_⟩:=hs.ev x;rw[hx]at r;obtain⟨hk,_⟩:=r.xR;rw[q1]at hk;have hxv:a.eval x=.map (some g):=(qV hk).symm;obtain⟨bi,ri,_⟩:=hs.ev i;obtain⟨by',ry,_⟩:=hs.ev y;have hu:=SC RW ri;have hv:=VN hsc ry;obtain⟨kt,et,z,t1,t2,t3,t4⟩:=R9 hT;have hik:=Ux RW hu;have hck:=MapKept.run_checkKey (P:=P) (w:=w) t2 hik false 9999;have aC5:g<w.heap.size:=(bL.1 q2).1;have ZI:id<st.H.length:=(aH.1 hH).1;have hrun:∃es' c',(execOp a.eval o).run P w=.ok .skip {w with heap:=w.heap.setIfInBounds g (.map es' c')}/\Ac w es'.toList kv':=by
  rcases a7g RW hu 0 q4 hput with⟨hn,rfl⟩|⟨j,x',e,hn,he,hek,rfl⟩
  ·have hfk:=MapKept.run_findKey (P:=P) (w:=w) t2 hn;refine⟨es.push {key:=a.eval i,val:=a.eval y,born:=c},c+1,?_,?_⟩
   ·simp[execOp,hop,hxv,Instr.mapUpdate,run_underlying t1,MapKept.run_getObj_map q2,hck,hfk,MapKept.run_setObj_map _ q2]
   ·rw[Array.toList_push];exact q4.push hu hv c
  ·rw[cm]at hn;have hfk:=MapKept.run_findKey (P:=P) (w:=w) t2 hn;have hej:es[j]?=some e:=by simpa using he
   have hst:(Instr.keyThatStays (((es[j]?).map (·.key)).getD (a.eval i)) (a.eval i)).run P w=.ok (a.eval i) w:=by
    rw[hej];simp[Instr.keyThatStays,hek,Tk hik]
   refine⟨es.modify j fun e=> {e with key:=a.eval i,val:=a.eval y},c,?_,?_⟩
   ·simp[execOp,hop,hxv,Instr.mapUpdate,run_underlying t1,MapKept.run_getObj_map q2,hck,hfk,hst,MapKept.run_setObj_map _ q2]
   ·refine q4.put hu hv j (by simp) fun m e' hm=>?_
    rw[uy,yf]at hm;by_cases hmj:j=m
    ·subst hmj;rw[bP rfl,hej]at hm;cases hm;exact .inl ⟨rfl,rfl,rfl⟩
    ·rw[bH hmj]at hm;exact .inr ⟨tP hmj,by simpa using hm⟩
 obtain⟨es',c',hr,aCR⟩:=hrun;have a71:∀b,b≠g->(w.heap.setIfInBounds g (.map es' c'))[b]?=w.heap[b]?:=fun b hb=>by simp[tP hb]
 have k:jP w {w with heap:=w.heap.setIfInBounds g (.map es' c')} Θ Θ (id+2):=by
  refine⟨by omega,rfl,rfl,rfl,by simp,fun b hb hne=>a71 b fun e=>hne (e▸q3),fun _ _ _=>rfl,fun b hb=>?_⟩;simpa using hs.own b hb
 have hs':eE Γ ⟨st.σ,st.H.set id (.mp kv')⟩ κ Θ a {w with heap:=w.heap.setIfInBounds g (.map es' c')}:=by
  obtain⟨ρ,BA⟩:=hs.wE;have wV:=hs.qJ k (fun _ _ h=>h) BA;refine hs.step k hs.mine (fun _ _ h=>h) (fun i hi=>hs.rD i (by simpa using hi)) hs.qR ?_ ⟨ρ,wV.1,fun j e sz rows hj=>?_,fun j y hj=>?_⟩
  ·intro j y' hj;by_cases e:j=id
   ·subst e;rw[dQ ZI]at hj;cases hj;exact .inr (.inr ⟨g,es',c',q1,by simp[aC5],q3,aCR.stay⟩)
   ·rw[cE (tP e)]at hj;exact .inr (.inl ⟨by omega,hj⟩)
  ·by_cases e':j=id
   ·subst e';rw[dQ ZI]at hj;cases hj
   ·rw[cE (tP e')]at hj;exact wV.2.1 j e sz rows (by omega) hj
  ·by_cases e':j=id
   ·subst e';rw[dQ ZI]at hj;cases hj;trivial
   ·rw[cE (tP e')]at hj;exact wV.2.2 j y (by omega) hj
 refine wpList_plain hg fun K hK=>?_
 unfold Oper.wp;rw[hr,Oper.upon_skip,hd];exact hK _ _ (h _ _ _ _ hs')
end
end Go.Cx
namespace Go.Cx
open Go.RowKit
def U9(P:Program)(f:FuncId)(e:TypeId)(sz:Nat)(rows dN:List aR):Prop:=
 (∃fn,P.funcs[f]?=some fn/\fn.body.isSome=true/\(fn.name== "runtime.NumGoroutine")=false)/\
 ∀(w:World) (v:Value) (cs:br),0<sz->(∀r∈rows,r.length=sz)->w.ownsRow 0 e sz v rows.length cs->mR w cs rows.flatten []->
  Calls P f #[v] w (fun x w'=>x=.returned (.tuple #[])/\w'.os=w.os/\w'.tape=w.tape/\w'.output=w.output/\w.heap.size<=w'.heap.size/\
   (∀b,b<w.heap.size->v.ownBlock≠some b->w'.heap[b]?=w.heap[b]?)/\(∀r∈dN,r.length=sz)/\∃cs',w'.ownsRow 0 e sz v dN.length cs'/\mR w' cs' dN.flatten [])
section
variable{P:Program}{Γ:vP}{Q:Exit->St->Prop}{st:St}{κ:Nat->Option Value}{Θ:Nat->Nat}{a:Act}{w:World}{all:Array Oper}{rest:List Oper}
theorem a0W{o:Oper}{f id e sz:Nat}{x:Operand}{ts:Array TypeId}{k0:RK}{rows dN:List aR}(hop:o.op=.call {callee:=.value (.func f),args:= #[x],argTypes:=ts})(hd:∀t,o.dst=some t->t<Γ.nt)(hg:o.guard=none)
 (hx:st.ev x=.acc id) (hH:st.H[id]?=some (.row k0 e sz rows)) (hk0:k0.hand=true) (hfl:rows.flatten.all D.flat=true) (pL:U9 P f e sz rows dN)
 (h:AO P Γ all rest Q (St.put ⟨st.σ,st.H.set id (.row k0 e sz dN)⟩ o.dst (.gb []))):AO P Γ all (o::rest) Q st:=by
 intro κ Θ a w hs;obtain⟨b1,r1,_⟩:=hs.ev x;rw[hx]at r1;obtain⟨hkv,_⟩:=r1.xR;obtain⟨hsz,hrl,v,cs,bs,hk1,hown,hrd,Ho,hz⟩:=hs.ob id _ hH;rw[hkv]at hk1;cases hk1;have Hi:=hrd.flat hfl;subst Hi;obtain⟨ρ,hu⟩:=hs.wE;refine wpList_plain hg fun K hK=>?_
 unfold Oper.wp;rw[A9 hop pL.1,Oper.upon_enter];have e1:(#[x]:Array Operand).map a.eval= #[a.eval x]:=by simp
 rw[e1];refine(pL.2 w _ cs hsz hrl hown hrd).mono ?_;rintro e' w' ⟨rfl,k1,k2,k3,k4,k5,PN,cs',NF,QU⟩;have kk:jP w w' Θ Θ (id+2):=⟨by omega,k1,k2,k3,k4,fun b hb ht=>k5 b hb fun e=>ht (Ho b e),fun _ _ _=>rfl,fun b hb=>e9 (hs.own b hb) k4⟩
 have hs':eE Γ ⟨st.σ,st.H.set id (.row k0 e sz dN)⟩ κ Θ a w':=by
  refine hs.put [] BD (fun _ _ h=>h) (fun i hi=>hs.rD i (by simpa using hi)) hs.qR kk hs.mine ?_ hu (by simp) ?_ ?_
  ·refine⟨hsz,PN,_,cs',[],hkv,NF,QU,Ho,?_⟩;cases k0 with
   |cl=>simp[RK.hand]at hk0
   |mv n=>simp[RK.hand]at hk0
   |sh=>simp
   |uq=>simp
  ·intro e2 XI fT he;cases he;exact⟨_,cs',[],hkv,NF,QU,by simp,by simp⟩
  ·cases k0 with
   |mv n=>simp[RK.hand]at hk0
   |_=>rfl
 show K (a.put o.dst (.tuple #[])) w';refine hK _ _ (h κ Θ _ w' ?_);cases T0:o.dst with
 |none=>exact hs'
 |some t=>exact hs'.set (hd t T0) (.gb [] [] [] .nil) (by simp)
end
end Go.Cx
namespace Go.Cx
open Go.RowKit
inductive An where
 |b (v:Bool)
 |row (r:aR)
 |ix (i:Nat)
 |ch (x:UInt8)
 |cut (l h:Nat)
 |d (x:D)
 |fl (v:Bool)
 |n (k:Nat)
 |n2 (π ρ:aa) (k m:Nat) (L X:aa)
 |sk (id:Nat)
 |PT (t:Nat)
 |pb (id off e sz:Nat)
 |vw (t:Nat)
 |cn (K o:aa)
 |hl (m:Nat) (K o:aa)
 |mu (id:Nat) (rows:List aR)
 |dc (x:D)
 |gv (ms:aa) (outs:List Rw) (d:D)
 |mg (id i off:Nat) (r:aR)
 |ov (id:Nat) (rows:List aR)
 |kv (m:List (D×D))
 |gp (nz:List (List (Option (Nat×Nat)))) (cells:aR) (d:D)
 |dn (cells:aR)
 |fz
 |nl (x:D)
 |ds (x:D)
 |mz (id:Nat)
 |tk (r:aR)
abbrev E3:=List Prop
def zE:E3->Prop
 | []=>True
 |p::ps=>p/\zE ps
theorem zE.app{p q:E3}(h:zE (p++q)):zE p/\zE q:=by
 induction p with
 |nil=>exact⟨trivial,h⟩
 |cons x p ih=>exact⟨⟨h.1,(ih h.2).1⟩,(ih h.2).2⟩
def Js(P:Program)(st:St)(op:Op)(A:List An):Option (D×List An×E3):=match op with
 | .indexAddr t x i=>(match IJ P t,st.ev x,st.ev i,A with
  |some (_,sz),.sl rows,.int _ n,.row r::A=>some (.ep r 0,A,[0<=n/\rows[n.toNat]?=some r/\r.length=sz])
  |some (_,sz),.acc id,.int _ n,.ix k::A=>(match st.H[id]? with|some (.row _ _ sz' rows)=>some (.op id k sz 0,A,[sz=sz'/\n=(k:Int)/\k<rows.length])|_=>none)
  |_,.val (.pointer (some ⟨g,o,none⟩)),.int _ n,.ix k::A=>(match a8K P t with|some (sz,len)=>some (.val (.pointer (some ⟨g,o+k*sz,none⟩)),A,[n=(k:Int)/\k<len])|none=>none)
  |_,_,_,_=>none)
 | .index t x i=>(match OW P t,st.ev x,st.ev i,A with
  |true,.str s,.int _ n,.ch c::A=>some (.int .u8 c.toNat,A,[0<=n/\s[n.toNat]?=some c])
  |_,_,_,_=>none)
 | .load t x=>(match st.ev x with
  | .op id i sz off=>(match C6 P t,st.H[id]?,A with
   |some ag,some (.row k _ sz' rows),.row r::A=>(match K8 ag (BK P t) r off with
    |some d=>some (d,A,[sz'=sz/\k.TU=true/\rows[i]?=some r/\off+(bif ag then BK P t else 1)<=sz])
    |none=>none)
   |_,_,_=>none)
  | .val (.pointer (some ⟨g,o,none⟩))=>(match C6 P t,A with
   |some false,.d d::A=>some (d,A,[Yj g o=some d])
   |_,_=>none)
  |_=>(match pv P st op with|some d=>some (d,A,[])|none=>none))
 | .slice t x lo hi none=>(match st.ev x,A with
  | .str s,.cut l h::A=>(match OW P t with
   |true=>some (.str ((s.take h).drop l),A,[Cw s.length (lo.map st.ev) (hi.map st.ev)=some (l,h)])
   |false=>none)
  | .sl rows,.cut l h::A=>(match IJ P t with
   |some (_,sz)=>some (.sl ((rows.take h).drop l),A,[Cw rows.length (lo.map st.ev) (hi.map st.ev)=some (l,h)/\(rows.all fun r=>r.length==sz)=true])
   |none=>none)
  |_,_=>none)
 | .binOp op' t x y t'=>(match op',st.ev x,st.ev y with
  | .add,.str a,.str b=>some (.str (a++b),A,[a.length+b.length<=maxLen])
  | .quo,.int k a,.int k' b=>some (.int k (a/b),A,[k=k'/\0<=a/\0<b])
  | .rem,.int k a,.int k' b=>some (.int k (a%b),A,[k=k'/\0<=a/\0<b])
  |_,_,_=>(match pv P st op with|some d=>some (d,A,[])|none=>none))
 | .lookup T x i ok=>(match st.ev x,A with
  | .acc id,.d d::A=>(match st.H[id]? with
   |some (.mp kv)=>some (d,A,[plk P T kv (st.ev i) ok=some d])
   |_=>none)
  |_,_=>none)
 | .pick c a b=>(match st.ev c,A with
  | .bool t,.b v::A=>(match v with|true=>some (st.ev a,A,[t=true])|false=>some (st.ev b,A,[t=false]))
  |_,_=>none)
 |_=>(match pv P st op with|some d=>some (d,A,[])|none=>none)
theorem Yh{P:Program}{st:St}{op:Op}{A A':List An}{d:D}{p:E3}(h:Js P st op A=some (d,A',p))(hp:zE p):pv P st op=some d:=by
 have plain:∀ {op},(match pv P st op with|some d=>some (d,A,([]:E3))|none=>none)=some (d,A',p)->pv P st op=some d:=by
  intro op h;split at h
  ·cases h;assumption
  ·cases h
 unfold Js at h;split at h
 ·rename_i t x i;split at h
  ·rename_i e sz rows kk n r A1 h1 h2 h3;cases h;obtain⟨⟨q1,q2,q3⟩,_⟩:=hp;simp only[pv,h1,h2,h3,q1,q2,rq,q3]
  ·rename_i e sz id kk n k A1 h1 h2 h3;split at h
   ·rename_i k' e' sz' rows hH;cases h;obtain⟨⟨rfl,rfl,q3⟩,_⟩:=hp;simp[pv,h1,h2,h3,hH,q3]
   ·cases h
  ·rename_i g o' kk n k A1 h2 h3;split at h
   ·rename_i sz len hT;cases h;obtain⟨⟨rfl,q3⟩,_⟩:=hp;simp[pv,h2,h3,hT,q3]
   ·cases h
  ·cases h
 ·rename_i t x i;split at h
  ·rename_i s kk n c A1 h1 h2 h3;cases h;obtain⟨⟨q1,q2⟩,_⟩:=hp;simp only[pv,h1,h2,h3,q1,q2,rq]
  ·cases h
 ·rename_i t x;split at h
  ·rename_i id i sz off h1;split at h
   ·rename_i ag k e sz' rows r A1 h2 h3;split at h
    ·rename_i d' hd;cases h;obtain⟨⟨rfl,q2,q3,q4⟩,_⟩:=hp;simp only[pv,h2,h1,h3,q3,q2,q4,vX,and_self,rq,hd]
    ·cases h
   ·cases h
  ·rename_i g o' h1;split at h
   ·rename_i d' A1 h2;cases h;simp only[pv,h2,h1];exact hp.1
   ·cases h
  ·exact plain h
 ·rename_i t x lo hi;split at h
  ·rename_i s l hh A1 h1;split at h
   ·rename_i h2;cases h;obtain⟨q1,_⟩:=hp;simp only[pv,h1,h2,q1,rq]
   ·cases h
  ·rename_i rows l hh A1 h1;split at h
   ·rename_i e sz h2;cases h;obtain⟨⟨q1,q2⟩,_⟩:=hp;simp only[pv,h1,h2,q1,q2,rq]
   ·cases h
  ·cases h
 ·rename_i op' t x y t';split at h
  ·rename_i a b h1 h2;cases h;obtain⟨q1,_⟩:=hp;simp only[pv,h1,h2,Zh,q1,rq]
  ·rename_i k a k' b h1 h2;cases h;obtain⟨⟨rfl,q1,q2⟩,_⟩:=hp;simp only[pv,h1,h2,Zh,q1,q2,rq,and_self]
  ·rename_i k a k' b h1 h2;cases h;obtain⟨⟨rfl,q1,q2⟩,_⟩:=hp;simp only[pv,h1,h2,Zh,q1,q2,rq,and_self]
  ·exact plain h
 ·rename_i T x i ok;split at h
  ·rename_i id d' A1 h1;split at h
   ·rename_i kv hH;cases h;simp only[pv,h1,hH];exact hp.1
   ·cases h
  ·cases h
 ·split at h
  ·rename_i t v A1 h1;split at h
   ·cases h;obtain⟨rfl,_⟩:=hp;simp[pv,h1]
   ·cases h;obtain⟨rfl,_⟩:=hp;simp[pv,h1]
  ·cases h
 ·exact plain h
def bytesOf:List aR->Option Bytes
 | []=>some []
 |r::rs=>match r,bytesOf rs with
  | [.int .u8 n],some bs=>some (UInt8.ofNat n.toNat::bs)
  |_,_=>none
theorem UT:∀ {rows:List aR} {bs:Bytes},bytesOf rows=some bs->∃xs:bJ,rows=xs.map (fun n=>[D.int .u8 n])/\bs=xs.map (fun n=>UInt8.ofNat n.toNat):=by
 intro rows
 induction rows with
 |nil=>intro bs h;cases h;exact⟨[],rfl,rfl⟩
 |cons r rs ih=>
  intro bs h;simp only[bytesOf]at h;split at h
  ·rename_i n bs' h1;cases h;obtain⟨xs,rfl,rfl⟩:=ih h1;exact⟨n::xs,rfl,rfl⟩
  ·cases h
theorem QJ:∀(xs:bJ),(xs.map (fun n=>[D.int .u8 n])).flatten=xs.map (fun n=>D.int .u8 n)
 | []=>rfl
 |n::xs=>by simp only[bG,eO,QJ xs];rfl
def aAH(A:List An)(t:Nat):Option (List An):=match A with
 | .PT u::A=>if u=t then some A else none
 |_=>none
def apS(H:bU)(d:D)(e sz:Nat):Option (List aR×Bool×aa):=match d with
 | .nil=>some ([],true,[])
 | .acc m=>(match H[m]? with
  |some (.row k e' sz' rows)=>(match k with| .cl=>none| .uq=>(if e'=e/\sz'=sz then some (rows,true,[m])else none)| .sh=>(if e'=e/\sz'=sz then some (rows,false,[m])else none)| .mv _=>none)
  |_=>none)
 |_=>none
def apX(H:bU)(d:D)(sz:Nat)(A:List An):Option (List aR×Bool×aa×List An×E3):=match d,A with
 | .nil,A=>some ([],true,[],A,[])
 | .acc m,A=>(match H[m]? with
  |some (.row k _ sz' rows)=>(match k with| .cl=>none| .uq=>(if sz'=sz then some (rows,true,[m],A,[])else none)| .sh=>(if sz'=sz then some (rows,false,[m],A,[])else none)| .mv _=>none)
  |_=>none)
 | .sl rows,.fl f::A=>some (rows,f,[],A,[(∀r∈rows,r.length=sz)/\(f=true->D.nr rows=true)])
 |_,_=>none
def Qe(st:St)(d:D):Option (Nat×Nat×List aR×Option Value):=match d with
 | .acc id=>(match st.H[id]? with|some (.ew sz rows u)=>some (id,sz,rows,u)|_=>none)
 |_=>none
theorem Qf{st:St}{d:D}{id sz:Nat}{rows:List aR}{u:Option Value}(h:Qe st d=some (id,sz,rows,u)):d=.acc id/\st.H[id]?=some (.ew sz rows u):=by
 unfold Qe at h;split at h
 ·split at h
  ·rename_i hH;cases h;exact⟨rfl,hH⟩
  ·cases h
 ·cases h
def TI(st:St)(d:D):Option (Nat×Nat×Nat×Nat×List aR×Option Value):=match d with
 | .op id i sz off=>(match st.H[id]? with|some (.ew sz' rows u)=>if sz'=sz then some (id,i,off,sz,rows,u)else none|_=>none)
 |_=>none
theorem Wp{st:St}{d:D}{id i off sz:Nat}{rows:List aR}{u:Option Value}(h:TI st d=some (id,i,off,sz,rows,u)):d=.op id i sz off/\st.H[id]?=some (.ew sz rows u):=by
 unfold TI at h;split at h
 ·split at h
  ·split at h
   ·rename_i hH he;subst he;cases h;exact⟨rfl,hH⟩
   ·cases h
  ·cases h
 ·cases h
def Wt(H:bU)(A:List An):Option (bU×List An×E3):=match A with
 | .mg id i off r::A=>(match H[id]? with
  |some (.hole sz rows u p n)=>(match H[n]?,r[off]? with
   |some (.ew _ fT _),some _=>some ((H.set n .gone).set id (.ew sz (rows.set i (r.set off (.sl fT))) u),A,[rows[i]?=some r,p=i*sz+off])
   |_,_=>none)
  |_=>none)
 |A=>some (H,A,[])
def wD(n:Nat):aR->aR×bU
 | []=>([],[])
 |d::ds=>match d with
  | .sl rows=>(.acc n::(wD (n+1) ds).1,.tk rows::(wD (n+1) ds).2)
  |d=>(d::(wD n ds).1,(wD n ds).2)
def Tq(r:aR):Bool:=r.all fun d=>match d with| .sl _=>true|d=>d.flat
def KE(P:Program)(nt:Nat)(o:Oper)(st:St)(A:List An):Option (St×List An×E3):=match o.op,o.dst with
 | .box _ x,some t=>(if t<nt then match(st.ev x).cellsOf with|some ds=>some (⟨(t,.ptr st.H.length 0)::st.σ,st.H++[.box ds]⟩,A,[])|none=>none else none)
 | .alloc T,some t=>(if t<nt then match tz P T with|some ds=>some (⟨(t,.ptr st.H.length 0)::st.σ,st.H++[.box ds]⟩,A,[])|none=>none else none)
 | .store T x y,none=>(match st.ev x,(st.ev y).cellsOf with
  | .ptr id off,some ds=>(match st.H[id]? with
   |some ob=>(match ob.Z6 with
    |some cells=>(if Tr P T=true/\ds.length=BK P T/\off+ds.length<=cells.length then some (⟨st.σ,st.H.set id (ob.re (cells.take off++ds++cells.drop (off+ds.length)))⟩,A,[])else none)
    |none=>none)
   |none=>none)
  | .op id i sz off,some ds=>(match st.H[id]?,Nv st.H ds,A with
   |some (.ew sz' rows u),_,.row r::A=>(if Tr P T=true/\ds.length=BK P T/\0<ds.length/\sz'=sz/\off+ds.length<=sz/\ds.all D.flat=true then
    some (⟨st.σ,st.H.set id (.ew sz (rows.set i (r.take off++ds++r.drop (off+ds.length))) u)⟩,A,[rows[i]?=some r])else none)
   |some (.row k e sz' rows),some (es,ms),.row r::A=>(if Tr P T=true/\ds.length=BK P T/\sz'=sz/\k.TU=true/\off+ds.length<=sz/\ms.Nodup/\id∉ms then
    some (⟨st.σ,(kill st.H ms).set id (.row (k.after (ds.all (Yg st.H))) e sz (rows.set i (r.take off++es++r.drop (off+ds.length))))⟩,A,[rows[i]?=some r])else none)
   |_,_,_=>none)
  |_,_=>none)
 | .makeMap _ none,some t=>(if t<nt then some (⟨(t,.acc st.H.length)::st.σ,st.H++[.mp []]⟩,A,[])else none)
 | .mapUpdate T x i y,none=>(match a01 P T,st.ev x,A with
  |some (kd,_),.acc id,.kv m::A=>(match st.H[id]? with
   |some (.mp kv)=>(if Li kd (st.ev i)=true/\(st.ev y).scalar=true then some (⟨st.σ,st.H.set id (.mp m)⟩,A,[NM (st.ev i) (st.ev y) kv=some m])else none)
   |_=>none)
  |_,_,_=>none)
 | .makeSlice T x y,some t=>(match IJ P T,st.ev x,st.ev y with
  |some (e,sz),.int _ n,.int _ n'=>(match tz P e with
   |some zs=>(if t<nt/\0<sz then some (⟨(t,.acc st.H.length)::st.σ,st.H++[.row .uq e sz (List.replicate n.toNat (zs.map D.KB))]⟩,A,[n'=n/\0<=n/\tby P e*n.toNat<=281474976710656/\n.toNat<=4611686018427387904])else none)
   |none=>none)
  |_,_,_=>none)
 | .buildSlice T len parts,some t=>(match IJ P T with
  |some (e,sz)=>(match tz P e with
   |some zs=>(match A7 (ux len sz) (List.replicate len zs).flatten (parts.toList.map fun p=>(p.1,st.ev p.2))with
    |some ds=>(match Nv st.H ds with
     |some (es,ms)=>(if t<nt/\0<sz/\len*sz<=16777216/\ms.Nodup then some (⟨(t,.acc st.H.length)::st.σ,kill st.H ms++[.row (BC (ds.all (Yg st.H))) e sz (chunk sz len es)]⟩,A,[])else none)
     |none=>none)
    |none=>none)
   |none=>none)
  |none=>none)
 | .call c,some t=>(match c.callee,c.args.toList,c.argTypes.toList with
  | .builtin .append,[s,x],[T,T']=>(match IJ P T with
   |some (e,sz)=>(match tz P e,apS st.H (st.ev s) e sz,apX st.H (st.ev x) sz A with
    |some _,some (rows,u1,k1),some (fT,u2,k2,A,ow)=>(if t<nt/\0<sz/\T'=T/\(k1++k2).Nodup then
     some (⟨(t,.acc st.H.length)::st.σ,kill st.H (k1++k2)++[.row (BC (u1&&u2)) e sz (rows++fT)]⟩,A,(rows.length+fT.length<=maxLen/\(rows.length+fT.length)*tby P e<=140737488355328)::ow)else none)
    |_,_,_=>none)
   |none=>none)
  | .builtin .len,[x],[T]=>(match Qe st (st.ev x)with
   |some (_,_,rows,_)=>(if t<nt/\(IJ P T).isSome=true then some (⟨(t,.int .i64 rows.length)::st.σ,st.H⟩,A,[])else none)
   |none=>(if t<nt then match Js P st o.op A with|some (d,A,ow)=>some (⟨(t,d)::st.σ,st.H⟩,A,ow)|none=>none else none))
  | .value (.func f),xs,_=>(match Lx st.H (xs.map st.ev),A with
   |_,.gv ms outs d::A=>(match Qd st.H ms with
    |some ins=>(if t<nt/\ms.Nodup/\((xs.map st.ev).all D.bare)=true then
     (match Wt (TX st.H ms outs) A with
     |some (H',A',ow)=>some (⟨(t,d)::st.σ,H'⟩,A',rj P f ((xs.map st.ev).map (D.YP ms)) ins outs d::ow)
     |none=>none)else none)
    |none=>none)
   |_,.gp nz cells' d::A=>(match xs with
    |x0::xr=>(match st.ev x0 with
     | .ptr id 0=>(match st.H[id]? with
      |some ob=>(match ob.Z6 with
       |some Nx=>(match Dq st.H nz (.agg Nx::xr.map st.ev)with
        |some (.agg cells::ds,ms,qs)=>(if t<nt/\ms.Nodup/\qs.Nodup then
         some (⟨(t,(rC (st.H.length+(nu st.H.length cells').2.length) d).1)::st.σ,(kill st.H (ms++qs)).set id (ob.re (nu st.H.length cells').1)++((nu st.H.length cells').2++(rC (st.H.length+(nu st.H.length cells').2.length) d).2)⟩,A,[BR P f cells cells' ds d])else none)
        |_=>none)
       |none=>none)
      |none=>none)
     |_=>none)
    | []=>none)
   |some (ds,ms),.dn cells::A=>(if t<nt/\ms=[]then some (⟨(t,.ptr st.H.length 0)::st.σ,st.H++[.box cells]⟩,A,[a5I P f ds cells])else none)
   |some (ds,_),.dc d::A=>(if t<nt/\d.Qu=true then some (⟨(t,(rC st.H.length d).1)::st.σ,st.H++(rC st.H.length d).2.map Ob.close⟩,A,[Good P f ds d])else none)
   |_,.ov id dN::A=>(match st.H[id]? with
    |some (.row .uq e sz rows)=>(if t<nt/\((xs.map st.ev).all D.bare)=true then some (⟨(t,.acc st.H.length)::st.σ,kill st.H [id]++[.row .uq e sz dN]⟩,A,[rows.flatten.all D.flat=true,Jw P f ((xs.map st.ev).map (D.YP [id])) e sz rows dN])else none)
    |_=>none)
   |_,.mu id dN::A=>(match xs,st.H[id]? with
    | [x],some (.row k e sz rows)=>(match st.ev x with
     | .acc id'=>(if t<nt/\id'=id/\k.hand=true then some (⟨(t,.gb [])::st.σ,st.H.set id (.row k e sz dN)⟩,A,[rows.flatten.all D.flat=true,U9 P f e sz rows dN])else none)
     |_=>none)
    |_,_=>none)
   |some (ds,ms),.d d::A=>(if t<nt/\(ms=[]\/d.Qu=true)then some (⟨(t,(rC st.H.length d).1)::st.σ,st.H++(rC st.H.length d).2⟩,A,[Good P f ds d])else none)
   |_,.nl d::A=>(if t<nt/\(xs.map st.ev).all Ot=true then some (⟨(t,(rC st.H.length d).1)::st.σ,st.H++(rC st.H.length d).2⟩,A,[Good P f (xs.map st.ev) d])else none)
   |_,_=>none)
  |_,_,_=>(if t<nt then match Js P st o.op A with|some (d,A,ow)=>some (⟨(t,d)::st.σ,st.H⟩,A,ow)|none=>none else none))
 | .convert s d x,some t=>(match st.ev x with
  | .acc id=>(match st.H[id]?,IJ P s with
   |some (.row _ _ _ rows),some (e,sz)=>(match bytesOf rows with
    |some bs=>(if t<nt/\sz=1/\XR P e=some .u8/\OW P d=true then some (⟨(t,.str bs)::st.σ,st.H⟩,A,[])else none)
    |none=>none)
   |_,_=>none)
  |_=>(if t<nt then match Js P st o.op A with|some (d,A,ow)=>some (⟨(t,d)::st.σ,st.H⟩,A,ow)|none=>none else none))
 | .assign x,some t=>(match aAH A t with
  |some A=>(match st.ev x,IJ P o.type with
   | .nil,some (e,sz)=>(if t<nt/\0<sz then some (⟨(t,.acc st.H.length)::st.σ,st.H++[.row .uq e sz []]⟩,A,[])else none)
   |_,_=>none)
  |none=>(if t<nt then some (⟨(t,st.ev x)::st.σ,st.H⟩,A,[])else none))
 | .slice T x none (some hi) none,some t=>(match st.ev x with
  | .acc id=>(match st.H[id]?,IJ P T,st.ev hi,A with
   |some (.row .uq e sz rows),some (_,sz'),.int _ n,.cut 0 h::A=>(if t<nt/\sz'=sz then some (⟨(t,.acc st.H.length)::st.σ,kill st.H [id]++[.row .uq e sz (rows.take h)]⟩,A,[n=((h:Nat):Int)/\h<=rows.length])else none)
   |_,_,_,_=>none)
  |_=>(if t<nt then match Js P st o.op A with|some (d,A,ow)=>some (⟨(t,d)::st.σ,st.H⟩,A,ow)|none=>none else none))
 | .slice T (.tmp s) (some lo) none none,some t=>(match A,lk st.σ s with
  | .fz::A,.acc id=>(match st.H[id]? with
   |some (.row k e sz rows)=>(if t<nt/\k.TU=true then match Js P ⟨(s,.sl rows)::st.σ,st.H.set id .gone⟩ o.op A with|some (d,A,ow)=>some (⟨(t,d)::(s,.sl rows)::st.σ,st.H.set id .gone⟩,A,ow)|none=>none else none)
   |_=>none)
  |_,_=>(if t<nt then match Js P st o.op A with|some (d,A,ow)=>some (⟨(t,d)::st.σ,st.H⟩,A,ow)|none=>none else none))
 | .indexAddr T x i,some t=>(match Qe st (st.ev x)with
  |some (id,sz,rows,_)=>(match IJ P T,st.ev i,A with
   |some (_,sz'),.int _ n,.ix m::A=>(if t<nt/\sz'=sz then some (⟨(t,.op id m sz 0)::st.σ,st.H⟩,A,[n=(m:Int)/\m<rows.length])else none)
   |_,_,_=>none)
  |none=>(if t<nt then match Js P st o.op A with|some (d,A,ow)=>some (⟨(t,d)::st.σ,st.H⟩,A,ow)|none=>none else none))
 | .load T x,some t=>(match TI st (st.ev x)with
  |some (id,i,off,sz,rows,u)=>(match C6 P T,A with
   |some false,.row r::A=>(match r[off]? with
    |some (.sl fT)=>(match IJ P T with
     |some (_,XI)=>(if t<nt then some (⟨(t,.acc st.H.length)::st.σ,st.H.set id (.hole sz (rows.set i (r.set off .any)) u (i*sz+off) st.H.length)++[.ew XI fT none]⟩,A,[rows[i]?=some r,∀q∈fT,q.length=XI])else none)
     |none=>none)
    |some d=>(if t<nt/\d.flat=true then some (⟨(t,d)::st.σ,st.H⟩,A,[rows[i]?=some r])else none)
    |none=>none)
   |_,_=>none)
  |none=>(match A,st.ev x with
   | .tk r::A,.op id i sz 0=>(match st.H[id]? with
    |some (.row (.mv n) e sz' rows)=>(if t<nt/\sz'=sz/\C6 P T=some true/\BK P T=sz then
     some (⟨(t,.agg (wD st.H.length r).1)::st.σ,st.H.set id (.row (.mv (n+1)) e sz rows)++(wD st.H.length r).2⟩,A,[i=n/\rows[n]?=some r/\Tq r=true])else none)
    |_=>none)
   |A,_=>(if t<nt then match Js P st o.op A with|some (d,A,ow)=>some (⟨(t,d)::st.σ,st.H⟩,A,ow)|none=>none else none)))
 |op,some t=>(if t<nt then match Js P st op A with|some (d,A,ow)=>some (⟨(t,d)::st.σ,st.H⟩,A,ow)|none=>none else none)
 |_,none=>none
section
variable{P:Program}{Γ:vP}{Q:Exit->St->Prop}{st:St}{all:Array Oper}{rest:List Oper}
theorem eE.a29{κ:Nat->Option Value}{Θ:Nat->Nat}{a:Act}{w:World}(hs:eE Γ st κ Θ a w)(e sz:Nat)(hsz:0<sz):eE Γ ⟨st.σ,st.H++[.row .uq e sz []]⟩ (AH κ st.H.length (some (.slice none 0 0))) Θ a w:=by
 obtain⟨ρ,hu⟩:=hs.wE;refine hs.put [] Dn (zV (hs.rD _ (bR _)) _) ?_ ?_ (jP.refl hs.own (by omega)) hs.mine ?_ hu (by simp) ?_
 ·intro i hi;simp only[aX,aK,bK]at hi;unfold AH;rw[bH (by omega)];exact hs.rD i (by omega)
 ·intro i x hx;unfold AH at hx;split at hx
  ·cases hx;rfl
  ·exact hs.qR i x hx
 ·exact⟨hsz,by simp,_,[],[],lg _ _ _,World.ownsRow_nil w 0 e sz,.nil,by simp[Value.ownBlock],by simp⟩
 ·intro e' sz' dN he;simp only[Ob.row.injEq,vX]at he;obtain⟨rfl,rfl,rfl⟩:=he;exact⟨_,[],[],lg _ _ _,World.ownsRow_nil w 0 e sz,.nil,by simp,by simp⟩
theorem a6V{o:Oper}{x:Operand}{t e sz:Nat}(hop:o.op=.assign x)(hd:o.dst=some t)(hg:o.guard=none)(ht:t<Γ.nt)(hx:st.ev x=.nil)(hsz:0<sz)
 (h:AO P Γ all rest Q ⟨(t,.acc st.H.length)::st.σ,st.H++[.row .uq e sz []]⟩):AO P Γ all (o::rest) Q st:=by
 intro κ Θ a w hs;obtain⟨bs,r,_⟩:=hs.ev x;rw[hx]at r;have hv:=r.NT;have hp:pv P st o.op=some .nil:=by rw[hop];simp[pv,hx]
 obtain⟨v,b2,hrun,hrd,hz⟩:=Hy hs hp;have Ut:=hrd.NT;subst Ut;refine wpList_plain hg fun K hK=>?_
 unfold Oper.wp;rw[hrun,Oper.upon_value,hd];refine hK _ _ (h _ _ _ _ ((hs.a29 e sz hsz).set (t:=t) (d:=.acc st.H.length) (bs:=[]) ht ?_ (by simp)));exact(BH.acc st.H.length _ (lg _ _ _)).Tu
theorem fF.a8I{κ:Nat->Option Value}{w:World}{n:Nat}(hk:κ n=some (.slice none 0 0)):∀ {vs:br} {ds:aR} {bs:aa},fF w κ vs ds bs->∀ {off:Nat},ds[off]?=some .nil->∃bs',fF w κ vs (ds.set off (.acc n)) bs'/\∀b∈bs',b∈bs:=by
 intro vs ds bs h
 induction h with
 |nil=>intro off h;simp at h
 |cons v vs d ds b1 b2 h1 h2 h3 ih=>
  intro off h;cases off with
  |zero=>
   simp only[D6,av]at h;subst h;have hv:v=.slice none 0 0:=by
    cases h2 with
    |pure h2=>cases h2;rfl
   subst hv;exact⟨[]++b2,.cons _ _ _ _ _ _ h1 (.acc n _ hk) h3,fun b hb=>by simp at hb;simp[hb]⟩
  |succ off=>
   obtain⟨bs',q1,q2⟩:=ih (off:=off) (by simpa using h);exact⟨b1++bs',.cons _ _ _ _ _ _ h1 h2 q1,fun b hb=>by
    rcases ar.1 hb with hb|hb
    ·exact ar.2 (.inl hb)
    ·exact ar.2 (.inr (q2 b hb))⟩
def St.prom(st:St)(id off e sz:Nat):Option St:=match st.H[id]? with
 |some (.box cells)=>(match cells[off]? with
  |some .nil=>(if 0<sz then some ⟨st.σ,(st.H++[Ob.row .uq e sz []]).set id (Ob.box (cells.set off (.acc st.H.length)))⟩else none)
  |_=>none)
 |_=>none
theorem eE.prom{κ:Nat->Option Value}{Θ:Nat->Nat}{a:Act}{w:World}{xQ:St}{id off e sz:Nat}(hs:eE Γ st κ Θ a w)(h:st.prom id off e sz=some xQ):∃κ',eE Γ xQ κ' Θ a w:=by
 unfold St.prom at h;split at h
 ·rename_i cells hH;split at h
  ·rename_i hc;split at h
   ·rename_i hsz;cases h;have hlt:id<st.H.length:=(aH.1 hH).1;have hs1:=hs.a29 e sz hsz;refine⟨_,hs1.defers,hs1.size,fun i hi=>hs1.rD i (by simpa using hi),hs1.qR,hs1.slot,?_,hs1.own,hs1.old,hs1.mine,hs1.stays,?_⟩
    ·intro j y hj;simp only[fq]at hj;split at hj
     ·rename_i e1;subst e1;split at hj
      ·cases hj;obtain⟨g,cs,T,q1,q2,q3,bs,q4,q5⟩:=hs1.ob id (.box cells) (by simpa[b9 hlt]using hH);obtain⟨bs',p1,p2⟩:=fF.a8I (n:=st.H.length) (lg _ _ _) q4 hc;exact⟨g,cs,T,q1,q2,q3,bs',p1,fun b hb=>q5 b (p2 b hb)⟩
      ·cases hj
     ·exact hs1.ob j y hj
    ·obtain⟨ρ,hu⟩:=hs1.wE;refine⟨ρ,hu.free,fun i e' sz' rows hi=>hu.rows i e' sz' rows ?_,fun i o hi=>?_⟩
     ·simp only[fq]at hi;split at hi
      ·split at hi<;>cases hi
      ·exact hi
     ·simp only[fq]at hi;split at hi
      ·split at hi
       ·cases hi;trivial
       ·cases hi
      ·exact hu.more i o hi
   ·cases h
  ·cases h
 ·cases h
theorem eE.aAe{κ:Nat->Option Value}{Θ:Nat->Nat}{a:Act}{w:World}{id e sz:Nat}{rows:List aR}(hs:eE Γ st κ Θ a w)(hH:st.H[id]?=some (.row .uq e sz rows)):eE Γ ⟨st.σ,st.H.set id (.row .sh e sz rows)⟩ κ Θ a w:=by
 have hlt:id<st.H.length:=(aH.1 hH).1;refine⟨hs.defers,hs.size,fun i hi=>hs.rD i (by simpa using hi),hs.qR,hs.slot,?_,hs.own,hs.old,hs.mine,hs.stays,?_⟩
 ·intro j y hj;simp only[fq,hlt,rq]at hj;split at hj
  ·rename_i e1;subst e1;cases hj;exact(show yP w κ Θ id (.row .uq e sz rows)from hs.ob id _ hH)
  ·exact hs.ob j y hj
 ·obtain⟨ρ,hu⟩:=hs.wE;refine⟨ρ,hu.free,fun i e' sz' dN hi=>hu.rows i e' sz' dN ?_,fun i o hi=>?_⟩
  ·simp only[fq,hlt,rq]at hi;split at hi
   ·cases hi
   ·exact hi
  ·simp only[fq,hlt,rq]at hi;split at hi
   ·cases hi;trivial
   ·exact hu.more i o hi
theorem eE.mvz{κ:Nat->Option Value}{Θ:Nat->Nat}{a:Act}{w:World}{id e sz:Nat}{rows:List aR}(hs:eE Γ st κ Θ a w)(hH:st.H[id]?=some (.row .uq e sz rows)):eE Γ ⟨st.σ,st.H.set id (.row (.mv 0) e sz rows)⟩ κ Θ a w:=by
 have hlt:id<st.H.length:=(aH.1 hH).1;refine⟨hs.defers,hs.size,fun i hi=>hs.rD i (by simpa using hi),hs.qR,hs.slot,?_,hs.own,hs.old,hs.mine,hs.stays,?_⟩
 ·intro j y hj;simp only[fq,hlt,rq]at hj;split at hj
  ·rename_i e1;subst e1;cases hj;exact(show yP w κ Θ id (.row .uq e sz rows)from hs.ob id _ hH)
  ·exact hs.ob j y hj
 ·obtain⟨ρ,hu⟩:=hs.wE;refine⟨ρ,hu.free,fun i e' sz' dN hi=>hu.rows i e' sz' dN ?_,fun i o hi=>?_⟩
  ·simp only[fq,hlt,rq]at hi;split at hi
   ·cases hi
   ·exact hi
  ·simp only[fq,hlt,rq]at hi;split at hi
   ·rename_i e1;subst e1;cases hi;obtain⟨v,cs,bs,q1,q2,q3,q4,q5⟩:=hu.rows id e sz rows hH;exact⟨v,cs,bs,q1,q2,by simpa using q3,q4,q5⟩
   ·exact hu.more i o hi
def shares:List An->St->St×List An
 | .sk id::A,st=>(match st.H[id]? with
  |some (.row .uq e sz rows)=>shares A ⟨st.σ,st.H.set id (.row .sh e sz rows)⟩
  |_=>(st,.sk id::A))
 | .mz id::A,st=>(match st.H[id]? with
  |some (.row .uq e sz rows)=>shares A ⟨st.σ,st.H.set id (.row (.mv 0) e sz rows)⟩
  |_=>(st,.mz id::A))
 |A,st=>(st,A)
theorem eE.shares{κ:Nat->Option Value}{Θ:Nat->Nat}{a:Act}{w:World}:∀ {A A1:List An} {st AA:St},eE Γ st κ Θ a w->shares A st=(AA,A1)->eE Γ AA κ Θ a w:=by
 intro A
 induction A with
 |nil=>intro A1 st AA hs h;simp only[Cx.shares,cT]at h;obtain⟨rfl,_⟩:=h;exact hs
 |cons x A ih=>
  intro A1 st AA hs h;cases x
  case sk id=>
   simp only[Cx.shares]at h;split at h
   ·rename_i e sz rows hH;exact ih (hs.aAe hH) h
   ·simp only[cT]at h;obtain⟨rfl,_⟩:=h;exact hs
  case mz id=>
   simp only[Cx.shares]at h;split at h
   ·rename_i e sz rows hH;exact ih (hs.mvz hH) h
   ·simp only[cT]at h;obtain⟨rfl,_⟩:=h;exact hs
  all_goals(simp only[Cx.shares,cT]at h;obtain⟨rfl,_⟩:=h;exact hs)
theorem a3e{o:Oper}{s d:TypeId}{x:Operand}{t id e e' sz':Nat}{k:RK}{rows:List aR}{bs:Bytes}(hop:o.op=.convert s d x)(hd:o.dst=some t)(hg:o.guard=none)(ht:t<Γ.nt)(hx:st.ev x=.acc id)
 (hH:st.H[id]?=some (.row k e' sz' rows)) (hT:IJ P s=some (e,1)) (he:XR P e=some .u8) (hs':OW P d=true) (hb:bytesOf rows=some bs) (h:AO P Γ all rest Q ⟨(t,.str bs)::st.σ,st.H⟩):AO P Γ all (o::rest) Q st:=by
 intro κ Θ a w hs;obtain⟨b0,r,_⟩:=hs.ev x;rw[hx]at r;obtain⟨hk,_⟩:=r.xR;obtain⟨hsz,hrl,v,cs,b1,hk2,hown,vL,_,_⟩:=hs.ob id _ hH;rw[hk]at hk2;cases hk2;obtain⟨xs,rfl,rfl⟩:=UT hb;obtain⟨hu,_,_⟩:=pg hT;have hue:P.underlying e=some (.int .u8):=by
  unfold XR at he;split at he
  ·rename_i k' hk';cases he;exact hk'
  ·cases he
 have hud:=zM hs';have hfl:(xs.map (fun n=>[D.int .u8 n])).flatten=xs.map (fun n=>D.int .u8 n):=QJ xs;rw[hfl]at vL;have hcs:∀(xs:bJ) (cs:br) (b:aa),mR w cs (xs.map (fun n=>D.int .u8 n)) b->cs=xs.map (Value.int .u8):=by
  intro xs
  induction xs with
  |nil=>intro cs b h;cases h;rfl
  |cons n xs ih=>
   intro cs b h;cases h with
   |cons v vs _ _ b1 b2 _ h2 h3=>
    cases h2;rw[ih _ _ h3];rfl
 have hce:=hcs xs cs b1 vL;have hlen:xs.length<=maxLen:=by
  rcases hown.2 with⟨_,hn⟩|⟨g,cap,cur,_,_,_,hnc,hcm,_⟩
  ·simp at hn;rw[hn];simp
  ·simp at hnc;omega
 have hrun:(convert s d (a.eval x)).run P w=.ok (.string (strOfNums xs)) w:=by
  rcases hown.2 with⟨hv,hn⟩|⟨g,cap,cur,hv,_,hg,hnc,hcm,_,_⟩
  ·have hx0:xs=[]:=by simpa using hn
   subst hx0;rw[hv,run_convert_bytes_nil w s e hu hue 0 0 d hud];rfl
  ·rw[hv];have hcell:=hown.cells (g:=g) (by rw[hv];simp[Value.ownBlock]);refine run_convert_bytes_arg w s e hu hue g 0 _ cap xs (by simp) (fun i hi=>?_) d hud;have hi':i<xs.length:=by simpa using hi
   have:=hcell i (.int .u8 (xs.getD i 0)) (by rw[hce];simp[List.getD,ai hi']);simpa[Addr.add_lit]using this
 refine wpList_plain hg fun K hK=>?_
 unfold Oper.wp;have Uq:(execOp a.eval o).run P w=.ok (.value (.string (strOfNums xs))) w:=by
  simp only[execOp,hop];simp[hrun]
 rw[Uq,Oper.upon_value,hd];refine hK _ _ (h _ _ _ _ (hs.set (t:=t) (bs:=[]) ht ?_ (by simp)));have hsl:(strOfNums xs).data.toList=xs.map (fun n=>UInt8.ofNat n.toNat):=by simp[strOfNums]
 have hss:(strOfNums xs).size<=maxLen:=by
  have:(strOfNums xs).size=xs.length:=by
   have:=congrArg List.length hsl;simpa using this
  omega
 have:=Rd.str (w:=w) (strOfNums xs) hss;rw[hsl]at this;exact .of this
theorem a6R{o:Oper}{t:Nat}{s x:Operand}{T e sz:Nat}{zs:aR}{rows fT:List aR}{u1 u2:Bool}{k1 k2:aa}{A A':List An}{ow:E3}
 (hop:o.op=.call {callee:=.builtin .append,args:= #[s,x],argTypes:= #[T,T]}) (hd:o.dst=some t) (hg:o.guard=none) (ht:t<Γ.nt) (hT:IJ P T=some (e,sz)) (hz:tz P e=some zs) (hsz:0<sz)
 (hS:apS st.H (st.ev s) e sz=some (rows,u1,k1)) (hX:apX st.H (st.ev x) sz A=some (fT,u2,k2,A',ow)) (how:zE ow) (hnd:(k1++k2).Nodup)
 (h63:rows.length+fT.length<=maxLen) (hby:(rows.length+fT.length)*tby P e<=140737488355328)
 (h:AO P Γ all rest Q ⟨(t,.acc st.H.length)::st.σ,kill st.H (k1++k2)++[.row (BC (u1&&u2)) e sz (rows++fT)]⟩):AO P Γ all (o::rest) Q st:=by
 refine Ym hop hd hg ht hT hz hsz h63 hby ?_ h;intro κ Θ a w ρ hs hu;have one:∃i1 b1 c1,a0g w Θ ρ e sz (a.eval s) rows u1 i1 b1 c1/\((k1=[]/\i1=st.H.length)\/k1=[i1]):=by
  obtain⟨bs,r,_⟩:=hs.ev s;unfold apS at hS;split at hS
  ·rename_i M1;cases hS;rw[M1]at r;have:=r.NT;rw[this];exact⟨st.H.length,[],[],a0m,.inl ⟨rfl,rfl⟩⟩
  ·rename_i m M1;rw[M1]at r;obtain⟨hk,_⟩:=r.xR;split at hS
   ·rename_i k e' sz' dN hH;split at hS
    ·cases hS
    ·split at hS
     ·rename_i hc;obtain⟨rfl,rfl⟩:=hc;cases hS;obtain⟨b1,c1,hA⟩:=MD hs hu hk hH rfl;exact⟨m,b1,c1,hA,.inr rfl⟩
     ·cases hS
    ·split at hS
     ·rename_i hc;obtain⟨rfl,rfl⟩:=hc;cases hS;obtain⟨b1,c1,hA⟩:=MD hs hu hk hH rfl;exact⟨m,b1,c1,hA,.inr rfl⟩
     ·cases hS
    ·cases hS
   ·cases hS
  ·cases hS
 have two:∃i2 b2 c2,Yq w Θ ρ sz (a.eval x) fT u2 i2 b2 c2/\(u2=true->b2=[]\/i2∈k2):=by
  obtain⟨bs,r,hz⟩:=hs.ev x;unfold apX at hX;split at hX
  ·rename_i A1 M1;cases hX;rw[M1]at r;have:=r.NT;rw[this];exact⟨0,[],[],a0n,fun _=>.inl rfl⟩
  ·rename_i A1 m M1;rw[M1]at r;obtain⟨hk,_⟩:=r.xR;split at hX
   ·rename_i k e' sz' dN hH;split at hX
    ·cases hX
    ·split at hX
     ·rename_i hc;subst hc;cases hX;obtain⟨b1,c1,hA⟩:=UK hs hu hk hH rfl;exact⟨m,b1,c1,hA,fun _=>.inr (by simp)⟩
     ·cases hX
    ·split at hX
     ·rename_i hc;subst hc;cases hX;obtain⟨b1,c1,hA⟩:=UK hs hu hk hH rfl;exact⟨m,b1,c1,hA,fun _=>.inr (by simp)⟩
     ·cases hX
    ·cases hX
   ·cases hX
  ·rename_i dN f A1 M1;cases hX;rw[M1]at r;obtain⟨⟨q1,q2⟩,_⟩:=how;obtain⟨b2,c2,hA,hb⟩:=a3o (ρ:=ρ) r.Tm hz q1 0 u2 q2;exact⟨0,b2,c2,hA,fun e=>.inl (hb e)⟩
  ·cases hX
 obtain⟨i1,b1,c1,hA,hk1⟩:=one;obtain⟨i2,b2,c2,hB,hk2⟩:=two;refine⟨u1,u2,i1,i2,b1,b2,c1,c2,hA,hB,?_,fun BA=>?_⟩
 ·rcases hk1 with⟨_,h⟩|h
  ·exact .inr h
  ·exact .inl (by simp[h])
 ·simp only[aY]at BA;refine⟨BA.1,BA.2,?_⟩;rcases hk2 BA.2 with h|hmem
  ·exact .inl h
  ·refine .inr ⟨by simp[hmem],fun e=>?_⟩;rcases hk1 with⟨h1,h2⟩|h1
   ·
    have hlt:i2<st.H.length:=by
     unfold apX at hX;split at hX
     ·cases hX;cases hmem
     ·rename_i A1 m M1;split at hX
      ·rename_i k e' sz' dN hH;have:=(aH.1 hH).1;split at hX
       ·cases hX
       ·split at hX
        ·cases hX;simp at hmem;omega
        ·cases hX
       ·split at hX
        ·cases hX;simp at hmem;omega
        ·cases hX
       ·cases hX
      ·cases hX
     ·cases hX;cases hmem
     ·cases hX
    omega
   ·subst e;have:=(bN.1 hnd).2.2 i1 (by simp[h1]) i1 hmem;exact this rfl
theorem a30{κ:Nat->Option Value}{w:World}:∀ {ds:aR} {n:Nat} {vs:br} {bs:aa},mR w vs ds bs->(∀d∈ds,d.flat=true\/∃rows,d=.sl rows)->bs.Nodup->
 ∃(us:br) (L:List aa),us.length=(wD n ds).2.length/\L.length=us.length/\L.flatten=bs/\
  (∀(j:Nat) o,(wD n ds).2[j]?=some o->∃rows u b,o=.tk rows/\us[j]?=some u/\u.oneCell'=true/\L[j]?=some b/\Rd w u (.sl rows) b)/\
  (∀κ':Nat->Option Value,(∀(j:Nat) u,us[j]?=some u->κ' (n+j)=some u)->fF w κ' vs (wD n ds).1 []):=by
 intro ds
 induction ds with
 |nil=>intro n vs bs h _ _;cases h;exact⟨[],[],rfl,rfl,rfl,by simp[wD],fun _ _=>.nil⟩
 |cons d ds ih=>
  intro n vs bs h hd hnd;cases h with
  |cons v vs _ _ b1 b2 h1 h2 h3=>
   obtain⟨n1,n2,n3⟩:=bN.1 hnd;rcases hd d (by simp)with hf|⟨rows,rfl⟩
   ·have hb:=h2.flat hf;subst hb;obtain⟨us,L,q1,q2,q3,q4,q5⟩:=ih (n:=n) h3 (fun x hx=>hd x (by simp[hx])) n2;have e:wD n (d::ds)=(d::(wD n ds).1,(wD n ds).2):=by cases d<;>first|rfl| (simp[D.flat]at hf)
    rw[e];exact⟨us,L,q1,q2,q3,q4,fun κ' hk=>by simpa using fF.cons v vs d _ [] [] h1 (.pure h2) (q5 κ' hk)⟩
   ·obtain⟨us,L,q1,q2,q3,q4,q5⟩:=ih (n:=n+1) h3 (fun x hx=>hd x (by simp[hx])) n2;refine⟨v::us,b1::L,by simp[wD,q1],by simp[q2],by simp[q3],fun j o hj=>?_,fun κ' hk=>?_⟩
    ·cases j with
     |zero=>simp[wD]at hj;subst hj;exact⟨rows,v,b1,rfl,rfl,h1,rfl,h2⟩
     |succ j=>
      obtain⟨dN,u,b,r1,r2,r3,r4,r5⟩:=q4 j o (by simpa[wD]using hj);exact⟨dN,u,b,r1,by simpa using r2,r3,by simpa using r4,r5⟩
    ·have:=fF.cons v vs (.acc n) _ [] [] h1 (.acc n v (by have:=hk 0 v rfl;simpa using this)) (q5 κ' (fun j u hj=>by have:=hk (j+1) u (by simpa using hj);rw[<-this];congr 1;omega));simpa[wD]using this
theorem XP{r:aR}(h:Tq r=true):∀d∈r,d.flat=true\/∃rows,d=.sl rows:=by
 intro d hd;have:=bA.1 h d hd;cases d<;>first|exact .inr ⟨_,rfl⟩|exact .inl this
theorem a3h{o:Oper}{T id i sz e t:Nat}{x:Operand}{rows:List aR}{r:aR}(hop:o.op=.load T x)(hd:o.dst=some t)(hg:o.guard=none)(ht:t<Γ.nt)
 (hx:st.ev x=.op id i sz 0) (hH:st.H[id]?=some (.row (.mv i) e sz rows)) (hrow:rows[i]?=some r) (hT:C6 P T=some true) (hsz:BK P T=sz) (hok:Tq r=true)
 (h:AO P Γ all rest Q ⟨(t,.agg (wD st.H.length r).1)::st.σ,st.H.set id (.row (.mv (i+1)) e sz rows)++(wD st.H.length r).2⟩):AO P Γ all (o::rest) Q st:=by
 intro κ Θ a w hs;obtain⟨b1,r1,_⟩:=hs.ev x;rw[hx]at r1;obtain⟨g,o0,len,cap,hk,hv⟩:=r1.Hx;obtain⟨ρ,hu⟩:=hs.wE;obtain⟨a79,hrl,vk0,cs0,bs0,a9Y,a5Y,aCU,hΘ,AE⟩:=hs.ob id _ hH;obtain⟨vk,cs,bs,YD,hown,vL,hnd,hρ⟩:=hu.more id _ hH;rw[hk]at YD a9Y;cases YD;cases a9Y;have ho0:=Ej hown;subst ho0;rw[cm]at hv;have YC:r.length=sz:=hrl r (aC hrow);have hlt:i<rows.length:=(aH.1 hrow).1;have Um:rows.drop i=r::rows.drop (i+1):=by
  rw[mW hlt]
  congr 1
  rw[ai hlt]at hrow;exact qV hrow
 rw[Um,eO]at vL;obtain⟨v1,v2,c1,c2,QV,Hi,k1,k2⟩:=vL.split;have l1:v1.length=sz:=by rw[k1.length,YC]
 have hcells:∀j c,cs[j]?=some c->w.cell? ⟨g,0+j,none⟩=some c:=by
  intro j c hj;have:=hown.cells (g:=g) (by simp[Value.ownBlock]) j c hj;simpa[Addr.add_lit]using this
 have L0:=qH (P:=P) (w:=w) hT (o:=i*sz+0) hcells;simp only[cm,Av]at L0 hv;have hle:(i+1)*sz<=rows.length*sz:=dR _ hlt;rw[kV,ni]at hle;have a19:=hown.1;have hval:(cs.drop (i*sz)).take sz=v1:=by rw[QV];exact j0 l1
 have hrun:(execOp a.eval o).run P w=.ok (.value (.agg v1.toArray)) w:=by
  simp only[execOp,hop,hv];have:=L0.1 trivial (by rw[hsz,a19];omega);rw[hsz,hval]at this;simp[this]
 refine wpList_plain hg fun K hK=>?_
 unfold Oper.wp;rw[hrun,Oper.upon_value,hd];rw[Hi]at hnd hρ;obtain⟨n1,n2,n3⟩:=bN.1 hnd;obtain⟨us,L,q1,q2,q3,q4,q5⟩:=a30 (κ:=κ) (n:=st.H.length) k1 (XP hok) n1;let N:=st.H.length
 let κ':Nat->Option Value:=fun j=>if j<N then κ j else us[j-N]?
 let ρ':Nat->Nat:=fun b=>match ix (fun x:aa=>x.contains b) L with|some j=>N+j+1|none=>ρ b
 have hn:∀(j:Nat) v,κ j=some v->κ' j=some v:=by
  intro j v hj;have:j<N:=by
   rcases eH j N with h|h
   ·exact h
   ·rw[hs.rD j h]at hj;cases hj
  simp only[κ'];rw[bP this];exact hj
 have hk':∀(j:Nat) u,us[j]?=some u->κ' (N+j)=some u:=fun j u hj=>by
  simp only[κ'];rw[bH (by omega),dY];exact hj
 have a8t:L.flatten.Nodup:=by rw[q3];exact n1
 have a9c:∀(j:Nat) x b,L[j]?=some x->b∈x->ρ' b=N+j+1:=by
  intro j x b hj hb;have:ix (fun x:aa=>x.contains b) L=some j:=Eh hj (by simpa using hb) (fun m y hm hy=>by
   have hy':b∈y:=by simpa using hy
   exact jO fun hne=>by
    have key:∀(L:List aa),L.flatten.Nodup->∀(p q:Nat) x y,L[p]?=some x->L[q]?=some y->b∈x->b∈y->p=q:=by
     intro L
     induction L with
     |nil=>intro _ p q x y hp;simp at hp
     |cons z L ih=>
      intro hnd p q x y hp hq Hj hby;simp only[eO]at hnd;obtain⟨m1,m2,m3⟩:=bN.1 hnd;cases p with
      |zero=>
       cases q with
       |zero=>rfl
       |succ q=>
        simp at hp hq;subst hp;exact absurd rfl (m3 b Hj b (dW.2 ⟨y,aC hq,hby⟩))
      |succ p=>
       cases q with
       |zero=>
        simp at hp hq;subst hq;exact absurd rfl (m3 b hby b (dW.2 ⟨x,aC hp,Hj⟩))
       |succ q=>simp at hp hq;rw[ih m2 p q x y hp hq Hj hby]
    exact hne (key L a8t m j y x hm hj hy' hb))
  simp only[ρ',this]
 have TA:∀b,b∉c1->ρ' b=ρ b:=by
  intro b hb;simp only[ρ'];cases hi:ix (fun x:aa=>x.contains b) L with
  |none=>rfl
  |some j=>
   obtain⟨x,hx',hp⟩:=zU hi;exact absurd (by rw[<-q3];exact dW.2 ⟨x,aC hx',by simpa using hp⟩) hb
 have aEd:id<N:=(aH.1 hH).1;have key:∀(j:Nat) y,(st.H.set id (.row (.mv (i+1)) e sz rows)++(wD st.H.length r).2)[j]?=some y->(j=id/\y=.row (.mv (i+1)) e sz rows)\/(j≠id/\j<N/\st.H[j]?=some y)\/∃m,j=N+m/\(wD st.H.length r).2[m]?=some y:=by
  intro j y hj;by_cases hlt:j<N
  ·rw[b9 (by simpa using hlt)]at hj;rcases BD j y hj with h|⟨h1,h2⟩
   ·exact .inl h
   ·exact .inr (.inl ⟨h1,hlt,h2⟩)
  ·rw[bE (by simpa using hlt)]at hj;exact .inr (.inr ⟨j-N,by omega,by simpa using hj⟩)
 have kk:jP w w Θ Θ (id+2):=jP.refl hs.own (by omega);have wV:=hs.qJ kk hn hu;have hone:∀(j:Nat) u,κ' j=some u->u.oneCell'=true:=by
  intro j u hj;simp only[κ']at hj;split at hj
  ·exact hs.qR j u hj
  ·have hjl:j-N<(wD st.H.length r).2.length:=by rw[<-q1];exact(aH.1 hj).1
   obtain⟨_,u',_,_,r2,r3,_⟩:=q4 (j-N) _ (ai hjl);rw[hj]at r2;cases r2;exact r3
 have Uu:∀b∈c1,Θ b=0:=fun b hb=>(hu.free b (by rw[hρ b (by simp[hb])];omega)).1
 have hs':eE Γ ⟨st.σ,st.H.set id (.row (.mv (i+1)) e sz rows)++(wD st.H.length r).2⟩ κ' Θ a w:=by
  refine hs.step kk hs.mine hn (fun j hj=>?_) hone (fun j y hj=>?_) ⟨ρ',fun b hb=>?_,fun j e2 XI fT hj=>?_,fun j y hj=>?_⟩
  ·simp only[aX,bZ]at hj;simp only[κ'];rw[bH (by omega)];exact ck (by rw[q1];exact Nat.le_sub_of_add_le' hj)
  ·rcases key j y hj with⟨rfl,rfl⟩|⟨h1,h2,h3⟩|⟨m,rfl,hm⟩
   ·exact .inr (.inr ⟨a79,hrl,_,cs0,bs0,hn _ _ hk,a5Y,aCU,hΘ,AE⟩)
   ·exact .inr (.inl ⟨by omega,h3⟩)
   ·obtain⟨dN,u,b,rfl,r2,r3,r4,r5⟩:=q4 m y hm;exact .inr (.inr ⟨u,b,hk' m u r2,r5,fun x hx'=>Uu x (by rw[<-q3];exact dW.2 ⟨b,aC r4,hx'⟩)⟩)
  ·by_cases hb':b∈c1
   ·exact wV.1 b (by rw[hρ b (by simp[hb'])];omega)
   ·rw[TA b hb']at hb;exact wV.1 b hb
  ·rcases key j _ hj with⟨_,h⟩|⟨h1,h2,h3⟩|⟨m,rfl,hm⟩
   ·cases h
   ·obtain⟨v',cs',bs',p1,p2,p3,p4,p5⟩:=wV.2.1 j e2 XI fT (by omega) h3;refine⟨v',cs',bs',p1,p2,p3,p4,fun b hb=>?_⟩;rw[TA b (fun hb'=>by have:=hρ b (by simp[hb']);have:=p5 b hb;omega)];exact p5 b hb
   ·obtain⟨_,_,_,h,_⟩:=q4 m _ hm;cases h
  ·rcases key j _ hj with⟨rfl,rfl⟩|⟨h1,h2,h3⟩|⟨m,rfl,hm⟩
   ·refine⟨_,cs,c2,hn _ _ hk,hown,?_,n2,fun b hb=>?_⟩
    ·have e1:cs.drop ((i+1)*sz)=v2:=by
      rw[kV,ni,<-gX,QV];exact fX l1
     rw[e1];exact k2
    ·rw[TA b (fun hb'=>n3 b hb' b hb rfl)];exact hρ b (by simp[hb])
   ·refine(wV.2.2 j y (by omega) h3).re fun b hb=>?_
    rw[TA b (fun hb'=>by have:=hρ b (by simp[hb']);omega)];exact hb
   ·obtain⟨dN,u,b,rfl,r2,r3,r4,r5⟩:=q4 m y hm;have hsub:∀x∈b,ρ' x=N+m+1:=fun x hx'=>a9c m b x r4 hx'
    have aBq:b.Nodup:=by
     have a7f:∀(L:List aa),L.flatten.Nodup->∀x∈L,x.Nodup:=by
      intro L
      induction L with
      |nil=>intro _ x hx';cases hx'
      |cons z L ih=>
       intro hnd x hx';simp only[eO]at hnd;obtain⟨m1,m2,_⟩:=bN.1 hnd;rcases bM.1 hx' with rfl|hx'
       ·exact m1
       ·exact ih m2 x hx'
     exact a7f L a8t b (aC r4)
    exact⟨u,b,hk' m u r2,r5,aBq,hsub⟩
 refine hK _ _ (h κ' Θ _ w (hs'.set (t:=t) ht (.v (.agg v1 _ [] (q5 κ' hk'))) (by simp)))
theorem E2{o:Oper}{t:Nat}{d:D}{A A':List An}{p:E3}(hd:o.dst=some t)(hg:o.guard=none)(ht:t<Γ.nt)(hv:Js P st o.op A=some (d,A',p))(hp:zE p)(h:AO P Γ all rest Q ⟨(t,d)::st.σ,st.H⟩):
 AO P Γ all (o::rest) Q st:=a5H hd hg ht (Yh hv hp) h
theorem Yn{o:Oper}{s id e sz:Nat}{k:RK}{rows:List aR}(hx:lk st.σ s=.acc id)(hH:st.H[id]?=some (.row k e sz rows))(hk:k.TU=true)
 (h:AO P Γ all (o::rest) Q ⟨(s,.sl rows)::st.σ,st.H.set id .gone⟩):AO P Γ all (o::rest) Q st:=by
 intro κ Θ a w hs;obtain⟨ρ,hu⟩:=hs.wE;obtain⟨Θ',ρ',hs',_,⟨v,bs,hkm,hrd,hz,_⟩,_⟩:=hs.a7k hu hH hk;obtain⟨bx,rx,_⟩:=hs.slot s;rw[hx]at rx;obtain⟨hkx,_⟩:=rx.xR;have hv:a.tmps.getD s undef=v:=by rw[hkm]at hkx;cases hkx;rfl
 refine h κ Θ' a w ⟨hs'.defers,hs'.size,hs'.rD,hs'.qR,fun u=>?_,hs'.ob,hs'.own,hs'.old,hs'.mine,hs'.stays,hs'.wE⟩;show∃bs,tQ w κ (a.tmps.getD u undef) (if u=s then .sl rows else lk st.σ u) bs/\_;by_cases wV:u=s
 ·subst wV;rw[bP rfl,hv];exact⟨bs,.of hrd,hz⟩
 ·rw[bH wV];exact hs'.slot u
theorem sC(c:Call){callee:Callee}{xs:List Operand}{ts:List TypeId}(h1:c.callee=callee)(h2:c.args.toList=xs)(h3:c.argTypes.toList=ts):c= {callee:=callee,args:=xs.toArray,argTypes:=ts.toArray}:=by
 cases c;simp only at h1 h2 h3;subst h1;subst h2;subst h3;simp
theorem TM{H H':bU}{A A':List An}{p:E3}{σ:List (Nat×D)}(h:Wt H A=some (H',A',p))(hp:zE p)(hn:AO P Γ all rest Q ⟨σ,H'⟩):AO P Γ all rest Q ⟨σ,H⟩:=by
 unfold Wt at h;split at h
 ·split at h
  ·rename_i sz rows u p' n hH;split at h
   ·rename_i XI fT u2 d hN hc;cases h;have he:=hp.2.1;subst he;exact a0c (st:=⟨σ,H⟩) hH hN hp.1 hc hn
   ·cases h
  ·cases h
 ·cases h;exact hn
theorem Sf{o:Oper}{A A':List An}{xQ:St}{p:E3}{nt:Nat}(hnt:Γ.nt=nt)(hg:o.guard=none)(h:KE P nt o st A=some (xQ,A',p))(hp:zE p)(hn:AO P Γ all rest Q xQ):AO P Γ all (o::rest) Q st:=by
 subst hnt;unfold KE at h;split at h
 ·rename_i T x t hop hd;split at h
  ·split at h
   ·cases h;exact a6S hop hd hg (by assumption) (by assumption) hn
   ·cases h
  ·cases h
 ·rename_i T t hop hd;split at h
  ·split at h
   ·cases h;exact a0T hop hd hg (by assumption) (by assumption) hn
   ·cases h
  ·cases h
 ·rename_i T x y hop hd;split at h
  ·rename_i id off ds h1 h2;split at h
   ·rename_i ob h3;split at h
    ·rename_i cells h4;split at h
     ·rename_i hc;cases h;exact a0e hop hd hg h1 h3 h4 h2 hc.1 hc.2.1 hc.2.2 hn
     ·cases h
    ·cases h
   ·cases h
  ·rename_i id i sz off ds h1 h2;split at h
   ·rename_i sz' rows u _ r A1 h3;split at h
    ·rename_i hc;obtain⟨c1,c2,c3,rfl,c5,c6⟩:=hc;cases h;exact Yo hop hd hg h1 h3 hp.1 h2 c6 c1 c2 c3 c5 hn
    ·cases h
   ·rename_i k e sz' rows es ms r A1 h3 h4;split at h
    ·rename_i hc;obtain⟨c1,c2,rfl,c4,c5,c6,c7⟩:=hc;cases h;exact U7 hop hd hg h1 h3 c4 hp.1 h2 h4 c6 c7 c1 c2 c5 hn
    ·cases h
   ·cases h
  ·cases h
 ·rename_i T t hop hd;split at h
  ·cases h;exact Vq hop hd hg (by assumption) hn
  ·cases h
 ·rename_i T x i y hop hd;split at h
  ·rename_i kd dz id m A1 h1 h2;split at h
   ·rename_i kv h3;split at h
    ·rename_i hc;cases h;exact Se hop hd hg h1 h2 h3 hc.1 hc.2 hp.1 hn
    ·cases h
   ·cases h
  ·cases h
 ·rename_i T x y t hop hd;split at h
  ·rename_i e sz k n k' n' h1 h2 h3;split at h
   ·rename_i zs h4;split at h
    ·rename_i hc;cases h;obtain⟨⟨rfl,q2,q3,q4⟩,_⟩:=hp;exact Sd hop hd hg hc.1 h1 h4 hc.2 h2 h3 q2 q3 q4 hn
    ·cases h
   ·cases h
  ·cases h
 ·rename_i T len parts t hop hd;split at h
  ·rename_i e sz h1;split at h
   ·rename_i zs h2;split at h
    ·rename_i ds h3;split at h
     ·rename_i es ms h4;split at h
      ·rename_i hc;cases h;exact RI hop hd hg hc.1 h1 h2 hc.2.1 hc.2.2.1 h3 h4 hc.2.2.2 hn
      ·cases h
     ·cases h
    ·cases h
   ·cases h
  ·cases h
 ·rename_i c t hop hd;split at h
  ·rename_i s x T T' h1 h2 h3;split at h
   ·rename_i e sz h4;split at h
    ·rename_i zs rows u1 k1 fT u2 k2 A1 ow h5 h6 h7;split at h
     ·rename_i hc;obtain⟨c1,c2,rfl,c4⟩:=hc;cases h;obtain⟨⟨q1,q2⟩,q3⟩:=hp;exact a6R (hop.trans (congrArg Op.call (sC c h1 h2 h3))) hd hg c1 h4 h5 c2 h6 h7 q3 c4 q1 q2 hn
     ·cases h
    ·cases h
   ·cases h
  ·rename_i x T h1 h2 h3;split at h
   ·rename_i id sz rows u h4;obtain⟨h5,h6⟩:=Qf h4;split at h
    ·rename_i hc;cases h;exact a3g (hop.trans (congrArg Op.call (sC c h1 h2 h3))) hd hg hc.1 hc.2 h5 h6 hn
    ·cases h
   ·split at h
    ·split at h
     ·rename_i d A1 ow h4;cases h;exact E2 hd hg (by assumption) h4 hp hn
     ·cases h
    ·cases h
  ·rename_i f xs ts h1;split at h
   ·rename_i ms outs d A1 h4;split at h
    ·rename_i ins h5;split at h
     ·rename_i hc;obtain⟨c1,c2,c3⟩:=hc;split at h
      ·rename_i H' A2 ow h6;cases h;exact a0a (hop.trans (congrArg Op.call (sC c h1 rfl rfl))) hd hg c1 c2 h5 (by simpa using c3) (by simpa using hp.1) (TM h6 hp.2 hn)
      ·cases h
     ·cases h
    ·cases h
   ·rename_i nz cells' d A1 h4;split at h
    ·rename_i x0 xr h5;split at h
     ·rename_i id h6;split at h
      ·rename_i ob h7;split at h
       ·rename_i Nx h8;split at h
        ·rename_i cells ds ms qs h9;split at h
         ·rename_i hc;obtain⟨c1,c2,c3⟩:=hc;cases h;exact a0Z (hop.trans (congrArg Op.call (sC c h1 rfl rfl))) hd hg c1 (by simpa using h5) h6 h7 h8 h9 c2 c3 hp.1 hn
         ·cases h
        ·cases h
       ·cases h
      ·cases h
     ·cases h
    ·cases h
   ·rename_i ds ms cells A1 h4;split at h
    ·rename_i hc;obtain⟨c1,rfl⟩:=hc;cases h;exact a0X (hop.trans (congrArg Op.call (sC c h1 rfl rfl))) hd hg c1 (by simpa using h4) hp.1 hn
    ·cases h
   ·rename_i ds ms d A1 h4;split at h
    ·rename_i hc;cases h;exact a0U (hop.trans (congrArg Op.call (sC c h1 rfl rfl))) hd hg hc.1 (by simpa using h4) hc.2 hp.1 hn
    ·cases h
   ·rename_i id dN A1 h4;split at h
    ·rename_i e sz rows h5;split at h
     ·rename_i hc;obtain⟨c1,c3⟩:=hc;cases h;exact a0Y (hop.trans (congrArg Op.call (sC c h1 rfl rfl))) hd hg c1 h5 hp.1 (by simpa using c3) (by simpa using hp.2.1) hn
     ·cases h
    ·cases h
   ·rename_i id dN A1 h4;split at h
    ·rename_i x k e sz rows h5 h6;split at h
     ·rename_i id' h7;split at h
      ·rename_i hc;obtain⟨c1,rfl,c3⟩:=hc;cases h;have e1:c.args= #[x]:=by rw[<-wG];simpa using h5
       refine a0W (ts:=c.argTypes) (hop.trans (congrArg Op.call ?_)) (fun t' ht'=>?_) hg h7 h6 c3 hp.1 hp.2.1 ?_
       ·rw[<-e1];exact sC c h1 rfl rfl
       ·rw[hd]at ht';cases ht';exact c1
       ·rw[hd];exact hn
      ·cases h
     ·cases h
    ·cases h
   ·rename_i ds ms d A1 h4;split at h
    ·rename_i hc;cases h;exact a3d (hop.trans (congrArg Op.call (sC c h1 rfl rfl))) hd hg hc.1 (by simpa using h4) hc.2 hp.1 hn
    ·cases h
   ·rename_i d A1;split at h
    ·rename_i hc;cases h;exact a0V (hop.trans (congrArg Op.call (sC c h1 rfl rfl))) hd hg hc.1 (by simpa using hc.2) (by simpa using hp.1) hn
    ·cases h
   ·cases h
  ·split at h
   ·split at h
    ·rename_i d A1 ow h4;cases h;exact E2 hd hg (by assumption) h4 hp hn
    ·cases h
   ·cases h
 ·rename_i s d x t hop hd;split at h
  ·rename_i id h1;split at h
   ·rename_i k e' sz' rows e sz h2 h3;split at h
    ·rename_i bs h4;split at h
     ·rename_i hc;obtain⟨c1,rfl,c3,c4⟩:=hc;cases h;exact a3e hop hd hg c1 h1 h2 h3 c3 c4 h4 hn
     ·cases h
    ·cases h
   ·cases h
  ·split at h
   ·split at h
    ·rename_i d A1 ow h4;cases h;exact E2 hd hg (by assumption) h4 hp hn
    ·cases h
   ·cases h
 ·rename_i x t hop hd;split at h
  ·rename_i A1;split at h
   ·rename_i e sz h1 h2;split at h
    ·rename_i hc;cases h;exact a6V hop hd hg hc.1 h1 hc.2 hn
    ·cases h
   ·cases h
  ·split at h
   ·cases h;exact a5H hd hg (by assumption) (by rw[hop];rfl) hn
   ·cases h
 ·rename_i T x hi t hop hd;split at h
  ·rename_i id h1;split at h
   ·rename_i e sz rows e' sz' kk n hh A1 h2 h3 h4;split at h
    ·rename_i hc;obtain⟨c1,rfl⟩:=hc;cases h;exact a3f hop hd hg c1 h3 h1 h2 (by rw[h4,hp.1.1]) hp.1.2 hn
    ·cases h
   ·cases h
  ·split at h
   ·split at h
    ·rename_i d A1 ow h4;cases h;exact E2 hd hg (by assumption) h4 hp hn
    ·cases h
   ·cases h
 ·rename_i T s lo t hop hd;split at h
  ·rename_i A0 id h1;split at h
   ·rename_i k e sz rows h2;split at h
    ·rename_i hc;split at h
     ·rename_i d A1 ow h4;cases h;exact Yn h1 h2 hc.2 (E2 hd hg hc.1 h4 hp hn)
     ·cases h
    ·cases h
   ·cases h
  ·split at h
   ·split at h
    ·rename_i d A1 ow h4;cases h;exact E2 hd hg (by assumption) h4 hp hn
    ·cases h
   ·cases h
 ·rename_i T x i t hop hd;split at h
  ·rename_i id sz rows u h1;obtain⟨h2,h3⟩:=Qf h1;split at h
   ·rename_i e sz' k n m A1 h4 h5;split at h
    ·rename_i hc;obtain⟨c1,rfl⟩:=hc;cases h;exact a6T hop hd hg c1 h4 h2 h5 h3 hp.1.1 hp.1.2 hn
    ·cases h
   ·cases h
  ·split at h
   ·split at h
    ·rename_i d A1 ow h4;cases h;exact E2 hd hg (by assumption) h4 hp hn
    ·cases h
   ·cases h
 ·rename_i T x t hop hd;split at h
  ·rename_i id i off sz rows u h1;obtain⟨h2,h3⟩:=Wp h1;split at h
   ·rename_i r A1 h4;split at h
    ·rename_i fT h5;split at h
     ·rename_i e XI h6;split at h
      ·rename_i hc;cases h;exact a0d hop hd hg hc h4 h2 h3 hp.1 h5 hp.2.1 hn
      ·cases h
     ·cases h
    ·rename_i d _ h5;split at h
     ·rename_i hc;cases h;exact a0b hop hd hg hc.1 h4 h2 h3 hp.1 h5 hc.2 hn
     ·cases h
    ·cases h
   ·cases h
  ·split at h
   ·rename_i r A1 id i sz h1;split at h
    ·rename_i n e sz' rows h2;split at h
     ·rename_i hc;obtain⟨c1,rfl,c3,c4⟩:=hc;cases h;obtain⟨⟨rfl,q2,q3⟩,_⟩:=hp;exact a3h hop hd hg c1 h1 h2 q2 c3 c4 q3 hn
     ·cases h
    ·cases h
   ·split at h
    ·split at h
     ·rename_i d A1 ow h4;cases h;exact E2 hd hg (by assumption) h4 hp hn
     ·cases h
    ·cases h
 ·split at h
  ·split at h
   ·rename_i d A1 ow h4;cases h;exact E2 (by assumption) hg (by assumption) h4 hp hn
   ·cases h
  ·cases h
 ·cases h
theorem a2v{o:Oper}{A A':List An}{xQ:St}{p:E3}{nt:Nat}(hnt:Γ.nt=nt)(h:KE P nt o st A=some (xQ,A',p)):∀ {t:Nat},o.dst=some t->t<Γ.nt:=by
 intro t ht;subst hnt;unfold KE at h;split at h
 all_goals first
  | (rename_i hd;rw[ht]at hd;cases hd;done)
  |skip
 all_goals(try(rename_i hd;rw[ht]at hd;cases hd))
 all_goals(repeat' split at h)
 all_goals(try cases h)
 all_goals first
  |assumption
  | (
   have hc:_/\_:=by assumption
   exact hc.1)
  | (simp_all;done)
end
end Go.Cx

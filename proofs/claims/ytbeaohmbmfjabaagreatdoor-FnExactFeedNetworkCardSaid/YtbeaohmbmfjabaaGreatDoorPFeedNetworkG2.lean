/- Regions whose order is drawn: where each operation of the head only computes or calls a function that leaves what was there as it was, every order gives the state of the text's order. No condition; plain lemmas. -/
import Derived.Test.YtbeaohmbmfjabaaGreatDoorPFeedNetworkG1
import Derived.StillTail
import Derived.MapKept
import Derived.Laws.BytesArg
set_option linter.unusedVariables false
set_option linter.unusedSimpArgs false
namespace Go.Cx
open Go.RowKit
abbrev p9:=List Fs
section
variable{P:Program}{Γ:vn}{Q:Exit->St->Prop}{st:St}{κ:Nat->Option Value}{Θ:Nat->Nat}{a:Act}{w:World}{all:Array Oper}
def Ext(H H':bW):Prop:=∀(i:Nat) o,H[i]?=some o->H'[i]?=some o
theorem Uy(σ:List (Nat×D))(H H':bW)(x:Operand):St.ev ⟨σ,H⟩ x=St.ev ⟨σ,H'⟩ x:=by cases x<;>rfl
theorem Tq{σ σ':List (Nat×D)}{H H':bW}{op:Op}{d:D}(hx:Ext H H')(he:∀x∈op.operands.toList,St.ev ⟨σ,H⟩ x=St.ev ⟨σ',H'⟩ x)(h:pv P ⟨σ,H⟩ op=some d):pv P ⟨σ',H'⟩ op=some d:=by
 have hm:∀(o:Option Operand),(∀x∈o.toArray.toList,St.ev ⟨σ,H⟩ x=St.ev ⟨σ',H'⟩ x)->o.map (St.ev ⟨σ,H⟩)=o.map (St.ev ⟨σ',H'⟩):=by
  intro o h;cases o with
  |none=>rfl
  |some x=>simp[h x (by simp)]
 cases op<;>simp only[pv]at h⊢ <;>(try cases h)
 case move x=>rw[he x (by simp[Op.operands])]at*
 case assign x=>rw[he x (by simp[Op.operands])]at*
 case nilCheck x=>rw[he x (by simp[Op.operands])]at h;exact h
 case pick c x y=>rw[he c (by simp[Op.operands]),he x (by simp[Op.operands]),he y (by simp[Op.operands])]at h;exact h
 case binOp op t x y t'=>rw[he x (by simp[Op.operands]),he y (by simp[Op.operands])]at h;exact h
 case unOp op t x=>cases op<;>simp only[pv]at h⊢ <;>(try cases h)<;>(rw[he x (by simp[Op.operands])]at h;exact h)
 case convert s d x=>rw[he x (by simp[Op.operands])]at h;exact h
 case field t x f=>rw[he x (by simp[Op.operands])]at h;exact h
 case fieldAddr t x f=>rw[he x (by simp[Op.operands])]at h;exact h
 case indexAddr t x i=>
  rw[he x (by simp[Op.operands]),he i (by simp[Op.operands])]at h;split at h
  ·rename_i e sz rows kk n h1 h2 h3
   (try simp only[h1,h2,h3]);exact h
  ·rename_i e sz id kk n h1 h2 h3
   (try simp only[h1,h2,h3])
   split at h
   ·rename_i k e' sz' rows hH;simp only[hx id _ hH];exact h
   ·cases h
  ·rename_i g o' kk n h1 h2
   (try simp only[h1,h2])
   generalize IZ P t=q at h⊢;cases q<;>exact h
  ·cases h
 case load t x=>
  rw[he x (by simp[Op.operands])]at h;split at h
  ·rename_i ag row off h1 h2
   (try simp only[h1,h2]);exact h
  ·rename_i ag id off h1 h2
   (try simp only[h1,h2])
   split at h
   ·rename_i cells hH;obtain⟨ob,hH,CH⟩:=oJ.1 hH;simp only[hx id _ hH,aA,CH];exact h
   ·cases h
  ·rename_i ag id i sz off h1 h2
   (try simp only[h1,h2])
   split at h
   ·rename_i k e' sz' rows hH;simp only[hx id _ hH];exact h
   ·cases h
  ·rename_i ag g o' h1 h2
   (try simp only[h1,h2]);exact h
  ·cases h
 case lookup T x i ok=>
  rw[he x (by simp[Op.operands]),he i (by simp[Op.operands])]at h;split at h
  ·rename_i id h1
   (try simp only[h1])
   split at h
   ·rename_i kv hH;simp only[hx id _ hH];exact h
   ·cases h
  ·cases h
 case extract x i=>rw[he x (by simp[Op.operands])]at h;exact h
 case index t x i=>rw[he x (by simp[Op.operands]),he i (by simp[Op.operands])]at h;exact h
 case slice t x lo hi mx=>
  cases mx with
  |none=>
   simp only[pv]at h⊢;rw[he x (by simp[Op.operands]),hm lo (fun y hy=>he y (by simp only[Op.operands,mG,au];exact .inl (.inl (.inr hy)))),
    hm hi (fun y hy=>he y (by simp only[Op.operands,mG,au];exact .inl (.inr hy)))]at h
   exact h
  |some m=>simp only[pv]at h;cases h
 case build t parts=>
  have:(parts.toList.map fun p=>(p.1,St.ev ⟨σ,H⟩ p.2))=parts.toList.map fun p=>(p.1,St.ev ⟨σ',H'⟩ p.2):=by
   apply mI;intro p hp;rw[he p.2 (by simp only[Op.operands];simp;exact⟨p.1,by simpa using hp⟩)]
  rw[this]at h;exact h
 case call c=>
  split at h
  ·rename_i x t h1 h2 h3;have hxm:x∈(Op.call c).operands.toList:=by
    simp only[Op.operands,Call.operands,mG,au,h2];exact .inr (by simp)
   (try simp only[h1,h2,h3])
   unfold a5H at h⊢;rw[he x hxm]at h;split at h
   ·rename_i s hs;(try simp only[hs]);exact h
   ·rename_i rows hs;(try simp only[hs]);exact h
   ·rename_i hs;(try simp only[hs]);exact h
   ·rename_i id hs
    (try simp only[hs])
    split at h
    ·rename_i kk k e sz rows h4 h5;simp only[h4,hx id _ h5];exact h
    ·cases h
   ·cases h
  ·rename_i x y t t' h1 h2 h3;have hxm:x∈(Op.call c).operands.toList:=by
    simp only[Op.operands,Call.operands,mG,au,h2];exact .inr (by simp)
   have hym:y∈(Op.call c).operands.toList:=by
    simp only[Op.operands,Call.operands,mG,au,h2];exact .inr (by simp)
   (try simp only[h1,h2,h3])
   rw[he x hxm,he y hym]at h;exact h
  ·cases h
theorem Vx{H H':bW}(hx:Ext H H'){d e:D}{ms:af}(h:vwC H d=some (e,ms)):vwC H' d=some (e,ms):=by
 cases d<;>simp only[vwC]at h⊢ <;>(try exact h)
 split at h
 ·rename_i k e' sz rows hH;simp only[hx _ _ hH];exact h
 ·rename_i sz rows u hH;simp only[hx _ _ hH];exact h
 ·rename_i rows hH;simp only[hx _ _ hH];exact h
 ·cases h
theorem a0T{H H':bW}(hx:Ext H H'):∀ {ds es:aR} {ms:af},Vy H ds=some (es,ms)->Vy H' ds=some (es,ms):=by
 intro ds
 induction ds with
 |nil=>intro es ms h;exact h
 |cons d ds ih=>
  intro es ms h;simp only[Vy]at h⊢;split at h
  ·rename_i e m es' ms' h1 h2;rw[Vx hx h1,ih h2];exact h
  ·cases h
theorem a3f{H H':bW}(hx:Ext H H'){d e:D}{ms:af}(h:vwV H d=some (e,ms)):vwV H' d=some (e,ms):=by
 by_cases vu:∃ds,d=.agg ds
 ·obtain⟨ds,rfl⟩:=vu;simp only[vwV]at h⊢;split at h
  ·rename_i es ms' h1;rw[a0T hx h1];exact h
  ·cases h
 ·by_cases ht:∃vs,d=.gN vs
  ·obtain⟨vs,rfl⟩:=ht;simp[vwV]at h
  ·have e1:∀H,vwV H d=vwC H d:=by intro H;cases d<;>first|rfl|exact absurd ⟨_,rfl⟩ vu|exact absurd ⟨_,rfl⟩ ht
   rw[e1]at h⊢;exact Vx hx h
theorem a0U{H H':bW}(hx:Ext H H'):∀ {ds es:aR} {ms:af},MH H ds=some (es,ms)->MH H' ds=some (es,ms):=by
 intro ds
 induction ds with
 |nil=>intro es ms h;exact h
 |cons d ds ih=>
  intro es ms h;simp only[MH]at h⊢;split at h
  ·rename_i e m es' ms' h1 h2;rw[a3f hx h1,ih h2];exact h
  ·cases h
structure Cp where
 t:Option Nat
 d:D
 r:Nat
 obs:bW
 up:Option (Nat×Ob)
def Looks(H:bW)(vs ds:aR)(ms:af):Prop:=MH H vs=some (ds,ms)\/(vs.all PC=true/\ds=vs/\ms=[])
def OB(P:Program)(H:bW)(σ:List (Nat×D))(o:Oper)(p:Cp):Prop:=
 (pv P ⟨σ,H⟩ o.op=some p.d/\p.obs=[])\/∃(f:FuncId) (xs:Array Operand) (ts:Array TypeId) (ds:aR) (ms:af) (d:D),o.op=.call {callee:=.value (.func f),args:=xs,argTypes:=ts}/\
  Looks H (xs.toList.map (St.ev ⟨σ,H⟩)) ds ms/\(ms=[]\/d.RD=true)/\Good P f ds d/\(rU p.r d=(p.d,p.obs)\/(d.a8B=true/\p.d=d.shV/\p.obs=[]))
def Sy(P:Program)(H:bW)(σ:List (Nat×D))(o:Oper)(p:Cp):Prop:=
 (∃T zs,o.op=.alloc T/\tz P T=some zs/\p.d=.ptr p.r 0/\p.obs=[.box zs])\/∃T x ds,o.op=.box T x/\(St.ev ⟨σ,H⟩ x).cellsOf=some ds/\p.d=.ptr p.r 0/\p.obs=[.box ds]
def T0(P:Program)(H:bW)(σ:List (Nat×D))(o:Oper)(p:Cp):Prop:=
 ∃T e sz len parts zs ds es,o.op=.buildSlice T len parts/\IZ P T=some (e,sz)/\tz P e=some zs/\0<sz/\len*sz<=16777216/\
  AM (vS len sz) (List.replicate len zs).flatten (parts.toList.map fun q=>(q.1,St.ev ⟨σ,H⟩ q.2))=some ds/\OE H ds=some (es,[])/\p.d=.acc p.r/\p.obs=[.row (BO (ds.all (Z1 H))) e sz (chunk sz len es)]
def Sz(P:Program)(H:bW)(σ:List (Nat×D))(o:Oper)(p:Cp):Prop:=
 ∃T e sz len parts zs ds,o.op=.buildSlice T len parts/\IZ P T=some (e,sz)/\tz P e=some zs/\0<sz/\len*sz<=16777216/\
  AM (vS len sz) (List.replicate len zs).flatten (parts.toList.map fun q=>(q.1,St.ev ⟨σ,H⟩ q.2))=some ds/\ds.all D.UN=true/\ds.all D.flat=true/\p.d=.sl (chunk sz len ds)/\p.obs=[]
def MP(P:Program)(H:bW)(σ:List (Nat×D))(o:Oper)(p:Cp):Prop:=OB P H σ o p\/Sy P H σ o p\/T0 P H σ o p\/Sz P H σ o p
def a96(P:Program)(Γ:vn)(all:Array Oper)(H:bW)(σ:List (Nat×D))(o:Oper)(p:Cp):Prop:=
 ∃t,p.t=some t/\p.up=none/\o.dst=some t/\t<Γ.nt/\((o.guard=none/\MP P H σ o p)\/
  (∃(j s:Nat) (want b:Bool),o.guard=some (j,want)/\(all[j]?).bind (·.dst)=some s/\lk σ s=.bool b/\((b=want/\MP P H σ o p)\/(b≠want/\p.d=.gN []/\p.obs=[])))\/
  ∃(j s:Nat) (want:Bool),o.guard=some (j,want)/\(all[j]?).bind (·.dst)=some s/\lk σ s=.gN []/\p.d=.gN []/\p.obs=[])
def a95(P:Program)(H:bW)(σ:List (Nat×D))(o:Oper)(p:Cp):Prop:=
 p.t=none/\p.obs=[]/\o.dst=none/\o.guard=none/\∃T x y id ds,o.op=.store T x y/\St.ev ⟨σ,H⟩ x=.ptr id 0/\H.length<=id/\(St.ev ⟨σ,H⟩ y).cellsOf=some ds/\U8 P T=true/\ds.length=BY P T/\p.up=some (id,.box ds)
def w8(P:Program)(Γ:vn)(all:Array Oper)(H:bW)(σ:List (Nat×D))(o:Oper)(p:Cp):Prop:=a96 P Γ all H σ o p\/a95 P H σ o p
def Cp.slot(p:Cp)(σ:List (Nat×D)):List (Nat×D):=match p.t with|some t=>(t,p.d)::σ|none=>σ
def Cp.fill(n:Nat)(p:Cp)(acc:bW):bW:=match p.up with|some (id,ob)=>acc.set (id-n) ob|none=>acc++p.obs
def Cp.aB5(n:Nat)(p:Cp)(U:af)(acc:bW):Prop:=match p.up with|some (id,ob)=>id∉U/\n<=id/\∃zs ds,acc[id-n]?=some (.box zs)/\ob=.box ds/\zs.length=ds.length|none=>True
def Cp.ups(p:Cp)(U:af):af:=match p.up with|some (id,_)=>id::U|none=>U
def P0(P:Program)(Γ:vn)(all:Array Oper)(H:bW)(K:List (Nat×D)->bW->Prop):List Oper->List (Nat×D)->bW->af->Prop
 | [],σ,acc,_=>K σ acc
 |o::os,σ,acc,U=>∃p:Cp,p.r=H.length+acc.length/\w8 P Γ all H σ o p/\p.aB5 H.length U acc/\P0 P Γ all H K os (p.slot σ) (p.fill H.length acc) (p.ups U)
theorem CG{Q':Exit->Act->World->Prop}{ops:Array Oper}{i:Nat}{o:Oper}{K:Act->World->Prop}(hi:ops[i]?=some o)(hw:Region.wanted o (yielded ops a.tmps)=true)(h:o.wp P a w K Q'):wpOp P ops Q' i K a w:=by
 unfold wpOp;simp only[hi,hw,sL];exact .inl h
theorem eO.a8o(hs:eO Γ st κ Θ a w){ops:Array Oper}{j s:Nat}{b:Bool}(hj:(ops[j]?).bind (·.dst)=some s)(hb:lk st.σ s=.bool b):yielded ops a.tmps j=some b:=by
 obtain⟨bs,r,_⟩:=hs.slot s;rw[hb]at r;have hv:=r.yc;have hlt:s<a.tmps.size:=by
  rcases eR s a.tmps.size with h|h
  ·exact h
  ·exfalso;rw[cO,tu h]at hv;simp[undef]at hv
 have h1:a.tmps[s]?=some (.bool b):=by
  rw[cO,cR hlt]at hv;rw[cR hlt];simpa using hv
 simp[yielded,hj,h1]
theorem QX{st xf:St}{ops:Array Oper}{o:Oper}(h:∀t∈o.looksAt ops,lk st.σ t=lk xf.σ t):∀x∈o.op.operands.toList,st.ev x=xf.ev x:=by
 intro x hx;cases x with
 |tmp t=>
  refine h t ?_;unfold Oper.looksAt;exact au.2 (.inl (cF.2 ⟨.tmp t,hx,rfl⟩))
 |const v=>rfl
 |global g=>rfl
 |func f=>rfl
theorem I6(l:List (Nat×D))(σ:List (Nat×D))(t:Nat):(∀p∈l,p.1≠t)->lk (l++σ) t=lk σ t:=by
 induction l with
 |nil=>intro _;rfl
 |cons q l ih=>
  intro h;obtain⟨u,d⟩:=q;simp only[dR,lk];rw[bG (fun e=>h (u,d) (by simp) e.symm)];exact ih (fun p hp=>h p (by simp[hp]))
theorem M9(l:List (Nat×D))(σ:List (Nat×D))(p:Nat×D)(hp:p∈l)(hd:∀q∈l,q.1=p.1->q=p):lk (l++σ) p.1=p.2:=by
 induction l with
 |nil=>cases hp
 |cons q l ih=>
  obtain⟨u,d⟩:=q;simp only[dR,lk];by_cases e:p.1=u
  ·rw[bR e];have:=hd (u,d) (by simp) e.symm;rw[<-this]
  ·rw[bG e];rcases bM.1 hp with rfl|hp
   ·exact absurd rfl e
   ·exact ih hp (fun q hq=>hd q (by simp[hq]))
def a1M(ops:Array Oper)(n:Nat):Bool:=
 decide (n<=ops.size)&&(decide (n=ops.size)||(decide (n<ops.size)&&(Region.sinkB .any ops n&&Region.chainB .any ops n)))&&
 Region.seqB .any ops (ops.size-n) n (Array.replicate n true++Array.replicate (ops.size-n) false)&&
 (List.range n).all fun i=>match ops[i]? with
  |none=>false
  |some o=>(o.after.all fun e=> !Region.binds .any e||decide (e.on<i))&&
   ((o.looksAt ops).all fun t=>(List.range n).all fun j=>match ops[j]? with|some oj=> !(oj.dst==some t)||(decide (j<i)&&Region.waitsFor .any ops i j)|none=>true)&&
   (List.range n).all fun j=>j==i||(match ops[j]? with|some oj=> !(oj.dst==o.dst)||o.dst.isNone|none=>true)
def place(H:bW)(r:Nat)(obs:bW):bW:=H.take r++(obs++H.drop (r+obs.length))
theorem wm{H:bW}{r:Nat}{obs:bW}(h:r+obs.length<=H.length)(j:Nat):(place H r obs)[j]?=if j<r then H[j]? else if j<r+obs.length then obs[j-r]? else H[j]?:=by
 unfold place;have hl:(H.take r).length=r:=by rw[cM];omega
 by_cases h1:j<r
 ·rw[bR h1,bA (by omega),cK,bR h1]
 ·rw[bG h1,bE (by omega),hl];by_cases h2:j<r+obs.length
  ·rw[bR h2,bA (by omega)]
  ·rw[bG h2,bE (by omega),eC]
   congr 1;omega
theorem wo{H:bW}{r:Nat}{obs:bW}(h:r+obs.length<=H.length):(place H r obs).length=H.length:=by
 unfold place;simp;omega
theorem OB.wp{Q':Exit->Act->World->Prop}{σ:List (Nat×D)}{H H':bW}{o:Oper}{p:Cp}{K:Act->World->Prop}(hs:eO Γ ⟨σ,H'⟩ κ Θ a w)(hx:Ext H H'){t:Nat}(hd:o.dst=some t)(ht:t<Γ.nt)(h:OB P H σ o p)
 (hr:p.r+p.obs.length<=H'.length) (hfree:∀i,i<p.obs.length->κ (p.r+i)=none)
 (hK:∀κ' Θ' a' w',eO Γ ⟨(t,p.d)::σ,place H' p.r p.obs⟩ κ' Θ' a' w'->(∀j,(j<p.r\/p.r+p.obs.length<=j)->κ' j=κ j)->K a' w'):o.wp P a w K Q':=by
 rcases h with⟨h,hno⟩|⟨f,xs,ts,ds,ms,d,hop,hds,hsh,pz,hi⟩
 ·have h':=Tq (σ:=σ) (σ':=σ) hx (fun x _=>Uy σ H H' x) h;obtain⟨v,bs,hrun,hrd,hz⟩:=IC hs h';unfold Oper.wp;rw[hrun,Oper.upon_value,hd];have hp:place H' p.r p.obs=H':=by rw[hno];simp[place]
  exact hK κ Θ _ _ (by rw[hp];exact hs.set ht hrd hz) (fun _ _=>rfl)
 ·have hev:xs.toList.map (St.ev ⟨σ,H⟩)=xs.toList.map (St.ev ⟨σ,H'⟩):=mI (fun x _=>Uy σ H H' x);have a7A:∃bs,Y3 w (xs.toList.map a.eval) ds bs/\∀b∈bs,Seen Θ ms b:=by
   rcases hds with hds|⟨hk,rfl,rfl⟩
   ·have:=a0U hx hds;rw[hev]at this;exact Q6 hs this
   ·rw[hev]at hk⊢;exact SR hs hk
  obtain⟨bs,hargs,hz⟩:=a7A;let Θc:Nat->Nat:=fun b=>if Θ b=0\/ms.any (fun m=>Θ b==m+2)then 0 else 1
  have P9:∀b,Seen Θ ms b->Θc b=0:=by
   intro b h;simp only[Θc];rw[bR];rcases h with h|⟨m,h1,h2⟩
   ·exact .inl h
   ·exact .inr (dQ.2 ⟨m,h1,by simp[h2]⟩)
  have hc:=pz.2 w Θc _ bs hs.vok hargs (fun b hb=>P9 b (hz b hb)) (fun b hb=>hs.own b (fun e=>hb (P9 b (.inl e)))) (fun b=>by simp only[Θc];split<;>omega);unfold Oper.wp;rw[AP hop pz.1,Oper.upon_enter];have e:xs.map a.eval=(xs.toList.map a.eval).toArray:=by rw[<-jG,ke]
  rw[e];refine hc.mono ?_;rintro e w' ⟨v,bs',tb,ub,rfl,hb,hr',Rc,htb,hnd,hfr,hsub⟩;show K (a.put o.dst v) w';rw[hd];rcases hi with hi|⟨hown,Wz,UM⟩
  rotate_left
  ·cases hr' with
   |gN=>cases hown
   |v hv=>
    have Hz:bs'=[]:=hv.own (by
     unfold D.a8B at hown;split at hown
     ·cases hown
     ·exact hown)
    obtain⟨b,q,s⟩:=hv.Ey;have hp:place H' p.r p.obs=H':=by rw[UM];simp[place]
    refine hK κ Θ _ w' ?_ (fun _ _=>rfl);rw[hp,Wz];refine(hs.grow hb).set ht (.v (.cell (.pure q))) fun x hx'=>?_
    rcases s x hx' with h|h
    ·rw[Hz]at h;cases h
    ·by_cases h0:Θ x=0
     ·exact h0
     ·have:=hs.own x h0;have:=(hfr x h).1;omega
  obtain⟨L,q1,q2,q3,q4,q5⟩:=hr'.inst p.r;rw[hi]at q1 q5;simp only at q1 q5;have hLl:L.length=p.obs.length:=by have:=congrArg List.length q1;simpa using this
  obtain⟨κ',Θ',hs',hnm,_,hno,hsame⟩:=hs.SQ hb L q2 (q3▸hnd) (fun b hb'=>hfr b (q3▸hb')) p.r (place H' p.r p.obs) (fun i hi'=>hfree i (by omega)) (by rw[wo hr];exact bS _) (by rw[wo hr];omega) (by
   intro j y hj;rw[wm hr]at hj;split at hj
   ·rename_i h1;exact .inr ⟨.inl h1,.inr hj⟩
   ·rename_i h1;split at hj
    ·rename_i h2;rw[<-q1,cA]at hj;cases hx':L[j-p.r]? with
     |none=>simp[hx']at hj
     |some x=>simp[hx']at hj;exact .inl ⟨j-p.r,x,by omega,hx',hj.symm⟩
    ·exact .inr ⟨.inr (by omega),.inr hj⟩)
  refine hK κ' Θ' _ w' (hs'.set (t:=t) ht (q5 κ' hnm) fun b hb'=>?_) (fun j hj=>hsame j (by omega));rw[hno b (q4▸htb b hb')];rcases hsh with TL|hown
  ·by_cases hlt:b<w.heap.size
   ·have h0:=Rc b hb' hlt;simp only[Θc,TL,MN]at h0;by_cases h1:Θ b=0
    ·exact h1
    ·simp[h1]at h0
   ·by_cases h0:Θ b=0
    ·exact h0
    ·exact absurd (hs.own b h0) hlt
  ·rw[hr'.own hown]at hb';cases hb'
theorem eO.VV{σ:List (Nat×D)}{H':bW}(hs:eO Γ ⟨σ,H'⟩ κ Θ a w){r:Nat}(hr:r+1<=H'.length)(hfree:κ r=none){cs:Array Value}{ds:aR}{bs:af}(T:TypeId)(hrd:fO w κ cs.toList ds bs)(hz:∀b∈bs,Θ b=0):
 eO Γ ⟨σ,place H' r [.box ds]⟩ (AX κ r (some (.pointer (some ⟨w.heap.size,0,none⟩)))) (fun b=>if b=w.heap.size then r+2 else Θ b) a (w.alloc (.cells cs T)):=by
 have k:=jW.alloc hs (.cells cs T) (tag:=r+2) (by omega);have hn:=zm hfree (some (Value.pointer (some ⟨w.heap.size,0,none⟩)));obtain⟨h1,h2⟩:=fO.stay k hn hrd hz;obtain⟨ρ,hu⟩:=hs.we;refine hs.put (id:=r) (o:=.box ds) [] ?_ hn ?_ ?_ k (hs.BW (fun b hb=>by by_cases e:b=w.heap.size<;>simp_all)) ?_ hu (by simp) (by intro e sz rows h;cases h)
 ·intro j y hj;rw[wm (by simpa using hr)]at hj;split at hj
  ·exact .inr ⟨by omega,hj⟩
  ·split at hj
   ·rename_i h2;simp only[aM,bK]at h2;have e:j=r:=by omega
    subst e;simp at hj;exact .inl ⟨rfl,hj.symm⟩
   ·rename_i h2;simp only[aM,bK]at h2;exact .inr ⟨by omega,hj⟩
 ·intro i hi;rw[wo (by simpa using hr)]at hi;unfold AX;rw[bG (by omega)];exact hs.rV i hi
 ·intro i x hx;unfold AX at hx;split at hx
  ·cases hx;rfl
  ·exact hs.qm i x hx
 ·exact⟨w.heap.size,cs,T,by simp[AX],heap_alloc_new w _,by simp,bs,h1,h2⟩
theorem Sy.wp{Q':Exit->Act->World->Prop}{σ:List (Nat×D)}{H H':bW}{o:Oper}{p:Cp}{K:Act->World->Prop}(hs:eO Γ ⟨σ,H'⟩ κ Θ a w){t:Nat}(hd:o.dst=some t)(ht:t<Γ.nt)(h:Sy P H σ o p)
 (hr:p.r+p.obs.length<=H'.length) (hfree:∀i,i<p.obs.length->κ (p.r+i)=none)
 (hK:∀κ' Θ' a' w',eO Γ ⟨(t,p.d)::σ,place H' p.r p.obs⟩ κ' Θ' a' w'->(∀j,(j<p.r\/p.r+p.obs.length<=j)->κ' j=κ j)->K a' w'):o.wp P a w K Q':=by
 rcases h with⟨T,zs,hop,hz,Wz,UM⟩|⟨T,x,ds,hop,hc,Wz,UM⟩
 ·rw[UM]at hr hfree hK;rw[Wz]at hK;obtain⟨i,z,hi,AT,hsz,hlen,hone,rfl⟩:=zf hz;have hs':=hs.VV (r:=p.r) hr (by simpa using hfree 0 (by simp)) T (cs:=z.cells) (Dv z.cells.toList hone) (by simp);unfold Oper.wp;have hrun:(execOp a.eval o).run P w=.ok (.value (.pointer (some ⟨w.heap.size,0,none⟩))) (w.alloc (.cells z.cells T)):=by
   simp[execOp,hop,Instr.alloc,zeroValue,typeInfo,hi,AT,newVar,newRow]
  rw[hrun,Oper.upon_value,hd];refine hK _ _ _ _ (hs'.set (t:=t) (d:=.ptr p.r 0) (bs:=[]) ht ?_ (by simp)) (fun j hj=>?_)
  ·exact(BU.ptr p.r 0 w.heap.size (by simp[AX])).UB
  ·unfold AX;simp only[aM,bK]at hj;rw[bG (by omega)]
 ·rw[UM]at hr hfree hK;rw[Wz]at hK;obtain⟨bs,rr,hz⟩:=hs.ev x;rw[Uy σ H' H x]at rr;have hcs:=DO hs.qm rr hc;have hs':=hs.VV (r:=p.r) hr (by simpa using hfree 0 (by simp)) T hcs hz;unfold Oper.wp;have hrun:(execOp a.eval o).run P w=.ok (.value (.pointer (some ⟨w.heap.size,0,none⟩))) (w.alloc (.cells (a.eval x).cells T)):=by
   simp[execOp,hop,Instr.box,newVar,newRow]
  rw[hrun,Oper.upon_value,hd];refine hK _ _ _ _ (hs'.set (t:=t) (d:=.ptr p.r 0) (bs:=[]) ht ?_ (by simp)) (fun j hj=>?_)
  ·exact(BU.ptr p.r 0 w.heap.size (by simp[AX])).UB
  ·unfold AX;simp only[aM,bK]at hj;rw[bG (by omega)]
theorem eO.a2Y{σ:List (Nat×D)}{H':bW}(hs:eO Γ ⟨σ,H'⟩ κ Θ a w){r:Nat}(hr:r+1<=H'.length)(hfree:κ r=none){u:Bool}{e sz cap:Nat}{rows:List aR}{bs:af}(cur:Array Value)(hsz:0<sz)(hrl:∀x∈rows,x.length=sz)
 (Qh:cur.size=cap*sz) (hn:rows.length<=cap) (hcap:cap<=maxLen) (hrd:mY w (cur.toList.take (rows.length*sz)) rows.flatten bs) (hz:∀b∈bs,Θ b=0) (hq:u=true->bs=[]):
 eO Γ ⟨σ,place H' r [.row (BO u) e sz rows]⟩ (AX κ r (some (.slice (some ⟨w.heap.size,0,none⟩) rows.length cap))) (fun b=>if b=w.heap.size then r+2 else Θ b) a (w.alloc (.cells cur e)):=by
 have k:=jW.alloc hs (.cells cur e) (tag:=r+2) (by omega);have hkn:=zm hfree (some (Value.slice (some ⟨w.heap.size,0,none⟩) rows.length cap));obtain⟨h1,h2⟩:=mY.over k hrd hz;have hlen:(cur.toList.take (rows.length*sz)).length=rows.length*sz:=by
  have:rows.length*sz<=cap*sz:=dX _ hn;have h3:cur.toList.length=cap*sz:=by rw[<-Qh];simp
  rw[cM,h3,fD this]
 have hown:(w.alloc (.cells cur e)).ownsRow 0 e sz (.slice (some ⟨w.heap.size,0,none⟩) rows.length cap) rows.length (cur.toList.take (rows.length*sz)):=
  ⟨hlen,.inr ⟨w.heap.size,cap,cur,rfl,by omega,heap_alloc_new w _,hn,hcap,Qh,rfl⟩⟩
 obtain⟨ρ,hu⟩:=hs.we;refine hs.put (id:=r) (o:=.row (BO u) e sz rows) [] ?_ hkn ?_ ?_ k (hs.BW (fun b hb=>by by_cases e:b=w.heap.size<;>simp_all)) ?_ hu (by simp) ?_
 ·intro j y hj;rw[wm (by simpa using hr)]at hj;split at hj
  ·exact .inr ⟨by omega,hj⟩
  ·split at hj
   ·rename_i h2;simp only[aM,bK]at h2;have e:j=r:=by omega
    subst e;simp at hj;exact .inl ⟨rfl,hj.symm⟩
   ·rename_i h2;simp only[aM,bK]at h2;exact .inr ⟨by omega,hj⟩
 ·intro i hi;rw[wo (by simpa using hr)]at hi;unfold AX;rw[bG (by omega)];exact hs.rV i hi
 ·intro i x hx;unfold AX at hx;split at hx
  ·cases hx;rfl
  ·exact hs.qm i x hx
 ·refine⟨hsz,hrl,_,_,bs,by simp[AX],hown,h1,?_,?_⟩
  ·intro g hg;simp only[Value.ownBlock,az]at hg;subst hg;simp
  ·cases u<;>exact h2
 ·intro e' sz' dP he;cases u with
  |false=>simp[BO]at he
  |true=>
   simp only[BO,Ob.row.injEq,w5]at he;obtain⟨rfl,rfl,rfl⟩:=he;have:=hq rfl;subst this;exact⟨_,_,[],by simp[AX],hown,h1,by simp,by simp⟩
theorem T0.wp{Q':Exit->Act->World->Prop}{σ:List (Nat×D)}{H H':bW}{o:Oper}{p:Cp}{K:Act->World->Prop}(hs:eO Γ ⟨σ,H'⟩ κ Θ a w)(hx:Ext H H'){t:Nat}(hd:o.dst=some t)(ht:t<Γ.nt)(h:T0 P H σ o p)
 (hr:p.r+p.obs.length<=H'.length) (hfree:∀i,i<p.obs.length->κ (p.r+i)=none)
 (hK:∀κ' Θ' a' w',eO Γ ⟨(t,p.d)::σ,place H' p.r p.obs⟩ κ' Θ' a' w'->(∀j,(j<p.r\/p.r+p.obs.length<=j)->κ' j=κ j)->K a' w'):o.wp P a w K Q':=by
 obtain⟨T,e,sz,len,parts,zs,ds,es,hop,hT,hz,hsz,hsmall,hf,habs,Wz,UM⟩:=h;rw[UM]at hr hfree hK;rw[Wz]at hK;have hf':AM (vS len sz) (List.replicate len zs).flatten (parts.toList.map fun q=>(q.1,St.ev ⟨σ,H'⟩ q.2))=some ds:=by
  rw[<-hf];congr 1
 obtain⟨arr,b0,hrun,Rn,hb0,hal,hdl⟩:=Bk (st:=⟨σ,H'⟩) hop hT hz hsz hsmall hf' hs;obtain⟨ρ,hu⟩:=hs.we;obtain⟨bs,q1,q2,q3⟩:=WR (H:=H) (ρ:=ρ) habs (by simp) Rn hb0 (by simp);have hel:es.length=len*sz:=by rw[<-q1.length,Rn.length,hdl]
 obtain⟨c1,c2,c3⟩:=GP sz len es hel;have hs':=hs.a2Y (r:=p.r) hr (by simpa using hfree 0 (by simp)) (u:=ds.all (Z1 H)) (e:=e) (sz:=sz) (cap:=len) (rows:=chunk sz len es) (bs:=bs) arr hsz c3 hal (by rw[c1];exact bS _)
  (by unfold maxLen;have:len*1<=len*sz:=eP _ hsz;omega) (by rw[c1,c2,pQ (by simp[hal])];exact q1) q2
  (fun hq=>by
   obtain⟨_,h2⟩:=q3 hq;cases bs with
   |nil=>rfl
   |cons b bs=>obtain⟨m,hm,_⟩:=h2 b (by simp);cases hm)
 unfold Oper.wp;rw[hrun,Oper.upon_value,hd];rw[c1]at hs';refine hK _ _ _ _ (hs'.set (t:=t) (d:=.acc p.r) (bs:=[]) ht ?_ (by simp)) (fun j hj=>?_)
 ·exact(BU.acc p.r _ (by simp[AX])).UB
 ·unfold AX;simp only[aM,bK]at hj;rw[bG (by omega)]
theorem Sz.wp{Q':Exit->Act->World->Prop}{σ:List (Nat×D)}{H H':bW}{o:Oper}{p:Cp}{K:Act->World->Prop}(hs:eO Γ ⟨σ,H'⟩ κ Θ a w){t:Nat}(hd:o.dst=some t)(ht:t<Γ.nt)(h:Sz P H σ o p)
 (hK:∀κ' Θ' a' w',eO Γ ⟨(t,p.d)::σ,place H' p.r p.obs⟩ κ' Θ' a' w'->(∀j,(j<p.r\/p.r+p.obs.length<=j)->κ' j=κ j)->K a' w'):o.wp P a w K Q':=by
 obtain⟨T,e,sz,len,parts,zs,ds,hop,hT,hz,hsz,hsmall,hf,aCV,NY,Wz,UM⟩:=h;rw[UM]at hK;rw[Wz]at hK;have hf':AM (vS len sz) (List.replicate len zs).flatten (parts.toList.map fun q=>(q.1,St.ev ⟨σ,H'⟩ q.2))=some ds:=by
  rw[<-hf];congr 1
 obtain⟨arr,b0,hrun,Rn,hb0,hal,hdl⟩:=Bk (st:=⟨σ,H'⟩) hop hT hz hsz hsmall hf' hs;have hrd:=Rn.pure aCV;have aCA:b0=[]:=hrd.flat NY;subst aCA;obtain⟨c1,c2,c3⟩:=GP sz len ds hdl;have Wq:Below w.heap.size w (w.alloc (.cells arr e)):=by
  have k:=jW.alloc hs (.cells arr e) (tag:=2) (by omega);refine⟨k.os,k.tape,k.output,k.size,fun b hlt=>?_⟩;simp only[World.alloc];rw[Array.getElem?_push,bG (by omega)]
 have hs':=hs.grow Wq;unfold Oper.wp;rw[hrun,Oper.upon_value,hd];have hpl:place H' p.r ([]:bW)=H':=by simp[place]
 rw[hpl]at hK;refine hK _ _ _ _ (hs'.set (t:=t) (d:=.sl (chunk sz len ds)) (bs:=[w.heap.size]) ht ?_ ?_) (fun j hj=>rfl)
 ·have hcell:∀j c,arr.toList[j]?=some c->(w.alloc (.cells arr e)).cell? ⟨w.heap.size,0+j,none⟩=some c:=by
   intro j c hj;simp only[cq,World.cell?,heap_alloc_new w _];simpa using hj
  have hlt:w.heap.size<(w.alloc (.cells arr e)).heap.size:=(bL.1 (heap_alloc_new w _)).1;have:=Rd.sl (w:=w.alloc (.cells arr e)) w.heap.size 0 len sz (chunk sz len ds) arr.toList [] hlt (by rw[c1];exact bS _) (by unfold maxLen;have:len*1<=len*sz:=eP _ hsz;omega) c3 hcell (by rw[c2];exact hrd.keep (by simp));rw[c1]at this;exact .of this
 ·intro b hb;simp only[eD]at hb;subst hb;cases h:Θ w.heap.size with
  |zero=>rfl
  |succ m=>exact absurd (hs.own w.heap.size (by omega)) (by omega)
theorem MP.wp{Q':Exit->Act->World->Prop}{σ:List (Nat×D)}{H H':bW}{o:Oper}{p:Cp}{K:Act->World->Prop}(hs:eO Γ ⟨σ,H'⟩ κ Θ a w)(hx:Ext H H'){t:Nat}(hd:o.dst=some t)(ht:t<Γ.nt)(h:MP P H σ o p)
 (hr:p.r+p.obs.length<=H'.length) (hfree:∀i,i<p.obs.length->κ (p.r+i)=none)
 (hK:∀κ' Θ' a' w',eO Γ ⟨(t,p.d)::σ,place H' p.r p.obs⟩ κ' Θ' a' w'->(∀j,(j<p.r\/p.r+p.obs.length<=j)->κ' j=κ j)->K a' w'):o.wp P a w K Q':=by
 rcases h with h|h|h|h
 ·exact h.wp hs hx hd ht hr hfree hK
 ·exact h.wp hs hd ht hr hfree hK
 ·exact h.wp hs hx hd ht hr hfree hK
 ·exact h.wp hs hd ht hK
theorem eO.a3Y(hs:eO Γ st κ Θ a w){ops:Array Oper}{j s:Nat}(hj:(ops[j]?).bind (·.dst)=some s)(hb:lk st.σ s=.gN []):yielded ops a.tmps j=none:=by
 obtain⟨bs,r,_⟩:=hs.slot s;rw[hb]at r;have hv:=r.Sl;rcases eR s a.tmps.size with hlt|hlt
 ·have h1:a.tmps[s]?=some (.tuple #[]):=by
   rw[cO,cR hlt]at hv;rw[cR hlt];simpa using hv
  simp[yielded,hj,h1]
 ·simp[yielded,hj,tu hlt]
def Cp.D8(p:Cp)(H':bW):bW:=match p.up with|some (id,ob)=>H'.set id ob|none=>place H' p.r p.obs
theorem w8.wp{Q':Exit->Act->World->Prop}{σ:List (Nat×D)}{H H':bW}{ops:Array Oper}{i:Nat}{o:Oper}{p:Cp}{K:Act->World->Prop}(hs:eO Γ ⟨σ,H'⟩ κ Θ a w)(hx:Ext H H')(hi:ops[i]?=some o)(h:w8 P Γ ops H σ o p)
 (hr:p.r+p.obs.length<=H'.length) (hfree:∀i,i<p.obs.length->κ (p.r+i)=none) (WH:∀id ob,p.up=some (id,ob)->∃zs ds,H'[id]?=some (.box zs)/\ob=.box ds/\zs.length=ds.length)
 (hK:∀κ' Θ' a' w',eO Γ ⟨p.slot σ,p.D8 H'⟩ κ' Θ' a' w'->(∀j,(j<p.r\/p.r+p.obs.length<=j)->κ' j=κ j)->K a' w'):wpOp P ops Q' i K a w:=by
 rcases h with⟨t,hpt,YV,hd,ht,h⟩|⟨hpt,UM,hd,hg,T,x,y,id,ds,hop,hev,hlen,hc,hT,hl,YV⟩
 ·have e1:p.slot σ=(t,p.d)::σ:=by simp[Cp.slot,hpt]
  have e2:p.D8 H'=place H' p.r p.obs:=by simp[Cp.D8,YV]
  rw[e1,e2]at hK;rcases h with⟨hg,hc⟩|⟨j,s,want,b,hg,hj,hb,hc⟩|⟨j,s,want,hg,hj,hb,a79,hno⟩
  ·exact CG hi (by simp[Region.wanted,hg]) (hc.wp hs hx hd ht hr hfree hK)
  ·have hy:=hs.a8o hj hb;rcases hc with⟨rfl,hc⟩|⟨hne,a79,hno⟩
   ·exact CG hi (by simp[Region.wanted,hg,hy]) (hc.wp hs hx hd ht hr hfree hK)
   ·unfold wpOp;have hw:Region.wanted o (yielded ops a.tmps)=false:=by simp[Region.wanted,hg,hy,hne]
    simp only[hi,hw,Bb,DI,hd];have hp:place H' p.r p.obs=H':=by rw[hno];simp[place]
    exact hK κ Θ _ _ (by rw[hp,a79];exact hs.set ht (.gN [] [] [] .nil) (by simp)) (fun _ _=>rfl)
  ·have hy:=hs.a3Y hj hb;unfold wpOp;have hw:Region.wanted o (yielded ops a.tmps)=false:=by simp[Region.wanted,hg,hy]
   simp only[hi,hw,Bb,DI,hd];have hp:place H' p.r p.obs=H':=by rw[hno];simp[place]
   exact hK κ Θ _ _ (by rw[hp,a79];exact hs.set ht (.gN [] [] [] .nil) (by simp)) (fun _ _=>rfl)
 ·have e1:p.slot σ=σ:=by simp[Cp.slot,hpt]
  have e2:p.D8 H'=H'.set id (.box ds):=by simp[Cp.D8,YV]
  rw[e1,e2]at hK;obtain⟨zs,ds',hz,he,hzl⟩:=WH id _ YV;cases he;obtain⟨w',hrun,hs'⟩:=Sf (st:=⟨σ,H'⟩) hop (by rw[Uy σ H' H x];exact hev) hz rfl (by rw[Uy σ H' H y];exact hc) hT hl (by omega) hs;refine CG hi (by simp[Region.wanted,hg]) ?_;unfold Oper.wp;rw[hrun,Oper.upon_skip,hd];have e3:zs.take 0++ds++zs.drop (0+ds.length)=ds:=by
   rw[E6 (by omega)];simp
  rw[e3]at hs';exact hK κ Θ _ _ hs' (fun _ _=>rfl)
theorem OB.congr{H:bW}{σ σ':List (Nat×D)}{o:Oper}{p:Cp}(he:∀x∈o.op.operands.toList,St.ev ⟨σ,H⟩ x=St.ev ⟨σ',H⟩ x)(h:OB P H σ o p):OB P H σ' o p:=by
 rcases h with⟨h,hno⟩|⟨f,xs,ts,ds,ms,d,hop,hds,hsh,pz,hi⟩
 ·exact .inl ⟨Tq (fun _ _ h=>h) he h,hno⟩
 ·have hm:xs.toList.map (St.ev ⟨σ,H⟩)=xs.toList.map (St.ev ⟨σ',H⟩):=by
   apply mI;intro x hx;refine he x ?_;rw[hop];simp only[Op.operands,Call.operands,mG,au];exact .inr hx
  rw[hm]at hds;exact .inr ⟨f,xs,ts,ds,ms,d,hop,hds,hsh,pz,hi⟩
theorem MP.congr{H:bW}{σ σ':List (Nat×D)}{o:Oper}{p:Cp}(he:∀x∈o.op.operands.toList,St.ev ⟨σ,H⟩ x=St.ev ⟨σ',H⟩ x)(h:MP P H σ o p):MP P H σ' o p:=by
 rcases h with h| (h|⟨T,x,ds,hop,hc,Wz,UM⟩)|⟨T,e,sz,len,parts,zs,ds,es,hop,hT,hz,hsz,hsmall,hf,habs,Wz,UM⟩|⟨T,e,sz,len,parts,zs,ds,hop,hT,hz,hsz,hsmall,hf,habs,hfl,Wz,UM⟩
 ·exact .inl (h.congr he)
 ·exact .inr (.inl (.inl h))
 ·exact .inr (.inl (.inr ⟨T,x,ds,hop,by rw[<-he x (by rw[hop];simp[Op.operands])];exact hc,Wz,UM⟩))
 ·refine .inr (.inr (.inl ⟨T,e,sz,len,parts,zs,ds,es,hop,hT,hz,hsz,hsmall,?_,habs,Wz,UM⟩));rw[<-hf]
  congr 1
  apply mI;intro q hq;rw[he q.2 ?_];rw[hop];simp only[Op.operands,jG];exact cJ.2 ⟨q,hq,rfl⟩
 ·refine .inr (.inr (.inr ⟨T,e,sz,len,parts,zs,ds,hop,hT,hz,hsz,hsmall,?_,habs,hfl,Wz,UM⟩));rw[<-hf]
  congr 1
  apply mI;intro q hq;rw[he q.2 ?_];rw[hop];simp only[Op.operands,jG];exact cJ.2 ⟨q,hq,rfl⟩
theorem w8.congr{H:bW}{σ σ':List (Nat×D)}{ops:Array Oper}{o:Oper}{p:Cp}(he:∀t∈o.looksAt ops,lk σ t=lk σ' t)(h:w8 P Γ ops H σ o p):w8 P Γ ops H σ' o p:=by
 have hev:=QX (st:=⟨σ,H⟩) (xf:=⟨σ',H⟩) he;have hgu:∀ {j s:Nat} {want:Bool},o.guard=some (j,want)->(ops[j]?).bind (·.dst)=some s->lk σ s=lk σ' s:=by
  intro j s want hg hj;refine he s ?_;unfold Oper.looksAt;refine au.2 (.inr ?_);simp[hg,hj]
 rcases h with⟨t,hpt,YV,hd,ht,h⟩|⟨hpt,UM,hd,hg,T,x,y,id,ds,hop,hx,hlen,hc,hT,hl,YV⟩
 ·refine .inl ⟨t,hpt,YV,hd,ht,?_⟩;rcases h with⟨hg,hc⟩|⟨j,s,want,b,hg,hj,hb,hc⟩|⟨j,s,want,hg,hj,hb,hc⟩
  ·exact .inl ⟨hg,hc.congr hev⟩
  ·refine .inr (.inl ⟨j,s,want,b,hg,hj,by rw[<-hgu hg hj];exact hb,?_⟩);rcases hc with⟨h1,hc⟩|hc
   ·exact .inl ⟨h1,hc.congr hev⟩
   ·exact .inr hc
  ·exact .inr (.inr ⟨j,s,want,hg,hj,by rw[<-hgu hg hj];exact hb,hc⟩)
 ·refine .inr ⟨hpt,UM,hd,hg,T,x,y,id,ds,hop,?_,hlen,?_,hT,hl,YV⟩
  ·rw[<-hev x (by rw[hop];simp[Op.operands])];exact hx
  ·rw[<-hev y (by rw[hop];simp[Op.operands])];exact hc
def Cp.sl(p:Cp):Option (Nat×D):=p.t.map fun t=>(t,p.d)
theorem Cp.a5V(p:Cp)(σ:List (Nat×D)):p.slot σ=p.sl.toList++σ:=by
 unfold Cp.slot Cp.sl;cases p.t<;>rfl
theorem Px(p:Cp)(ps:List Cp)(σ:List (Nat×D)):((p::ps).filterMap Cp.sl).reverse++σ=(ps.filterMap Cp.sl).reverse++p.slot σ:=by
 rw[Cp.a5V,Ao];cases p.sl<;>simp
theorem w8.a3a{H:bW}{σ:List (Nat×D)}{o:Oper}{p:Cp}(h:w8 P Γ all H σ o p):p.up=none\/p.obs=[]:=by
 rcases h with⟨_,_,h,_⟩|⟨_,h,_⟩
 ·exact .inl h
 ·exact .inr h
theorem w8.slots{H:bW}{σ:List (Nat×D)}{o:Oper}{p:Cp}(h:w8 P Γ all H σ o p):o.dst=p.t:=by
 rcases h with⟨t,h1,_,h2,_⟩|⟨h1,_,h2,_⟩
 ·rw[h1,h2]
 ·rw[h1,h2]
theorem P0.unfold{H:bW}{K:List (Nat×D)->bW->Prop}:∀(l:List Oper) (σ:List (Nat×D)) (acc:bW) (U:af),P0 P Γ all H K l σ acc U->
 ∃(ps:List Cp) (PW:bW),ps.length=l.length/\(∀(i:Nat) o p,l[i]?=some o->ps[i]?=some p->w8 P Γ all H (((ps.take i).filterMap Cp.sl).reverse++σ) o p/\p.r=H.length+acc.length+((ps.take i).flatMap Cp.obs).length/\
  ∀id ob,p.up=some (id,ob)->id∉U/\H.length<=id/\(∃zs ds,ob=.box ds/\zs.length=ds.length/\(acc++(ps.take i).flatMap Cp.obs)[id-H.length]?=some (.box zs))/\∀(i2:Nat) q DD,i2<i->ps[i2]?=some q->q.up≠some (id,DD))/\
  K ((ps.filterMap Cp.sl).reverse++σ) PW/\PW.length=acc.length+(ps.flatMap Cp.obs).length/\
  (∀k,(∀(i:Nat) q ob,ps[i]?=some q->q.up≠some (H.length+k,ob))->PW[k]?=(acc++ps.flatMap Cp.obs)[k]?)/\
  ∀(i:Nat) q id ob,ps[i]?=some q->q.up=some (id,ob)->PW[id-H.length]?=some ob:=by
 intro l
 induction l with
 |nil=>
  intro σ acc U h;have h:K σ acc:=h;exact⟨[],acc,rfl,by simp,by simpa using h,by simp,by simp,by simp⟩
 |cons o l ih=>
  intro σ acc U h;obtain⟨p,hr,hc,hok,xb⟩:=h;obtain⟨ps,PW,h1,h2,h3,h4,h5,h6⟩:=ih _ _ _ xb;cases WH:p.up with
  |none=>
   have ef:p.fill H.length acc=acc++p.obs:=by simp[Cp.fill,WH]
   have eu:p.ups U=U:=by simp[Cp.ups,WH]
   rw[ef]at h2 h4 h5;rw[eu]at h2;refine⟨p::ps,PW,by simp[h1],?_,by rw[Px];exact h3,by rw[h4];simp;omega,?_,?_⟩
   ·intro i o' p' ho hp;cases i with
    |zero=>
     simp at ho hp;subst ho;subst hp;refine⟨by simpa using hc,by simpa using hr,?_⟩;intro id ob he;rw[WH]at he;cases he
    |succ i=>
     simp at ho hp;obtain⟨q1,q2,q3⟩:=h2 i o' p' ho hp;refine⟨by rw[xC,Px];exact q1,by rw[q2];simp;omega,?_⟩;intro id ob he;obtain⟨r1,r2,⟨zs,ds,r3,r4,r5⟩,r6⟩:=q3 id ob he;refine⟨r1,r2,⟨zs,ds,r3,r4,by rw[<-r5];simp⟩,?_⟩;intro i2 q DD hlt hq;cases i2 with
     |zero=>simp at hq;subst hq;rw[WH];simp
     |succ i2=>exact r6 i2 q DD (by omega) (by simpa using hq)
   ·intro k hk;rw[h5 k (fun i q ob hq=>hk (i+1) q ob (by simpa using hq))];simp
   ·intro i q id ob hq he;cases i with
    |zero=>simp at hq;subst hq;rw[WH]at he;cases he
    |succ i=>exact h6 i q id ob (by simpa using hq) he
  |some x=>
   obtain⟨Yb,ob0⟩:=x;have ef:p.fill H.length acc=acc.set (Yb-H.length) ob0:=by simp[Cp.fill,WH]
   have eu:p.ups U=Yb::U:=by simp[Cp.ups,WH]
   have ho0:p.obs=[]:=by
    rcases hc.a3a with h|h
    ·rw[h]at WH;cases WH
    ·exact h
   rw[ef]at h2 h4 h5;rw[eu]at h2;simp only[Cp.aB5,WH]at hok;obtain⟨u1,u2,zs0,ds0,u3,u4,u5⟩:=hok;have qo:∀(X:bW) (k:Nat),k≠Yb-H.length->(acc.set (Yb-H.length) ob0++X)[k]?=(acc++X)[k]?:=by
    intro X k hk;by_cases hl:k<acc.length
    ·rw[bA (by simpa using hl),bA hl,cG (tv hk)]
    ·rw[bE (by simpa using hl),bE (by omega)];simp
   have hno:∀(i:Nat) q DD,ps[i]?=some q->q.up≠some (Yb,DD):=by
    intro i q DD hq he;have hlt:i<l.length:=by have:=(aH.1 hq).1;omega
    have:=(h2 i l[i] q (ai hlt) hq).2.2 Yb DD he;exact this.1 (by simp)
   refine⟨p::ps,PW,by simp[h1],?_,by rw[Px];exact h3,by rw[h4];simp[ho0],?_,?_⟩
   ·intro i o' p' ho hp;cases i with
    |zero=>
     simp at ho hp;subst ho;subst hp;refine⟨by simpa using hc,by simpa using hr,?_⟩;intro id ob he;rw[WH]at he;cases he;exact⟨u1,u2,⟨zs0,ds0,u4,u5,by simpa using u3⟩,by intro i2 q DD hlt;omega⟩
    |succ i=>
     simp at ho hp;obtain⟨q1,q2,q3⟩:=h2 i o' p' ho hp;refine⟨by rw[xC,Px];exact q1,by rw[q2];simp[ho0],?_⟩;intro id ob he;obtain⟨r1,r2,⟨zs,ds,r3,r4,r5⟩,r6⟩:=q3 id ob he;have hne:id≠Yb:=fun e=>r1 (by simp[e])
     refine⟨fun h=>r1 (by simp[h]),r2,⟨zs,ds,r3,r4,?_⟩,?_⟩
     ·rw[<-r5,qo _ _ (by omega)];simp[ho0]
     ·intro i2 q DD hlt hq;cases i2 with
      |zero=>simp at hq;subst hq;rw[WH];intro e;cases e;exact hne rfl
      |succ i2=>exact r6 i2 q DD (by omega) (by simpa using hq)
   ·intro k hk;rw[h5 k (fun i q ob hq=>hk (i+1) q ob (by simpa using hq))];have hne:k≠Yb-H.length:=fun e=>hk 0 p ob0 rfl (by rw[WH,e,show H.length+(Yb-H.length)=Yb from by omega])
    rw[qo _ _ hne];simp[ho0]
   ·intro i q id ob hq he;cases i with
    |zero=>
     simp at hq;subst hq;rw[WH]at he;cases he;rw[h5 (Yb-H.length) (fun i q DD hq=>by rw[show H.length+(Yb-H.length)=Yb from by omega];exact hno i q DD hq)];have hl:Yb-H.length<acc.length:=(aH.1 u3).1;rw[bA (by simpa using hl),dV hl]
    |succ i=>exact h6 i q id ob (by simpa using hq) he
theorem eO.same{σ':List (Nat×D)}(h:∀t,lk st.σ t=lk σ' t)(hs:eO Γ st κ Θ a w):eO Γ ⟨σ',st.H⟩ κ Θ a w:=
 ⟨hs.defers,hs.size,hs.rV,hs.qm,fun t=>by show∃bs,u7 w κ _ (lk σ' t) bs/\_;rw[<-h t];exact hs.slot t,hs.ob,hs.own,hs.old,hs.mine,hs.stays,hs.we⟩
theorem eO.room(hs:eO Γ st κ Θ a w)(m:Nat):eO Γ ⟨st.σ,st.H++List.replicate m .gone⟩ κ Θ a w:=by
 have key:∀(j:Nat) y,(st.H++List.replicate m .gone)[j]?=some y->y=.gone\/st.H[j]?=some y:=by
  intro j y hj;by_cases hlt:j<st.H.length
  ·rw[bA hlt]at hj;exact .inr hj
  ·rw[bE (by omega)]at hj;rw[List.getElem?_replicate]at hj;split at hj
   ·cases hj;exact .inl rfl
   ·cases hj
 obtain⟨ρ,hu⟩:=hs.we;refine⟨hs.defers,hs.size,fun i hi=>hs.rV i (by simp at hi;omega),hs.qm,hs.slot,?_,hs.own,hs.old,hs.mine,hs.stays,ρ,hu.free,?_,?_⟩
 ·intro j o hj;rcases key j o hj with rfl|h
  ·trivial
  ·exact hs.ob j o h
 ·intro id e sz rows hj;rcases key id _ hj with h|h
  ·cases h
  ·exact hu.rows id e sz rows h
 ·intro id o hj;rcases key id _ hj with h|h
  ·subst h;trivial
  ·exact hu.more id o h
theorem sH{ps:List Cp}{i:Nat}{p:Cp}(h:ps[i]?=some p):ps.flatMap Cp.obs=(ps.take i).flatMap Cp.obs++(p.obs++(ps.drop (i+1)).flatMap Cp.obs):=by
 have e:ps=ps.take i++(p::ps.drop (i+1)):=by
  obtain⟨hlt,rfl⟩:=aH.1 h;rw[E7,cD]
 conv=>lhs;rw[e]
 simp
theorem BK{ps:List Cp}:∀ {k:Nat},k<(ps.flatMap Cp.obs).length->∃(i:Nat) (p:Cp) (j:Nat),ps[i]?=some p/\j<p.obs.length/\k=((ps.take i).flatMap Cp.obs).length+j:=by
 induction ps with
 |nil=>intro k h;simp at h
 |cons p ps ih=>
  intro k h;by_cases hk:k<p.obs.length
  ·exact⟨0,p,k,rfl,hk,by simp⟩
  ·simp only[dN,aX]at h;obtain⟨i,q,j,h1,h2,h3⟩:=ih (k:=k-p.obs.length) (by omega);refine⟨i+1,q,j,by simpa using h1,h2,?_⟩;rw[xC,dN,aX];omega
theorem Sd{ps:List Cp}{i j:Nat}{p:Cp}(hp:ps[i]?=some p)(hij:i<j):((ps.take i).flatMap Cp.obs).length+p.obs.length<=((ps.take j).flatMap Cp.obs).length:=by
 have h:(ps.take j)[i]?=some p:=by rw[cK,bR hij];exact hp
 have:=sH h;rw[this];have e:(ps.take j).take i=ps.take i:=by rw[vv,fD (by omega)]
 rw[e];simp only[aX];omega
theorem a4C{id:Nat}{l:List Oper}(n:Nat)(hm:P.follows .mixedOrders=true)(hB:a1M l.toArray n=true)
 (h:P0 P Γ l.toArray st.H (fun σ acc=>AO P Γ l.toArray (l.drop n) Q ⟨σ,st.H++acc⟩) (l.take n) st.σ [] []):AW P Γ (.region id l.toArray true) Q st:=by
 simp only[a1M,aY,ot,bJ]at hB;obtain⟨⟨⟨hn,hsc⟩,a4f⟩,P6⟩:=hB;obtain⟨ps,PW,hlen,Qg,hK,hFl,hFo,hFu⟩:=P0.unfold _ _ _ _ h;simp only[cI,bK,B9,cq]at Qg hK hFl hFo;have hn':n<=l.length:=by simpa using hn
 have hpl:ps.length=n:=by rw[hlen];simp;omega
 have hop:∀(i:Nat),i<n->∃o p,l.toArray[i]?=some o/\ps[i]?=some p/\o.dst=p.t/\w8 P Γ l.toArray st.H (((ps.take i).filterMap Cp.sl).reverse++st.σ) o p/\p.r=st.H.length+((ps.take i).flatMap Cp.obs).length:=by
  intro i hi;have h1:l[i]?=some l[i]:=ai (by omega);have h2:ps[i]?=some ps[i]:=ai (by omega);have h3:=Qg i l[i] ps[i] (by rw[cK,bR hi];exact h1) h2;exact⟨l[i],ps[i],by simp[mr,h1],h2,h3.1.slots,h3.1,h3.2.1⟩
 have X0:∀(i:Nat) p,ps[i]?=some p->p.r=st.H.length+((ps.take i).flatMap Cp.obs).length:=by
  intro i p hp;have hi:i<n:=by have:=(aH.1 hp).1;omega
  obtain⟨_,p',_,hp',_,_,hr⟩:=hop i hi;rw[hp]at hp';cases hp';exact hr
 have TM:∀(i:Nat) p id ob,ps[i]?=some p->p.up=some (id,ob)->st.H.length<=id/\(∃zs ds,ob=.box ds/\zs.length=ds.length/\((ps.take i).flatMap Cp.obs)[id-st.H.length]?=some (.box zs))/\∀(i2:Nat) q DD,i2<i->ps[i2]?=some q->q.up≠some (id,DD):=by
  intro i p id ob hp he;have hi:i<n:=by have:=(aH.1 hp).1;omega
  have h1:l[i]?=some l[i]:=ai (by omega);have h3:=(Qg i l[i] p (by rw[cK,bR hi];exact h1) hp).2.2 id ob he;exact⟨h3.2.1,h3.2.2.1,h3.2.2.2⟩
 have a1m:∀(i j:Nat) p q id ob DD,ps[i]?=some p->ps[j]?=some q->p.up=some (id,ob)->q.up=some (id,DD)->i=j:=by
  intro i j p q id ob DD hp hq he M6;rcases yY i j with h|h|h
  ·exact absurd he ((TM j q id DD hq M6).2.2 i p ob h hp)
  ·exact h
  ·exact absurd M6 ((TM i p id ob hp he).2.2 j q DD h hq)
 have a1n:∀(i:Nat) p id ob,ps[i]?=some p->p.up=some (id,ob)->p.obs=[]:=by
  intro i p id ob hp he;have hi:i<n:=by have:=(aH.1 hp).1;omega
  obtain⟨_,p',_,hp',_,hc,_⟩:=hop i hi;rw[hp]at hp';cases hp';rcases hc.a3a with h|h
  ·rw[h]at he;cases he
  ·exact h
 have hfit:∀(i:Nat) p,ps[i]?=some p->p.r+p.obs.length<=st.H.length+(ps.flatMap Cp.obs).length:=by
  intro i p hp;rw[X0 i p hp,sH hp];simp only[aX];omega
 have TG:∀(i j:Nat) p q,ps[i]?=some p->ps[j]?=some q->i<j->p.r+p.obs.length<=q.r:=by
  intro i j p q hp hq hij;rw[X0 i p hp,X0 j q hq];have:=Sd hp hij;omega
 have hdist:∀(i j:Nat) p q t,ps[i]?=some p->ps[j]?=some q->p.t=some t->q.t=some t->i=j:=by
  intro i j p q t hp hq he1 M6;have hi:i<n:=by have:=(aH.1 hp).1;omega
  have hj:j<n:=by have:=(aH.1 hq).1;omega
  obtain⟨oi,p',ho,hp',hdi,_⟩:=hop i hi;obtain⟨oj,q',AI,Rq,hdj,_⟩:=hop j hj;rw[hp]at hp';cases hp';rw[hq]at Rq;cases Rq;have:=bB.1 P6 i (bq.2 hi);simp only[ho,aY]at this;have:=bB.1 this.2 j (bq.2 hj);simp only[AI,hdi,hdj,he1,M6,cw,bQ,vA,Option.isNone_some,vA,cj]at this;exact this.symm
 have I1:∀(i:Nat) p t,ps[i]?=some p->p.t=some t->∀q∈ps.filterMap Cp.sl,q.1=t->q=(t,p.d):=by
  intro i p t hp hpt q hq he;obtain⟨q',Rq,Qk⟩:=cF.1 hq;obtain⟨j,hj,rfl⟩:=eS.1 Rq;have ML:ps[j]?=some ps[j]:=ai hj;unfold Cp.sl at Qk;cases hpj:ps[j].t with
  |none=>rw[hpj]at Qk;cases Qk
  |some u=>
   rw[hpj]at Qk;simp only[cZ,az]at Qk;subst Qk;simp only at he;subst he;have:=hdist j i _ p u ML hp hpj hpt;subst this;rw[hp]at ML;cases ML;rfl
 intro κ Θ a w hs;have main:∀(f:Nat) (listed:Array Bool) (σ':List (Nat×D)) (H':bW) (κ:Nat->Option Value) (Θ:Nat->Nat) (a:Act) (w:World),HeadInv .any l.toArray n listed->
  ((List.range n).filter fun i=> !listed.getD i false).length=f->
  (∀(i:Nat) p t,ps[i]?=some p->p.t=some t->listed.getD i false=true->lk σ' t=p.d)->
  (∀t,(∀(i:Nat) p,ps[i]?=some p->listed.getD i false=true->p.t≠some t)->lk σ' t=lk st.σ t)->
  H'.length=st.H.length+(ps.flatMap Cp.obs).length->Ext st.H H'->
  (∀(i:Nat) p,ps[i]?=some p->listed.getD i false=true->∀(j:Nat) o,p.obs[j]?=some o->(∀(i2:Nat) q ob,ps[i2]?=some q->listed.getD i2 false=true->q.up≠some (p.r+j,ob))->H'[p.r+j]?=some o)->
  (∀(i:Nat) q id ob,ps[i]?=some q->listed.getD i false=true->q.up=some (id,ob)->H'[id]?=some ob/\∃v,κ id=some v)->
  (∀(i:Nat) p,ps[i]?=some p->listed.getD i false=false->∀j,j<p.obs.length->κ (p.r+j)=none)->
  eO Γ ⟨σ',H'⟩ κ Θ a w->
  wpAny P .any l.toArray (fun e a' w'=>∃xf κ' Θ',eO Γ xf κ' Θ' a' w'/\Q e xf) (f+(l.toArray.size-n)) listed a w:=by
  intro f
  induction f with
  |zero=>
   intro listed σ' H' κ Θ a w inv pT hA hB hHl hHe YR hHu YQ hs;have hall:∀i,i<n->listed.getD i false=true:=by
    intro i hi;have h0:=cc pT;cases hl:listed.getD i false with
    |true=>rfl
    |false=>
     have:i∈(List.range n).filter fun i=> !listed.getD i false:=fy.2 ⟨bq.2 hi,by simp[hl]⟩
     rw[h0]at this;cases this
   have a1c:listed=Array.replicate n true++Array.replicate (l.toArray.size-n) false:=by
    apply Array.ext
    ·rw[inv.size];simp;simp at hn;omega
    ·intro i h1 h2;by_cases hi:i<n
     ·have:=hall i hi;rw[CJ (by simpa using hi)];simp[h1]at this;simp[this]
     ·have hi':i<l.toArray.size:=by rw[<-inv.size];exact h1
      have:=inv.tail i (by omega) hi';rw[Ba (by simpa using hi)];simp[h1]at this;simp[this]
   rw[cq];have Oe:∀t,lk σ' t=lk ((ps.filterMap Cp.sl).reverse++st.σ) t:=by
    intro t;by_cases hex:∃(i:Nat) (p:Cp),ps[i]?=some p/\p.t=some t
    ·obtain⟨i,p,hp,hpt⟩:=hex;have hi:i<n:=by have:=(aH.1 hp).1;omega
     rw[hA i p t hp hpt (hall i hi)];have:=M9 (ps.filterMap Cp.sl).reverse st.σ (t,p.d) (by rw[dl];exact cF.2 ⟨p,aC hp,by simp[Cp.sl,hpt]⟩) (fun q hq he=>I1 i p t hp hpt q (by simpa using hq) he);exact this.symm
    ·rw[hB t (fun i p hp _ he=>hex ⟨i,p,hp,he⟩),I6];intro q hq he;obtain⟨p,hp,hps⟩:=cF.1 (dl.1 hq);obtain⟨i,hi,hpi⟩:=eS.1 hp;refine hex ⟨i,p,by rw[<-hpi];exact ai hi,?_⟩;unfold Cp.sl at hps;cases hpt:p.t with
     |none=>rw[hpt]at hps;cases hps
     |some u=>rw[hpt]at hps;simp only[cZ,az]at hps;subst hps;simp only at he;rw[he]
   have a1R:H'=st.H++PW:=by
    apply oI;intro k;by_cases h1:k<st.H.length
    ·rw[bA h1];exact hHe k _ (ai h1)|>.trans (ai h1).symm
    ·rw[bE (by omega)];by_cases hex:∃(i:Nat) (q:Cp) (ob:Ob),ps[i]?=some q/\q.up=some (k,ob)
     ·obtain⟨i,q,ob,hq,he⟩:=hex;have hi:i<n:=by have:=(aH.1 hq).1;omega
      rw[(hHu i q k ob hq (hall i hi) he).1,hFu i q k ob hq he]
     ·have hno:∀(i:Nat) q ob,ps[i]?=some q->q.up≠some (k,ob):=fun i q ob hq he=>hex ⟨i,q,ob,hq,he⟩
      rw[hFo (k-st.H.length) (fun i q ob hq=>by rw[show st.H.length+(k-st.H.length)=k from by omega];exact hno i q ob hq)];by_cases h2:k-st.H.length<(ps.flatMap Cp.obs).length
      ·obtain⟨i,p,j,hp,hj,hk⟩:=BK h2;have hi:i<n:=by have:=(aH.1 hp).1;omega
       have e3:p.r+j=k:=by rw[X0 i p hp];omega
       have h3:=YR i p hp (hall i hi) j _ (ai hj) (fun i2 q ob hq _=>by rw[e3];exact hno i2 q ob hq);rw[e3]at h3;rw[h3,sH hp,hk,bE (by omega),dw,bA hj,ai hj]
      ·rw[ck (by omega),ck (by omega)]
   have hs2:=eO.same (st:=⟨σ',H'⟩) (σ':=(ps.filterMap Cp.sl).reverse++st.σ) Oe hs;simp only[a1R]at hs2;have hwp:=hK κ Θ a w hs2;have hdl:(l.drop n).length=l.toArray.size-n:=by simp
   have:=wpAny_of_seq (md:=.any) (l.drop n) n listed a w (fun j=>by simp[eC]) (by rw[hdl,a1c];exact a4f) hwp
   rwa[hdl]at this
  |succ f ih=>
   intro listed σ' H' κ Θ a w inv pT hA hB hHl hHe YR hHu YQ hs;have hun:∃i,i<n/\listed.getD i false=false:=by
    have hne:((List.range n).filter fun i=> !listed.getD i false)≠[]:=by
     intro h0;rw[h0]at pT;simp at pT
    obtain⟨i,hi⟩:=wz _ hne;obtain⟨h1,h2⟩:=fy.1 hi;exact⟨i,bq.1 h1,by simpa using h2⟩
   have hsz:=inv.size;rw[show f+1+(l.toArray.size-n)=(f+(l.toArray.size-n))+1 from by omega];refine⟨fun h0=>?_,fun i hi=>?_⟩
   ·exfalso;obtain⟨i,⟨hin,WE⟩,hmin⟩:=exists_least (p:=fun i=>i<n/\listed.getD i false=false) hun;obtain⟨o,p,ho,_,_,_⟩:=hop i hin;have:i∈Region.ready .any l.toArray listed:=by
     refine mem_ready.2 ⟨getD_in (by rw[hsz];omega) WE,o,ho,fun e he hb=>?_⟩;have:=bB.1 P6 i (bq.2 hin);simp only[ho,aY]at this;have:=xm.1 this.1.1 e he;simp only[hb,bQ,pX,bJ]at this;cases hl:listed.getD e.on false with
     |true=>rfl
     |false=>
      have:=hmin e.on ⟨by omega,hl⟩;omega
    rw[h0]at this;cases this
   ·obtain⟨i0,hi0,hl0⟩:=hun;have hin:i<n:=by
     rcases eR i n with h|h
     ·exact h
     ·rcases hsc with he|⟨hn2,a9p,hchain⟩
      ·obtain⟨_,oi,hoi,_⟩:=mem_ready.1 hi;have:=(bL.1 hoi).1;omega
      ·exact absurd hi (tail_waits a9p hchain hn2 inv _ i0 rfl hi0 (getD_in (by rw[hsz];omega) hl0) i h)
    obtain⟨o,p,ho,hp,hd,hc,_⟩:=hop i hin;obtain⟨WE,o',ho',hall⟩:=mem_ready.1 hi;rw[ho]at ho';cases ho';have D3:=getD_both WE;have hc':w8 P Γ l.toArray st.H σ' o p:=by
     refine w8.congr (σ:=((ps.take i).filterMap Cp.sl).reverse++st.σ) (σ':=σ') ?_ hc;intro t ht;have NX:=bB.1 P6 i (bq.2 hin);simp only[ho,aY]at NX;have NX:=bB.1 NX.1.2 t ht;by_cases hex:∃(j:Nat) (q:Cp),ps[j]?=some q/\q.t=some t
     ·obtain⟨j,q,hq,Pd⟩:=hex;have hj:j<n:=by have:=(aH.1 hq).1;omega
      obtain⟨oj,q',AI,Rq,hdj,_⟩:=hop j hj;rw[hq]at Rq;cases Rq;have:=bB.1 NX j (bq.2 hj);simp only[AI,hdj,Pd,cw,bQ,pX,aY,bJ]at this;obtain⟨hji,a1o⟩:=this;obtain⟨oi',a1h,e,he,hb,hon⟩:=Region.waitsFor_spec a1o;rw[ho]at a1h;cases a1h;have hjl:=hall e he hb;rw[hon]at hjl;rw[hA j q t hq Pd hjl];refine M9 ((ps.take i).filterMap Cp.sl).reverse st.σ (t,q.d) ?_ (fun q2 ML M6=>I1 j q t hq Pd q2 ?_ M6)
      ·rw[dl];exact cF.2 ⟨q,aC (i:=j) (by rw[cK,bR hji];exact hq),by simp[Cp.sl,Pd]⟩
      ·obtain⟨q3,X1,AJ⟩:=cF.1 (dl.1 ML);exact cF.2 ⟨q3,cH X1,AJ⟩
     ·rw[hB t (fun j q hq _ he=>hex ⟨j,q,hq,he⟩),I6];intro q hq he;obtain⟨q3,X1,AJ⟩:=cF.1 (dl.1 hq);obtain⟨j,hj,hqj⟩:=eS.1 (cH X1);refine hex ⟨j,q3,by rw[<-hqj];exact ai hj,?_⟩;unfold Cp.sl at AJ;cases hpt:q3.t with
      |none=>rw[hpt]at AJ;cases AJ
      |some u=>rw[hpt]at AJ;simp only[cZ,az]at AJ;subst AJ;simp only at he;rw[he]
    have hfp:=hfit i p hp;have a1a:∀id ob,p.up=some (id,ob)->∃v,κ id=some v:=by
     intro id ob he;rcases hc' with⟨_,_,h,_⟩|⟨_,_,_,_,T,x,y,id',ds,Wx,hx',_,_,_,_,YV⟩
     ·rw[h]at he;cases he
     ·rw[YV]at he;cases he;obtain⟨b1,r1,_⟩:=hs.ev x;rw[Uy σ' H' st.H x,hx']at r1;obtain⟨g,hk,_⟩:=r1.Ci;exact⟨_,hk⟩
    have a1l:∀id ob,p.up=some (id,ob)->∃zs ds,H'[id]?=some (.box zs)/\ob=.box ds/\zs.length=ds.length:=by
     intro id ob he;obtain⟨u1,⟨zs,ds,u2,u3,u4⟩,_⟩:=TM i p id ob hp he;refine⟨zs,ds,?_,u2,u3⟩;obtain⟨i1,p1,j1,hp1,KN,hk1⟩:=BK (aH.1 u4).1;have Wy:ps[i1]?=some p1:=by
      have:=(aH.1 hp1).1;rw[cK]at hp1;split at hp1
      ·exact hp1
      ·cases hp1
     have hi1:i1<i:=by have:=(aH.1 hp1).1;simp at this;omega
     have et:(ps.take i).take i1=ps.take i1:=by rw[vv,fD (by omega)]
     rw[et]at hk1;have e1:p1.r+j1=id:=by rw[X0 i1 p1 Wy];omega
     have CH:p1.obs[j1]?=some (.box zs):=by
      rw[sH hp1,et,hk1,bE (by omega),dw,bA KN]at u4;exact u4
     have hl1:listed.getD i1 false=true:=by
      cases hl:listed.getD i1 false with
      |true=>rfl
      |false=>
       have h0:=YQ i1 p1 Wy hl j1 KN;rw[e1]at h0;obtain⟨v,hv⟩:=a1a id ob he;rw[h0]at hv;cases hv
     have:=YR i1 p1 Wy hl1 j1 _ CH (fun i2 q DD hq hl M6=>by
      rw[e1]at M6;have:=a1m i i2 p q id ob DD hp hq he M6;subst this;rw[D3]at hl;cases hl)
     rw[e1]at this;exact this
    refine hc'.wp hs hHe ho (by omega) (fun j hj=>YQ i p hp D3 j hj) a1l fun κ' Θ' a' w' hs' hsame=>?_
    have qo:∀(j:Nat),(listed.setIfInBounds i true).getD j false=true↔(j=i\/listed.getD j false=true):=by
     intro j;by_cases e:i=j
     ·subst e;have:i<listed.size:=by rw[hsz];omega
      simp[this]
     ·rw[getD_set_ne false e];constructor
      ·exact .inr
      ·rintro(rfl|h)
       ·exact absurd rfl e
       ·exact h
    have hput:(p.D8 H').length=H'.length:=by
     unfold Cp.D8;split
     ·simp
     ·exact wo (by omega)
    have a7I:∀(k:Nat),k<st.H.length->(p.D8 H')[k]?=H'[k]?:=by
     intro k hk;unfold Cp.D8;split
     ·rename_i id ob he;have:=(TM i p id ob hp he).1;rw[cG (by omega)]
     ·rw[wm (by omega),bR (by rw[X0 i p hp];omega)]
    refine ih (listed.setIfInBounds i true) (p.slot σ') (p.D8 H') κ' Θ' a' w' (inv.set hi hin) ?_ ?_ ?_ (by rw[hput];exact hHl) ?_ ?_ ?_ ?_ hs'
    ·have Zb:((List.range n).filter fun j=> !(listed.setIfInBounds i true).getD j false)=((List.range n).filter fun j=> !listed.getD j false).erase i:=by
      have hnd:((List.range n).filter fun j=> !listed.getD j false).Nodup:=zn _ DG;rw[hnd.erase_eq_filter,xo];apply yX;intro j _;by_cases e:j=i
      ·subst e;have:=(qo j).2 (.inl rfl);rw[this];simp
      ·rw[getD_set_ne false (tv e)];simp[e]
     rw[Zb,rY (fy.2 ⟨bq.2 hin,by simp[D3]⟩),pT];rfl
    ·intro j q t hq Pd hl;unfold Cp.slot;rcases(qo j).1 hl with rfl|Es
     ·rw[hp]at hq;cases hq;rw[Pd];simp[lk]
     ·cases hpt:p.t with
      |none=>exact hA j q t hq Pd Es
      |some u=>
       simp only[lk];rw[bG,hA j q t hq Pd Es];intro e;have:=hdist j i q p t hq hp Pd (by rw[hpt,e]);subst this;rw[D3]at Es;cases Es
    ·intro t ht;unfold Cp.slot;have xb:=hB t (fun j q hq hl=>ht j q hq ((qo j).2 (.inr hl)));cases hpt:p.t with
     |none=>exact xb
     |some u=>
      simp only[lk];rw[bG (fun e=>ht i p hp ((qo i).2 (.inl rfl)) (by rw[hpt,e]))];exact xb
    ·intro j y hj;rw[a7I j (aH.1 hj).1];exact hHe j y hj
    ·intro j q hq hl k y hy hno;have hkl:=(aH.1 hy).1;unfold Cp.D8;split
     ·rename_i id ob he;have hne:q.r+k≠id:=fun e=>hno i p ob hp ((qo i).2 (.inl rfl)) (by rw[e];exact he)
      rw[cG (tv hne)];rcases(qo j).1 hl with rfl|Es
      ·rw[hp]at hq;cases hq;rw[a1n j p id ob hp he]at hy;simp at hy
      ·exact YR j q hq Es k y hy (fun i2 q2 DD ML hl3=>hno i2 q2 DD ML ((qo i2).2 (.inr hl3)))
     ·rw[wm (by omega)];rcases(qo j).1 hl with rfl|Es
      ·rw[hp]at hq;cases hq;rw[bG (by omega),bR (by omega),dw];exact hy
      ·have hne:j≠i:=fun e=>by subst e;rw[D3]at Es;cases Es
       have h3:=YR j q hq Es k y hy (fun i2 q2 DD ML hl3=>hno i2 q2 DD ML ((qo i2).2 (.inr hl3)));rcases xp hne with h|h
       ·have:=TG j i q p hq hp h;rw[bR (by omega)];exact h3
       ·have:=TG i j p q hp hq h;rw[bG (by omega),bG (by omega)];exact h3
    ·intro j q id ob hq hl he;rcases(qo j).1 hl with rfl|Es
     ·rw[hp]at hq;cases hq;obtain⟨zs,ds,z1,_⟩:=a1l id ob he;have hlt:=(aH.1 z1).1;refine⟨by simp only[Cp.D8,he];rw[dV hlt],?_⟩;obtain⟨v,hv⟩:=a1a id ob he;refine⟨v,?_⟩;rw[hsame id (by rw[a1n j p id ob hp he];simp;omega)];exact hv
     ·obtain⟨h1,v,hv⟩:=hHu j q id ob hq Es he;have hout:id<p.r\/p.r+p.obs.length<=id:=by
       rcases eR id p.r with h|h
       ·exact .inl h
       ·rcases eR id (p.r+p.obs.length)with h2|h2
        ·have:=YQ i p hp D3 (id-p.r) (by omega);rw[show p.r+(id-p.r)=id from by omega,hv]at this;cases this
        ·exact .inr h2
      refine⟨?_,v,by rw[hsame id hout];exact hv⟩;unfold Cp.D8;split
      ·rename_i id2 DD M6;have hne:id2≠id:=fun e=>by
        subst e;have:=a1m i j p q id2 DD ob hp hq M6 he;subst this;rw[D3]at Es;cases Es
       rw[cG hne];exact h1
      ·rw[wm (by omega)];rcases hout with h|h
       ·rw[bR h];exact h1
       ·rw[bG (by omega),bG (by omega)];exact h1
    ·intro j q hq hl k hk;have hne:j≠i:=fun e=>by
      subst e;have:=(qo j).2 (.inl rfl);rw[this]at hl;cases hl
     have Es:listed.getD j false=false:=by
      cases h:listed.getD j false with
      |false=>rfl
      |true=>have:=(qo j).2 (.inr h);rw[this]at hl;cases hl
     have h3:=YQ j q hq Es k hk;rw[hsame,h3];rcases xp hne with h|h
     ·have:=TG j i q p hq hp h;omega
     ·have:=TG i j p q hp hq h;omega
 refine wp_region_any hm ?_;have a7x:HeadInv .any l.toArray n (Array.replicate l.toArray.size false):=
  ⟨by simp,fun j oj _ hl=>(by rw[getD_replicate_false]at hl;cases hl),fun t _ ht=>getD_in (by simpa using ht) (getD_replicate_false _ _)⟩
 have pT:((List.range n).filter fun i=> !(Array.replicate l.toArray.size false).getD i false).length=n:=by
  rw[List.filter_eq_self.2]
  ·simp
  ·intro i _;rw[getD_replicate_false];rfl
 have:=main n (Array.replicate l.toArray.size false) st.σ (st.H++List.replicate (ps.flatMap Cp.obs).length .gone) κ Θ a w.drew a7x pT (fun i p t _ _ hl=>by rw[getD_replicate_false]at hl;cases hl) (fun t _=>rfl)
  (by simp) (fun i o h=>by rw[bA (aH.1 h).1];exact h) (fun i p _ hl=>by rw[getD_replicate_false]at hl;cases hl)
  (fun i q id ob _ hl=>by rw[getD_replicate_false]at hl;cases hl)
  (fun i p hp _ j _=>hs.rV _ (by rw[X0 i p hp];omega)) (hs.drew.room _)
 rw[show n+(l.toArray.size-n)=l.toArray.size from by omega]at this;exact this
end
end Go.Cx
namespace Go.Cx
open Go.RowKit
def pos(o:af)(i:Nat):Option Nat:=ix (fun j=>j==i) o
def D.Yj(o:af)(d:D):D:=match d with
 | .acc i=>(match pos o i with|some j=>.acc j|none=>.any)
 | .ptr i off=>(match pos o i with|some j=>.ptr j off|none=>.any)
 | .op i a b c=>(match pos o i with|some j=>.op j a b c|none=>.any)
 |d=>d
def D.rnV(o:af)(d:D):D:=match d with
 | .agg cs=>.agg (cs.map (D.Yj o))
 |d=>d.Yj o
def D.Yk(o:af)(d:D):D:=match d with
 | .gN vs=>.gN (vs.map (D.rnV o))
 |d=>d.rnV o
def Ob.rn(o:af)(x:Ob):Ob:=match x with
 | .box cells=>.box (cells.map (D.Yj o))
 | .Ph cells v=>.Ph (cells.map (D.Yj o)) v
 | .hole _ _ _ _ _=>.gone
 |x=>x
def St.F9(st:St)(K o:af):St:=⟨K.map fun t=>(t,(lk st.σ t).Yk o),o.map fun i=>((st.H[i]?).getD .gone).rn o⟩
section
variable{P:Program}{Γ:vn}{Q:Exit->St->Prop}{st:St}{κ κ':Nat->Option Value}{Θ Θ':Nat->Nat}{a:Act}{w:World}{o:af}
theorem Sa:∀ {o:af},o.Nodup->∀(i j x:Nat),o[i]?=some x->o[j]?=some x->i=j:=by
 intro o
 induction o with
 |nil=>intro _ i j x h;simp at h
 |cons y o ih=>
  intro hnd i j x hi hj;obtain⟨h1,h2⟩:=fC.1 hnd;cases i with
  |zero=>
   cases j with
   |zero=>rfl
   |succ j=>simp at hi hj;subst hi;exact absurd (aC hj) h1
  |succ i=>
   cases j with
   |zero=>simp at hi hj;subst hj;exact absurd (aC hi) h1
   |succ j=>simp at hi hj;rw[ih h2 i j x hi hj]
theorem To{i j:Nat}(h:pos o i=some j):o[j]?=some i:=by
 obtain⟨x,h1,h2⟩:=zl h;simp only[cj]at h2;subst h2;exact h1
theorem XQ{i j:Nat}(hnd:o.Nodup)(h:o[j]?=some i):pos o i=some j:=
 Eu h (by simp) (fun k y hk hy=>by
  simp only[cj]at hy;subst hy;obtain⟨h1,h2⟩:=aH.1 h;obtain⟨h3,h4⟩:=aH.1 hk;exact Sa hnd k j _ hk h)
section
variable(hk:∀(i j:Nat) v,pos o i=some j->κ i=some v->κ' j=some v)(AT:∀b,Θ b=0->Θ' b=0)
include hk AT
theorem BU.rn{v:Value}{d:D}{bs:af}(h:BU w κ v d bs)(hz:∀b∈bs,Θ b=0):∃b',BU w κ' v (d.Yj o) b'/\∀b∈b',Θ' b=0:=by
 cases h with
 |pure h=>
  have e:d.Yj o=d:=by cases h<;>rfl
  rw[e];exact⟨bs,.pure h,fun b hb=>AT b (hz b hb)⟩
 |acc i v hi=>
  simp only[D.Yj];cases hp:pos o i with
  |none=>exact⟨[],.pure (.any _),by simp⟩
  |some j=>exact⟨[],.acc j v (hk i j v hp hi),by simp⟩
 |ptr i off b hi=>
  simp only[D.Yj];cases hp:pos o i with
  |none=>exact⟨[],.pure (.any _),by simp⟩
  |some j=>exact⟨[],.ptr j off b (hk i j _ hp hi),by simp⟩
 |op i x sz off b o0 len cap hi=>
  simp only[D.Yj];cases hp:pos o i with
  |none=>exact⟨[],.pure (.any _),by simp⟩
  |some j=>exact⟨[],.op j x sz off b o0 len cap (hk i j _ hp hi),by simp⟩
theorem fO.rn{vs:br}{ds:aR}{bs:af}(h:fO w κ vs ds bs)(hz:∀b∈bs,Θ b=0):∃b',fO w κ' vs (ds.map (D.Yj o)) b'/\∀b∈b',Θ' b=0:=by
 induction h with
 |nil=>exact⟨[],.nil,by simp⟩
 |cons v vs d ds b1 b2 h1 h2 _ ih=>
  obtain⟨c1,q1,q2⟩:=BU.rn hk AT h2 (fun b hb=>hz b (by simp[hb]));obtain⟨c2,p1,p2⟩:=ih (fun b hb=>hz b (by simp[hb]));refine⟨c1++c2,.cons _ _ _ _ _ _ h1 q1 p1,fun b hb=>?_⟩;rcases au.1 hb with hb|hb
  ·exact q2 b hb
  ·exact p2 b hb
theorem QD.rn{v:Value}{d:D}{bs:af}(h:QD w κ v d bs)(hz:∀b∈bs,Θ b=0):∃b',QD w κ' v (d.rnV o) b'/\∀b∈b',Θ' b=0:=by
 cases h with
 |cell h=>
  by_cases vu:∃ds,d=.agg ds
  ·obtain⟨ds,rfl⟩:=vu;cases h with
   |pure h=>
    cases h with
    |agg cs _ _ h=>
     obtain⟨b',q1,q2⟩:=fO.rn hk AT (fO.FB (κ:=κ) h) hz;exact⟨b',.agg _ _ _ q1,q2⟩
  ·have e:d.rnV o=d.Yj o:=by cases d<;>first|rfl|exact absurd ⟨_,rfl⟩ vu
   rw[e];obtain⟨b',q1,q2⟩:=BU.rn hk AT h hz;exact⟨b',.cell q1,q2⟩
 |agg cs ds bs h=>
  obtain⟨b',q1,q2⟩:=fO.rn hk AT h hz;exact⟨b',.agg _ _ _ q1,q2⟩
theorem ED.rn{vs:br}{ds:aR}{bs:af}(h:ED w κ vs ds bs)(hz:∀b∈bs,Θ b=0):∃b',ED w κ' vs (ds.map (D.rnV o)) b'/\∀b∈b',Θ' b=0:=by
 induction h with
 |nil=>exact⟨[],.nil,by simp⟩
 |cons v vs d ds b1 b2 h2 _ ih=>
  obtain⟨c1,q1,q2⟩:=QD.rn hk AT h2 (fun b hb=>hz b (by simp[hb]));obtain⟨c2,p1,p2⟩:=ih (fun b hb=>hz b (by simp[hb]));refine⟨c1++c2,.cons _ _ _ _ _ _ q1 p1,fun b hb=>?_⟩;rcases au.1 hb with hb|hb
  ·exact q2 b hb
  ·exact p2 b hb
theorem u7.rn{v:Value}{d:D}{bs:af}(h:u7 w κ v d bs)(hz:∀b∈bs,Θ b=0):∃b',u7 w κ' v (d.Yk o) b'/\∀b∈b',Θ' b=0:=by
 cases h with
 |v h=>
  have hnt:∀vs,d≠ .gN vs:=by
   intro vs e;subst e;cases h with
   |cell h=>cases h with|pure h=>cases h
  have e:d.Yk o=d.rnV o:=by cases d<;>first|rfl|exact absurd rfl (hnt _)
  rw[e];obtain⟨b',q1,q2⟩:=QD.rn hk AT h hz;exact⟨b',.v q1,q2⟩
 |gN vs ds bs h=>
  obtain⟨b',q1,q2⟩:=ED.rn hk AT h hz;exact⟨b',.gN _ _ _ q1,q2⟩
end
theorem a2P(σ:List (Nat×D))(K:af)(f:D->D)(t:Nat):lk (K.map fun t=>(t,f (lk σ t))) t=if t∈K then f (lk σ t)else .any:=by
 induction K with
 |nil=>simp[lk]
 |cons u K ih=>
  simp only[bH,lk];by_cases e:t=u
  ·subst e;simp
  ·rw[bG e,ih];simp[e]
theorem eO.F9(hs:eO Γ st κ Θ a w)(K o:af)(hnd:o.Nodup):∃κ' Θ',eO Γ (st.F9 K o) κ' Θ' a w:=by
 let κ':Nat->Option Value:=fun j=>(o[j]?).bind κ
 let Θ':Nat->Nat:=fun b=>if Θ b<=1 then Θ b else match pos o (Θ b-2)with|some j=>j+2|none=>1
 have AT:∀b,Θ b=0->Θ' b=0:=fun b h=>by simp[Θ',h]
 have hk:∀(i j:Nat) v,pos o i=some j->κ i=some v->κ' j=some v:=fun i j v h1 h2=>by simp[κ',To h1,h2]
 have hk2:∀(i j:Nat),o[j]?=some i->κ' j=κ i:=fun i j h=>by simp[κ',h]
 have Rr:∀b (i j:Nat),o[j]?=some i->Θ b=i+2->Θ' b=j+2:=by
  intro b i j hj h;simp only[Θ'];rw[bG (by omega),h,Bc,XQ hnd hj]
 have key:∀(j:Nat) x,(st.F9 K o).H[j]?=some x->∃i,o[j]?=some i/\((st.H[i]?=none/\x=.gone)\/∃y,st.H[i]?=some y/\x=y.rn o):=by
  intro j x hj;simp only[St.F9,cA]at hj;cases ho:o[j]? with
  |none=>simp[ho]at hj
  |some i=>
   simp only[ho,cZ,az]at hj;refine⟨i,rfl,?_⟩;cases hH:st.H[i]? with
   |none=>rw[hH]at hj;exact .inl ⟨rfl,hj.symm⟩
   |some y=>rw[hH]at hj;exact .inr ⟨y,rfl,hj.symm⟩
 obtain⟨ρ,hu⟩:=hs.we;let ρ':Nat->Nat:=fun b=>if ρ b=0 then 0 else match pos o (ρ b-1)with|some j=>j+1|none=>0
 refine⟨κ',Θ',hs.defers,hs.size,?_,?_,?_,?_,?_,?_,?_,hs.stays,ρ',?_,?_,?_⟩
 ·intro i hi;simp only[St.F9,aZ]at hi;simp[κ',ck hi]
 ·intro i u BM;simp only[κ']at BM;cases ho:o[i]? with
  |none=>simp[ho]at BM
  |some j=>simp[ho]at BM;exact hs.qm j u BM
 ·intro t;show∃bs,u7 w κ' _ (lk (K.map fun t=>(t,(lk st.σ t).Yk o)) t) bs/\_;rw[a2P st.σ K (fun d=>d.Yk o) t];split
  ·obtain⟨bs,hr,hz⟩:=hs.slot t;exact u7.rn hk AT hr hz
  ·exact⟨[],.of (.any _),by simp⟩
 ·intro j x hj;obtain⟨i,ho,⟨_,rfl⟩|⟨y,hH,rfl⟩⟩:=key j x hj
  ·trivial
  ·have CH:=hs.ob i y hH;cases y with
   |gone=>trivial
   |hole=>trivial
   |tk rows=>
    obtain⟨v,bs,q1,q2,q3⟩:=CH;exact⟨v,bs,by rw[hk2 i j ho];exact q1,q2,fun b hb=>AT b (q3 b hb)⟩
   |mp kv=>
    obtain⟨g,es,c,q1,q2,q3,q4⟩:=CH;exact⟨g,es,c,by rw[hk2 i j ho];exact q1,q2,Rr g i j ho q3,q4⟩
   |fF sz rows u=>
    obtain⟨q1,q0,v,bs,q2,q3,q4,q5⟩:=CH;exact⟨q1,fun x hx=>by rw[hk2 i j ho];exact q0 x hx,v,bs,by rw[hk2 i j ho];exact q2,q3,q4,fun b hb=>⟨Rr b i j ho (q5 b hb).1,(q5 b hb).2⟩⟩
   |box cells=>
    obtain⟨g,cs,T,q1,q2,q3,bs,q4,q5⟩:=CH;obtain⟨b',p1,p2⟩:=fO.rn hk AT q4 q5;exact⟨g,cs,T,by rw[hk2 i j ho];exact q1,q2,Rr g i j ho q3,b',p1,p2⟩
   |Ph cells u=>
    obtain⟨q0,g,cs,T,q1,q2,q3,bs,q4,q5⟩:=CH;obtain⟨b',p1,p2⟩:=fO.rn hk AT q4 q5;exact⟨by rw[hk2 i j ho];exact q0,g,cs,T,by rw[hk2 i j ho];exact q1,q2,Rr g i j ho q3,b',p1,p2⟩
   |row k e sz rows=>
    obtain⟨q1,q2,v,cs,bs,q3,q4,q5,q6,q7⟩:=CH;refine⟨q1,q2,v,cs,bs,by rw[hk2 i j ho];exact q3,q4,q5,fun g hg=>Rr g i j ho (q6 g hg),?_⟩;cases k with
    |cl=>exact⟨q7.1,fun b hb=>⟨Rr b i j ho (q7.2.1 b hb).1,(q7.2.1 b hb).2⟩,q7.2.2⟩
    |sh=>exact fun b hb=>AT b (q7 b hb)
    |uq=>exact fun b hb=>AT b (q7 b hb)
    |mv n=>exact fun b hb=>AT b (q7 b hb)
 ·intro b hb;exact hs.own b (fun h=>hb (AT b h))
 ·intro b hb hx;obtain⟨h1,h2⟩:=hs.old b hb hx;simp only[Θ'];rw[bR h2];exact⟨h1,h2⟩
 ·intro b hb;refine hs.mine b ?_;simp only[Θ']at hb;split at hb<;>omega
 ·intro b hb;have hb':ρ b≠0:=fun h=>hb (by simp[ρ',h])
  obtain⟨h1,h2⟩:=hu.free b hb';exact⟨AT b h1,h2⟩
 ·intro j e sz rows hj;obtain⟨i,ho,⟨_,h⟩|⟨y,hH,h⟩⟩:=key j _ hj
  ·cases h
  ·have hy:y=.row .uq e sz rows:=by cases y<;>first| (simp only[Ob.rn]at h;exact h.symm)|cases h
   subst hy;obtain⟨v,cs,bs,q1,q2,q3,q4,q5⟩:=hu.rows i e sz rows hH;refine⟨v,cs,bs,by rw[hk2 i j ho];exact q1,q2,q3,q4,fun b hb=>?_⟩;simp only[ρ'];rw[q5 b hb,bG (by omega),Bc,XQ hnd ho]
 ·intro j x hj;obtain⟨i,ho,⟨_,h⟩|⟨y,hH,h⟩⟩:=key j _ hj
  ·subst h;trivial
  ·have hm:=hu.more i y hH;have a9x:∀b,ρ b=i+1->ρ' b=j+1:=fun b hb=>by
    simp only[ρ'];rw[hb,bG (by omega),Bc,XQ hnd ho]
   subst h;cases y with
   |tk rows=>
    obtain⟨v,bs,q1,q2,q3,q4⟩:=hm;exact⟨v,bs,by rw[hk2 i j ho];exact q1,q2,q3,fun b hb=>a9x b (q4 b hb)⟩
   |row k e sz rows=>
    cases k with
    |mv n=>
     obtain⟨v,cs,bs,q1,q2,q3,q4,q5⟩:=hm;exact⟨v,cs,bs,by rw[hk2 i j ho];exact q1,q2,q3,q4,fun b hb=>a9x b (q5 b hb)⟩
    |_=>trivial
   |_=>trivial
end
end Go.Cx
namespace Go.Cx
open Go.RowKit
abbrev Rw:=Nat×List (List D)
def Rw.ob(x:Rw)(v:Option Value):Ob:=.fF x.1 x.2 v
def Cb(w:World)(κ:Nat->Option Value):Nat->List Rw->af->Prop
 |_,[],us=>us=[]
 |n,x::xs,us=>∃v bs us',κ n=some v/\(∀r∈x.2,r.length=x.1)/\Rd w v (.sl x.2) bs/\us=bs++us'/\Cb w κ (n+1) xs us'
def tg(P:Program)(f:FuncId)(ds:aR)(ins outs:List Rw)(d:D):Prop:=
 (∃fn,P.funcs[f]?=some fn/\fn.body.isSome=true/\(fn.name== "runtime.NumGoroutine")=false)/\outs.length=ins.length/\d.flat=true/\
 ∀(w:World) (κ:Nat->Option Value) (args:br) (us:af),T3 w (fun b=>b∈us)->args.length=ds.length->(∀(i:Nat) d,ds[i]?=some d->∃v,args[i]?=some v/\u7 w κ v d [])->
  (∀i,ins.length<=i->κ i=none)->(∀(i:Nat) u,κ i=some u->u.oneCell'=true)->Cb w κ 0 ins us->us.Nodup->(∀b∈us,Wr w b)->
  Calls P f args.toArray w (fun e w'=>∃v us',e=.returned v/\Rd w' v d []/\Cb w' κ 0 outs us'/\us'.Nodup/\(∀b∈us',(b∈us\/w.heap.size<=b)/\Wr w' b)/\
   w'.os=w.os/\w'.tape=w.tape/\w'.output=w.output/\w.heap.size<=w'.heap.size/\∀b,b<w.heap.size->b∉us->w'.heap[b]?=w.heap[b]?)
section
variable{P:Program}{Γ:vn}{Q:Exit->St->Prop}{st:St}{κ κ':Nat->Option Value}{Θ Θ':Nat->Nat}{a:Act}{w w':World}{all:Array Oper}{rest:List Oper}
theorem Cb.at:∀ {xs:List Rw} {n:Nat} {us:af},Cb w κ n xs us->∀(i:Nat) x,xs[i]?=some x->∃v bs,κ (n+i)=some v/\(∀r∈x.2,r.length=x.1)/\Rd w v (.sl x.2) bs/\∀b∈bs,b∈us:=by
 intro xs
 induction xs with
 |nil=>intro n us _ i x hx;simp at hx
 |cons y ys ih=>
  intro n us h i x hx;obtain⟨v,bs,us',h1,h2,h3,rfl,h5⟩:=h;cases i with
  |zero=>simp at hx;subst hx;exact⟨v,bs,h1,h2,h3,fun b hb=>by simp[hb]⟩
  |succ i=>
   simp at hx;obtain⟨v',bs',q1,q2,q3,q4⟩:=ih h5 i x hx;exact⟨v',bs',by rw[<-q1];congr 1;omega,q2,q3,fun b hb=>by simp[q4 b hb]⟩
theorem Cb.parts:∀ {xs:List Rw} {n:Nat} {us:af},Cb w κ n xs us->∃L:List af,L.length=xs.length/\us=L.flatten/\∀(i:Nat) x bs,xs[i]?=some x->L[i]?=some bs->∃v,κ (n+i)=some v/\(∀r∈x.2,r.length=x.1)/\Rd w v (.sl x.2) bs:=by
 intro xs
 induction xs with
 |nil=>intro n us h;exact⟨[],rfl,by simpa[Cb]using h,by simp⟩
 |cons y ys ih=>
  intro n us h;obtain⟨v,bs,us',h1,h2,h3,rfl,h5⟩:=h;obtain⟨L,q1,rfl,q3⟩:=ih h5;refine⟨bs::L,by simp[q1],by simp,?_⟩;intro i x b hx hb;cases i with
  |zero=>simp at hx hb;subst hx;subst hb;exact⟨v,h1,h2,h3⟩
  |succ i=>
   simp at hx hb;obtain⟨v',r1,r2,r3⟩:=q3 i x b hx hb;exact⟨v',by rw[<-r1];congr 1;omega,r2,r3⟩
theorem Cb.of:∀ {xs:List Rw} {n:Nat} {L:List af},L.length=xs.length->(∀(i:Nat) x bs,xs[i]?=some x->L[i]?=some bs->∃v,κ (n+i)=some v/\(∀r∈x.2,r.length=x.1)/\Rd w v (.sl x.2) bs)->Cb w κ n xs L.flatten:=by
 intro xs
 induction xs with
 |nil=>
  intro n L hl _;have:L=[]:=cc (by simpa using hl);subst this;rfl
 |cons y ys ih=>
  intro n L hl h;cases L with
  |nil=>simp at hl
  |cons bs L=>
   obtain⟨v,h1,h2,h3⟩:=h 0 y bs rfl rfl;refine⟨v,bs,L.flatten,h1,h2,h3,by simp,ih (by simpa using hl) ?_⟩;intro i x b hx hb;obtain⟨v',r1,r2,r3⟩:=h (i+1) x b (by simpa using hx) (by simpa using hb);exact⟨v',by rw[<-r1];congr 1;omega,r2,r3⟩
theorem eO.forget(hs:eO Γ st κ Θ a w)(ms:af):eO Γ ⟨st.σ,kill st.H ms⟩ κ (fun b=>if ms.any (fun m=>Θ b==m+2)then st.H.length+2 else Θ b) a w:=by
 have h0:∀b,Θ b=0->(if ms.any (fun m=>Θ b==m+2)then st.H.length+2 else Θ b)=0:=by
  intro b hb;rw[bG,hb];intro h;obtain⟨m,_,hm⟩:=dQ.1 h;simp[hb]at hm
 have hk:∀(j:Nat) o,(kill st.H ms)[j]?=some o->o=.gone\/(j∉ms/\st.H[j]?=some o):=fun j o h=>ux h
 have hold:∀b j,j∉ms->Θ b=j+2->(if ms.any (fun m=>Θ b==m+2)then st.H.length+2 else Θ b)=j+2:=by
  intro b j hj hb;rw[bG,hb];intro h;obtain⟨m,hm,he⟩:=dQ.1 h;simp only[hb,cj]at he;exact hj (by
   have:j=m:=by omega
   rw[this];exact hm)
 obtain⟨ρ,hu⟩:=hs.we;refine⟨hs.defers,hs.size,fun i hi=>hs.rV i (by simpa[iJ]using hi),hs.qm,?_,?_,?_,?_,?_,hs.stays,ρ,?_,?_,?_⟩
 ·intro t;obtain⟨bs,hr,hz⟩:=hs.slot t;exact⟨bs,hr,fun b hb=>h0 b (hz b hb)⟩
 ·intro j o hj;rcases hk j o hj with rfl|⟨hn,hj'⟩
  ·trivial
  ·have CH:=hs.ob j o hj';cases o with
   |gone=>trivial
   |tk rows=>
    obtain⟨v,bs,q1,q2,q3⟩:=CH;exact⟨v,bs,q1,q2,fun b hb=>h0 b (q3 b hb)⟩
   |box cells=>
    obtain⟨g,cs,T,q1,q2,q3,bs,q4,q5⟩:=CH;exact⟨g,cs,T,q1,q2,hold g j hn q3,bs,q4,fun b hb=>h0 b (q5 b hb)⟩
   |Ph cells u=>
    obtain⟨q0,g,cs,T,q1,q2,q3,bs,q4,q5⟩:=CH;exact⟨q0,g,cs,T,q1,q2,hold g j hn q3,bs,q4,fun b hb=>h0 b (q5 b hb)⟩
   |row k e sz rows=>
    obtain⟨q1,q2,v,cs,bs,q3,q4,q5,q6,q7⟩:=CH;refine⟨q1,q2,v,cs,bs,q3,q4,q5,fun g hg=>hold g j hn (q6 g hg),?_⟩;cases k with
    |cl=>exact⟨q7.1,fun b hb=>⟨hold b j hn (q7.2.1 b hb).1,(q7.2.1 b hb).2⟩,q7.2.2⟩
    |sh=>exact fun b hb=>h0 b (q7 b hb)
    |uq=>exact fun b hb=>h0 b (q7 b hb)
    |mv n=>exact fun b hb=>h0 b (q7 b hb)
   |fF sz rows u=>
    obtain⟨q1,q0,v,bs,q2,q3,q4,q5⟩:=CH;exact⟨q1,q0,v,bs,q2,q3,q4,fun b hb=>⟨hold b j hn (q5 b hb).1,(q5 b hb).2⟩⟩
   |hole sz rows u p n=>
    obtain⟨q1,q0,v,bs,q2,q3,q4,q5⟩:=CH;exact⟨q1,q0,v,bs,q2,q3,q4,fun b hb=>⟨hold b j hn (q5 b hb).1,(q5 b hb).2⟩⟩
   |mp kv=>
    obtain⟨g,es,c,q1,q2,q3,q4⟩:=CH;exact⟨g,es,c,q1,q2,hold g j hn q3,q4⟩
 ·intro b hb;refine hs.own b fun h=>hb ?_
  exact h0 b h
 ·intro b hb hx;obtain⟨h1,h2⟩:=hs.old b hb hx;have:(if ms.any (fun m=>Θ b==m+2)then st.H.length+2 else Θ b)=Θ b:=by
   rw[bG];intro h;obtain⟨m,_,hm⟩:=dQ.1 h;simp only[cj]at hm;omega
  show(if ms.any (fun m=>Θ b==m+2)then st.H.length+2 else Θ b)=_/\(if ms.any (fun m=>Θ b==m+2)then st.H.length+2 else Θ b)<=1;rw[this];exact⟨h1,h2⟩
 ·intro b hb;refine hs.mine b ?_;by_cases h:ms.any (fun m=>Θ b==m+2)=true
  ·obtain⟨m,_,hm⟩:=dQ.1 h;simp only[cj]at hm;omega
  ·simp only[h]at hb;simpa using hb
 ·intro b hb;obtain⟨h1,h2⟩:=hu.free b hb;exact⟨h0 b h1,h2⟩
 ·intro id e sz rows hj;rcases hk id _ hj with h|⟨_,h⟩
  ·cases h
  ·exact hu.rows id e sz rows h
 ·intro id o hj;rcases hk id _ hj with h|⟨_,h⟩
  ·subst h;trivial
  ·exact hu.more id o h
def lv(H:bW)(m:Nat):Option Value:=match H[m]? with|some (.fF _ _ v)=>v|_=>none
def Tp:bW->af->List Rw->bW
 |H,m::ms,x::xs=>Tp (H.set m (x.ob (lv H m))) ms xs
 |H,_,_=>H
theorem PI:∀(H:bW) (ms:af) (xs:List Rw),(Tp H ms xs).length=H.length:=by
 intro H ms
 induction ms generalizing H with
 |nil=>intro xs;cases xs<;>rfl
 |cons m ms ih=>intro xs;cases xs with|nil=>rfl|cons x xs=>simp[Tp,ih]
theorem a2g:∀ {H:bW} {ms:af} {xs:List Rw} {j:Nat} {y:Ob},ms.Nodup->xs.length=ms.length->(Tp H ms xs)[j]?=some y->(∃(i:Nat) (x:Rw),ms[i]?=some j/\xs[i]?=some x/\y=x.ob (lv H j))\/(j∉ms/\H[j]?=some y):=by
 intro H ms
 induction ms generalizing H with
 |nil=>intro xs j y _ _ h;cases xs<;>exact .inr ⟨by simp,h⟩
 |cons m ms ih=>
  intro xs j y hnd hl h;cases xs with
  |nil=>simp at hl
  |cons x xs=>
   obtain⟨n1,n2⟩:=fC.1 hnd;rcases ih n2 (by simpa using hl) h with⟨i,z,h1,h2,h3⟩|⟨h1,h2⟩
   ·refine .inl ⟨i+1,z,by simpa using h1,by simpa using h2,?_⟩;rw[h3];have hne:m≠j:=fun e=>n1 (by rw[e];exact aC h1)
    simp only[lv,cG hne]
   ·rcases BP j y h2 with⟨rfl,rfl⟩|⟨h3,h4⟩
    ·exact .inl ⟨0,x,rfl,rfl,rfl⟩
    ·exact .inr ⟨by simp[h1,h3],h4⟩
def Qu(H:bW):af->Option (List Rw)
 | []=>some []
 |m::ms=>match H[m]?,Qu H ms with|some (.fF sz rows _),some xs=>some ((sz,rows)::xs)|_,_=>none
theorem X8{H:bW}:∀ {ms:af} {xs:List Rw},Qu H ms=some xs->xs.length=ms.length/\∀(i m:Nat) x,ms[i]?=some m->xs[i]?=some x->∃v,H[m]?=some (x.ob v):=by
 intro ms
 induction ms with
 |nil=>intro xs h;cases h;simp
 |cons m ms ih=>
  intro xs h;simp only[Qu]at h;split at h
  ·rename_i sz rows u ys h1 h2;cases h;obtain⟨q1,q2⟩:=ih h2;refine⟨by simp[q1],?_⟩;intro i m' x hm hx;cases i with
   |zero=>simp at hm hx;subst hm;subst hx;exact⟨u,h1⟩
   |succ i=>exact q2 i m' x (by simpa using hm) (by simpa using hx)
  ·cases h
def D.KI(d:D):Bool:=match d with
 | .acc _=>true
 |d=>d.flat
def D.bare(d:D):Bool:=match d with
 | .agg cs=>cs.all D.KI
 |d=>d.KI
theorem BU.Pv{v:Value}{d:D}{bs:af}(h:BU w κ v d bs)(hf:d.KI=true):bs=[]:=by
 cases h with
 |pure h=>
  refine h.flat ?_;cases h<;>exact hf
 |_=>rfl
theorem fO.Pv{vs:br}{ds:aR}{bs:af}(h:fO w κ vs ds bs)(hf:ds.all D.KI=true):bs=[]:=by
 induction h with
 |nil=>rfl
 |cons v vs d ds b1 b2 h1 h2 _ ih=>
  simp only[dK,aY]at hf;rw[h2.Pv hf.1,ih hf.2];rfl
theorem u7.YA{v:Value}{d:D}{bs:af}(h:u7 w κ v d bs)(hf:d.bare=true):bs=[]:=by
 cases h with
 |v h=>
  cases h with
  |cell h=>
   cases h with
   |pure h=>
    cases h with
    |agg cs ds _ h=>exact fO.Pv (fO.FB (κ:=κ) h) hf
    |_=>first|rfl|exact absurd hf (by simp[D.bare,D.KI,D.flat])
   |_=>rfl
  |agg cs ds bs h=>exact h.Pv hf
 |gN=>simp[D.bare,D.KI,D.flat]at hf
theorem D.a1C(o:af){c:D}(h:c.KI=true):(c.Yj o).KI=true:=by
 cases c with
 |acc m=>simp only[D.Yj];cases pos o m<;>rfl
 |_=>first|exact h| (simp[D.KI,D.flat]at h)
theorem D.YB(o:af){d:D}(h:d.bare=true):(d.Yk o).bare=true:=by
 cases d with
 |agg cs=>
  simp only[D.Yk,D.rnV,D.bare,E5]at h⊢;rw[bB]at h⊢;intro c hcm;exact D.a1C o (h c hcm)
 |acc m=>simp only[D.Yk,D.rnV,D.Yj];cases pos o m<;>rfl
 |_=>first|exact h| (simp[D.bare,D.KI,D.flat]at h)
theorem P5{L:List af}(h:L.flatten.Nodup):∀(i j:Nat) x y b,L[i]?=some x->L[j]?=some y->b∈x->b∈y->i=j:=by
 intro i j x y b hi hj hx hy;have:=yR (f:=fun l:af=>l) (l:=L) (by simpa[List.flatMap_id]using h);exact this i j x y b hi hj hx hy
theorem Qd{L:List af}(h:L.flatten.Nodup):∀x∈L,x.Nodup:=by
 induction L with
 |nil=>intro x hx;cases hx
 |cons y L ih=>
  intro x hx;simp only[eV]at h;obtain⟨h1,h2,_⟩:=bO.1 h;rcases bM.1 hx with rfl|hx
  ·exact h1
  ·exact ih h2 x hx
theorem KP:∀ {L:List af},(∀x∈L,x.Nodup)->(∀(i j:Nat) x y b,L[i]?=some x->L[j]?=some y->b∈x->b∈y->i=j)->L.flatten.Nodup:=by
 intro L
 induction L with
 |nil=>intro _ _;simp
 |cons y L ih=>
  intro h1 h2;simp only[eV];refine bO.2 ⟨h1 y (by simp),ih (fun x hx=>h1 x (by simp[hx])) (fun i j x z b hi hj hx hz=>?_),?_⟩
  ·have:=h2 (i+1) (j+1) x z b (by simpa using hi) (by simpa using hj) hx hz;omega
  ·intro b hb c hc e;subst e;obtain⟨x,hx,I0⟩:=di.1 hc;obtain⟨j,hj⟩:=cm hx;have:=h2 0 (j+1) y x b rfl (by simpa using hj) hb I0;omega
theorem a0w{o:Oper}{f t:Nat}{xs:Array Operand}{ts:Array TypeId}{ms:af}{ins outs:List Rw}{d:D}(hop:o.op=.call {callee:=.value (.func f),args:=xs,argTypes:=ts})(hd:o.dst=some t)(hg:o.guard=none)
 (ht:t<Γ.nt) (hnd:ms.Nodup) (hins:Qu st.H ms=some ins) (hb:((xs.toList.map st.ev).all D.bare)=true) (pz:tg P f ((xs.toList.map st.ev).map (D.Yk ms)) ins outs d)
 (h:AO P Γ all rest Q ⟨(t,d)::st.σ,Tp st.H ms outs⟩):AO P Γ all (o::rest) Q st:=by
 intro κ Θ a w hs;obtain⟨WE,hig⟩:=X8 hins;obtain⟨hfn,hol,hfl,a9O⟩:=pz;let κc:Nat->Option Value:=fun j=>(ms[j]?).bind κ
 have hkc:∀(i m:Nat),ms[i]?=some m->κc i=κ m:=fun i m h=>by simp[κc,h]
 have CH:∀(i m:Nat) x,ms[i]?=some m->ins[i]?=some x->∃v bs,κ m=some v/\(∀r∈x.2,r.length=x.1)/\Rd w v (.sl x.2) bs/\bs.Nodup/\∀b∈bs,Θ b=m+2/\Wr w b:=by
  intro i m x hm hx;obtain⟨u,hu⟩:=hig i m x hm hx;obtain⟨q1,_,v,bs,q2,q3,q4,q5⟩:=hs.ob m _ hu;exact⟨v,bs,q2,q1,q3,q4,q5⟩
 have hL:∃L:List af,L.length=ins.length/\∀(i m:Nat) x bs,ms[i]?=some m->ins[i]?=some x->L[i]?=some bs->(∃v,κ m=some v/\(∀r∈x.2,r.length=x.1)/\Rd w v (.sl x.2) bs)/\bs.Nodup/\∀b∈bs,Θ b=m+2/\Wr w b:=by
  have key:∀(ms:af) (ins:List Rw),ins.length=ms.length->(∀(i m:Nat) x,ms[i]?=some m->ins[i]?=some x->∃v bs,κ m=some v/\(∀r∈x.2,r.length=x.1)/\Rd w v (.sl x.2) bs/\bs.Nodup/\∀b∈bs,Θ b=m+2/\Wr w b)->
   ∃L:List af,L.length=ins.length/\∀(i m:Nat) x bs,ms[i]?=some m->ins[i]?=some x->L[i]?=some bs->(∃v,κ m=some v/\(∀r∈x.2,r.length=x.1)/\Rd w v (.sl x.2) bs)/\bs.Nodup/\∀b∈bs,Θ b=m+2/\Wr w b:=by
   intro ms
   induction ms with
   |nil=>intro ins hl _;exact⟨[],by simpa using hl.symm,by simp⟩
   |cons m ms ih=>
    intro ins hl CH;cases ins with
    |nil=>simp at hl
    |cons x ins=>
     obtain⟨L,q1,q2⟩:=ih ins (by simpa using hl) (fun i m' x' hm hx=>CH (i+1) m' x' (by simpa using hm) (by simpa using hx));obtain⟨v,bs,r1,r2,r3,r4,r5⟩:=CH 0 m x rfl rfl;refine⟨bs::L,by simp[q1],?_⟩;intro i m' x' b hm hx hb;cases i with
     |zero=>simp at hm hx hb;subst hm;subst hx;subst hb;exact⟨⟨v,r1,r2,r3⟩,r4,r5⟩
     |succ i=>exact q2 i m' x' b (by simpa using hm) (by simpa using hx) (by simpa using hb)
  exact key ms ins WE CH
 obtain⟨L,hLl,hLi⟩:=hL;have hmi:∀(i:Nat) bs,L[i]?=some bs->∃m x,ms[i]?=some m/\ins[i]?=some x:=by
  intro i bs hb';have hlt:=(aH.1 hb').1;exact⟨_,_,ai (by omega),ai (by omega)⟩
 have hmem:∀b∈L.flatten,∃m∈ms,Θ b=m+2:=by
  intro b hb';obtain⟨x,hx,I0⟩:=di.1 hb';obtain⟨i,hi⟩:=cm hx;obtain⟨m,y,h1,h2⟩:=hmi i x hi;exact⟨m,aC h1,((hLi i m y x h1 h2 hi).2.2 b I0).1⟩
 have x9:L.flatten.Nodup:=by
  refine KP (fun x hx=>?_) (fun i j x y b hi hj hx hy=>?_)
  ·obtain⟨i,hi⟩:=cm hx;obtain⟨m,y,h1,h2⟩:=hmi i x hi;exact(hLi i m y x h1 h2 hi).2.1
  ·obtain⟨m1,y1,h1,h2⟩:=hmi i x hi;obtain⟨m2,y2,h3,h4⟩:=hmi j y hj;have e1:=((hLi i m1 y1 x h1 h2 hi).2.2 b hx).1;have e2:=((hLi j m2 y2 y h3 h4 hj).2.2 b hy).1;have:m1=m2:=by omega
   subst this;exact Sa hnd i j m1 h1 h3
 have Qj:Cb w κc 0 ins L.flatten:=Cb.of hLl (fun i x bs hx hb'=>by
  obtain⟨m,y,h1,h2⟩:=hmi i bs hb';rw[hx]at h2;cases h2;obtain⟨⟨v,q1,q2,q3⟩,_⟩:=hLi i m x bs h1 hx hb';exact⟨v,by rw[cq,hkc i m h1];exact q1,q2,q3⟩)
 have hwr:∀b∈L.flatten,Wr w b:=by
  intro b hb';obtain⟨x,hx,I0⟩:=di.1 hb';obtain⟨i,hi⟩:=cm hx;obtain⟨m,y,h1,h2⟩:=hmi i x hi;exact((hLi i m y x h1 h2 hi).2.2 b I0).2
 have hargs:∀(i:Nat) d,((xs.toList.map st.ev).map (D.Yk ms))[i]?=some d->∃v,(xs.toList.map a.eval)[i]?=some v/\u7 w κc v d []:=by
  intro i d MK;rw[cA,cA]at MK;cases hx:xs.toList[i]? with
  |none=>rw[hx]at MK;cases MK
  |some x=>
   rw[hx]at MK;simp only[cZ,az]at MK;subst MK;refine⟨a.eval x,by rw[cA,hx];rfl,?_⟩;obtain⟨bs,r,hz⟩:=hs.ev x;have a1S:(st.ev x).bare=true:=bB.1 hb _ (cJ.2 ⟨x,aC hx,rfl⟩);obtain⟨b',r',_⟩:=u7.rn (o:=ms) (κ':=κc) (Θ:=fun _=>0) (Θ':=fun _=>0) (fun i j v h1 h2=>by simp[κc,To h1,h2]) (fun _ _=>rfl) r (fun _ _=>rfl);have:=r'.YA (D.YB ms a1S);subst this;exact r'
 have TN:T3 w fun b=>b∈L.flatten:=by
  obtain⟨B,v1,v2⟩:=hs.vsb;refine⟨B,v1,fun b hB=>⟨(v2 b hB).2.1,fun hb'=>?_⟩⟩;obtain⟨x,hx,I0⟩:=di.1 hb';obtain⟨i,hi⟩:=cm hx;obtain⟨m,y,h1,h2⟩:=hmi i x hi;have e1:=((hLi i m y x h1 h2 hi).2.2 b I0).1;rcases hs.mine b (by omega)with q|q
  ·have:=(v2 b hB).1;omega
  ·exact(v2 b hB).2.2 q
 have hc:=a9O w κc (xs.toList.map a.eval) L.flatten TN (by simp) hargs (fun i hi=>by simp[κc,ck (by omega:ms.length<=i)]) (fun i u hu=>by
  simp only[κc]at hu;cases hm:ms[i]? with
  |none=>rw[hm]at hu;cases hu
  |some m=>rw[hm]at hu;exact hs.qm m u hu) Qj x9 hwr
 refine wpList_plain hg fun K hK=>?_
 unfold Oper.wp;rw[AP hop hfn,Oper.upon_enter];have e:xs.map a.eval=(xs.toList.map a.eval).toArray:=by rw[<-jG,ke]
 rw[e];refine hc.mono ?_;rintro e w' ⟨v,us',rfl,hv,hl',KA,Ws,k1,k2,k3,k4,k5⟩;show K (a.put o.dst v) w';rw[hd];obtain⟨L',a9G,rfl,Wp⟩:=hl'.parts;have a1f:∀(i:Nat) bs,L'[i]?=some bs->∃m x,ms[i]?=some m/\outs[i]?=some x:=by
  intro i bs hb';have hlt:=(aH.1 hb').1;exact⟨_,_,ai (by omega),ai (by omega)⟩
 have hs1:=hs.forget ms;let Θ1:Nat->Nat:=fun b=>if ms.any (fun m=>Θ b==m+2)then st.H.length+2 else Θ b
 have a9w:∀b,b∈L.flatten->Θ1 b=st.H.length+2:=by
  intro b hb';obtain⟨m,hm,he⟩:=hmem b hb';simp only[Θ1];rw[bR (dQ.2 ⟨m,hm,by simp[he]⟩)]
 let Θ2:Nat->Nat:=fun b=>match ix (fun x:af=>x.contains b) L' with|some i=>(match ms[i]? with|some m=>m+2|none=>1)|none=>if Θ1 b=st.H.length+2 then 1 else Θ1 b
 have aD5:∀(i m:Nat) bs b,ms[i]?=some m->L'[i]?=some bs->b∈bs->Θ2 b=m+2:=by
  intro i m bs b hm hi hb';have:ix (fun x:af=>x.contains b) L'=some i:=Eu hi (by simpa using hb') (fun j y hj hy=>P5 KA j i y bs b hj hi (by simpa using hy) hb');simp only[Θ2,this,hm]
 have a1r:∀b,b∉L'.flatten->Θ2 b=if Θ1 b=st.H.length+2 then 1 else Θ1 b:=by
  intro b hb';simp only[Θ2];cases h:ix (fun x:af=>x.contains b) L' with
  |none=>rfl
  |some i=>
   obtain⟨x,hx,hp⟩:=zl h;exact absurd (di.2 ⟨x,aC hx,by simpa using hp⟩) hb'
 have hlt':∀b∈L'.flatten,b<w'.heap.size:=fun b hb'=>by
  obtain⟨cs,T,hx⟩:=(Ws b hb').2;exact(bL.1 hx).1
 have kk:jW w w' Θ1 Θ2 (st.H.length+2):=by
  refine⟨by omega,k1,k2,k3,k4,fun b hlt hne=>k5 b hlt fun hb'=>hne (a9w b hb'),fun b hlt hne=>?_,fun b hb'=>?_⟩
  ·by_cases hin:b∈L'.flatten
   ·rcases(Ws b hin).1 with h'|h'
    ·exact absurd (a9w b h') hne
    ·omega
   ·rw[a1r b hin,bG hne]
  ·by_cases hin:b∈L'.flatten
   ·exact hlt' b hin
   ·rw[a1r b hin]at hb';refine eE (hs1.own b ?_) k4;intro h0;have h0':Θ1 b=0:=h0;rw[h0']at hb';rw[bG (by omega)]at hb';exact hb' rfl
 have hm2:∀b,2<=Θ2 b->Cr Γ b:=by
  intro b hb';by_cases hin:b∈L'.flatten
  ·rcases(Ws b hin).1 with h'|h'
   ·obtain⟨m,_,he⟩:=hmem b h';exact hs.mine b (by omega)
   ·exact .inl (cT hs.base h')
  ·rw[a1r b hin]at hb';split at hb'
   ·omega
   ·exact hs1.mine b hb'
 obtain⟨ρ,hu⟩:=hs1.we;have a7V:=hs1.qc kk (κ':=κ) (fun _ _ h=>h) hu;have hkl:(kill st.H ms).length=st.H.length:=iJ _ _;have hpk:∀(j:Nat) y,(Tp st.H ms outs)[j]?=some y->(∃(i:Nat) (x:Rw),ms[i]?=some j/\outs[i]?=some x/\y=x.ob (lv st.H j))\/(j∉ms/\(kill st.H ms)[j]?=some y):=by
  intro j y hj;rcases a2g hnd (by omega) hj with h'|⟨h1,h2⟩
  ·exact .inl h'
  ·exact .inr ⟨h1,by rw[jt h1];exact h2⟩
 have Qi:∀(j:Nat) y,(Tp st.H ms outs)[j]?=some y->j+2≠st.H.length+2:=fun j y hj=>by
  have:=(aH.1 hj).1;rw[PI]at this;omega
 have hs2:eO Γ ⟨st.σ,Tp st.H ms outs⟩ κ Θ2 a w':=by
  refine hs1.step kk hm2 (fun _ _ h=>h) (fun i hi=>hs.rV i (by rw[PI]at hi;exact hi)) hs.qm ?_ ⟨ρ,a7V.1,?_,?_⟩
  ·intro j y hj;have hjl:=Qi j y hj;rcases hpk j y hj with⟨i,x,h1,h2,rfl⟩|⟨_,h2⟩
   ·right;right
    have Za:∃bs,L'[i]?=some bs:=⟨_,ai (by have:=(aH.1 h2).1;omega)⟩
    obtain⟨bs,Za⟩:=Za;obtain⟨v',q1,q2,q3⟩:=Wp i x bs h2 Za;rw[cq,hkc i j h1]at q1;refine⟨q2,fun x hx=>?_,v',bs,q1,q3,Qd KA bs (aC Za),fun b hb'=>⟨aD5 i j bs b h1 Za hb',(Ws b (di.2 ⟨bs,aC Za,hb'⟩)).2⟩⟩;unfold lv at hx;split at hx
    ·rename_i sz0 aE6 u0 hH0;subst hx;obtain⟨_,q0,_⟩:=hs.ob j _ hH0;exact q0 x rfl
    ·cases hx
   ·exact .inr (.inl ⟨hjl,h2⟩)
  ·intro id e' sz' dP hj;have hjl:=Qi id _ hj;rcases hpk id _ hj with⟨i,x,h1,h2,h3⟩|⟨_,h2⟩
   ·simp[Rw.ob]at h3
   ·exact a7V.2.1 id e' sz' dP hjl h2
  ·intro id y hj;have hjl:=Qi id _ hj;rcases hpk id _ hj with⟨i,x,h1,h2,h3⟩|⟨_,h2⟩
   ·subst h3;exact PR.Aj rfl
   ·exact a7V.2.2 id y hjl h2
 have vh:u7 w' κ v d []:=.of hv;exact hK _ _ (h κ Θ2 _ w' (hs2.set (t:=t) ht vh (by simp)))
def Ob.close:Ob->Ob
 | .row _ _ sz rows=>.fF sz rows none
 |o=>o
theorem eO.Zi(hs:eO Γ st κ Θ a w)(hb:Below w.heap.size w w')(L:p9)(hL:∀x∈L,x.ok w')(hnd:(L.flatMap Fs.bl).Nodup)(hfr:∀b∈L.flatMap Fs.bl,w.heap.size<=b/\Wr w' b):
 ∃κ' Θ',eO Γ ⟨st.σ,st.H++(L.map Fs.ob).map Ob.close⟩ κ' Θ' a w'/\Names κ' st.H.length L:=by
 let n:=st.H.length
 let κ':Nat->Option Value:=fun j=>if j<n\/n+L.length<=j then κ j else(L[j-n]?).map Fs.v
 let Θ':Nat->Nat:=fun b=>match ix (fun x:Fs=>x.bl.contains b) L with|some i=>n+i+2|none=>Θ b
 have hu1:∀(i j:Nat) x y b,L[i]?=some x->L[j]?=some y->b∈x.bl->b∈y.bl->i=j:=fun i j x y b=>yR hnd i j x y b
 have hts:∀(i:Nat) x b,L[i]?=some x->b∈x.bl->Θ' b=n+i+2:=by
  intro i x b hi hxb;have:ix (fun x:Fs=>x.bl.contains b) L=some i:=Eu hi (by simpa using hxb) (fun j y hj hy=>hu1 j i y x b hj hi (by simpa using hy) hxb);simp only[Θ',this]
 have hno:∀b,b∉L.flatMap Fs.bl->Θ' b=Θ b:=by
  intro b hb';simp only[Θ'];cases h:ix (fun x:Fs=>x.bl.contains b) L with
  |none=>rfl
  |some i=>
   obtain⟨x,hx,hp⟩:=zl h;exact absurd (cE.2 ⟨x,aC hx,by simpa using hp⟩) hb'
 have hold:∀b,b<w.heap.size->Θ' b=Θ b:=fun b hlt=>hno b (fun h=>by have:=(hfr b h).1;omega)
 have hn:∀(j:Nat) v,κ j=some v->κ' j=some v:=by
  intro j v hj;have:j<n:=by
   rcases eR j n with h|h
   ·exact h
   ·have:=hs.rV j h;rw[hj]at this;cases this
  simp only[κ'];rw[bR (.inl this)];exact hj
 have C8:Names κ' n L:=by
  intro i x hx;have hlt:=(aH.1 hx).1;simp only[κ'];rw[bG (by omega),dw,hx];rfl
 have hlen:(st.H++(L.map Fs.ob).map Ob.close).length=n+L.length:=by simp[n]
 have k:jW w w' Θ Θ' (n+L.length+2):=by
  refine⟨by omega,hb.os,hb.tape,hb.output,hb.size,fun b hlt _=>hb.block b hlt,fun b hlt _=>hold b hlt,fun b h=>?_⟩;by_cases hin:b∈L.flatMap Fs.bl
  ·obtain⟨cs,T,hx⟩:=(hfr b hin).2;exact(bL.1 hx).1
  ·rw[hno b hin]at h;exact eE (hs.own b h) hb.size
 have hm:∀b,2<=Θ' b->Cr Γ b:=by
  intro b h;by_cases hin:b∈L.flatMap Fs.bl
  ·exact .inl (cT hs.base (hfr b hin).1)
  ·rw[hno b hin]at h;exact hs.mine b h
 have key:∀(j:Nat) y,(st.H++(L.map Fs.ob).map Ob.close)[j]?=some y->(∃i x,j=n+i/\L[i]?=some x/\y=.fF x.sz x.rows none)\/(j<n/\st.H[j]?=some y):=by
  intro j y hj;by_cases hlt:j<st.H.length
  ·rw[bA hlt]at hj;exact .inr ⟨hlt,hj⟩
  ·rw[bE (by omega),cA,cA]at hj;cases hx:L[j-st.H.length]? with
   |none=>simp[hx]at hj
   |some x=>simp[hx]at hj;exact .inl ⟨j-st.H.length,x,by omega,hx,hj.symm⟩
 have Qi:∀(j:Nat) y,(st.H++(L.map Fs.ob).map Ob.close)[j]?=some y->j+2≠n+L.length+2:=fun j y hj=>by
  have:=(aH.1 hj).1;omega
 obtain⟨ρ,hu⟩:=hs.we;have x9:=hs.qc k hn hu;refine⟨κ',Θ',hs.step k hm hn (fun i hi=>?_) (fun i u BM=>?_) (fun j y hj=>?_) ⟨ρ,x9.1,fun id e sz rows hj=>?_,fun id y hj=>?_⟩,C8⟩
 ·rw[hlen]at hi;simp only[κ'];rw[bR (by omega)];exact hs.rV i (by omega)
 ·simp only[κ']at BM;split at BM
  ·exact hs.qm i u BM
  ·cases hx:L[i-n]? with
   |none=>simp[hx]at BM
   |some x=>simp[hx]at BM;subst BM;exact(hL x (aC hx)).2.2.2.2
 ·have hjl:=Qi j y hj;rcases key j y hj with⟨i,x,rfl,hx,rfl⟩|⟨hlt,hy⟩
  ·right;right
   obtain⟨q1,q2,q3,q4,_⟩:=hL x (aC hx);have Oh:x.bl.Nodup:=by
    have:∀(l:p9),(l.flatMap Fs.bl).Nodup->∀x∈l,x.bl.Nodup:=by
     intro l
     induction l with
     |nil=>intro _ x hx;cases hx
     |cons z r ih=>
      intro hnd x hx;simp only[dN]at hnd;obtain⟨n1,n2,_⟩:=bO.1 hnd;rcases bM.1 hx with rfl|hx
      ·exact n1
      ·exact ih n2 x hx
    exact this L hnd x (aC hx)
   exact⟨q2,by simp,x.v,x.bl,C8 i x hx,yG q2 q3 q4,Oh,fun b hb'=>⟨hts i x b hx hb',(hfr b (cE.2 ⟨x,aC hx,hb'⟩)).2⟩⟩
  ·exact .inr (.inl ⟨hjl,hy⟩)
 ·have hjl:=Qi id _ hj;rcases key id _ hj with⟨i,x,_,_,h⟩|⟨hlt,hy⟩
  ·cases h
  ·exact x9.2.1 id e sz rows hjl hy
 ·have hjl:=Qi id _ hj;rcases key id _ hj with⟨i,x,_,_,h⟩|⟨hlt,hy⟩
  ·subst h;exact PR.Aj rfl
  ·exact x9.2.2 id y hjl hy
theorem a0q{o:Oper}{f t:Nat}{xs:Array Operand}{ts:Array TypeId}{ds:aR}{ms:af}{d:D}(hop:o.op=.call {callee:=.value (.func f),args:=xs,argTypes:=ts})(hd:o.dst=some t)(hg:o.guard=none)
 (ht:t<Γ.nt) (hds:MH st.H (xs.toList.map st.ev)=some (ds,ms)) (hown:d.RD=true) (pz:Good P f ds d)
 (h:AO P Γ all rest Q ⟨(t,(rU st.H.length d).1)::st.σ,st.H++(rU st.H.length d).2.map Ob.close⟩):AO P Γ all (o::rest) Q st:=by
 intro κ Θ a w hs;obtain⟨bs,hargs,hz⟩:=Q6 hs hds;let Θc:Nat->Nat:=fun b=>if Θ b=0\/ms.any (fun m=>Θ b==m+2)then 0 else 1
 have P9:∀b,Seen Θ ms b->Θc b=0:=by
  intro b h;simp only[Θc];rw[bR];rcases h with h|⟨m,h1,h2⟩
  ·exact .inl h
  ·exact .inr (dQ.2 ⟨m,h1,by simp[h2]⟩)
 have hc:=pz.2 w Θc _ bs hs.vok hargs (fun b hb=>P9 b (hz b hb)) (fun b hb=>hs.own b (fun e=>hb (P9 b (.inl e)))) (fun b=>by simp only[Θc];split<;>omega);refine wpList_plain hg fun K hK=>?_
 unfold Oper.wp;rw[AP hop pz.1,Oper.upon_enter];have e:xs.map a.eval=(xs.toList.map a.eval).toArray:=by rw[<-jG,ke]
 rw[e];refine hc.mono ?_;rintro e w' ⟨v,bs',tb,ub,rfl,hb,hr,Rc,htb,hnd,hfr,hsub⟩;show K (a.put o.dst v) w';rw[hd];obtain⟨L,q1,q2,q3,q4,q5⟩:=hr.inst st.H.length;obtain⟨κ',Θ',hs',hnm⟩:=hs.Zi hb L q2 (q3▸hnd) (fun b hb'=>hfr b (q3▸hb'));rw[q1]at hs';refine hK _ _ (h κ' Θ' _ w' (hs'.set (t:=t) ht (q5 κ' hnm) fun b hb'=>?_));rw[hr.own hown]at hb';cases hb'
def Ah:List Rw->br->bW
 |x::xs,v::vs=>x.ob (some v)::Ah xs vs
 |_,_=>[]
theorem M8:∀ {xs:List Rw} {vs:br} {j:Nat} {y:Ob},(Ah xs vs)[j]?=some y->∃x v,xs[j]?=some x/\vs[j]?=some v/\y=x.ob (some v):=by
 intro xs
 induction xs with
 |nil=>intro vs j y h;simp[Ah]at h
 |cons x xs ih=>
  intro vs j y h;cases vs with
  |nil=>simp[Ah]at h
  |cons v vs=>
   cases j with
   |zero=>simp[Ah]at h;exact⟨x,v,rfl,rfl,h.symm⟩
   |succ j=>simp only[Ah,eo]at h⊢;exact ih h
theorem Rs:∀(xs:List Rw) (vs:br),(Ah xs vs).length=min xs.length vs.length:=by
 intro xs
 induction xs with
 |nil=>intro vs;simp[Ah]
 |cons x xs ih=>intro vs;cases vs with|nil=>simp[Ah]|cons v vs=>simp[Ah,ih]
def vr(P:Program)(fn:Func)(vs:br)(outs:List Rw)(d:D)(e:Exit)(st:St):Prop:=
 (e=.ret\/e=.normal)/\∃ds,FC P st fn.results.toList=some ds/\ds.all D.flat=true/\CB ds=d/\∀(i:Nat) x v,outs[i]?=some x->vs[i]?=some v->st.H[i]?=some (x.ob (some v))
theorem tg.of{f:FuncId}{fn:Func}{c:Code}{ds:aR}{ins outs:List Rw}{d:D}(hf:P.funcs[f]?=some fn)(hb:fn.body=some c)(hn:(fn.name== "runtime.NumGoroutine")=false)
 (hl:ds.length<=fn.ntmps) (hol:outs.length=ins.length) (hfl:d.flat=true) (h:(∀x∈ins,x.2.length<=maxLen)->∀Γ:vn,Γ.nt=fn.ntmps->∀vs:br,vs.length=ins.length->AW P Γ c (vr P fn vs outs d) ⟨Cc 0 ds,Ah ins vs⟩):tg P f ds ins outs d:=by
 refine⟨⟨fn,hf,by simp[hb],hn⟩,hol,hfl,?_⟩;intro w κ args us TN hlen hargs hko hk1 Qj hnd hwr;obtain⟨L,hLl,rfl,hLi⟩:=Qj.parts;have hvs:∃vs:br,vs.length=ins.length/\∀(i:Nat) v,vs[i]?=some v->κ i=some v:=by
  have:∀(xs:List Rw) (n:Nat),(∀(i:Nat) x,xs[i]?=some x->∃v,κ (n+i)=some v)->∃vs:br,vs.length=xs.length/\∀(i:Nat) v,vs[i]?=some v->κ (n+i)=some v:=by
   intro xs
   induction xs with
   |nil=>intro n _;exact⟨[],rfl,by simp⟩
   |cons x xs ih=>
    intro n h;obtain⟨v,hv⟩:=h 0 x rfl;obtain⟨vs,q1,q2⟩:=ih (n+1) (fun i y hy=>by
     obtain⟨v,hv⟩:=h (i+1) y (by simpa using hy);exact⟨v,by rw[<-hv];congr 1;omega⟩)
    refine⟨v::vs,by simp[q1],?_⟩;intro i u hu;cases i with
    |zero=>simp at hu;subst hu;exact hv
    |succ i=>
     have:=q2 i u (by simpa using hu);rw[<-this];congr 1;omega
  obtain⟨vs,q1,q2⟩:=this ins 0 (fun i x hx=>by
   obtain⟨v,bs,h1,_⟩:=Qj.at i x hx;exact⟨v,h1⟩)
  exact⟨vs,q1,fun i v hv=>by have:=q2 i v hv;rwa[cq]at this⟩
 obtain⟨vs,hvl,YX⟩:=hvs;refine calls_of_wp hf hb ?_;let Θ:Nat->Nat:=fun b=>match ix (fun x:af=>x.contains b) L with|some i=>i+2|none=>if b<w.heap.size then 1 else 0
 have hΘ:∀(i:Nat) bs b,L[i]?=some bs->b∈bs->Θ b=i+2:=by
  intro i bs b hi hb';have:ix (fun x:af=>x.contains b) L=some i:=Eu hi (by simpa using hb') (fun j y hj hy=>P5 hnd j i y bs b hj hi (by simpa using hy) hb');simp only[Θ,this]
 have a7Y:∀b,b∉L.flatten->Θ b=if b<w.heap.size then 1 else 0:=by
  intro b hb';simp only[Θ];cases h:ix (fun x:af=>x.contains b) L with
  |none=>rfl
  |some i=>
   obtain⟨x,hx,hp⟩:=zl h;exact absurd (di.2 ⟨x,aC hx,by simpa using hp⟩) hb'
 have hlt:∀b∈L.flatten,b<w.heap.size:=fun b hb'=>by
  obtain⟨cs,T,hx⟩:=hwr b hb';exact(bL.1 hx).1
 let Γ:vn:=⟨w,Θ,fun b=>b∈L.flatten,fn.ntmps,fun _=>False,TN⟩
 have D4:∀x∈ins,x.2.length<=maxLen:=by
  intro x hx;obtain⟨i,hi⟩:=cm hx;obtain⟨v,bs,_,_,hr,_⟩:=Qj.at i x hi;exact(dW.sl ⟨w,v,bs,hr⟩).1
 have hs:eO Γ ⟨Cc 0 ds,Ah ins vs⟩ κ Θ {tmps:=args.toArray++Array.replicate (fn.ntmps-args.toArray.size) undef,defers:=[]} w:=by
  refine⟨rfl,?_,fun i hi=>hko i (by rw[Rs]at hi;omega),hk1,?_,?_,?_,?_,?_,⟨rfl,rfl,rfl,bS _,fun _ _ _=>rfl⟩,⟨fun _=>0,by simp,?_,?_⟩⟩
  ·simp[Γ];omega
  ·intro t;rw[Ni];simp only[AZ,DI,BA];cases hd:ds[t]? with
   |none=>exact⟨[],.of (.any _),by simp⟩
   |some x=>
    obtain⟨v,k1,k2⟩:=hargs t x hd;refine⟨[],?_,by simp⟩;have hlt:t<args.length:=(aH.1 k1).1;have:(args.toArray++Array.replicate (fn.ntmps-args.toArray.size) undef).getD t undef=v:=by
     rw[cO,gA (by simpa using hlt)];simp[k1]
    rw[this];exact k2
  ·intro j o hj;obtain⟨x,v0,hx,hv0,rfl⟩:=M8 hj;have Za:∃bs,L[j]?=some bs:=⟨_,ai (by have:=(aH.1 hx).1;omega)⟩
   obtain⟨bs,Za⟩:=Za;obtain⟨v,q1,q2,q3⟩:=hLi j x bs hx Za;refine⟨q2,fun y hy=>by cases hy;exact YX j v0 hv0,v,bs,by rw[<-q1];congr 1;omega,q3,Qd hnd bs (aC Za),fun b hb'=>⟨hΘ j bs b Za hb',hwr b (di.2 ⟨bs,aC Za,hb'⟩)⟩⟩
  ·intro b hb';by_cases hin:b∈L.flatten
   ·exact hlt b hin
   ·rw[a7Y b hin]at hb';split at hb'
    ·assumption
    ·exact absurd rfl hb'
  ·intro b hb' hx;refine⟨rfl,?_⟩;rw[a7Y b hx];split<;>omega
  ·intro b hb';by_cases hin:b∈L.flatten
   ·exact .inr hin
   ·rw[a7Y b hin]at hb';split at hb'<;>omega
  ·intro id e sz rows hj;obtain⟨x,v0,_,_,h⟩:=M8 hj;simp[Rw.ob]at h
  ·intro id o hj;obtain⟨x,v0,_,_,h⟩:=M8 hj;subst h;exact PR.Aj rfl
 refine wp_mono (h D4 Γ rfl vs hvl _ _ _ _ hs) ?_;rintro e a' w' ⟨WI,κ0,Θ0,hs0,Na,ds0,hres,NY,rfl,hout⟩;obtain⟨rs,bs',m1,m2,m3,m4,m5⟩:=IU hs0 hres;have Oe:∃v,(results fn a'.tmps).run P w'=.ok v w'/\Rd w' v (CB ds0) []:=by
  have hrun:(results fn a'.tmps).run P w'=.ok (if h:rs.toArray.size=1 then rs.toArray[0]else .tuple rs.toArray) w':=by
   rw[results_eq,qn];simp[m1]
  match ds0,rs,m2,m3,m4,NY,hfl,hrun with
  | [x],[v],_,_,m4,NY,_,hrun=>
   obtain⟨v',b,k1,k2,_⟩:=m4 0 x rfl;simp at k1;subst k1;refine⟨v,by simpa using hrun,?_⟩;simp only[dK,List.all_nil,v8]at NY;simp only[CB];cases k2 with
   |v k2=>
    cases k2 with
    |cell k2=>
     cases k2 with
     |pure k2=>have:=k2.flat NY;subst this;exact k2
     |_=>simp[D.flat]at NY
    |agg=>simp[D.flat]at NY
   |gN=>simp[D.flat]at NY
  | [],_,_,_,_,_,hfl,_=>simp[CB,D.flat]at hfl
  |_::_::_,_,_,_,_,_,hfl,_=>simp[CB,D.flat]at hfl
  | [x],[],h1,h2,_,_,_,_=>simp at h1 h2;omega
  | [x],_::_::_,h1,h2,_,_,_,_=>simp at h1 h2;omega
 obtain⟨v,Ze,hr2⟩:=Oe;have CH:∀(i:Nat) x,outs[i]?=some x->∃v bs,κ i=some v/\(∀r∈x.2,r.length=x.1)/\Rd w' v (.sl x.2) bs/\bs.Nodup/\∀b∈bs,Θ0 b=i+2/\Wr w' b:=by
  intro i x hx;have hlt:i<vs.length:=by have:=(aH.1 hx).1;omega
  obtain⟨q1,q0,v,bs,q2,q3,q4,q5⟩:=hs0.ob i _ (hout i x _ hx (ai hlt));have e1:=q0 _ rfl;rw[q2]at e1;cases e1;exact⟨_,bs,YX i _ (ai hlt),q1,q3,q4,q5⟩
 have hL':∃L':List af,L'.length=outs.length/\∀(i:Nat) x bs,outs[i]?=some x->L'[i]?=some bs->(∃v,κ i=some v/\(∀r∈x.2,r.length=x.1)/\Rd w' v (.sl x.2) bs)/\bs.Nodup/\∀b∈bs,Θ0 b=i+2/\Wr w' b:=by
  have key:∀(xs:List Rw) (n:Nat),(∀(i:Nat) x,xs[i]?=some x->∃v bs,κ (n+i)=some v/\(∀r∈x.2,r.length=x.1)/\Rd w' v (.sl x.2) bs/\bs.Nodup/\∀b∈bs,Θ0 b=(n+i)+2/\Wr w' b)->
   ∃L':List af,L'.length=xs.length/\∀(i:Nat) x bs,xs[i]?=some x->L'[i]?=some bs->(∃v,κ (n+i)=some v/\(∀r∈x.2,r.length=x.1)/\Rd w' v (.sl x.2) bs)/\bs.Nodup/\∀b∈bs,Θ0 b=(n+i)+2/\Wr w' b:=by
   intro xs
   induction xs with
   |nil=>intro n _;exact⟨[],rfl,by simp⟩
   |cons x xs ih=>
    intro n h;obtain⟨v,bs,r1,r2,r3,r4,r5⟩:=h 0 x rfl;obtain⟨L',q1,q2⟩:=ih (n+1) (fun i y hy=>by
     have:=h (i+1) y (by simpa using hy);rw[show n+(i+1)=n+1+i from by omega]at this;exact this)
    refine⟨bs::L',by simp[q1],?_⟩;intro i y b hy hb';cases i with
    |zero=>simp at hy hb';subst hy;subst hb';exact⟨⟨v,r1,r2,r3⟩,r4,r5⟩
    |succ i=>
     have:=q2 i y b (by simpa using hy) (by simpa using hb');rw[show n+1+i=n+(i+1)from by omega]at this;exact this
  obtain⟨L',q1,q2⟩:=key outs 0 (fun i x hx=>by rw[cq];exact CH i x hx);exact⟨L',q1,fun i x bs hx hb'=>by have:=q2 i x bs hx hb';rwa[cq]at this⟩
 obtain⟨L',a9G,Wp⟩:=hL';have a1f:∀(i:Nat) bs,L'[i]?=some bs->∃x,outs[i]?=some x:=fun i bs hb'=>⟨_,ai (by have:=(aH.1 hb').1;omega)⟩
 have KA:L'.flatten.Nodup:=by
  refine KP (fun x hx=>?_) (fun i j x y b hi hj hx hy=>?_)
  ·obtain⟨i,hi⟩:=cm hx;obtain⟨y,h1⟩:=a1f i x hi;exact(Wp i y x h1 hi).2.1
  ·obtain⟨y1,h1⟩:=a1f i x hi;obtain⟨y2,h2⟩:=a1f j y hj;have e1:=((Wp i y1 x h1 hi).2.2 b hx).1;have e2:=((Wp j y2 y h2 hj).2.2 b hy).1;omega
 have hbl:∀b∈L'.flatten,2<=Θ0 b/\Wr w' b:=by
  intro b hb';obtain⟨x,hx,I0⟩:=di.1 hb';obtain⟨i,hi⟩:=cm hx;obtain⟨y,h1⟩:=a1f i x hi;have:=(Wp i y x h1 hi).2.2 b I0;exact⟨by omega,this.2⟩
 have P7:∀b∈L'.flatten,b∈L.flatten\/w.heap.size<=b:=by
  intro b hb';rcases hs0.mine b (hbl b hb').1 with h|h
  ·exact .inr h
  ·exact .inl h
 have post:a'.defers=[]/\∃v,(results fn a'.tmps).run P w'=.ok v w'/\∃u us',Ending.returned v=.returned u/\Rd w' u (CB ds0) []/\Cb w' κ 0 outs us'/\us'.Nodup/\(∀b∈us',(b∈L.flatten\/w.heap.size<=b)/\Wr w' b)/\
  w'.os=w.os/\w'.tape=w.tape/\w'.output=w.output/\w.heap.size<=w'.heap.size/\∀b,b<w.heap.size->b∉L.flatten->w'.heap[b]?=w.heap[b]?:=by
  refine⟨hs0.defers,v,Ze,v,L'.flatten,rfl,hr2,Cb.of a9G (fun i x bs hx hb'=>?_),KA,fun b hb'=>⟨P7 b hb',(hbl b hb').2⟩,hs0.stays.os,hs0.stays.tape,hs0.stays.output,hs0.stays.size,fun b hb' hx=>hs0.stays.block b hb' hx⟩;obtain⟨⟨v',q1,q2,q3⟩,_⟩:=Wp i x bs hx hb';exact⟨v',by rw[cq];exact q1,q2,q3⟩
 rcases Na with rfl|rfl
 ·exact post
 ·exact post
end
end Go.Cx
namespace Go.Cx
open Go.RowKit
section
variable{P:Program}{Γ:vn}{Q:Exit->St->Prop}{st:St}{κ κ':Nat->Option Value}{Θ Θ':Nat->Nat}{a:Act}{w w':World}{all:Array Oper}{rest:List Oper}
theorem eO.XT(hs:eO Γ st κ Θ a w)(ms:af){H':bW}(h1:w'.os=w.os)(h2:w'.tape=w.tape)(h3:w'.output=w.output)(h4:w.heap.size<=w'.heap.size)
 (Qf:∀b,b<w.heap.size->(∀m∈ms,Θ b≠m+2)->w'.heap[b]?=w.heap[b]?) (a7O:∀b,b<w.heap.size->(∀m∈ms,Θ b≠m+2)->Θ' b=Θ b) (hown:∀b,Θ' b≠0->b<w'.heap.size)
 (hm:∀b,2<=Θ' b->Cr Γ b) (hn:∀(j:Nat) v,κ j=some v->κ' j=some v) (hko:∀i,H'.length<=i->κ' i=none) (hk1:∀(i:Nat) u,κ' i=some u->u.oneCell'=true)
 (CH:∀(j:Nat) y,H'[j]?=some y->y=.gone\/(j∉ms/\st.H[j]?=some y)\/(yb w' κ' Θ' j y/\y.uqB=false)):eO Γ ⟨st.σ,H'⟩ κ' Θ' a w':=by
 have hs1:=hs.forget ms;have hin:∀b,(ms.any (fun m=>Θ b==m+2))=false->∀m∈ms,Θ b≠m+2:=by
  intro b h m hm' he;have:ms.any (fun m=>Θ b==m+2)=true:=dQ.2 ⟨m,hm',by simp[he]⟩;rw[h]at this;cases this
 have hlt2:∀b,(if ms.any (fun m=>Θ b==m+2)then st.H.length+2 else Θ b)≠st.H.length+2->(ms.any (fun m=>Θ b==m+2))=false:=by
  intro b h;cases hc:ms.any (fun m=>Θ b==m+2)with
  |false=>rfl
  |true=>simp[hc]at h
 have kk:jW w w' (fun b=>if ms.any (fun m=>Θ b==m+2)then st.H.length+2 else Θ b) Θ' (st.H.length+2):=by
  refine⟨by omega,h1,h2,h3,h4,fun b hb hne=>Qf b hb (hin b (hlt2 b hne)),fun b hb hne=>?_,hown⟩;have hc:=hlt2 b hne;rw[a7O b hb (hin b hc)];simp[hc]
 obtain⟨ρ,hu⟩:=hs1.we;have x9:=hs1.qc kk hn hu;refine hs1.step kk hm hn hko hk1 (fun j y hj=>?_) ⟨ρ,x9.1,fun id e sz rows hj=>?_,fun id y hj=>?_⟩
 ·rcases CH j y hj with h|⟨h,hy⟩|⟨h,_⟩
  ·exact .inl h
  ·have:=(aH.1 hy).1;exact .inr (.inl ⟨by omega,by rw[jt h];exact hy⟩)
  ·exact .inr (.inr h)
 ·rcases CH id _ hj with h|⟨h,hy⟩|⟨_,h⟩
  ·cases h
  ·have:=(aH.1 hy).1;exact x9.2.1 id e sz rows (by omega) (by rw[jt h];exact hy)
  ·simp[Ob.uqB]at h
 ·rcases CH id _ hj with h|⟨h,hy⟩|⟨_,h⟩
  ·subst h;trivial
  ·have:=(aH.1 hy).1;exact x9.2.2 id y (by omega) (by rw[jt h];exact hy)
  ·exact PR.plain h
theorem Rd.a8e{v:Value}{rows:List aR}{bs:af}(h:Rd w v (.sl rows) bs):(∃q c,v=.slice q rows.length c)/\rows.length<=maxLen:=by
 cases h with
 |B8=>exact⟨⟨_,_,rfl⟩,by simp⟩
 |pW=>exact⟨⟨_,_,rfl⟩,by simp⟩
 |sl b off cap sz _ cs bs hb h1 h2=>exact⟨⟨_,_,rfl⟩,by omega⟩
theorem a48{o:Oper}{t T id sz:Nat}{x:Operand}{rows:List aR}{u:Option Value}(hop:o.op=.call {callee:=.builtin .len,args:= #[x],argTypes:= #[T]})(hd:o.dst=some t)(hg:o.guard=none)(ht:t<Γ.nt)
 (hT:(IZ P T).isSome=true) (hx:st.ev x=.acc id) (hH:st.H[id]?=some (.fF sz rows u)) (h:AO P Γ all rest Q ⟨(t,.int .i64 rows.length)::st.σ,st.H⟩):AO P Γ all (o::rest) Q st:=by
 intro κ Θ a w hs;obtain⟨b1,r1,_⟩:=hs.ev x;rw[hx]at r1;obtain⟨hk,_⟩:=r1.xh;obtain⟨_,_,v,bs,hk2,hrd,_⟩:=hs.ob id _ hH;rw[hk]at hk2;cases hk2;obtain⟨⟨q,c,hv⟩,D4⟩:=hrd.a8e;obtain⟨⟨e,sz'⟩,hT⟩:=eT.1 hT;obtain⟨hu,_,_⟩:=qN hT;refine wpList_plain hg fun K hK=>?_
 unfold Oper.wp;have hrun:(execOp a.eval o).run P w=.ok (.value (.int .i64 rows.length)) w:=by
  simp only[execOp,hop,resolve,invoke,builtin,q9,bH,bX,hv];simp[Builtin.len_,run_underlying hu,goInt]
 rw[hrun,Oper.upon_value,hd];exact hK _ _ (h κ Θ _ w (hs.set (d:=.int .i64 rows.length) (bs:=[]) ht (.of (.int _ _ (Th D4))) (by simp)))
theorem a6n{o:Oper}{t T id sz e m:Nat}{x i:Operand}{rows:List aR}{u:Option Value}{k:IntKind}{n:Int}(hop:o.op=.indexAddr T x i)(hd:o.dst=some t)(hg:o.guard=none)(ht:t<Γ.nt)
 (hT:IZ P T=some (e,sz)) (hx:st.ev x=.acc id) (hi:st.ev i=.int k n) (hH:st.H[id]?=some (.fF sz rows u)) (hn:n=(m:Int)) (hm:m<rows.length) (h:AO P Γ all rest Q ⟨(t,.op id m sz 0)::st.σ,st.H⟩):AO P Γ all (o::rest) Q st:=by
 intro κ Θ a w hs;obtain⟨b1,r1,_⟩:=hs.ev x;obtain⟨b2,r2,_⟩:=hs.ev i;rw[hx]at r1;rw[hi]at r2;have hiv:=r2.sO;obtain⟨hk,_⟩:=r1.xh;obtain⟨_,_,v,bs,hk2,hrd,_⟩:=hs.ob id _ hH;rw[hk]at hk2;cases hk2;obtain⟨hu,Of,Nc⟩:=qN hT;have hsz:=xe (P:=P) Of w;subst hn;generalize YY:a.eval x=vx at hrd hk;cases hrd with
 |B8=>simp at hm
 |pW=>simp at hm
 |sl b off cap sz' _ cs bs hb hcap D4 hrl hc vh=>
  have hn':0<=(m:Int)/\(m:Int)<(rows.length:Int):=⟨by omega,by omega⟩
  refine wpList_plain hg fun K hK=>?_
  unfold Oper.wp;have hrun:(execOp a.eval o).run P w=.ok (.value (.pointer (some ⟨b,off+(m*sz+0),none⟩))) w:=by
   simp only[execOp,hop,YY,hiv];simp[Instr.indexAt,asIntOf,run_underlying hu,hn',hm,hsz,Nc,Addr.add_lit]
  rw[hrun,Oper.upon_value,hd];exact hK _ _ (h κ Θ _ w (hs.set (d:=.op id m sz 0) (bs:=[]) ht (BU.op id m sz 0 b off _ _ hk).UB (by simp)))
theorem Pw{rows:List aR}{sz i off:Nat}{r:aR}{d:D}(hrl:∀r∈rows,r.length=sz)(hr:rows[i]?=some r)(hd:r[off]?=some d):rows.flatten[i*sz+off]?=some d/\off<sz/\i*sz+off<rows.length*sz:=by
 have h1:=hrl r (aC hr);have h2:=(aH.1 hd).1;have hmid:=Hu hrl hr;have hlt:=(aH.1 hr).1;have hle:(i+1)*sz<=rows.length*sz:=dX _ hlt;rw[kf,o5]at hle;refine⟨?_,by omega,by omega⟩;rw[<-hmid,cK,bR (by omega),eC]at hd;exact hd
theorem a0x{o:Oper}{t T id i sz off:Nat}{x:Operand}{rows:List aR}{r:aR}{d:D}{u:Option Value}(hop:o.op=.load T x)(hd:o.dst=some t)(hg:o.guard=none)(ht:t<Γ.nt)
 (hT:BQ P T=some false) (hx:st.ev x=.op id i sz off) (hH:st.H[id]?=some (.fF sz rows u)) (hr:rows[i]?=some r) (hc:r[off]?=some d) (hfl:d.flat=true) (h:AO P Γ all rest Q ⟨(t,d)::st.σ,st.H⟩):AO P Γ all (o::rest) Q st:=by
 intro κ Θ a w hs;obtain⟨b1,r1,_⟩:=hs.ev x;rw[hx]at r1;obtain⟨g,o0,len,a4L,hk,hv⟩:=r1.IB;obtain⟨hrl,_,v,bs,hk2,hrd,_⟩:=hs.ob id _ hH;rw[hk]at hk2;cases hk2;obtain⟨hf,_,_⟩:=Pw hrl hr hc;cases hrd with
 |pW=>simp at hr
 |sl _ _ _ sz' _ cs ns hb hcap D4 Pe hcs vh=>
  obtain⟨c,b',h1,h2,h3,h4⟩:=vh.at hf;have L:=qY (P:=P) (w:=w) hT (o:=i*sz+off) hcs;have hb':=h3.flat hfl;subst hb';refine wpList_plain hg fun K hK=>?_
  unfold Oper.wp;have hrun:(execOp a.eval o).run P w=.ok (.value c) w:=by
   simp only[execOp,hop,hv];simp[L.2 rfl c h1]
  rw[hrun,Oper.upon_value,hd];exact hK _ _ (h κ Θ _ w (hs.set (d:=d) (bs:=[]) ht (.of h3) (by simp)))
theorem mY.aAQ{vs:br}{ds:aR}{bs:af}(h:mY w vs ds bs){p:Nat}{d:D}(hd:ds[p]?=some d):
 ∃c b1 b2 b3,vs[p]?=some c/\c.oneCell'=true/\Rd w c d b2/\bs=b1++(b2++b3)/\∀(e:D) (b4:af),Rd w c e b4->mY w vs (ds.set p e) (b1++(b4++b3)):=by
 obtain⟨l,r,rfl,hl⟩:=SX hd;obtain⟨v1,v2,c1,c2,rfl,rfl,k1,k2⟩:=h.split;cases k2 with
 |cons c vs _ _ b2 b3 h1 h2 h3=>
  have hl1:v1.length=p:=by rw[k1.length];exact hl
  refine⟨c,c1,b2,b3,by rw[bE (by omega),hl1];simp,h1,h2,rfl,fun e b4 he=>?_⟩;have e1:(l++d::r).set p e=l++e::r:=by rw[mw _ _ (by omega),hl];simp
  rw[e1];exact k1.app (.cons _ _ _ _ _ _ h1 he h3)
theorem NV{rows:List aR}{sz i off:Nat}{r:aR}{d e:D}(hrl:∀r∈rows,r.length=sz)(hr:rows[i]?=some r)(hd:r[off]?=some d):(rows.set i (r.set off e)).flatten=rows.flatten.set (i*sz+off) e:=by
 have hlt:=(aH.1 hd).1;have h1:=hrl r (aC hr);have:=Hv (rows:=rows) (sz:=sz) (i:=i) (off:=off) (row:=r) (ds:=[e]) hrl hr (by simp;omega);have e1:r.set off e=r.take off++[e]++r.drop (off+[e].length):=by
  apply oI;intro j;rw[gJ];simp only[bY,dM,aM,bK,cq];by_cases hj:j<off
  ·rw[bG (by omega),bA (by simp;omega),cK,bR hj]
  ·rw[bE (by simp;omega),cM,fD (by omega)];by_cases he:off=j
   ·subst he;simp[hlt]
   ·rw[bG he];obtain⟨m,hm⟩:∃m,j-off=m+1:=⟨j-off-1,by omega⟩
    rw[hm,eo,eC]
    congr 1;omega
 rw[e1,this];have hfl:=py hrl;obtain⟨hf,_,hlt2⟩:=Pw hrl hr hd;apply oI;intro j;rw[gJ];simp only[bY,dM,aM,bK,cq];by_cases hj:j<i*sz+off
 ·rw[bG (by omega),bA (by rw[cM];omega),cK,bR hj]
 ·rw[bE (by rw[cM];omega),cM,fD (by omega)];by_cases he:i*sz+off=j
  ·subst he;rw[bR rfl,bR (by omega),pR];rfl
  ·rw[bG he];obtain⟨m,hm⟩:∃m,j-(i*sz+off)=m+1:=⟨j-(i*sz+off)-1,by omega⟩
   rw[hm,eo,eC]
   congr 1;omega
theorem Q4{rows:List aR}{sz i:Nat}{r:aR}(hrl:∀r∈rows,r.length=sz)(hr:r.length=sz):∀x∈rows.set i r,x.length=sz:=by
 intro x hx;rcases CK hx with hx|rfl
 ·exact hrl x hx
 ·exact hr
theorem a0z{o:Oper}{t T id i sz off XY:Nat}{x:Operand}{rows fm:List aR}{r:aR}{u:Option Value}(hop:o.op=.load T x)(hd:o.dst=some t)(hg:o.guard=none)(ht:t<Γ.nt)
 (hT:BQ P T=some false) (hx:st.ev x=.op id i sz off) (hH:st.H[id]?=some (.fF sz rows u)) (hr:rows[i]?=some r) (hc:r[off]?=some (.sl fm)) (h2:∀q∈fm,q.length=XY)
 (h:AO P Γ all rest Q ⟨(t,.acc st.H.length)::st.σ,st.H.set id (.hole sz (rows.set i (r.set off .any)) u (i*sz+off) st.H.length)++[.fF XY fm none]⟩):AO P Γ all (o::rest) Q st:=by
 intro κ Θ a w hs;obtain⟨b1,r1,_⟩:=hs.ev x;rw[hx]at r1;obtain⟨g,o0,len,a4L,hk,hv⟩:=r1.IB;obtain⟨hrl,hux,v,bs,hk2,hrd,hnd,Hz⟩:=hs.ob id _ hH;rw[hk]at hk2;cases hk2;obtain⟨hf,hoff,_⟩:=Pw hrl hr hc;cases hrd with
 |pW=>simp at hr
 |sl _ _ _ sz' _ cs ns hb hcap D4 Pe hcs vh=>
  obtain⟨c,c1,c2,c3,h1,h1c,h3,rfl,qo⟩:=vh.aAQ hf;have L:=qY (P:=P) (w:=w) hT (o:=i*sz+off) hcs;have a9Z:id<st.H.length:=(aH.1 hH).1;have hnew:=qo .any [] (.any c);have KA:=hnd;simp only[fC,au,Kc]at KA;obtain⟨⟨hg1,hg2,hg3⟩,Oh⟩:=KA;obtain⟨n1,n2,n3⟩:=bO.1 Oh;obtain⟨n4,n5,n6⟩:=bO.1 n2;let Θ':Nat->Nat:=fun b=>if b∈c2 then st.H.length+2 else Θ b
  have hs':eO Γ ⟨st.σ,st.H.set id (.hole sz (rows.set i (r.set off .any)) u (i*sz+off) st.H.length)++[.fF XY fm none]⟩ (AX κ st.H.length (some c)) Θ' a w:=by
   have hn:=zm (hs.rV _ (bS _)) (some c);have Rr:∀b∈c2,Θ b=id+2:=fun b hb'=>(Hz b (by simp[hb'])).1
   refine hs.XT [id] rfl rfl rfl (bS _) (fun _ _ _=>rfl) (fun b _ hne=>?_) (fun b hb'=>?_) (fun b hb'=>?_) hn (fun j hj=>?_) (fun j y hy=>?_) (fun j y hj=>?_)
   ·simp only[Θ'];rw[bG];intro hin;exact hne id (by simp) (Rr b hin)
   ·simp only[Θ']at hb';split at hb'
    ·rename_i hin;exact hs.own b (by rw[Rr b hin];omega)
    ·exact hs.own b hb'
   ·simp only[Θ']at hb';split at hb'
    ·rename_i hin;exact hs.mine b (by rw[Rr b hin];omega)
    ·exact hs.mine b hb'
   ·simp only[aX,bf,aM,bK]at hj;unfold AX;rw[bG (by omega)];exact hs.rV j (by omega)
   ·unfold AX at hy;split at hy
    ·cases hy;exact h1c
    ·exact hs.qm j y hy
   ·rcases Dx j y hj with⟨hjl,rfl⟩|⟨hjl,hy⟩
    ·right;right
     have hjn:j=st.H.length:=by rw[hjl];simp
     subst hjn;refine⟨⟨h2,by simp,c,c2,mE _ _ _,h3,n4,fun b hb'=>⟨by simp[Θ',hb'],(Hz b (by simp[hb'])).2⟩⟩,rfl⟩
    ·rcases BP j y hy with⟨rfl,rfl⟩|⟨hne,hy'⟩
     ·right;right
      refine⟨⟨Q4 hrl (by rw[bf];exact hrl r (aC hr)),fun z hz=>hn _ _ (hux z hz),_,g::(c1++([]++c3)),hn _ _ hk,⟨g,o0,a4L,cs,c1++([]++c3),by simp,hb,by simpa using hcap,D4,hcs,?_,rfl,c,h1,mE _ _ _⟩,?_,fun b hb'=>?_⟩,rfl⟩
      ·rw[NV hrl hr hc];exact hnew
      ·simp only[cI,fC,au,Kc];exact⟨⟨hg1,hg3⟩,bO.2 ⟨n1,n5,fun x hx y hy e=>n3 x hx y (by simp[hy]) e⟩⟩
      ·have hbm:b∈g::(c1++(c2++c3)):=by
        simp only[cI,bM,au]at hb'⊢;rcases hb' with h|h|h<;>simp[h]
       refine⟨?_,(Hz b hbm).2⟩;simp only[Θ'];rw[bG,(Hz b hbm).1];intro hin;simp only[cI,bM,au]at hb';rcases hb' with h|h|h
       ·subst h;exact hg2 hin
       ·exact n3 b h b (by simp[hin]) rfl
       ·exact n6 b hin b h rfl
     ·exact .inr (.inl ⟨by simpa using hne,hy'⟩)
  refine wpList_plain hg fun K hK=>?_
  unfold Oper.wp;have hrun:(execOp a.eval o).run P w=.ok (.value c) w:=by
   simp only[execOp,hop,hv];simp[L.2 rfl c h1]
  rw[hrun,Oper.upon_value,hd];exact hK _ _ (h _ _ _ w (hs'.set (d:=.acc st.H.length) (bs:=[]) ht (BU.acc st.H.length c (mE _ _ _)).UB (by simp)))
theorem a0y{id n i sz off XY:Nat}{rows fm:List aR}{r:aR}{d:D}{u u2:Option Value}(hH:st.H[id]?=some (.hole sz rows u (i*sz+off) n))(hN:st.H[n]?=some (.fF XY fm u2))(hr:rows[i]?=some r)(hc:r[off]?=some d)
 (h:AO P Γ all rest Q ⟨st.σ,(st.H.set n .gone).set id (.fF sz (rows.set i (r.set off (.sl fm))) u)⟩):AO P Γ all rest Q st:=by
 intro κ Θ a w hs;obtain⟨hrl,hux,v,bs,hk,⟨b,o0,cap,cs,ns,rfl,h1,h2,h3,h4,h5,rfl,c,h6,h7⟩,hnd,Hz⟩:=hs.ob id _ hH;obtain⟨aFC,_,v2,bs2,hk2,aCm,aCd,a1T⟩:=hs.ob n _ hN;rw[h7]at hk2;cases hk2;obtain⟨hf,hoff,_⟩:=Pw hrl hr hc;obtain⟨c',c1,c2,c3,q1,q1c,q3,rfl,qo⟩:=h5.aAQ hf;rw[h6]at q1;cases q1;have hnew:=qo (.sl fm) bs2 aCm;have hne:n≠id:=fun e=>by subst e;rw[hH]at hN;cases hN
 have a9Z:id<st.H.length:=(aH.1 hH).1;have KA:=hnd;simp only[fC,au,Kc]at KA;obtain⟨⟨hg1,hg2,hg3⟩,Oh⟩:=KA;obtain⟨n1,n2,n3⟩:=bO.1 Oh;obtain⟨n4,n5,n6⟩:=bO.1 n2;have a7E:∀x∈bs2,∀y∈b::(c1++(c2++c3)),x≠y:=by
  intro x hx y hy e;subst e;have e1:=(a1T x hx).1;have e2:=(Hz x hy).1;omega
 let Θ':Nat->Nat:=fun x=>if x∈bs2 then id+2 else if Θ x=n+2 then 1 else Θ x
 refine h κ Θ' a w (hs.XT [id,n] rfl rfl rfl (bS _) (fun _ _ _=>rfl) (fun x _ hnx=>?_) (fun x hx=>?_) (fun x hx=>?_) (fun _ _ h=>h) (fun j hj=>hs.rV j (by simpa using hj)) hs.qm (fun j y hj=>?_))
 ·simp only[Θ'];rw[bG (fun hin=>hnx n (by simp) (a1T x hin).1),bG (hnx n (by simp))]
 ·simp only[Θ']at hx;split at hx
  ·rename_i hin;exact hs.own x (by rw[(a1T x hin).1];omega)
  ·split at hx
   ·rename_i he;exact hs.own x (by rw[he];omega)
   ·exact hs.own x hx
 ·simp only[Θ']at hx;split at hx
  ·rename_i hin;exact hs.mine x (by rw[(a1T x hin).1];omega)
  ·split at hx
   ·omega
   ·exact hs.mine x hx
 ·rcases BP j y hj with⟨rfl,rfl⟩|⟨KN,hy⟩
  ·right;right
   refine⟨⟨Q4 hrl (by rw[bf];exact hrl r (aC hr)),hux,_,b::(c1++(bs2++c3)),hk,?_,?_,fun x hx=>?_⟩,rfl⟩
   ·have hl:(rows.set i (r.set off (.sl fm))).length=rows.length:=by simp
    have:=Rd.sl (w:=w) b o0 cap sz (rows.set i (r.set off (.sl fm))) cs (c1++(bs2++c3)) h1 (by rw[hl];exact h2) h3 (Q4 hrl (by rw[bf];exact hrl r (aC hr))) h4 (by rw[NV hrl hr hc];exact hnew);rw[hl]at this;exact this
   ·simp only[fC,au,Kc];refine⟨⟨hg1,fun hin=>a7E b hin b (by simp) rfl,hg3⟩,bO.2 ⟨n1,bO.2 ⟨aCd,n5,fun x hx y hy e=>a7E x hx y (by simp[hy]) e⟩,fun x hx y hy e=>?_⟩⟩;rcases au.1 hy with hy|hy
    ·exact a7E y hy x (by simp[hx]) e.symm
    ·exact n3 x hx y (by simp[hy]) e
   ·by_cases hin:x∈bs2
    ·exact⟨by simp[Θ',hin],(a1T x hin).2⟩
    ·have hbm:x∈b::(c1++(c2++c3)):=by
      simp only[bM,au]at hx⊢;rcases hx with h|h|h|h
      ·simp[h]
      ·simp[h]
      ·exact absurd h hin
      ·simp[h]
     refine⟨?_,(Hz x hbm).2⟩;have e1:=(Hz x hbm).1;simp only[Θ'];rw[bG hin,bG (by omega),e1]
  ·rcases BP j y hy with⟨rfl,rfl⟩|⟨hj2,hy'⟩
   ·exact .inl rfl
   ·exact .inr (.inl ⟨by simp[KN,hj2],hy'⟩)
theorem mY.setCells{vs:br}{ds es:aR}{us:br}{bs:af}(h:mY w vs ds bs)(p:Nat)(hp:p+es.length<=ds.length)(hu:mY w us es []):
 ∃b',mY w (vs.take p++us++vs.drop (p+us.length)) (ds.take p++es++ds.drop (p+es.length)) b'/\(∀b∈b',b∈bs)/\(bs.Nodup->b'.Nodup):=by
 have e:ds=ds.take p++((ds.drop p).take es.length++(ds.drop p).drop es.length):=by rw[cD,cD]
 rw[e]at h;obtain⟨v1,v2,b1,b2,rfl,rfl,k1,k2⟩:=h.split;obtain⟨v3,v4,b3,b4,rfl,rfl,k3,k4⟩:=k2.split;have l1:v1.length=p:=by rw[k1.length];simp;omega
 have l3:v3.length=es.length:=by rw[k3.length];simp;omega
 have lu:=hu.length;have t1:(v1++(v3++v4)).take p=v1:=jD l1;have t2:(v1++(v3++v4)).drop (p+us.length)=v4:=by
  rw[<-gx,fw l1,lu,fw l3]
 rw[t1,t2];rw[gx]at k4;refine⟨b1++[]++b4,(k1.app hu).app k4,fun b hb=>?_,fun hnd=>?_⟩
 ·simp only[cN,au]at hb⊢;rcases hb with h|h<;>simp[h]
 ·obtain⟨n1,n2,n3⟩:=bO.1 hnd;obtain⟨_,n5,_⟩:=bO.1 n2;simp only[cN];exact bO.2 ⟨n1,n5,fun x hx y hy e=>n3 x hx y (by simp[hy]) e⟩
theorem Z9{o:Oper}{T id i sz off:Nat}{x y:Operand}{rows:List aR}{r ds:aR}{u:Option Value}(hop:o.op=.store T x y)(hd:o.dst=none)(hg:o.guard=none)
 (hx:st.ev x=.op id i sz off) (hH:st.H[id]?=some (.fF sz rows u)) (hr:rows[i]?=some r) (hc:(st.ev y).cellsOf=some ds) (hfl:ds.all D.flat=true) (hT:U8 P T=true) (hl:ds.length=BY P T) (hpos:0<ds.length) (hfit:off+ds.length<=sz)
 (h:AO P Γ all rest Q ⟨st.σ,st.H.set id (.fF sz (rows.set i (r.take off++ds++r.drop (off+ds.length))) u)⟩):AO P Γ all (o::rest) Q st:=by
 intro κ Θ a w hs;obtain⟨b1,r1,_⟩:=hs.ev x;obtain⟨b2,r2,_⟩:=hs.ev y;rw[hx]at r1;obtain⟨g,o0,len,a4L,hk,hv⟩:=r1.IB;obtain⟨hrl,hux,v,bs,hk2,hrd,hnd,Hz⟩:=hs.ob id _ hH;rw[hk]at hk2;cases hk2;have a1V:=DO hs.qm r2 hc;have hl1:=a1V.length;have aCO:ds.all D.UN=true:=by
  rw[bB]at hfl⊢;intro d MK;have:=hfl d MK;cases d<;>first|rfl| (simp[D.flat]at this)
 have hcp:=a1V.pure aCO;have YT:=hcp.flat hfl;subst YT;have hrow:=hrl r (aC hr);have hilt:=(aH.1 hr).1;have a7F:(i+1)*sz<=rows.length*sz:=dX _ hilt;rw[kf,o5]at a7F;cases hrd with
 |pW=>simp at hr
 |sl _ _ _ sz' _ cs ns hb hcap D4 Pe hcs vh=>
  obtain⟨hgT,hgw⟩:=Hz g (by simp);obtain⟨cur,Tb,hgc⟩:=hgw;have a9W:=py hrl;have hcl:cs.length=rows.length*sz:=by rw[vh.length,a9W]
  have Qh:∀j c,cs[j]?=some c->cur[o0+j]?=some c:=by
   intro j c hj;have:=hcs j c hj;simpa[World.cell?,hgc]using this
  have a9V:o0+(i*sz+off)+(a.eval y).cells.size<=cur.size:=by
   have e1:(a.eval y).cells.size=ds.length:=by rw[<-hl1];simp
   rw[e1];have:=Qh (i*sz+off+ds.length-1) cs[i*sz+off+ds.length-1] (ai (by omega));have:=(bL.1 this).1;omega
  have a7T:(a.eval y).cells.size=BY P T:=by rw[<-hl,<-hl1];simp
  have hst:=ID (P:=P) (T:=T) (off:=o0+(i*sz+off)) hgc a7T (eT.1 hT) a9V a1V.one;have hne:(a.eval y).cells.toList.length=ds.length:=hl1;let PZ:Array Value:=(cur.toList.take (o0+(i*sz+off))++(a.eval y).cells.toList++cur.toList.drop (o0+(i*sz+off)+(a.eval y).cells.toList.length)).toArray
  have hw':∀x,x≠g->(w.setRow g PZ).heap[x]?=w.heap[x]?:=fun x hx=>setRow_other w g x _ hx
  have hsame:∀x,x<w.heap.size->(∀m∈[id],Θ x≠m+2)->(w.setRow g PZ).heap[x]?=w.heap[x]?:=fun x _ hx=>hw' x (fun e=>hx id (by simp) (by rw[e];exact hgT))
  simp only[fC]at hnd;have aCp:mY (w.setRow g PZ) cs rows.flatten ns:=vh.keep fun b hb'=>hw' b (fun e=>hnd.1 (e▸hb'))
  have aCE:mY (w.setRow g PZ) (a.eval y).cells.toList ds []:=hcp.keep (by simp);obtain⟨ns',q1,q2,q3⟩:=aCp.setCells (i*sz+off) (by rw[a9W];omega) aCE;have hfs:=Hv (ds:=ds) (off:=off) hrl hr hfit;have hl4:(rows.set i (r.take off++ds++r.drop (off+ds.length))).length=rows.length:=by simp
  have a9n:∀z∈rows.set i (r.take off++ds++r.drop (off+ds.length)),z.length=sz:=Q4 hrl (by simp;omega);have hcell:∀j c,(cs.take (i*sz+off)++(a.eval y).cells.toList++cs.drop (i*sz+off+(a.eval y).cells.toList.length))[j]?=some c->(w.setRow g PZ).cell? ⟨g,o0+j,none⟩=some c:=by
   intro j c hj;have hgh:(w.setRow g PZ).heap[g]?=some (.cells PZ Tb (0,0)):=setRow_heap w g cur _ Tb _ hgc;simp only[World.cell?,hgh];show PZ[o0+j]?=some c;simp only[PZ,mr,bY]at hj⊢;have hcz:o0+(i*sz+off)<=cur.toList.length:=by simp;omega
   by_cases KN:j<i*sz+off
   ·rw[bA (by simp;omega),cK,bR KN]at hj;rw[bA (by rw[cM];omega),cK,bR (by omega)];have:=Qh j c hj;simpa using this
   ·rw[bE (by rw[cM];omega),cM,fD (by omega)]at hj;rw[bE (by rw[cM];omega),cM,fD hcz];rw[show o0+j-(o0+(i*sz+off))=j-(i*sz+off)from by omega];by_cases hj2:j-(i*sz+off)<(a.eval y).cells.toList.length
    ·rw[bA hj2]at hj⊢;exact hj
    ·rw[bE (by omega),eC]at hj⊢;have:=Qh _ c hj;rw[<-vT]at this;rw[<-this];congr 1;omega
  refine wpList_plain hg fun K hK=>?_
  unfold Oper.wp;have hrun:(execOp a.eval o).run P w=.ok .skip (w.setRow g PZ):=by
   simp only[execOp,hop,hv];simp[hst,PZ]
  rw[hrun,Oper.upon_skip,hd];refine hK _ _ (h κ Θ _ _ (hs.XT [id] rfl rfl rfl (by simp) hsame (fun _ _ _=>rfl) (fun b hb'=>by simpa using hs.own b hb') hs.mine (fun _ _ h=>h) (fun j hj=>hs.rV j (by simpa using hj)) hs.qm (fun j z hj=>?_)));rcases BP j z hj with⟨rfl,rfl⟩|⟨KN,hz⟩
  ·right;right
   refine⟨⟨a9n,hux,_,g::ns',hk,?_,?_,fun b hb'=>?_⟩,rfl⟩
   ·have:=Rd.sl (w:=w.setRow g PZ) g o0 a4L sz (rows.set i (r.take off++ds++r.drop (off+ds.length))) _ ns' (by simpa using hb) (by rw[hl4];exact hcap) D4 a9n hcell (by rw[hfs];exact q1);rw[hl4]at this;exact this
   ·simp only[fC];exact⟨fun hin=>hnd.1 (q2 g hin),q3 hnd.2⟩
   ·rcases bM.1 hb' with rfl|hin
    ·exact⟨hgT,⟨_,Tb,setRow_heap w b cur _ Tb _ hgc⟩⟩
    ·have hm:=Hz b (by simp[q2 b hin]);refine⟨hm.1,?_⟩;obtain⟨xs,T',hxs⟩:=hm.2;exact⟨xs,T',(hw' b (fun e=>hnd.1 (e▸q2 b hin))).trans hxs⟩
  ·exact .inr (.inl ⟨by simpa using KN,hz⟩)
end
end Go.Cx
namespace Go.Cx
open Go.RowKit
def KH(P:Program)(f:FuncId)(ds:aR)(e sz:Nat)(rows dP:List aR):Prop:=
 (∃fn,P.funcs[f]?=some fn/\fn.body.isSome=true/\(fn.name== "runtime.NumGoroutine")=false)/\
 ∀(w:World) (κ:Nat->Option Value) (args:br) (v:Value) (cs:br),T3 w (fun b=>v.ownBlock=some b)->args.length=ds.length->(∀(i:Nat) d,ds[i]?=some d->∃u,args[i]?=some u/\u7 w κ u d [])->
  κ 0=some v->(∀i,1<=i->κ i=none)->v.oneCell'=true->0<sz->(∀r∈rows,r.length=sz)->w.ownsRow 0 e sz v rows.length cs->mY w cs rows.flatten []->
  Calls P f args.toArray w (fun x w'=>∃v' cs',x=.returned v'/\v'.oneCell'=true/\(∀r∈dP,r.length=sz)/\w'.ownsRow 0 e sz v' dP.length cs'/\mY w' cs' dP.flatten []/\(∀g,v'.ownBlock=some g->w.heap.size<=g\/v.ownBlock=some g)/\
   w'.os=w.os/\w'.tape=w.tape/\w'.output=w.output/\w.heap.size<=w'.heap.size/\∀b,b<w.heap.size->v.ownBlock≠some b->w'.heap[b]?=w.heap[b]?)
section
variable{P:Program}{Γ:vn}{Q:Exit->St->Prop}{st:St}{κ κ':Nat->Option Value}{Θ Θ':Nat->Nat}{a:Act}{w w':World}{all:Array Oper}{rest:List Oper}
theorem WM.out{fn:Func}{d:D}{e:Exit}{a':Act}{w':World}{WI:St}{κ0:Nat->Option Value}{Θ0:Nat->Nat}(hs0:eO Γ WI κ0 Θ0 a' w')(hrq:WM P fn d e WI):
 (e=.ret\/e=.normal)/\a'.defers=[]/\Y5 Γ w'/\∃v bs ts us,(results fn a'.tmps).run P w'=.ok v w'/\EE w' v d bs ts us/\∀b∈ts,Cr Γ b:=by
 obtain⟨Na,nz,ds0,es,ms,qs,hres,hrv,TL,Qk,rfl⟩:=hrq;obtain⟨ρ0,hu0⟩:=hs0.we;have K9:=Cj hrv;obtain⟨Θ1,ρ1,hs1,hu1,hm1,VD,Ze⟩:=eO.Q0 ms hs0 hu0 TL (fun m hm=>by
  obtain⟨e,sz,rows,hH⟩:=K9.1 m hm;exact⟨_,e,sz,rows,hH,rfl⟩)
 obtain⟨vs,bs',m1,m2,m3,m4,m5⟩:=IU hs0 hres;have hq:∀m e sz rows,WI.H[m]?=some (.row .uq e sz rows)->∃v cs ns,κ0 m=some v/\0<sz/\(∀r∈rows,r.length=sz)/\w'.ownsRow 0 e sz v rows.length cs/\mY w' cs rows.flatten ns/\ns.Nodup/\(∀b∈ns,ρ1 b=m+1)/\∀g,v.ownBlock=some g->Θ1 g=m+2:=by
  intro m e sz rows hH;have hnm:m∉ms:=fun hm=>by
   obtain⟨e',sz',dP,M5⟩:=K9.1 m hm;rw[hH]at M5;cases M5
  have WD:(kill WI.H ms)[m]?=some (.row .uq e sz rows):=by rw[jt hnm];exact hH
  obtain⟨v,cs,ns,r1,r2,r3,r4,r5⟩:=hu1.rows m e sz rows WD;obtain⟨p1,p2,v2,_,_,p3,_,_,p4,_⟩:=hs1.ob m _ WD;rw[r1]at p3;cases p3;exact⟨v,cs,ns,r1,p1,p2,r2,r3,r4,r5,p4⟩
 obtain⟨c,ts,us,P8,Nb⟩:=IV (w:=w') (vs:=vs) (fun b hb=>(hu1.free b hb).1) hq hs0.qm hrv Qk (by omega) (fun i d hd=>by
  obtain⟨v,b,k1,k2,k3⟩:=m4 i d hd;exact⟨v,b,k1,k2,fun x hx=>VD x (m5 x (k3 x hx))⟩) hm1
 have Oe:∃v,(results fn a'.tmps).run P w'=.ok v w'/\EE w' v (CB es) c ts us:=by
  have hrun:(results fn a'.tmps).run P w'=.ok (if h:vs.toArray.size=1 then vs.toArray[0]else .tuple vs.toArray) w':=by
   rw[results_eq,qn];simp[m1]
  cases P8 with
  |nil=>exact⟨.tuple #[],by simpa using hrun,.gN [] [] [] [] [] .nil⟩
  |cons v vs d es b1 b2 t1 t2 u1 u2 hv xb=>
   cases xb with
   |nil=>
    simp only[cN];exact⟨v,by simpa using hrun,.v hv⟩
   |cons v2 vs d2 es b3 b4 t3 t4 u3 u4 VC xb=>exact⟨.tuple (v::v2::vs).toArray,by simpa using hrun,.gN _ _ _ _ _ (.cons _ _ _ _ _ _ _ _ _ _ hv (.cons _ _ _ _ _ _ _ _ _ _ VC xb))⟩
 obtain⟨v,a1i,X2⟩:=Oe;refine⟨Na,hs0.defers,hs0.stays,v,c,ts,us,a1i,X2,fun b hb'=>?_⟩;obtain⟨⟨m,hm,hΘ⟩,_⟩:=Nb.top b hb';exact hs1.mine b (by omega)
theorem KH.of{f:FuncId}{fn:Func}{c:Code}{ds:aR}{e sz:Nat}{rows dP:List aR}(hf:P.funcs[f]?=some fn)(hb:fn.body=some c)(hn:(fn.name== "runtime.NumGoroutine")=false)
 (hl:ds.length<=fn.ntmps) (hfl:dP.flatten.all D.flat=true) (h:rows.length<=maxLen->∀Γ:vn,Γ.nt=fn.ntmps->AW P Γ c (WM P fn (.fr e sz dP)) ⟨Cc 0 ds,[.row .uq e sz rows]⟩):KH P f ds e sz rows dP:=by
 refine⟨⟨fn,hf,by simp[hb],hn⟩,?_⟩;intro w κ args v cs TN hlen hargs hk0 hk1 hone hsz hrl hown hrd;refine calls_of_wp hf hb ?_;let Θ:Nat->Nat:=fun b=>if v.ownBlock=some b then 2 else if b<w.heap.size then 1 else 0
 let Γ:vn:=⟨w,Θ,fun b=>v.ownBlock=some b,fn.ntmps,fun _=>False,TN⟩
 have hlt:∀b,v.ownBlock=some b->b<w.heap.size:=fun b hb'=>(hown.lt b hb').2
 have D4:rows.length<=maxLen:=(dW.sl ⟨w,v,_,yG hrl hown hrd⟩).1;have hs:eO Γ ⟨Cc 0 ds,[.row .uq e sz rows]⟩ κ Θ {tmps:=args.toArray++Array.replicate (fn.ntmps-args.toArray.size) undef,defers:=[]} w:=by
  refine⟨rfl,?_,fun i hi=>hk1 i (by simpa using hi),?_,?_,?_,?_,?_,?_,⟨rfl,rfl,rfl,bS _,fun _ _ _=>rfl⟩,⟨fun _=>0,by simp,?_,?_⟩⟩
  ·simp[Γ];omega
  ·intro id u hu;rcases Nat.eq_zero_or_pos id with rfl|hp
   ·rw[hk0]at hu;cases hu;exact hone
   ·rw[hk1 id hp]at hu;cases hu
  ·intro t;rw[Ni];simp only[AZ,DI,BA];cases hd:ds[t]? with
   |none=>exact⟨[],.of (.any _),by simp⟩
   |some x=>
    obtain⟨u,k1,k2⟩:=hargs t x hd;refine⟨[],?_,by simp⟩;have hlt:t<args.length:=(aH.1 k1).1;have:(args.toArray++Array.replicate (fn.ntmps-args.toArray.size) undef).getD t undef=u:=by
     rw[cO,gA (by simpa using hlt)];simp[k1]
    rw[this];exact k2
  ·intro j o hj;cases j with
   |zero=>
    simp at hj;subst hj;exact⟨hsz,hrl,v,cs,[],hk0,hown,hrd,fun g hg=>by simp only[Θ];rw[bR hg],by simp⟩
   |succ j=>simp at hj
  ·intro b hb';simp only[Θ]at hb';split at hb'
   ·rename_i hv;exact hlt b hv
   ·split at hb'
    ·assumption
    ·exact absurd rfl hb'
  ·intro b hb' hx;refine⟨rfl,?_⟩;have hx':¬v.ownBlock=some b:=hx;simp only[Θ];rw[bG hx'];split<;>omega
  ·intro b hb';simp only[Θ]at hb';split at hb'
   ·rename_i hv;exact .inr hv
   ·split at hb'<;>omega
  ·intro id e' sz' fm hj;cases id with
   |zero=>
    simp at hj;obtain⟨rfl,rfl,rfl⟩:=hj;exact⟨v,cs,[],hk0,hown,hrd,by simp,by simp⟩
   |succ j=>simp at hj
  ·intro id o hj;cases id with
   |zero=>simp at hj;subst hj;exact PR.Aj rfl
   |succ j=>simp at hj
 refine wp_mono (h D4 Γ rfl _ _ _ _ hs) ?_;rintro x a' w' ⟨WI,κ0,Θ0,hs0,hrq⟩;obtain⟨Na,hdf,hst,u,bs,ts,us,hrun,hres,P7⟩:=WM.out hs0 hrq;have Oe:∃u cs',(results fn a'.tmps).run P w'=.ok u w'/\u.oneCell'=true/\(∀r∈dP,r.length=sz)/\w'.ownsRow 0 e sz u dP.length cs'/\mY w' cs' dP.flatten []/\(∀g,u.ownBlock=some g->w.heap.size<=g\/v.ownBlock=some g)/\
  w'.os=w.os/\w'.tape=w.tape/\w'.output=w.output/\w.heap.size<=w'.heap.size/\∀b,b<w.heap.size->v.ownBlock≠some b->w'.heap[b]?=w.heap[b]?:=by
  cases hres with
  |v hv=>
   cases hv with
   |cell hc=>
    cases hc with
    |pure hc=>cases hc
    |fr _ _ _ cs' ns h1 h2 h3 h4 h5=>
     have:=h4.flat hfl;subst this;exact⟨u,cs',hrun,h5,h2,h3,h4,fun g hg=>P7 g (by simp[hg]),hst.os,hst.tape,hst.output,hst.size,fun b hb' hx=>hst.block b hb' hx⟩
 obtain⟨u,cs',q1,q2⟩:=Oe;have post:a'.defers=[]/\∃v',(results fn a'.tmps).run P w'=.ok v' w'/\∃v2 cs2,Ending.returned v'=.returned v2/\v2.oneCell'=true/\(∀r∈dP,r.length=sz)/\w'.ownsRow 0 e sz v2 dP.length cs2/\mY w' cs2 dP.flatten []/\(∀g,v2.ownBlock=some g->w.heap.size<=g\/v.ownBlock=some g)/\
  w'.os=w.os/\w'.tape=w.tape/\w'.output=w.output/\w.heap.size<=w'.heap.size/\∀b,b<w.heap.size->v.ownBlock≠some b->w'.heap[b]?=w.heap[b]?:=⟨hdf,u,q1,u,cs',rfl,q2⟩
 rcases Na with rfl|rfl
 ·exact post
 ·exact post
theorem a0u{o:Oper}{f t id:Nat}{xs:Array Operand}{ts:Array TypeId}{e sz:Nat}{rows dP:List aR}(hop:o.op=.call {callee:=.value (.func f),args:=xs,argTypes:=ts})(hd:o.dst=some t)(hg:o.guard=none)
 (ht:t<Γ.nt) (hH:st.H[id]?=some (.row .uq e sz rows)) (hfl:rows.flatten.all D.flat=true) (hb:((xs.toList.map st.ev).all D.bare)=true) (pz:KH P f ((xs.toList.map st.ev).map (D.Yk [id])) e sz rows dP)
 (h:AO P Γ all rest Q ⟨(t,.acc st.H.length)::st.σ,kill st.H [id]++[.row .uq e sz dP]⟩):AO P Γ all (o::rest) Q st:=by
 intro κ Θ a w hs;obtain⟨hsz,hrl,v,cs,bs,hk,hown,hrd,I2,_⟩:=hs.ob id _ hH;have Hz:=hrd.flat hfl;subst Hz;have Zd:id<st.H.length:=(aH.1 hH).1;let κc:Nat->Option Value:=fun j=>if j=0 then some v else none
 have TN:T3 w fun b=>v.ownBlock=some b:=by
  obtain⟨B,v1,v2⟩:=hs.vsb;refine⟨B,v1,fun b hB=>⟨(v2 b hB).2.1,fun hb'=>?_⟩⟩;have e1:=I2 b hb';rcases hs.mine b (by omega)with q|q
  ·have:=(v2 b hB).1;omega
  ·exact(v2 b hB).2.2 q
 have hargs:∀(i:Nat) d,((xs.toList.map st.ev).map (D.Yk [id]))[i]?=some d->∃u,(xs.toList.map a.eval)[i]?=some u/\u7 w κc u d []:=by
  intro i d MK;rw[cA,cA]at MK;cases hx:xs.toList[i]? with
  |none=>rw[hx]at MK;cases MK
  |some x=>
   rw[hx]at MK;simp only[cZ,az]at MK;subst MK;refine⟨a.eval x,by rw[cA,hx];rfl,?_⟩;obtain⟨bs,r,hz⟩:=hs.ev x;have a1S:(st.ev x).bare=true:=bB.1 hb _ (cJ.2 ⟨x,aC hx,rfl⟩);obtain⟨b',r',_⟩:=u7.rn (o:=[id]) (κ':=κc) (Θ:=fun _=>0) (Θ':=fun _=>0) (fun i j u h1 h2=>by
    have h3:=To h1;cases j with
    |zero=>simp at h3;subst h3;rw[hk]at h2;simpa[κc]using h2
    |succ j=>simp at h3) (fun _ _=>rfl) r (fun _ _=>rfl)
   have:=r'.YA (D.YB [id] a1S);subst this;exact r'
 have hc:=pz.2 w κc (xs.toList.map a.eval) v cs TN (by simp) hargs (by simp[κc]) (fun i hi=>by simp only[κc];rw[bG (by omega)]) (hs.qm id v hk) hsz hrl hown hrd;refine wpList_plain hg fun K hK=>?_
 unfold Oper.wp;rw[AP hop pz.1,Oper.upon_enter];have e0:xs.map a.eval=(xs.toList.map a.eval).toArray:=by rw[<-jG,ke]
 rw[e0];refine hc.mono ?_;rintro x w' ⟨v',cs',rfl,hone,Pe,NZ,Ql,hat,h1,h2,h3,h4,Qf⟩;show K (a.put o.dst v') w';rw[hd];let n:=st.H.length
 let Θ':Nat->Nat:=fun b=>if some b=v'.ownBlock then n+2 else Θ b
 have hvt:∀g,v'.ownBlock=some g->Θ g=id+2\/w.heap.size<=g:=by
  intro g Zc;rcases hat g Zc with h|h
  ·exact .inr h
  ·exact .inl (I2 g h)
 have k:jW w w' Θ Θ' (id+2):=by
  refine⟨by omega,h1,h2,h3,h4,fun b hb hne=>Qf b hb (fun e=>hne (I2 b e)),fun b hb hne=>?_,fun b hb=>?_⟩
  ·simp only[Θ'];rw[bG];intro e;rcases hvt b e.symm with h|h
   ·exact hne h
   ·omega
  ·simp only[Θ']at hb;split at hb
   ·rename_i e;exact(NZ.lt b e.symm).2
   ·exact eE (hs.own b hb) h4
 have hm:∀b,2<=Θ' b->Cr Γ b:=by
  intro b hb;simp only[Θ']at hb;split at hb
  ·rename_i e;rcases hvt b e.symm with h|h
   ·exact hs.mine b (by omega)
   ·exact .inl (cT hs.base h)
  ·exact hs.mine b hb
 have hn:=zm (hs.rV n (bS _)) (some v');obtain⟨ρ,hu⟩:=hs.we;have x9:=hs.qc k hn hu;have key:∀(j:Nat) y,(kill st.H [id]++[.row .uq e sz dP])[j]?=some y->(j=n/\y=.row .uq e sz dP)\/(j≠n/\(y=.gone\/(j∉[id]/\st.H[j]?=some y))):=by
  intro j y hj;rcases Dx j y hj with⟨h1,h2⟩|⟨h1,h2⟩
  ·rw[iJ]at h1;exact .inl ⟨h1,h2⟩
  ·rw[iJ]at h1;exact .inr ⟨h1,ux h2⟩
 have hs':eO Γ ⟨st.σ,kill st.H [id]++[.row .uq e sz dP]⟩ (AX κ n (some v')) Θ' a w':=by
  refine hs.step k hm hn ?_ ?_ ?_ ⟨ρ,x9.1,fun j e' sz' fm hj=>?_,fun j y hj=>?_⟩
  ·intro i hi;simp only[aX,aM,bK,iJ]at hi;unfold AX;rw[bG (by omega)];exact hs.rV i (by omega)
  ·intro i y hy;unfold AX at hy;split at hy
   ·cases hy;exact hone
   ·exact hs.qm i y hy
  ·intro j y hj;rcases key j y hj with⟨rfl,rfl⟩|⟨_,hy|⟨hjk,hy⟩⟩
   ·exact .inr (.inr ⟨hsz,Pe,v',cs',[],mE _ _ _,NZ,Ql,fun g Zc=>by simp only[Θ'];rw[bR Zc.symm],by simp⟩)
   ·exact .inl hy
   ·exact .inr (.inl ⟨fun e=>hjk (by simp;omega),hy⟩)
  ·rcases key j _ hj with⟨rfl,hy⟩|⟨_,hy|⟨hjk,hy⟩⟩
   ·simp only[Ob.row.injEq,w5]at hy;obtain⟨rfl,rfl,rfl⟩:=hy;exact⟨v',cs',[],mE _ _ _,NZ,Ql,by simp,by simp⟩
   ·cases hy
   ·exact x9.2.1 j e' sz' fm (fun e=>hjk (by simp;omega)) hy
  ·rcases key j _ hj with⟨rfl,hy⟩|⟨_,hy|⟨hjk,hy⟩⟩
   ·subst hy;exact PR.Aj rfl
   ·subst hy;trivial
   ·exact x9.2.2 j y (fun e=>hjk (by simp;omega)) hy
 refine hK _ _ (h _ _ _ _ (hs'.set (t:=t) (d:=.acc n) (bs:=[]) ht ?_ (by simp)));exact(BU.acc n _ (mE _ _ _)).UB
end
end Go.Cx
namespace Go.Cx
open Go.RowKit
def Be(P:Program)(f:FuncId)(cells cells':aR)(ds:aR)(d:D):Prop:=
 (∃fn,P.funcs[f]?=some fn/\fn.body.isSome=true/\(fn.name== "runtime.NumGoroutine")=false)/\
 ∀(w:World) (Θ:Nat->Nat) (g:Nat) (cs:Array Value) (T:TypeId) (args:br) (bs ts us:af),
  T3 w (fun b=>b=g\/b∈ts)->w.heap[g]?=some (.cells cs T (0,0))->DJ w (.agg cs::args) (.agg cells::ds) bs ts us->
  (∀b∈bs,Θ b=0)->(∀b,Θ b≠0->b<w.heap.size)->(∀b,Θ b<=1)->Θ g=1->(∀b∈ts,Θ b=1/\b∈us/\b≠g)->us.Nodup->(∀b∈us,(b∉ts->Θ b=0)/\Wr w b)->
  Calls P f (.pointer (some ⟨g,0,none⟩)::args).toArray w (fun e w'=>∃v cs' T' b2 t2 u2 b3 t3 u3,e=.returned v/\w'.os=w.os/\w'.tape=w.tape/\w'.output=w.output/\w.heap.size<=w'.heap.size/\
   (∀b,b<w.heap.size->b≠g->b∉ts->w'.heap[b]?=w.heap[b]?)/\w'.heap[g]?=some (.cells cs' T' (0,0))/\
   EE w' v d b2 t2 u2/\w9 w' cs'.toList cells' b3 t3 u3/\(∀b∈b3++b2,(b<w.heap.size->Θ b=0\/b∈ts)/\b≠g/\b∉t3++t2)/\(u3++u2).Nodup/\
   (∀b∈u3++u2,(w.heap.size<=b\/b∈us)/\b≠g/\Wr w' b)/\∀b∈t3++t2,b∈u3++u2/\(w.heap.size<=b\/b∈ts))
section
variable{P:Program}{Γ:vn}{Q:Exit->St->Prop}{st:St}{κ κ':Nat->Option Value}{Θ Θ':Nat->Nat}{a:Act}{w w':World}{all:Array Oper}{rest:List Oper}
theorem Ic.a18{cs:Array Value}{ds:aR}{bs ts us:af}(h:Ic w (.agg cs) (.agg ds) bs ts us):w9 w cs.toList ds bs ts us:=by
 generalize hv:Value.agg cs=v at h;cases h with
 |cell h=>
  cases h with
  |pure h=>
   cases h with
   |agg l _ _ h=>cases hv;simpa using w9.FB h
 |agg l _ _ _ _ h=>cases hv;simpa using h
theorem QD.a18{cs:Array Value}{ds:aR}{bs:af}(h:QD w κ (.agg cs) (.agg ds) bs):fO w κ cs.toList ds bs:=by
 generalize hv:Value.agg cs=v at h;cases h with
 |cell h=>
  cases h with
  |pure h=>
   cases h with
   |agg l _ _ h=>cases hv;simpa using fO.FB h
 |agg l _ _ h=>cases hv;simpa using h
theorem Ib.shown{v:Value}{d:D}{bs ts us:af}(h:Ib w v d bs ts us):∃b,Rd w v d.shC b:=by
 cases h with
 |pure h=>
  have e:d.shC=d:=by cases h<;>rfl
  exact⟨_,e.symm▸h⟩
 |fr e sz rows cs ns h1 h2 h3 h4 h5=>exact⟨_,yG h2 h3 h4⟩
theorem w9.shown{vs:br}{ds:aR}{bs ts us:af}(h:w9 w vs ds bs ts us):∃b,mY w vs (ds.map D.shC) b:=by
 induction h with
 |nil=>exact⟨_,.nil⟩
 |cons v vs d ds b1 b2 t1 t2 u1 u2 h1 h2 _ ih=>
  obtain⟨b,q⟩:=h2.shown;obtain⟨b',q'⟩:=ih;exact⟨_,.cons _ _ _ _ _ _ h1 q q'⟩
theorem Ic.shown{v:Value}{d:D}{bs ts us:af}(h:Ic w v d bs ts us):dW d.shV:=by
 cases h with
 |cell h=>
  by_cases vu:∃ds,d=.agg ds
  ·obtain⟨ds,rfl⟩:=vu;cases h with
   |pure h=>cases h with
    |agg cs _ _ h=>
     obtain⟨b,q⟩:=(w9.FB h).shown;exact⟨w,_,_,.agg _ _ _ q⟩
  ·have e:d.shV=d.shC:=by cases d<;>first|rfl|exact absurd ⟨_,rfl⟩ vu
   rw[e];obtain⟨b,q⟩:=h.shown;exact⟨w,_,_,q⟩
 |agg cs ds bs ts us h=>
  obtain⟨b,q⟩:=h.shown;exact⟨w,_,_,.agg _ _ _ q⟩
theorem DJ.shown{vs:br}{ds:aR}{bs ts us:af}(h:DJ w vs ds bs ts us):∀d∈ds.map D.shV,dW d:=by
 induction h with
 |nil=>intro d hd;cases hd
 |cons v vs d ds b1 b2 t1 t2 u1 u2 h2 _ ih=>
  intro x hx;rcases bM.1 hx with rfl|hx
  ·exact h2.shown
  ·exact ih x hx
def Sk(L:p9)(b:Nat):Option Nat:=ix (fun x:Fs=>x.v.ownBlock==some b) L
def Cd(L:p9)(b:Nat):Option Nat:=ix (fun x:Fs=>x.ns.contains b) L
theorem Vu{L:p9}(hnd:(L.flatMap Fs.bl).Nodup){i:Nat}{x:Fs}{b:Nat}(hi:L[i]?=some x)(hb:x.v.ownBlock=some b):Sk L b=some i:=
 Eu hi (by simp[hb]) (fun j y hj hy=>by
  simp only[cj]at hy;exact yR hnd j i y x b hj hi (by simp[Fs.bl,hy]) (by simp[Fs.bl,hb]))
theorem Xo{L:p9}{b i:Nat}(h:Sk L b=some i):b∈L.flatMap Fs.ts:=by
 obtain⟨x,hx,hp⟩:=zl h;exact cE.2 ⟨x,aC hx,by simp only[cj]at hp;simp[Fs.ts,hp]⟩
theorem MG{L:p9}{b:Nat}(h:b∉L.flatMap Fs.ts):Sk L b=none:=by
 cases hb:Sk L b with
 |none=>rfl
 |some i=>exact absurd (Xo hb) h
theorem QK{L:p9}(hnd:(L.flatMap Fs.bl).Nodup){i:Nat}{x:Fs}{b:Nat}(hi:L[i]?=some x)(hb:b∈x.ns):Cd L b=some i:=
 Eu hi (by simpa using hb) (fun j y hj hy=>yR hnd j i y x b hj hi (by simp only[Fs.bl];exact au.2 (.inr (by simpa using hy))) (by simp only[Fs.bl];exact au.2 (.inr hb)))
theorem EF{L:p9}{b i:Nat}(h:Cd L b=some i):∃x,L[i]?=some x/\b∈x.ns:=by
 obtain⟨x,hx,hp⟩:=zl h;exact⟨x,hx,by simpa using hp⟩
theorem QL{L:p9}{b:Nat}(h:b∈L.flatMap Fs.ts):b∈L.flatMap Fs.bl:=by
 obtain⟨x,hx,I0⟩:=cE.1 h;exact cE.2 ⟨x,hx,by simp only[Fs.bl,Fs.ts]at I0⊢;exact au.2 (.inl I0)⟩
theorem DL{L:p9}{i b:Nat}{x:Fs}(h:L[i]?=some x)(hb:b∈x.ns):b∈L.flatMap Fs.bl:=
 cE.2 ⟨x,aC h,by simp only[Fs.bl];exact au.2 (.inr hb)⟩
theorem Um{L:p9}(hnd:(L.flatMap Fs.bl).Nodup):∀x∈L,x.bl.Nodup:=by
 induction L with
 |nil=>intro x hx;cases hx
 |cons z r ih=>
  intro x hx;simp only[dN]at hnd;obtain⟨n1,n2,_⟩:=bO.1 hnd;rcases bM.1 hx with rfl|hx
  ·exact n1
  ·exact ih n2 x hx
theorem R6{L:p9}(hnd:(L.flatMap Fs.bl).Nodup){i b:Nat}{x:Fs}(h:L[i]?=some x)(hb:b∈x.ns):b∉L.flatMap Fs.ts:=by
 intro ht;obtain⟨y,hy,hby⟩:=cE.1 ht;obtain⟨j,hj⟩:=cm hy;have:=yR hnd j i y x b hj h (by simp only[Fs.bl,Fs.ts]at hby⊢;exact au.2 (.inl hby)) (by simp only[Fs.bl];exact au.2 (.inr hb));subst this;rw[hj]at h;cases h;have Oh:=Um hnd x hy;simp only[Fs.bl]at Oh;exact(bO.1 Oh).2.2 b hby b hb rfl
theorem VX{L:p9}(hnd:(L.flatMap Fs.bl).Nodup){i:Nat}{x:Fs}(h:L[i]?=some x):x.ns.Nodup:=by
 have:=Um hnd x (aC h);simp only[Fs.bl]at this;exact(bO.1 this).2.1
def a16(P:Program)(fn:Func)(v0:Value)(cells':aR)(d:D)(e:Exit)(st:St):Prop:=
 (e=.ret\/e=.normal)/\∃nz ds0 T8 es ms qs,FC P st fn.results.toList=some ds0/\st.H[0]?=some (.Ph T8 v0)/\
  Dz st.H nz (.agg T8::ds0)=some (.agg cells'::es,ms,qs)/\ms.Nodup/\qs.Nodup/\CB es=d
theorem a16.out{fn:Func}{v0:Value}{cells':aR}{d:D}{e:Exit}{a':Act}{w':World}{WI:St}{κ0:Nat->Option Value}{Θ0:Nat->Nat}(hs0:eO Γ WI κ0 Θ0 a' w')(hrq:a16 P fn v0 cells' d e WI):
 (e=.ret\/e=.normal)/\a'.defers=[]/\Y5 Γ w'/\∃v g cs' T b2 t2 u2 b3 t3 u3,(results fn a'.tmps).run P w'=.ok v w'/\v0=.pointer (some ⟨g,0,none⟩)/\w'.heap[g]?=some (.cells cs' T (0,0))/\
  EE w' v d b2 t2 u2/\w9 w' cs'.toList cells' b3 t3 u3/\(∀b∈b3++b2,(b<Γ.W0.heap.size->¬Γ.X b->Γ.Θ0 b=0)/\b≠g/\b∉t3++t2)/\(u3++u2).Nodup/\
  (∀b∈u3++u2,a15 Γ b/\b≠g/\Wr w' b)/\∀b∈t3++t2,b∈u3++u2/\Cr Γ b:=by
 obtain⟨Na,nz,ds0,T8,es,ms,qs,hres,hH0,hrv,TL,Qk,rfl⟩:=hrq;obtain⟨ρ0,hu0⟩:=hs0.we;have K9:=Cj hrv;obtain⟨Θ1,ρ1,hs1,hu1,hm1,VD,Ze⟩:=eO.Q0 ms hs0 hu0 TL (fun m hm=>by
  obtain⟨e,sz,rows,hH⟩:=K9.1 m hm;exact⟨_,e,sz,rows,hH,rfl⟩)
 obtain⟨vs,bs',m1,m2,m3,m4,m5⟩:=IU hs0 hres;have hq:∀m e sz rows,WI.H[m]?=some (.row .uq e sz rows)->∃v cs ns,κ0 m=some v/\0<sz/\(∀r∈rows,r.length=sz)/\w'.ownsRow 0 e sz v rows.length cs/\mY w' cs rows.flatten ns/\ns.Nodup/\(∀b∈ns,ρ1 b=m+1)/\∀g,v.ownBlock=some g->Θ1 g=m+2:=by
  intro m e sz rows hH;have hnm:m∉ms:=fun hm=>by
   obtain⟨e',sz',dP,M5⟩:=K9.1 m hm;rw[hH]at M5;cases M5
  have WD:(kill WI.H ms)[m]?=some (.row .uq e sz rows):=by rw[jt hnm];exact hH
  obtain⟨v,cs,ns,r1,r2,r3,r4,r5⟩:=hu1.rows m e sz rows WD;obtain⟨p1,p2,v2,_,_,p3,_,_,p4,_⟩:=hs1.ob m _ WD;rw[r1]at p3;cases p3;exact⟨v,cs,ns,r1,p1,p2,r2,r3,r4,r5,p4⟩
 have h0m:0∉ms:=fun hm=>by
  obtain⟨e',sz',dP,M5⟩:=K9.1 0 hm;rw[hH0]at M5;cases M5
 have h0q:0∉qs:=fun hm=>by
  obtain⟨e',sz',dP,M5⟩:=K9.2 0 hm;rw[hH0]at M5;cases M5
 obtain⟨hv0,g,cs',T,hk0,hg,TP,bb,hbb,hbz⟩:=hs1.ob 0 _ (show(kill WI.H ms)[0]?=_ by rw[jt h0m];exact hH0);have e0:v0=.pointer (some ⟨g,0,none⟩):=by rw[hv0]at hk0;cases hk0;rfl
 have TP:Θ1 g=2:=TP;obtain⟨c,tt,uu,P8,Nb⟩:=IV (w:=w') (vs:=.agg cs'::vs) (fun b hb=>(hu1.free b hb).1) hq hs0.qm hrv Qk (by simp;omega) (fun i d hd=>by
  cases i with
  |zero=>
   simp at hd;subst hd;have:=QD.agg _ _ _ hbb;exact⟨_,bb,rfl,.v (by simpa using this),hbz⟩
  |succ i=>
   obtain⟨v,b,k1,k2,k3⟩:=m4 i d (by simpa using hd);exact⟨v,b,by simpa using k1,k2,fun x hx=>VD x (m5 x (k3 x hx))⟩) hm1
 cases P8 with
 |cons _ _ _ _ b3 b2 t3 t2 u3 u2 a4Y xb=>
 have Oe:∃v,(results fn a'.tmps).run P w'=.ok v w'/\EE w' v (CB es) b2 t2 u2:=by
  have hrun:(results fn a'.tmps).run P w'=.ok (if h:vs.toArray.size=1 then vs.toArray[0]else .tuple vs.toArray) w':=by
   rw[results_eq,qn];simp[m1]
  cases xb with
  |nil=>exact⟨.tuple #[],by simpa using hrun,.gN [] [] [] [] [] .nil⟩
  |cons v vs d es b1 b2 t1 t2 u1 u2 hv xb=>
   cases xb with
   |nil=>
    simp only[cN];exact⟨v,by simpa using hrun,.v hv⟩
   |cons v2 vs d2 es b3 b4 t3 t4 u3 u4 VC xb=>exact⟨.tuple (v::v2::vs).toArray,by simpa using hrun,.gN _ _ _ _ _ (.cons _ _ _ _ _ _ _ _ _ _ hv (.cons _ _ _ _ _ _ _ _ _ _ VC xb))⟩
 obtain⟨v,a1i,X2⟩:=Oe;have I2:∀b∈t3++t2,Wr w' b:=by
  intro b hb;rcases au.1 hb with hb|hb
  ·exact QE a4Y b hb
  ·exact UW X2 b hb
 refine⟨Na,hs0.defers,hs0.stays,v,g,cs',T,b2,t2,u2,b3,t3,u3,a1i,e0,hg,X2,a4Y.a18,fun b hb=>⟨fun hlt hx=>?_,fun e=>?_,fun ht=>?_⟩,Nb.nd,fun b hb=>?_,fun b hb=>?_⟩
 ·have:=Nb.zero b hb;rw[<-(hs1.old b hlt hx).1];exact this
 ·have:=Nb.zero b hb;subst e;omega
 ·obtain⟨⟨m,_,hΘ⟩,_⟩:=Nb.top b ht;have:=Nb.zero b hb;omega
 ·rcases Nb.mem b hb with h|⟨m,hm,hρ⟩
  ·obtain⟨⟨m,hm,hΘ⟩,_⟩:=Nb.top b h;refine⟨.inl (hs1.mine b (by omega)),fun e=>?_,I2 b h⟩;subst e;rw[TP]at hΘ;have:m=0:=by omega
   subst this;exact h0q hm
  ·have:=hu1.free b (by omega);refine⟨this.2.1,fun e=>?_,this.2.2⟩;have h0:=this.1;subst e;omega
 ·obtain⟨⟨m,hm,hΘ⟩,h2⟩:=Nb.top b hb;exact⟨h2,hs1.mine b (by omega)⟩
theorem ED.len{vs:br}{ds:aR}{bs:af}(h:ED w κ vs ds bs):vs.length=ds.length:=by
 induction h with
 |nil=>rfl
 |cons v vs d ds b1 b2 h1 _ ih=>simp[ih]
theorem Be.of{f:FuncId}{fn:Func}{c:Code}{cells cells' GN ds ds1:aR}{obs:bW}{d:D}(hf:P.funcs[f]?=some fn)(hb:fn.body=some c)(hn:(fn.name== "runtime.NumGoroutine")=false)
 (hI:Et 1 (.agg cells::ds)=(.agg GN::ds1,obs)) (hl:ds1.length+1<=fn.ntmps)
 (h:(∀x∈(D.agg cells::ds).map D.shV,dW x)->∀(v0:Value) (Γ:vn),Γ.nt=fn.ntmps->AW P Γ c (a16 P fn v0 cells' d) ⟨Cc 0 (.ptr 0 0::ds1),.Ph GN v0::obs⟩):Be P f cells cells' ds d:=by
 refine⟨⟨fn,hf,by simp[hb],hn⟩,?_⟩;intro w Θ g cs T args bs ts us hvs hg hargs hz hown h1 hg1 hts hnd x9;have a7R:=hargs.shown;obtain⟨L,q1,q2,rfl,rfl,q5⟩:=hargs.inst 1;rw[hI]at q1 q5;have q1:L.map Fs.ob=obs:=q1;refine calls_of_wp hf hb ?_;let v0:Value:=.pointer (some ⟨g,0,none⟩)
 let κ0:Nat->Option Value:=fun i=>if i=0 then some v0 else(L[i-1]?).map Fs.v
 let Θ0:Nat->Nat:=fun b=>if b=g then 2 else match Sk L b with|some i=>i+3|none=>Θ b
 let ρ0:Nat->Nat:=fun b=>match Cd L b with|some i=>i+2|none=>0
 let Γ:vn:=⟨w,Θ0,fun b=>b=g\/b∈L.flatMap Fs.ts,fn.ntmps,fun b=>b∈L.flatMap Fs.bl,hvs⟩
 have hgl:g<w.heap.size:=(bL.1 hg).1;have hk0:κ0 0=some v0:=rfl;have hkS:∀i x,L[i]?=some x->κ0 (i+1)=some x.v:=fun i x hx=>by simp[κ0,hx]
 have hnm:Names κ0 1 L:=fun i x hx=>by rw[Nat.add_comm];exact hkS i x hx
 have hrd:=q5 κ0 hnm;have hlen:=hrd.len;have a9s:∀(i:Nat) x b,L[i]?=some x->x.v.ownBlock=some b->b∈L.flatMap Fs.ts:=fun i x b hx hb'=>cE.2 ⟨x,aC hx,by simp[Fs.ts,hb']⟩
 have a7Z:∀(i:Nat) x b,L[i]?=some x->x.v.ownBlock=some b->Θ0 b=i+3:=by
  intro i x b hx hb';have:=(hts b (a9s i x b hx hb')).2.2;simp only[Θ0,Vu hnd hx hb'];rw[bG this]
 have a7a:∀b,Θ b=0->Θ0 b=0:=by
  intro b h0;have e1:b≠g:=fun e=>by subst e;omega
  have e2:b∉L.flatMap Fs.ts:=fun e=>by have:=(hts b e).1;omega
  simp only[Θ0,MG e2];rw[bG e1,h0]
 have a9e:∀(i:Nat) x b,L[i]?=some x->b∈x.ns->Θ0 b=0:=fun i x b hx hb'=>a7a b ((x9 b (DL hx hb')).1 (R6 hnd hx hb'))
 have Oi:∀b,Θ0 b≠Θ b->b=g\/b∈L.flatMap Fs.ts:=by
  intro b hne;by_cases e:b=g
  ·exact .inl e
  ·refine .inr (jV fun ht=>hne ?_);simp only[Θ0,MG ht];rw[bG e]
 have a7L:∀(j:Nat) o,obs[j]?=some o->∃x,L[j]?=some x/\o=x.ob:=by
  intro j o hj;rw[<-q1,cA]at hj;cases hx:L[j]? with
  |none=>simp[hx]at hj
  |some x=>simp[hx]at hj;exact⟨x,rfl,hj.symm⟩
 have aCe:obs.length=L.length:=by rw[<-q1];simp
 have a4Y:∃b',fO w κ0 cs.toList GN b'/\∀b∈b',Θ0 b=0:=by
  obtain⟨v,b',k1,k2,k3⟩:=hrd.at (i:=0) (d:=.agg GN) rfl;simp at k1;subst k1;exact⟨b',k2.a18,fun b hb'=>a7a b (hz b (k3 b hb'))⟩
 have hs:eO Γ ⟨Cc 0 (.ptr 0 0::ds1),.Ph GN v0::obs⟩ κ0 Θ0 {tmps:=(v0::args).toArray++Array.replicate (fn.ntmps-(v0::args).toArray.size) undef,defers:=[]} w:=by
  refine⟨rfl,?_,fun i hi=>?_,?_,?_,?_,?_,?_,?_,⟨rfl,rfl,rfl,bS _,fun _ _ _=>rfl⟩,⟨ρ0,?_,?_,?_⟩⟩
  ·simp only[aM]at hlen;simp[Γ];omega
  ·simp only[aM]at hi;simp only[κ0];rw[bG (by omega),ck (by omega)];rfl
  ·intro id u hu;simp only[κ0]at hu;split at hu
   ·cases hu;rfl
   ·cases hx:L[id-1]? with
    |none=>simp[hx]at hu
    |some x=>simp[hx]at hu;subst hu;exact(q2 x (aC hx)).2.2.2.2
  ·intro t;rw[Ni];simp only[AZ,DI,BA];have a5t:∀v,(v0::args)[t]?=some v->((v0::args).toArray++Array.replicate (fn.ntmps-(v0::args).toArray.size) undef).getD t undef=v:=by
    intro v hv;have hlt:=(aH.1 hv).1;rw[cO,gA (by simpa using hlt)];simp only[mr,hv,zQ]
   cases t with
   |zero=>
    refine⟨[],?_,by simp⟩;rw[a5t v0 rfl];exact .v (.cell (.ptr 0 0 g hk0))
   |succ s=>
    rw[eo];cases hd:ds1[s]? with
    |none=>exact⟨[],.of (.any _),by simp⟩
    |some x=>
     obtain⟨v,b',k1,k2,k3⟩:=hrd.at (i:=s+1) (d:=x) (by simpa using hd);rw[a5t v (by simpa using k1)];exact⟨b',.v k2,fun b hb'=>a7a b (hz b (k3 b hb'))⟩
  ·intro j o hj;cases j with
   |zero=>
    simp at hj;subst hj;obtain⟨b',k1,k2⟩:=a4Y;exact⟨hk0,g,cs,T,hk0,hg,by simp[Θ0],b',k1,k2⟩
   |succ j=>
    obtain⟨x,hx,rfl⟩:=a7L j o (by simpa using hj);obtain⟨p1,p2,p3,p4,_⟩:=q2 x (aC hx);exact⟨p1,p2,x.v,x.cs,x.ns,hkS j x hx,p3,p4,fun b hb'=>a7Z j x b hx hb',fun b hb'=>a9e j x b hx hb'⟩
  ·intro b hb';by_cases e:Θ0 b=Θ b
   ·exact hown b (by rw[<-e];exact hb')
   ·rcases Oi b e with rfl|ht
    ·exact hgl
    ·exact hown b (by have:=(hts b ht).1;omega)
  ·intro b hlt hx;refine⟨rfl,?_⟩;have e:Θ0 b=Θ b:=jV fun e=>hx (Oi b e)
   rw[e];exact h1 b
  ·intro b hb';refine .inr (Oi b fun e=>?_);have:=h1 b;omega
  ·intro b hb';cases hbl:Cd L b with
   |none=>simp[ρ0,hbl]at hb'
   |some i=>
    obtain⟨x,hx,I0⟩:=EF hbl;exact⟨a9e i x b hx I0,.inr (DL hx I0),(x9 b (DL hx I0)).2⟩
  ·intro id e sz rows hj;cases id with
   |zero=>simp at hj
   |succ j=>
    obtain⟨x,hx,hox⟩:=a7L j _ (by simpa using hj);simp only[Fs.ob,Ob.row.injEq,w5]at hox;obtain⟨rfl,rfl,rfl⟩:=hox;obtain⟨p1,p2,p3,p4,_⟩:=q2 x (aC hx);exact⟨x.v,x.cs,x.ns,hkS j x hx,p3,p4,VX hnd hx,fun b hb'=>by simp[ρ0,QK hnd hx hb']⟩
  ·intro id o hj;cases id with
   |zero=>simp at hj;subst hj;trivial
   |succ j=>
    obtain⟨x,hx,hox⟩:=a7L j _ (by simpa using hj);subst hox;exact PR.Aj rfl
 refine wp_mono (h a7R v0 Γ rfl _ _ _ _ hs) ?_;rintro x a' w' ⟨WI,κ1,Θ1,hs0,hrq⟩;obtain⟨Na,hdf,hst,v,g',cs',T',b2,t2,u2,b3,t3,u3,hrun,e0,hg',hres,aCF,aCB,KA,BM,ht'⟩:=a16.out hs0 hrq;obtain rfl:g=g':=by
  have e1:Value.pointer (some ⟨g,0,none⟩)=.pointer (some ⟨g',0,none⟩):=e0;cases e1;rfl
 have post:a'.defers=[]/\∃v',(results fn a'.tmps).run P w'=.ok v' w'/\∃v cs' T' b2 t2 u2 b3 t3 u3,Ending.returned v'=.returned v/\w'.os=w.os/\w'.tape=w.tape/\w'.output=w.output/\w.heap.size<=w'.heap.size/\
  (∀b,b<w.heap.size->b≠g->b∉L.flatMap Fs.ts->w'.heap[b]?=w.heap[b]?)/\w'.heap[g]?=some (.cells cs' T' (0,0))/\
  EE w' v d b2 t2 u2/\w9 w' cs'.toList cells' b3 t3 u3/\(∀b∈b3++b2,(b<w.heap.size->Θ b=0\/b∈L.flatMap Fs.ts)/\b≠g/\b∉t3++t2)/\(u3++u2).Nodup/\
  (∀b∈u3++u2,(w.heap.size<=b\/b∈L.flatMap Fs.bl)/\b≠g/\Wr w' b)/\∀b∈t3++t2,b∈u3++u2/\(w.heap.size<=b\/b∈L.flatMap Fs.ts):=by
  refine⟨hdf,v,hrun,v,cs',T',b2,t2,u2,b3,t3,u3,rfl,hst.os,hst.tape,hst.output,hst.size,fun b hlt hne hnt=>hst.block b hlt (fun hx=>hx.elim hne hnt),hg',hres,aCF,fun b hb'=>?_,KA,fun b hb'=>?_,fun b hb'=>?_⟩
  ·obtain⟨k1,k2,k3⟩:=aCB b hb';refine⟨fun hlt=>?_,k2,k3⟩;by_cases ht:b∈L.flatMap Fs.ts
   ·exact .inr ht
   ·refine .inl ?_;have:=k1 hlt (fun hx=>hx.elim k2 ht);have e:Θ0 b=Θ b:=jV fun e=>(Oi b e).elim k2 ht
    rw[<-e];exact this
  ·obtain⟨k1,k2,k3⟩:=BM b hb';refine⟨?_,k2,k3⟩;rcases k1 with(k1|k1|k1)|k1
   ·exact .inl k1
   ·exact absurd k1 k2
   ·exact .inr (QL k1)
   ·exact .inr k1
  ·obtain⟨k1,k2⟩:=ht' b hb';refine⟨k1,?_⟩;have:=(BM b k1).2.1;rcases k2 with k2|k2|k2
   ·exact .inl k2
   ·exact absurd k2 this
   ·exact .inr k2
 rcases Na with rfl|rfl
 ·exact post
 ·exact post
theorem a0v{o:Oper}{f t id:Nat}{xs:Array Operand}{ty:Array TypeId}{x0:Operand}{xr:List Operand}{ob:Ob}{OG cells cells' ds:aR}{d:D}{nz:List (List (Option (Nat×Nat)))}{ms qs:af}
 (hop:o.op=.call {callee:=.value (.func f),args:=xs,argTypes:=ty}) (hd:o.dst=some t) (hg:o.guard=none) (ht:t<Γ.nt)
 (hxs:xs.toList=x0::xr) (hx0:st.ev x0=.ptr id 0) (hH:st.H[id]?=some ob) (CH:ob.ZQ=some OG)
 (Na:Dz st.H nz (.agg OG::xr.map st.ev)=some (.agg cells::ds,ms,qs)) (TL:ms.Nodup) (Qk:qs.Nodup) (pz:Be P f cells cells' ds d)
 (h:AO P Γ all rest Q ⟨(t,(rU (st.H.length+(oC st.H.length cells').2.length) d).1)::st.σ,
  (kill st.H (ms++qs)).set id (ob.re (oC st.H.length cells').1)++((oC st.H.length cells').2++(rU (st.H.length+(oC st.H.length cells').2.length) d).2)⟩):AO P Γ all (o::rest) Q st:=by
 intro κ Θ a w hs;have K9:=Cj Na;obtain⟨ρ,hu⟩:=hs.we;obtain⟨Θ1,ρ1,hs1,hu1,hm1,VD,Ze⟩:=eO.Q0 ms hs hu TL (fun m hm=>by
  obtain⟨e,sz,rows,hH⟩:=K9.1 m hm;exact⟨_,e,sz,rows,hH,rfl⟩)
 have Zd:id<st.H.length:=(aH.1 hH).1;have hnr:∀k e sz rows,st.H[id]?≠some (.row k e sz rows):=fun k e sz rows e1=>by rw[hH]at e1;cases e1;cases CH
 have aCT:id∉ms:=fun hm=>by obtain⟨e',sz',dP,M5⟩:=K9.1 id hm;exact hnr _ _ _ _ M5
 have aCU:id∉qs:=fun hm=>by obtain⟨e',sz',dP,M5⟩:=K9.2 id hm;exact hnr _ _ _ _ M5
 have WD:(kill st.H ms)[id]?=some ob:=by rw[jt aCT];exact hH
 have a9g:=hs1.ob id _ WD;obtain⟨g,cs,T,hk0,hgc,TP,bb,hbb,hbz⟩:=a9g.cs CH;have hgl:g<w.heap.size:=(bL.1 hgc).1;have hq:∀m e sz rows,st.H[m]?=some (.row .uq e sz rows)->∃v cs ns,κ m=some v/\0<sz/\(∀r∈rows,r.length=sz)/\w.ownsRow 0 e sz v rows.length cs/\mY w cs rows.flatten ns/\ns.Nodup/\(∀b∈ns,ρ1 b=m+1)/\∀g,v.ownBlock=some g->Θ1 g=m+2:=by
  intro m e sz rows hH;have hnm:m∉ms:=fun hm=>by
   obtain⟨e',sz',dP,M5⟩:=K9.1 m hm;rw[hH]at M5;cases M5
  have WD:(kill st.H ms)[m]?=some (.row .uq e sz rows):=by rw[jt hnm];exact hH
  obtain⟨v,cs,ns,r1,r2,r3,r4,r5⟩:=hu1.rows m e sz rows WD;obtain⟨p1,p2,v2,_,_,p3,_,_,p4,_⟩:=hs1.ob m _ WD;rw[r1]at p3;cases p3;exact⟨v,cs,ns,r1,p1,p2,r2,r3,r4,r5,p4⟩
 obtain⟨bs,ts,us,P8,Nb⟩:=IV (w:=w) (vs:=.agg cs::xr.map a.eval) (fun b hb=>(hu1.free b hb).1) hq hs.qm Na Qk (by simp) (fun i d hd=>by
  cases i with
  |zero=>
   simp at hd;subst hd;have:=QD.agg _ _ _ hbb;exact⟨_,bb,rfl,.v (by simpa using this),hbz⟩
  |succ i=>
   rw[eo,cA]at hd;cases hx:xr[i]? with
   |none=>rw[hx]at hd;cases hd
   |some x=>
    rw[hx]at hd;simp only[cZ,az]at hd;subst hd;obtain⟨b,r,z⟩:=hs.ev x;exact⟨a.eval x,b,by simp[hx],r,fun y hy=>VD y (z y hy)⟩) hm1
 let Θc:Nat->Nat:=fun b=>if Θ1 b=0 then 0 else 1
 have Oi:∀b,Θc b=0↔Θ1 b=0:=fun b=>by simp only[Θc];split<;>simp_all
 have X3:∀b∈ts,∃m∈qs,Θ1 b=m+2:=fun b hb=>(Nb.top b hb).1
 have aCy:∀b∈ts,b≠g:=fun b hb e=>by
  obtain⟨m,hm,hΘ⟩:=X3 b hb;subst e;rw[TP]at hΘ;exact aCU (by
   have:id=m:=by omega
   rw[this];exact hm)
 have TN:T3 w fun b=>b=g\/b∈ts:=by
  obtain⟨B,v1,v2⟩:=hs1.vsb;refine⟨B,v1,fun b hB=>⟨(v2 b hB).2.1,fun hb'=>?_⟩⟩;have hm:Cr Γ b:=by
   rcases hb' with rfl|hb'
   ·exact hs1.mine b (by omega)
   ·obtain⟨m,hm,hΘ⟩:=X3 b hb';exact hs1.mine b (by omega)
  rcases hm with q|q
  ·have:=(v2 b hB).1;omega
  ·exact(v2 b hB).2.2 q
 have hwr:∀b∈us,Wr w b:=by
  intro b hb;rcases Nb.mem b hb with h|⟨m,hm,hρ⟩
  ·exact S3 P8 b h
  ·exact(hu1.free b (by omega)).2.2
 have hc:=pz.2 w Θc g cs T (xr.map a.eval) bs ts us TN hgc P8 (fun b hb=>(Oi b).2 (Nb.zero b hb)) (fun b hb=>hs1.own b (fun e=>hb ((Oi b).2 e))) (fun b=>by simp only[Θc];split<;>omega)
  (by simp only[Θc];rw[bG (by omega)]) (fun b hb=>by
   obtain⟨m,hm,hΘ⟩:=X3 b hb;exact⟨by simp only[Θc];rw[bG (by omega)],(Nb.top b hb).2,aCy b hb⟩) Nb.nd (fun b hb=>⟨fun hnt=>by
   rcases Nb.mem b hb with h|⟨m,hm,hρ⟩
   ·exact absurd h hnt
   ·exact(Oi b).2 (hu1.free b (by omega)).1,hwr b hb⟩)
 refine wpList_plain hg fun K hK=>?_
 unfold Oper.wp;rw[AP hop pz.1,Oper.upon_enter];have e0:xs.map a.eval=(.pointer (some ⟨g,0,none⟩)::xr.map a.eval).toArray:=by
  obtain⟨b0,r0,_⟩:=hs.ev x0;rw[hx0]at r0;obtain⟨g',hk',hv⟩:=r0.Ci;rw[hk0]at hk';cases hk';rw[<-wh,jG,hxs];simp[hv]
 rw[e0];refine hc.mono ?_;rintro x w' ⟨v,cs',T',b2,t2,u2,b3,t3,u3,rfl,k1,k2,k3,k4,a7y,kg,aDN,kcs,kb,knd,ku,kt⟩;show K (a.put o.dst v) w';rw[hd];let N:=st.H.length
 have hs2:=hs1.forget (id::qs);have hNl:(kill st.H ms).length=N:=iJ _ _;simp only[hNl]at hs2;let Θ2:Nat->Nat:=fun b=>if(id::qs).any (fun m=>Θ1 b==m+2)then N+2 else Θ1 b
 have hs2:eO Γ ⟨st.σ,kill (kill st.H ms) (id::qs)⟩ κ Θ2 a w:=hs2;have a1s:∀b,Θ1 b=0->Θ2 b=0:=fun b hb=>by
  simp only[Θ2];rw[bG,hb];intro h;obtain⟨m,_,hm⟩:=dQ.1 h;simp[hb]at hm
 have SP:∀b,b=g\/b∈ts->Θ2 b=N+2:=by
  intro b hb;simp only[Θ2];rw[bR];rcases hb with rfl|hb
  ·exact dQ.2 ⟨id,by simp,by simp[TP]⟩
  ·obtain⟨m,hm,hΘ⟩:=X3 b hb;exact dQ.2 ⟨m,by simp[hm],by simp[hΘ]⟩
 have hu2:CL Γ (kill (kill st.H ms) (id::qs)) κ Θ2 w ρ1:=by
  refine⟨fun b hb=>?_,fun j e sz rows hj=>?_,fun j o hj=>?_⟩
  ·obtain⟨q1,q2⟩:=hu1.free b hb;exact⟨a1s b q1,q2⟩
  ·rcases ux hj with h|⟨_,h⟩
   ·cases h
   ·exact hu1.rows j e sz rows h
  ·rcases ux hj with h|⟨_,h⟩
   ·subst h;trivial
   ·exact hu1.more j o h
 obtain⟨Lb,a1,a2,a3,a4,a5⟩:=kcs.inst N;obtain⟨Ld,c1,c2,c3,c4,c5⟩:=aDN.inst (N+(oC N cells').2.length);have aC5:Lb.length=(oC N cells').2.length:=by rw[<-a1];simp
 let L:=Lb++Ld
 have hbl:u3++u2=L.flatMap Fs.bl:=by simp[L,a3,c3]
 have aCx:t3++t2=L.flatMap Fs.ts:=by simp[L,a4,c4]
 rw[hbl]at knd ku kt;rw[aCx]at kt kb;have a77:∀x∈L,x.ok w':=fun x hx=>by
  rcases au.1 hx with hx|hx
  ·exact a2 x hx
  ·exact c2 x hx
 let κ':Nat->Option Value:=fun j=>if j<N then κ j else(L[j-N]?).map Fs.v
 let Θ':Nat->Nat:=fun b=>if b=g then id+2 else match Sk L b with|some i=>N+i+2|none=>if Θ2 b=N+2 then 0 else Θ2 b
 let ρ':Nat->Nat:=fun b=>match Cd L b with|some i=>N+i+1|none=>ρ1 b
 have hgt:g∉L.flatMap Fs.bl:=fun h=>(ku g h).2.1 rfl
 have a9v:Θ' g=id+2:=by simp[Θ']
 have a4i:∀(i:Nat) x b,L[i]?=some x->x.v.ownBlock=some b->Θ' b=N+i+2:=by
  intro i x b hx hb;have hb':b∈L.flatMap Fs.ts:=cE.2 ⟨x,aC hx,by simp[Fs.ts,hb]⟩;have hne:b≠g:=fun e=>hgt (e▸QL hb')
  simp only[Θ',Vu knd hx hb];rw[bG hne]
 have Qn:∀b,b≠g->b∉L.flatMap Fs.ts->Θ' b=if Θ2 b=N+2 then 0 else Θ2 b:=by
  intro b h1 h2;simp only[Θ',MG h2];rw[bG h1]
 have hzero:∀b,w.heap.size<=b->Θ2 b=0:=fun b hge=>by
  cases h:Θ2 b with
  |zero=>rfl
  |succ m=>exact absurd (hs2.own b (by omega)) (by omega)
 have a9o:∀b∈b3++b2,Θ' b=0:=by
  intro b hb;obtain⟨p1,p2,p3⟩:=kb b hb;rw[Qn b p2 p3];by_cases hlt:b<w.heap.size
  ·rcases p1 hlt with h|h
   ·rw[a1s b ((Oi b).1 h)];simp
   ·rw[bR (SP b (.inr h))]
  ·rw[hzero b (by omega)];simp
 have a9f:∀(i:Nat) x b,L[i]?=some x->b∈x.ns->Θ' b=0:=by
  intro i x b hx hb;have hmem:=DL hx hb;rw[Qn b (ku b hmem).2.1 (R6 knd hx hb)];rcases(ku b hmem).1 with h|h
  ·rw[hzero b h];simp
  ·rcases Nb.mem b h with h|⟨m,hm,hρ⟩
   ·rw[bR (SP b (.inr h))]
   ·rw[a1s b (hu1.free b (by omega)).1];simp
 have hn:∀(j:Nat) v,κ j=some v->κ' j=some v:=by
  intro j v hj;have:j<N:=jV fun h=>by rw[hs.rV j (by omega)]at hj;cases hj
  simp only[κ'];rw[bR this];exact hj
 have C8:Names κ' N L:=by
  intro i x hx;simp only[κ'];rw[bG (by omega),dw,hx];rfl
 have a9d:∀b∈L.flatMap Fs.ts,Cr Γ b:=by
  intro b hb;rcases(kt b hb).2 with h|h
  ·exact .inl (cT hs.base h)
  ·obtain⟨m,hm,hΘ⟩:=X3 b h;exact hs1.mine b (by omega)
 have k:jW w w' Θ2 Θ' (N+2):=by
  refine⟨by omega,k1,k2,k3,k4,fun b hlt hne=>a7y b hlt (fun e=>hne (SP b (.inl e))) (fun e=>hne (SP b (.inr e))),fun b hlt hne=>?_,fun b hb=>?_⟩
  ·rw[Qn b (fun e=>hne (SP b (.inl e))) (fun e=>?_),bG hne];rcases(kt b e).2 with h|h
   ·omega
   ·exact hne (SP b (.inr h))
  ·by_cases e:b=g
   ·subst e;omega
   ·by_cases ht':b∈L.flatMap Fs.ts
    ·obtain⟨x,T,hx⟩:=(ku b (QL ht')).2.2;exact(bL.1 hx).1
    ·rw[Qn b e ht']at hb;split at hb
     ·exact absurd rfl hb
     ·exact eE (hs2.own b hb) k4
 have hm:∀b,2<=Θ' b->Cr Γ b:=by
  intro b hb;by_cases e:b=g
  ·subst e;exact hs1.mine b (by omega)
  ·by_cases ht':b∈L.flatMap Fs.ts
   ·exact a9d b ht'
   ·rw[Qn b e ht']at hb;split at hb
    ·omega
    ·exact hs2.mine b hb
 have x9:=hs2.qc k hn hu2;have Wo:((kill st.H (ms++qs)).set id (ob.re (oC N cells').1)).length=N:=by simp[iJ,N]
 have aAL:∀(a_ bs:af) (H:bW),kill H (a_++bs)=kill (kill H a_) bs:=by
  intro a_
  induction a_ with
  |nil=>intro bs H;rfl
  |cons x a_ ih=>intro bs H;simp only[dR,kill,ih]
 have aCf:(oC N cells').2++(rU (N+(oC N cells').2.length) d).2=L.map Fs.ob:=by simp[L,a1,c1]
 have key:∀(j:Nat) y,((kill st.H (ms++qs)).set id (ob.re (oC N cells').1)++L.map Fs.ob)[j]?=some y->(∃i x,j=N+i/\L[i]?=some x/\y=x.ob)\/(j=id/\y=ob.re (oC N cells').1)\/(j≠id/\j<N/\(y=.gone\/(kill (kill st.H ms) (id::qs))[j]?=some y)):=by
  intro j y hj;by_cases hlt:j<N
  ·rw[bA (by rw[Wo];exact hlt)]at hj;rcases BP j y hj with⟨rfl,rfl⟩|⟨h1,h2⟩
   ·exact .inr (.inl ⟨rfl,rfl⟩)
   ·refine .inr (.inr ⟨h1,hlt,?_⟩);rcases ux h2 with h|⟨h3,h4⟩
    ·exact .inl h
    ·refine .inr ?_;simp only[au,Kc]at h3;rw[jt (by simp[h1,h3.2]),jt h3.1];exact h4
  ·rw[bE (by omega),Wo,cA]at hj;cases hx:L[j-N]? with
   |none=>simp[hx]at hj
   |some x=>simp[hx]at hj;exact .inl ⟨j-N,x,by omega,hx,hj.symm⟩
 have hs':eO Γ ⟨st.σ,(kill st.H (ms++qs)).set id (ob.re (oC N cells').1)++L.map Fs.ob⟩ κ' Θ' a w':=by
  have VA:∀(j:Nat) y,(kill (kill st.H ms) (id::qs))[j]?=some y->y≠ .gone->∀b,ρ1 b=j+1->ρ' b=j+1:=by
   intro j y hy hyg b aD7;have hjk:j∉id::qs:=by
    rcases ux hy with h|h
    ·exact absurd h hyg
    ·exact h.1
   have hnb:Cd L b=none:=by
    cases hi:Cd L b with
    |none=>rfl
    |some i=>
     exfalso;obtain⟨x,hx,I0⟩:=EF hi;obtain⟨z0,_,aEY,T'',aD1⟩:=hu1.free b (by omega);rcases(ku b (DL hx I0)).1 with h|h
     ·have:=(bL.1 aD1).1;omega
     ·rcases Nb.mem b h with h|⟨m,hm',hρ⟩
      ·obtain⟨m,hm',hΘ⟩:=X3 b h;omega
      ·exact hjk (by
        have:j=m:=by omega
        rw[this];simp[hm'])
   simp only[ρ',hnb];exact aD7
  refine hs2.step k hm hn ?_ ?_ ?_ ⟨ρ',?_,?_,?_⟩
  ·intro i hi;simp only[aX,Wo,aZ]at hi;simp only[κ'];rw[bG (by omega),ck (by omega)];rfl
  ·intro i u BM;simp only[κ']at BM;split at BM
   ·exact hs.qm i u BM
   ·cases hx:L[i-N]? with
    |none=>simp[hx]at BM
    |some x=>simp[hx]at BM;subst BM;exact(a77 x (aC hx)).2.2.2.2
  ·intro j y hj;rcases key j y hj with⟨i,x,rfl,hx,rfl⟩|⟨rfl,rfl⟩|⟨hji,hjl,hy|hy⟩
   ·obtain⟨q1,q2,q3,q4,_⟩:=a77 x (aC hx);exact .inr (.inr ⟨q1,q2,x.v,x.cs,x.ns,C8 i x hx,q3,q4,fun g' hg'=>a4i i x g' hx hg',fun b hb'=>a9f i x b hx hb'⟩)
   ·refine .inr (.inr (yb.aAc CH a9g (hn _) ⟨g,cs',T',hn _ _ hk0,kg,a9v,b3,a5 κ' C8.left,fun b hb=>a9o b (by simp[hb])⟩))
   ·exact .inl hy
   ·exact .inr (.inl ⟨by omega,hy⟩)
  ·intro b hb;cases Ws:Cd L b with
   |some i=>
    obtain⟨x,hx,I0⟩:=EF Ws;have hmem:=DL hx I0;refine⟨a9f i x b hx I0,?_,(ku b hmem).2.2⟩;rcases(ku b hmem).1 with h|h
    ·exact .inl (.inl (cT hs.base h))
    ·rcases Nb.mem b h with h|⟨m,hm',hρ⟩
     ·obtain⟨m,hm',hΘ⟩:=X3 b h;exact .inl (hs1.mine b (by omega))
     ·exact(hu1.free b (by omega)).2.1
   |none=>
    simp only[ρ',Ws]at hb;exact x9.1 b hb
  ·intro j e sz rows hj;rcases key j _ hj with⟨i,x,rfl,hx,hy⟩|⟨rfl,hy⟩|⟨hji,hjl,hy|hy⟩
   ·simp only[Fs.ob,Ob.row.injEq,w5]at hy;obtain⟨rfl,rfl,rfl⟩:=hy;obtain⟨q1,q2,q3,q4,_⟩:=a77 x (aC hx);exact⟨x.v,x.cs,x.ns,C8 i x hx,q3,q4,VX knd hx,fun b hb'=>by simp only[ρ',QK knd hx hb']⟩
   ·cases ob<;>simp[Ob.re]at hy
   ·cases hy
   ·obtain⟨v',c',bs',r1,r2,r3,r4,r5⟩:=x9.2.1 j e sz rows (by omega) hy;exact⟨v',c',bs',r1,r2,r3,r4,fun b hb'=>VA j _ hy (by simp) b (r5 b hb')⟩
  ·intro j y hj;rcases key j _ hj with⟨i,x,rfl,hx,hy⟩|⟨rfl,hy⟩|⟨hji,hjl,hy|hy⟩
   ·subst hy;exact PR.Aj rfl
   ·subst hy;cases ob<;>exact PR.Aj rfl
   ·subst hy;trivial
   ·by_cases hg:y=.gone
    ·subst hg;trivial
    ·exact(x9.2.2 j y (by omega) hy).re (VA j y hy hg)
 rw[aCf]at h;refine hK _ _ (h _ _ _ _ (hs'.set (t:=t) ht (c5 κ' ?_) fun b hb=>a9o b (by simp[hb])));rw[<-aC5];exact C8.right
def a5h(P:Program)(f:FuncId)(ds cells:aR):Prop:=
 (∃fn,P.funcs[f]?=some fn/\fn.body.isSome=true/\(fn.name== "runtime.NumGoroutine")=false)/\
 ∀(w:World) (Θ:Nat->Nat) (args:br) (bs:af),T3 w (fun _=>False)->Y3 w args ds bs->(∀b∈bs,Θ b=0)->(∀b,Θ b≠0->b<w.heap.size)->(∀b,Θ b<=1)->
  Calls P f args.toArray w (fun e w'=>∃g cs T bs',e=.returned (.pointer (some ⟨g,0,none⟩))/\Below w.heap.size w w'/\w.heap.size<=g/\w'.heap[g]?=some (.cells cs T (0,0))/\mY w' cs.toList cells bs'/\
   ∀b∈bs',(b<w.heap.size->Θ b=0)/\b≠g)
def aBo(P:Program)(fn:Func)(cells:aR)(e:Exit)(st:St):Prop:=
 (e=.ret\/e=.normal)/\∃j,FC P st fn.results.toList=some [.ptr j 0]/\st.H[j]?=some (.box cells)/\cells.all D.UN=true
theorem a0t{o:Oper}{f t:Nat}{xs:Array Operand}{ts:Array TypeId}{ds cells:aR}(hop:o.op=.call {callee:=.value (.func f),args:=xs,argTypes:=ts})(hd:o.dst=some t)(hg:o.guard=none)
 (ht:t<Γ.nt) (hds:MH st.H (xs.toList.map st.ev)=some (ds,[])) (pz:a5h P f ds cells)
 (h:AO P Γ all rest Q ⟨(t,.ptr st.H.length 0)::st.σ,st.H++[.box cells]⟩):AO P Γ all (o::rest) Q st:=by
 intro κ Θ a w hs;obtain⟨bs,hargs,hz⟩:=Q6 hs hds;have AT:∀b∈bs,Θ b=0:=fun b hb=>(hz b hb).elim id (fun⟨m,h1,_⟩=>by cases h1)
 let Θc:Nat->Nat:=fun b=>if Θ b=0 then 0 else 1
 have Oi:∀b,Θc b=0↔Θ b=0:=fun b=>by simp only[Θc];split<;>simp_all
 have hc:=pz.2 w Θc _ bs hs.vok hargs (fun b hb=>(Oi b).2 (AT b hb)) (fun b hb=>hs.own b (fun e=>hb ((Oi b).2 e))) (fun b=>by simp only[Θc];split<;>omega);refine wpList_plain hg fun K hK=>?_
 unfold Oper.wp;rw[AP hop pz.1,Oper.upon_enter];have e:xs.map a.eval=(xs.toList.map a.eval).toArray:=by rw[<-jG,ke]
 rw[e];refine hc.mono ?_;rintro e w' ⟨g,cs,T,bs',rfl,hb,hge,hg',hrd,hbb⟩;show K (a.put o.dst (.pointer (some ⟨g,0,none⟩))) w';rw[hd];let Θ':Nat->Nat:=fun b=>if b=g then st.H.length+2 else Θ b
 have k:jW w w' Θ Θ' (st.H.length+2):=by
  refine⟨by omega,hb.os,hb.tape,hb.output,hb.size,fun b hlt _=>hb.block b hlt,fun b hlt _=>?_,fun b hb'=>?_⟩
  ·simp only[Θ'];rw[bG (by omega)]
  ·simp only[Θ']at hb';split at hb'
   ·rename_i e;subst e;exact(bL.1 hg').1
   ·exact eE (hs.own b hb') hb.size
 have hbz:∀b∈bs',Θ' b=0:=by
  intro b hb';obtain⟨h1,h2⟩:=hbb b hb';simp only[Θ'];rw[bG h2];by_cases hlt:b<w.heap.size
  ·exact(Oi b).1 (h1 hlt)
  ·cases h:Θ b with
   |zero=>rfl
   |succ m=>exact absurd (hs.own b (by omega)) hlt
 have hs':=hs.push (o:=.box cells) (v:=.pointer (some ⟨g,0,none⟩)) rfl k (hs.BW (fun b hb'=>by
  simp only[Θ']at hb';split at hb'
  ·rename_i e;subst e;exact .inr hge
  ·exact .inl hb')) ⟨g,cs,T,mE _ _ _,hg',by simp[Θ'],bs',fO.FB hrd,hbz⟩ rfl
 refine hK _ _ (h _ _ _ _ (hs'.set (t:=t) (d:=.ptr st.H.length 0) (bs:=[]) ht ?_ (by simp)));exact(BU.ptr st.H.length 0 g (mE _ _ _)).UB
theorem a47{o:Oper}{T t id e e' sz h:Nat}{kk:IntKind}{x hi:Operand}{rows:List aR}(hop:o.op=.slice T x none (some hi) none)(hd:o.dst=some t)(hg:o.guard=none)(ht:t<Γ.nt)
 (hT:IZ P T=some (e',sz)) (hx:st.ev x=.acc id) (hH:st.H[id]?=some (.row .uq e sz rows)) (hhi:st.ev hi=.int kk (h:Int)) (hle:h<=rows.length)
 (hn:AO P Γ all rest Q ⟨(t,.acc st.H.length)::st.σ,kill st.H [id]++[.row .uq e sz (rows.take h)]⟩):AO P Γ all (o::rest) Q st:=by
 intro κ Θ a w hs;obtain⟨hsz,hrl,v,cs0,bs0,hk,a5x,aFA,I2,AT⟩:=hs.ob id _ hH;obtain⟨ρ,hu⟩:=hs.we;obtain⟨v2,cs,bs,hk2,hown,hrd,hnd,hρ⟩:=hu.rows id e sz rows hH;rw[hk]at hk2;cases hk2;obtain⟨bx,rx,_⟩:=hs.ev x;rw[hx]at rx;obtain⟨hkx,_⟩:=rx.xh;have YY:a.eval x=v:=by rw[hk]at hkx;cases hkx;rfl
 let v':Value:=match v with| .slice q _ cap=>.slice q h cap|u=>u
 have hc:Pj rows.length ((none:Option Operand).map st.ev) ((some hi).map st.ev)=some (0,h):=by
  simp[Pj,hhi,hle]
 have hrun:∃q cap,v=.slice q rows.length cap/\v'=.slice q h cap/\(execOp a.eval o).run P w=.ok (.value v') w:=by
  obtain⟨BM,Of,Nc⟩:=qN hT;have main:∀(q:Option Addr) (cap:Nat),(∀b off sp,q=some ⟨b,off,sp⟩->off=0/\sp=none)->v=.slice q rows.length cap->rows.length<=cap->(execOp a.eval o).run P w=.ok (.value (.slice q h cap)) w:=by
   intro q cap hq0 hq hcap;obtain⟨hr,hl,hh⟩:=Tu (P:=P) (isSlice:=true) (cap:=cap) hs hcap hc;have aEl:(if cap=0 then q else q.map (·.add (0*sz)))=q:=by
    split
    ·rfl
    ·cases q with
     |none=>rfl
     |some ad=>simp[Addr.add]
   simp only[Aa,cZ]at hr;simp only[execOp,hop,YY,hq];simp[Instr.sliceAt,Instr.slice,run_underlying BM,hr,xe (P:=P) Of w];intro hc0;cases q with
   |none=>rfl
   |some ad=>simp[Addr.add]
  rcases hown.2 with⟨rfl,h0⟩|⟨g,cap,cur,rfl,_,TJ,hnc,hcm,hcs,htk⟩
  ·exact⟨none,0,by rw[h0],rfl,main none 0 (by simp) (by rw[h0]) (by omega)⟩
  ·exact⟨some ⟨g,0,none⟩,cap,rfl,rfl,main _ _ (by simp) rfl hnc⟩
 obtain⟨q,cap,hvq,a4h,hrun⟩:=hrun;have CH:v'.ownBlock=v.ownBlock:=by rw[a4h,hvq];cases q<;>rfl
 have hone:v'.oneCell'=true:=by
  have:=hs.qm id v hk;rw[hvq]at this;rw[a4h];exact this
 have hsplit:∃cs' bs',w.ownsRow 0 e sz v' (rows.take h).length cs'/\mY w cs' (rows.take h).flatten bs'/\bs'.Nodup/\∀b∈bs',b∈bs:=by
  have e1:rows.flatten=(rows.take h).flatten++(rows.drop h).flatten:=by rw[<-mH,cD]
  have Ql:=hrd;rw[e1]at Ql;obtain⟨c1,c2,b1,b2,rfl,rfl,k1,k2⟩:=Ql.split;have htl:(rows.take h).length=h:=by rw[cM];omega
  have hc1:c1.length=h*sz:=by rw[k1.length,py (fun r hr=>hrl r (cH hr)),htl]
  refine⟨c1,b1,?_,k1,(bO.1 hnd).1,fun b hb=>by simp[hb]⟩;rw[htl];refine⟨hc1,?_⟩;rcases hown.2 with⟨hv0,h0⟩|⟨g,cap',cur,hvs,hbg,TJ,hnc,hcm,hcs,htk⟩
  ·left
   have:h=0:=by omega
   subst this;have e3:=hv0.symm.trans hvq;simp only[Value.slice.injEq]at e3;exact⟨by rw[a4h,<-e3.1,<-e3.2.2],rfl⟩
  ·right
   have e3:=hvs.symm.trans hvq;simp only[Value.slice.injEq]at e3;refine⟨g,cap',cur,by rw[a4h,<-e3.1,<-e3.2.2],hbg,TJ,by omega,hcm,hcs,?_⟩;have h3:(cur.toList.take (rows.length*sz)).take (h*sz)=(c1++c2).take (h*sz):=by rw[htk]
   rw[vv,fD (dX _ hle)]at h3;rw[h3];exact jD hc1
 obtain⟨cs',bs',p1,p2,p3,p4⟩:=hsplit;refine wpList_plain hg fun K hK=>?_
 unfold Oper.wp;rw[hrun,Oper.upon_value,hd];let n:=st.H.length
 have Zd:id<n:=(aH.1 hH).1;let Θ':Nat->Nat:=fun b=>if some b=v'.ownBlock then n+2 else Θ b
 let ρ':Nat->Nat:=fun b=>if ρ b=id+1 then n+1 else ρ b
 have hvt:∀g,v'.ownBlock=some g->Θ g=id+2:=fun g Zc=>I2 g (CH▸Zc)
 have k:jW w w Θ Θ' (id+2):=by
  refine⟨by omega,rfl,rfl,rfl,bS _,fun _ _ _=>rfl,fun b hb hne=>?_,fun b hb=>?_⟩
  ·simp only[Θ'];rw[bG fun e=>hne (hvt b e.symm)]
  ·simp only[Θ']at hb;split at hb
   ·rename_i e;exact hs.own b (by rw[hvt b e.symm];omega)
   ·exact hs.own b hb
 have hm:∀b,2<=Θ' b->Cr Γ b:=by
  intro b hb;simp only[Θ']at hb;split at hb
  ·rename_i e;exact hs.mine b (by rw[hvt b e.symm];omega)
  ·exact hs.mine b hb
 have hnn:=zm (hs.rV n (bS _)) (some v');have x9:=hs.qc k hnn hu;have Rc:∀b∈bs',Θ' b=0:=by
  intro b hb;have h1:=(hu.free b (by rw[hρ b (p4 b hb)];omega)).1;simp only[Θ'];rw[bG fun e=>by have:=hvt b e.symm;omega];exact h1
 have key:∀(j:Nat) y,(kill st.H [id]++[.row .uq e sz (rows.take h)])[j]?=some y->(j=n/\y=.row .uq e sz (rows.take h))\/(j≠n/\(y=.gone\/(j∉[id]/\st.H[j]?=some y))):=by
  intro j y hj;rcases Dx j y hj with⟨h1,h2⟩|⟨h1,h2⟩
  ·rw[iJ]at h1;exact .inl ⟨h1,h2⟩
  ·rw[iJ]at h1;exact .inr ⟨h1,ux h2⟩
 have hs':eO Γ ⟨st.σ,kill st.H [id]++[.row .uq e sz (rows.take h)]⟩ (AX κ n (some v')) Θ' a w:=by
  refine hs.step k hm hnn ?_ ?_ ?_ ⟨ρ',fun b hb=>?_,fun j e2 XY fm hj=>?_,fun j y hj=>?_⟩
  ·intro i hi;simp only[aX,aM,bK,iJ]at hi;unfold AX;rw[bG (by omega)];exact hs.rV i (by omega)
  ·intro i y hy;unfold AX at hy;split at hy
   ·cases hy;exact hone
   ·exact hs.qm i y hy
  ·intro j y hj;rcases key j y hj with⟨rfl,rfl⟩|⟨_,hy|⟨hjk,hy⟩⟩
   ·exact .inr (.inr ⟨hsz,fun r hr=>hrl r (cH hr),v',cs',bs',mE _ _ _,p1,p2,fun g Zc=>by simp only[Θ'];rw[bR Zc.symm],Rc⟩)
   ·exact .inl hy
   ·exact .inr (.inl ⟨fun e=>hjk (by simp;omega),hy⟩)
  ·refine x9.1 b fun h0=>hb ?_
   simp only[ρ'];rw[bG (by omega)];exact h0
  ·rcases key j _ hj with⟨rfl,hy⟩|⟨_,hy|⟨hjk,hy⟩⟩
   ·simp only[Ob.row.injEq,w5]at hy;obtain⟨rfl,rfl,rfl⟩:=hy;exact⟨v',cs',bs',mE _ _ _,p1,p2,p3,fun b hb=>by simp only[ρ'];rw[bR (hρ b (p4 b hb))]⟩
   ·cases hy
   ·obtain⟨v3,c3,b3,q1,q2,q3,q4,q5⟩:=x9.2.1 j e2 XY fm (fun e=>hjk (by simp;omega)) hy;refine⟨v3,c3,b3,q1,q2,q3,q4,fun b hb=>?_⟩;have hne:j≠id:=fun e=>hjk (by simp[e])
    simp only[ρ'];rw[bG (by rw[q5 b hb];omega)];exact q5 b hb
  ·rcases key j _ hj with⟨rfl,hy⟩|⟨_,hy|⟨hjk,hy⟩⟩
   ·subst hy;exact PR.Aj rfl
   ·subst hy;trivial
   ·refine(x9.2.2 j y (fun e=>hjk (by simp;omega)) hy).re fun b hb=>?_
    have hne:j≠id:=fun e=>hjk (by simp[e])
    simp only[ρ'];rw[bG (by omega)];exact hb
 refine hK _ _ (hn _ _ _ _ (hs'.set (t:=t) (d:=.acc n) (bs:=[]) ht ?_ (by simp)));exact(BU.acc n _ (mE _ _ _)).UB
end
end Go.Cx
namespace Go.Cx
open Go.RowKit
section
variable{P:Program}{Γ:vn}{Q:Exit->St->Prop}{st:St}{κ κ':Nat->Option Value}{Θ Θ':Nat->Nat}{a:Act}{w w':World}{all:Array Oper}{rest:List Oper}
theorem eO.a88(hs:eO Γ st κ Θ a w):
 eO Γ ⟨st.σ,st.H++[.mp []]⟩ (AX κ st.H.length (some (.map (some w.heap.size)))) (fun b=>if b=w.heap.size then st.H.length+2 else Θ b) a (w.alloc (.map #[] 0)):=by
 have k:=jW.alloc hs (.map #[] 0) (tag:=st.H.length+2) (by omega);refine hs.push rfl k (hs.BW (fun b hb=>by by_cases e:b=w.heap.size<;>simp_all)) ?_ rfl;exact⟨w.heap.size,#[],0,by simp[AX],heap_alloc_new w _,by simp,rfl,by simp⟩
theorem WK{o:Oper}{T t:Nat}(hop:o.op=.makeMap T none)(hd:o.dst=some t)(hg:o.guard=none)(ht:t<Γ.nt)
 (h:AO P Γ all rest Q ⟨(t,.acc st.H.length)::st.σ,st.H++[.mp []]⟩):AO P Γ all (o::rest) Q st:=by
 intro κ Θ a w hs;have hs':=hs.a88;refine wpList_plain hg fun K hK=>?_
 unfold Oper.wp;have hrun:(execOp a.eval o).run P w=.ok (.value (.map (some w.heap.size))) (w.alloc (.map #[] 0)):=by
  simp[execOp,hop,Instr.makeMap,newObj];rfl
 rw[hrun,Oper.upon_value,hd];refine hK _ _ (h _ _ _ _ (hs'.set (t:=t) (d:=.acc st.H.length) (bs:=[]) ht ?_ (by simp)));exact(BU.acc st.H.length _ (mE _ _ _)).UB
theorem Aq.push{es:List MapEntry}{kv:List (D×D)}{k v:D}{u x:Value}(h:Aq w es kv)(hk:Rd w u k [])(hv:Rd w x v [])(c:Nat):Aq w (es++[{key:=u,val:=x,born:=c}]) (kv++[(k,v)]):=by
 refine⟨by simp[h.1],fun j e p h1 h2=>?_⟩;by_cases hj:j<es.length
 ·rw[bA hj]at h1;rw[bA (by rw[<-h.1];exact hj)]at h2;exact h.2 j e p h1 h2
 ·rw[bE (by omega)]at h1;rw[bE (by rw[<-h.1];omega),<-h.1]at h2;have e0:j-es.length=0:=by
   have:=(aH.1 h1).1;simp at this;omega
  rw[e0]at h1 h2;simp at h1 h2;subst h1;subst h2;exact⟨hk,hv⟩
theorem Aq.put{es:List MapEntry}{kv:List (D×D)}{k v:D}{u x:Value}(h:Aq w es kv)(hk:Rd w u k [])(hv:Rd w x v [])(i:Nat){es':List MapEntry}(hl:es'.length=es.length)
 (he:∀(j:Nat) e,es'[j]?=some e->(j=i/\e.key=u/\e.val=x)\/(j≠i/\es[j]?=some e)):Aq w es' (kv.set i (k,v)):=by
 refine⟨by simp[hl,h.1],fun j e p h1 h2=>?_⟩;rcases he j e h1 with⟨rfl,h3,h4⟩|⟨hne,h3⟩
 ·have hlt:j<kv.length:=by
   have:=(aH.1 h2).1;simpa using this
  rw[dV hlt]at h2;cases h2;rw[h3,h4];exact⟨hk,hv⟩
 ·rw[cG (tv hne)]at h2;exact h.2 j e p h3 h2
theorem a81{kd:TypeDesc}{k v:D}{u:Value}(Rp:M7 kd k=true)(hu:Rd w u k []):∀ {es:List MapEntry} {kv kv':List (D×D)} (i:Nat),Aq w es kv->Nh k v kv=some kv'->
 (Instr.findNow kd u es i=some none/\kv'=kv++[(k,v)])\/∃j x e,Instr.findNow kd u es i=some (some (i+j,x))/\es[j]?=some e/\e.key=u/\kv'=kv.set j (k,v):=by
 intro es
 induction es with
 |nil=>
  intro kv kv' i hr h;cases kv with
  |nil=>cases h;exact .inl ⟨rfl,rfl⟩
  |cons p kv=>exact absurd hr.1 (by simp)
 |cons e es ih=>
  intro kv kv' i hr h;cases kv with
  |nil=>exact absurd hr.1 (by simp)
  |cons p kv=>
   obtain⟨r1,r2,r3⟩:=hr.cons;simp only[Nh]at h;split at h
   ·rename_i hq;cases h;have:=Pz Rp hu r1 hq;exact .inr ⟨0,e.val,e,by simp[Instr.findNow,this.1],rfl,this.2 rfl,rfl⟩
   ·rename_i hq;have Rq:=(Pz Rp hu r1 hq).1;cases hk:Nh k v kv with
    |none=>rw[hk]at h;cases h
    |some kv1=>
     rw[hk]at h;cases h;rcases ih (i+1) r3 hk with⟨h1,h2⟩|⟨j,x,e',h1,h2,h3,h4⟩
     ·exact .inl ⟨by simpa[Instr.findNow,Rq]using h1,by rw[h2];rfl⟩
     ·exact .inr ⟨j+1,x,e',by simp only[Instr.findNow,Rq];rw[h1];congr 3;omega,by simpa using h2,h3,by rw[h4];rfl⟩
   ·cases h
theorem U1{kd:TypeDesc}{u:Value}(h:MapKept.IsKey kd u)(n:Nat):Instr.sameBits n u u=true:=by
 cases kd<;>cases u<;>simp[MapKept.IsKey]at h<;>simp[Instr.sameBits]
 all_goals first
  |exact(MapKept.bytes_beq _ _).2 rfl
  |rfl
def D.scalar:D->Bool
 | .str _=>true
 | .int _ _=>true
 | .bool _=>true
 |_=>false
theorem Vh{v:Value}{d:D}{bs:af}(hd:d.scalar=true)(hu:u7 w κ v d bs):Rd w v d []:=by
 cases d<;>simp[D.scalar]at hd
 all_goals cases hu with|v h=>cases h with|cell h=>cases h with|pure h=>cases h<;>(constructor<;>assumption)
theorem Sw{o:Oper}{T id:Nat}{x i y:Operand}{kd:TypeDesc}{dz:D}{kv kv':List (D×D)}(hop:o.op=.mapUpdate T x i y)(hd:o.dst=none)(hg:o.guard=none)
 (hT:a0K P T=some (kd,dz)) (hx:st.ev x=.acc id) (hH:st.H[id]?=some (.mp kv)) (Rp:M7 kd (st.ev i)=true) (hsc:(st.ev y).scalar=true) (hput:Nh (st.ev i) (st.ev y) kv=some kv')
 (h:AO P Γ all rest Q ⟨st.σ,st.H.set id (.mp kv')⟩):AO P Γ all (o::rest) Q st:=by
 intro κ Θ a w hs;obtain⟨g,es,c,q1,q2,q3,q4⟩:=hs.ob id _ hH;obtain⟨bs,r,_⟩:=hs.ev x;rw[hx]at r;obtain⟨hk,_⟩:=r.xh;rw[q1]at hk;have hxv:a.eval x=.map (some g):=(qt hk).symm;obtain⟨bi,ri,_⟩:=hs.ev i;obtain⟨by',ry,_⟩:=hs.ev y;have hu:=SV Rp ri;have hv:=Vh hsc ry;obtain⟨kt,et,z,t1,t2,t3,t4⟩:=RV hT;have hik:=VH Rp hu;have hck:=MapKept.run_checkKey (P:=P) (w:=w) t2 hik false 9999;have aCR:g<w.heap.size:=(bL.1 q2).1;have Zd:id<st.H.length:=(aH.1 hH).1;have hrun:∃es' c',(execOp a.eval o).run P w=.ok .skip {w with heap:=w.heap.setIfInBounds g (.map es' c')}/\Aq w es'.toList kv':=by
  rcases a81 Rp hu 0 q4 hput with⟨hn,rfl⟩|⟨j,x',e,hn,he,hek,rfl⟩
  ·have hfk:=MapKept.run_findKey (P:=P) (w:=w) t2 hn;refine⟨es.push {key:=a.eval i,val:=a.eval y,born:=c},c+1,?_,?_⟩
   ·simp[execOp,hop,hxv,Instr.mapUpdate,run_underlying t1,MapKept.run_getObj_map q2,hck,hfk,MapKept.run_setObj_map _ q2]
   ·rw[Array.toList_push];exact q4.push hu hv c
  ·rw[cq]at hn;have hfk:=MapKept.run_findKey (P:=P) (w:=w) t2 hn;have hej:es[j]?=some e:=by simpa using he
   have hst:(Instr.keyThatStays (((es[j]?).map (·.key)).getD (a.eval i)) (a.eval i)).run P w=.ok (a.eval i) w:=by
    rw[hej];simp[Instr.keyThatStays,hek,U1 hik]
   refine⟨es.modify j fun e=> {e with key:=a.eval i,val:=a.eval y},c,?_,?_⟩
   ·simp[execOp,hop,hxv,Instr.mapUpdate,run_underlying t1,MapKept.run_getObj_map q2,hck,hfk,hst,MapKept.run_setObj_map _ q2]
   ·refine q4.put hu hv j (by simp) fun m e' hm=>?_
    rw[vT,yy]at hm;by_cases hmj:j=m
    ·subst hmj;rw[bR rfl,hej]at hm;cases hm;exact .inl ⟨rfl,rfl,rfl⟩
    ·rw[bG hmj]at hm;exact .inr ⟨tv hmj,by simpa using hm⟩
 obtain⟨es',c',hr,aCn⟩:=hrun;have a7N:∀b,b≠g->(w.heap.setIfInBounds g (.map es' c'))[b]?=w.heap[b]?:=fun b hb=>by simp[tv hb]
 have k:jW w {w with heap:=w.heap.setIfInBounds g (.map es' c')} Θ Θ (id+2):=by
  refine⟨by omega,rfl,rfl,rfl,by simp,fun b hb hne=>a7N b fun e=>hne (e▸q3),fun _ _ _=>rfl,fun b hb=>?_⟩;simpa using hs.own b hb
 have hs':eO Γ ⟨st.σ,st.H.set id (.mp kv')⟩ κ Θ a {w with heap:=w.heap.setIfInBounds g (.map es' c')}:=by
  obtain⟨ρ,BM⟩:=hs.we;have x9:=hs.qc k (fun _ _ h=>h) BM;refine hs.step k hs.mine (fun _ _ h=>h) (fun i hi=>hs.rV i (by simpa using hi)) hs.qm ?_ ⟨ρ,x9.1,fun j e sz rows hj=>?_,fun j y hj=>?_⟩
  ·intro j y' hj;by_cases e:j=id
   ·subst e;rw[dV Zd]at hj;cases hj;exact .inr (.inr ⟨g,es',c',q1,by simp[aCR],q3,aCn.stay⟩)
   ·rw[cG (tv e)]at hj;exact .inr (.inl ⟨by omega,hj⟩)
  ·by_cases e':j=id
   ·subst e';rw[dV Zd]at hj;cases hj
   ·rw[cG (tv e')]at hj;exact x9.2.1 j e sz rows (by omega) hj
  ·by_cases e':j=id
   ·subst e';rw[dV Zd]at hj;cases hj;trivial
   ·rw[cG (tv e')]at hj;exact x9.2.2 j y (by omega) hj
 refine wpList_plain hg fun K hK=>?_
 unfold Oper.wp;rw[hr,Oper.upon_skip,hd];exact hK _ _ (h _ _ _ _ hs')
end
end Go.Cx
namespace Go.Cx
open Go.RowKit
def US(P:Program)(f:FuncId)(e:TypeId)(sz:Nat)(rows dP:List aR):Prop:=
 (∃fn,P.funcs[f]?=some fn/\fn.body.isSome=true/\(fn.name== "runtime.NumGoroutine")=false)/\
 ∀(w:World) (v:Value) (cs:br),0<sz->(∀r∈rows,r.length=sz)->w.ownsRow 0 e sz v rows.length cs->mY w cs rows.flatten []->
  Calls P f #[v] w (fun x w'=>x=.returned (.tuple #[])/\w'.os=w.os/\w'.tape=w.tape/\w'.output=w.output/\w.heap.size<=w'.heap.size/\
   (∀b,b<w.heap.size->v.ownBlock≠some b->w'.heap[b]?=w.heap[b]?)/\(∀r∈dP,r.length=sz)/\∃cs',w'.ownsRow 0 e sz v dP.length cs'/\mY w' cs' dP.flatten [])
section
variable{P:Program}{Γ:vn}{Q:Exit->St->Prop}{st:St}{κ:Nat->Option Value}{Θ:Nat->Nat}{a:Act}{w:World}{all:Array Oper}{rest:List Oper}
theorem a0s{o:Oper}{f id e sz:Nat}{x:Operand}{ts:Array TypeId}{k0:RK}{rows dP:List aR}(hop:o.op=.call {callee:=.value (.func f),args:= #[x],argTypes:=ts})(hd:∀t,o.dst=some t->t<Γ.nt)(hg:o.guard=none)
 (hx:st.ev x=.acc id) (hH:st.H[id]?=some (.row k0 e sz rows)) (hk0:k0.hand=true) (hfl:rows.flatten.all D.flat=true) (pz:US P f e sz rows dP)
 (h:AO P Γ all rest Q (St.put ⟨st.σ,st.H.set id (.row k0 e sz dP)⟩ o.dst (.gN []))):AO P Γ all (o::rest) Q st:=by
 intro κ Θ a w hs;obtain⟨b1,r1,_⟩:=hs.ev x;rw[hx]at r1;obtain⟨hkv,_⟩:=r1.xh;obtain⟨hsz,hrl,v,cs,bs,hk1,hown,hrd,I2,hz⟩:=hs.ob id _ hH;rw[hkv]at hk1;cases hk1;have Hz:=hrd.flat hfl;subst Hz;obtain⟨ρ,hu⟩:=hs.we;refine wpList_plain hg fun K hK=>?_
 unfold Oper.wp;rw[AP hop pz.1,Oper.upon_enter];have e1:(#[x]:Array Operand).map a.eval= #[a.eval x]:=by simp
 rw[e1];refine(pz.2 w _ cs hsz hrl hown hrd).mono ?_;rintro e' w' ⟨rfl,k1,k2,k3,k4,k5,Pe,cs',NZ,Ql⟩;have kk:jW w w' Θ Θ (id+2):=⟨by omega,k1,k2,k3,k4,fun b hb ht=>k5 b hb fun e=>ht (I2 b e),fun _ _ _=>rfl,fun b hb=>eE (hs.own b hb) k4⟩
 have hs':eO Γ ⟨st.σ,st.H.set id (.row k0 e sz dP)⟩ κ Θ a w':=by
  refine hs.put [] BP (fun _ _ h=>h) (fun i hi=>hs.rV i (by simpa using hi)) hs.qm kk hs.mine ?_ hu (by simp) ?_ ?_
  ·refine⟨hsz,Pe,_,cs',[],hkv,NZ,Ql,I2,?_⟩;cases k0 with
   |cl=>simp[RK.hand]at hk0
   |mv n=>simp[RK.hand]at hk0
   |sh=>simp
   |uq=>simp
  ·intro e2 XY fm he;cases he;exact⟨_,cs',[],hkv,NZ,Ql,by simp,by simp⟩
  ·cases k0 with
   |mv n=>simp[RK.hand]at hk0
   |_=>rfl
 show K (a.put o.dst (.tuple #[])) w';refine hK _ _ (h κ Θ _ w' ?_);cases TH:o.dst with
 |none=>exact hs'
 |some t=>exact hs'.set (hd t TH) (.gN [] [] [] .nil) (by simp)
end
end Go.Cx
namespace Go.Cx
open Go.RowKit
inductive An where
 |b (v:Bool)
 |row (r:aR)
 |ix (i:Nat)
 |ch (x:UInt8)
 |cut (l h:Nat)
 |d (x:D)
 |fl (v:Bool)
 |n (k:Nat)
 |n2 (π ρ:af) (k m:Nat) (L X:af)
 |sk (id:Nat)
 |Pk (t:Nat)
 |pb (id off e sz:Nat)
 |vw (t:Nat)
 |cn (K o:af)
 |hl (m:Nat) (K o:af)
 |mu (id:Nat) (rows:List aR)
 |dc (x:D)
 |gv (ms:af) (outs:List Rw) (d:D)
 |mg (id i off:Nat) (r:aR)
 |ov (id:Nat) (rows:List aR)
 |kv (m:List (D×D))
 |gp (nz:List (List (Option (Nat×Nat)))) (cells:aR) (d:D)
 |dn (cells:aR)
 |fz
 |nl (x:D)
 |ds (x:D)
 |mz (id:Nat)
 |tk (r:aR)
abbrev EC:=List Prop
def zS:EC->Prop
 | []=>True
 |p::ps=>p/\zS ps
theorem zS.app{p q:EC}(h:zS (p++q)):zS p/\zS q:=by
 induction p with
 |nil=>exact⟨trivial,h⟩
 |cons x p ih=>exact⟨⟨h.1,(ih h.2).1⟩,(ih h.2).2⟩
def KC(P:Program)(st:St)(op:Op)(A:List An):Option (D×List An×EC):=match op with
 | .indexAddr t x i=>(match IZ P t,st.ev x,st.ev i,A with
  |some (_,sz),.sl rows,.int _ n,.row r::A=>some (.ep r 0,A,[0<=n/\rows[n.toNat]?=some r/\r.length=sz])
  |some (_,sz),.acc id,.int _ n,.ix k::A=>(match st.H[id]? with|some (.row _ _ sz' rows)=>some (.op id k sz 0,A,[sz=sz'/\n=(k:Int)/\k<rows.length])|_=>none)
  |_,.val (.pointer (some ⟨g,o,none⟩)),.int _ n,.ix k::A=>(match a8f P t with|some (sz,len)=>some (.val (.pointer (some ⟨g,o+k*sz,none⟩)),A,[n=(k:Int)/\k<len])|none=>none)
  |_,_,_,_=>none)
 | .index t x i=>(match Ov P t,st.ev x,st.ev i,A with
  |true,.str s,.int _ n,.ch c::A=>some (.int .u8 c.toNat,A,[0<=n/\s[n.toNat]?=some c])
  |_,_,_,_=>none)
 | .load t x=>(match st.ev x with
  | .op id i sz off=>(match BQ P t,st.H[id]?,A with
   |some ag,some (.row k _ sz' rows),.row r::A=>(match KS ag (BY P t) r off with
    |some d=>some (d,A,[sz'=sz/\k.Tm=true/\rows[i]?=some r/\off+(bif ag then BY P t else 1)<=sz])
    |none=>none)
   |_,_,_=>none)
  | .val (.pointer (some ⟨g,o,none⟩))=>(match BQ P t,A with
   |some false,.d d::A=>some (d,A,[Z4 g o=some d])
   |_,_=>none)
  |_=>(match pv P st op with|some d=>some (d,A,[])|none=>none))
 | .slice t x lo hi none=>(match st.ev x,A with
  | .str s,.cut l h::A=>(match Ov P t with
   |true=>some (.str ((s.take h).drop l),A,[Pj s.length (lo.map st.ev) (hi.map st.ev)=some (l,h)])
   |false=>none)
  | .sl rows,.cut l h::A=>(match IZ P t with
   |some (_,sz)=>some (.sl ((rows.take h).drop l),A,[Pj rows.length (lo.map st.ev) (hi.map st.ev)=some (l,h)/\(rows.all fun r=>r.length==sz)=true])
   |none=>none)
  |_,_=>none)
 | .binOp op' t x y t'=>(match op',st.ev x,st.ev y with
  | .add,.str a,.str b=>some (.str (a++b),A,[a.length+b.length<=maxLen])
  | .quo,.int k a,.int k' b=>some (.int k (a/b),A,[k=k'/\0<=a/\0<b])
  | .rem,.int k a,.int k' b=>some (.int k (a%b),A,[k=k'/\0<=a/\0<b])
  |_,_,_=>(match pv P st op with|some d=>some (d,A,[])|none=>none))
 | .lookup T x i ok=>(match st.ev x,A with
  | .acc id,.d d::A=>(match st.H[id]? with
   |some (.mp kv)=>some (d,A,[plk P T kv (st.ev i) ok=some d])
   |_=>none)
  |_,_=>none)
 | .pick c a b=>(match st.ev c,A with
  | .bool t,.b v::A=>(match v with|true=>some (st.ev a,A,[t=true])|false=>some (st.ev b,A,[t=false]))
  |_,_=>none)
 |_=>(match pv P st op with|some d=>some (d,A,[])|none=>none)
theorem Z2{P:Program}{st:St}{op:Op}{A A':List An}{d:D}{p:EC}(h:KC P st op A=some (d,A',p))(hp:zS p):pv P st op=some d:=by
 have plain:∀ {op},(match pv P st op with|some d=>some (d,A,([]:EC))|none=>none)=some (d,A',p)->pv P st op=some d:=by
  intro op h;split at h
  ·cases h;assumption
  ·cases h
 unfold KC at h;split at h
 ·rename_i t x i;split at h
  ·rename_i e sz rows kk n r A1 h1 h2 h3;cases h;obtain⟨⟨q1,q2,q3⟩,_⟩:=hp;simp only[pv,h1,h2,h3,q1,q2,sL,q3]
  ·rename_i e sz id kk n k A1 h1 h2 h3;split at h
   ·rename_i k' e' sz' rows hH;cases h;obtain⟨⟨rfl,rfl,q3⟩,_⟩:=hp;simp[pv,h1,h2,h3,hH,q3]
   ·cases h
  ·rename_i g o' kk n k A1 h2 h3;split at h
   ·rename_i sz len hT;cases h;obtain⟨⟨rfl,q3⟩,_⟩:=hp;simp[pv,h2,h3,hT,q3]
   ·cases h
  ·cases h
 ·rename_i t x i;split at h
  ·rename_i s kk n c A1 h1 h2 h3;cases h;obtain⟨⟨q1,q2⟩,_⟩:=hp;simp only[pv,h1,h2,h3,q1,q2,sL]
  ·cases h
 ·rename_i t x;split at h
  ·rename_i id i sz off h1;split at h
   ·rename_i ag k e sz' rows r A1 h2 h3;split at h
    ·rename_i d' hd;cases h;obtain⟨⟨rfl,q2,q3,q4⟩,_⟩:=hp;simp only[pv,h2,h1,h3,q3,q2,q4,w5,and_self,sL,hd]
    ·cases h
   ·cases h
  ·rename_i g o' h1;split at h
   ·rename_i d' A1 h2;cases h;simp only[pv,h2,h1];exact hp.1
   ·cases h
  ·exact plain h
 ·rename_i t x lo hi;split at h
  ·rename_i s l hh A1 h1;split at h
   ·rename_i h2;cases h;obtain⟨q1,_⟩:=hp;simp only[pv,h1,h2,q1,sL]
   ·cases h
  ·rename_i rows l hh A1 h1;split at h
   ·rename_i e sz h2;cases h;obtain⟨⟨q1,q2⟩,_⟩:=hp;simp only[pv,h1,h2,q1,q2,sL]
   ·cases h
  ·cases h
 ·rename_i op' t x y t';split at h
  ·rename_i a b h1 h2;cases h;obtain⟨q1,_⟩:=hp;simp only[pv,h1,h2,a01,q1,sL]
  ·rename_i k a k' b h1 h2;cases h;obtain⟨⟨rfl,q1,q2⟩,_⟩:=hp;simp only[pv,h1,h2,a01,q1,q2,sL,and_self]
  ·rename_i k a k' b h1 h2;cases h;obtain⟨⟨rfl,q1,q2⟩,_⟩:=hp;simp only[pv,h1,h2,a01,q1,q2,sL,and_self]
  ·exact plain h
 ·rename_i T x i ok;split at h
  ·rename_i id d' A1 h1;split at h
   ·rename_i kv hH;cases h;simp only[pv,h1,hH];exact hp.1
   ·cases h
  ·cases h
 ·split at h
  ·rename_i t v A1 h1;split at h
   ·cases h;obtain⟨rfl,_⟩:=hp;simp[pv,h1]
   ·cases h;obtain⟨rfl,_⟩:=hp;simp[pv,h1]
  ·cases h
 ·exact plain h
def bytesOf:List aR->Option Bytes
 | []=>some []
 |r::rs=>match r,bytesOf rs with
  | [.int .u8 n],some bs=>some (UInt8.ofNat n.toNat::bs)
  |_,_=>none
theorem Uo:∀ {rows:List aR} {bs:Bytes},bytesOf rows=some bs->∃xs:bI,rows=xs.map (fun n=>[D.int .u8 n])/\bs=xs.map (fun n=>UInt8.ofNat n.toNat):=by
 intro rows
 induction rows with
 |nil=>intro bs h;cases h;exact⟨[],rfl,rfl⟩
 |cons r rs ih=>
  intro bs h;simp only[bytesOf]at h;split at h
  ·rename_i n bs' h1;cases h;obtain⟨xs,rfl,rfl⟩:=ih h1;exact⟨n::xs,rfl,rfl⟩
  ·cases h
theorem Qc:∀(xs:bI),(xs.map (fun n=>[D.int .u8 n])).flatten=xs.map (fun n=>D.int .u8 n)
 | []=>rfl
 |n::xs=>by simp only[bH,eV,Qc xs];rfl
def aAd(A:List An)(t:Nat):Option (List An):=match A with
 | .Pk u::A=>if u=t then some A else none
 |_=>none
def apS(H:bW)(d:D)(e sz:Nat):Option (List aR×Bool×af):=match d with
 | .nil=>some ([],true,[])
 | .acc m=>(match H[m]? with
  |some (.row k e' sz' rows)=>(match k with| .cl=>none| .uq=>(if e'=e/\sz'=sz then some (rows,true,[m])else none)| .sh=>(if e'=e/\sz'=sz then some (rows,false,[m])else none)| .mv _=>none)
  |_=>none)
 |_=>none
def apX(H:bW)(d:D)(sz:Nat)(A:List An):Option (List aR×Bool×af×List An×EC):=match d,A with
 | .nil,A=>some ([],true,[],A,[])
 | .acc m,A=>(match H[m]? with
  |some (.row k _ sz' rows)=>(match k with| .cl=>none| .uq=>(if sz'=sz then some (rows,true,[m],A,[])else none)| .sh=>(if sz'=sz then some (rows,false,[m],A,[])else none)| .mv _=>none)
  |_=>none)
 | .sl rows,.fl f::A=>some (rows,f,[],A,[(∀r∈rows,r.length=sz)/\(f=true->D.oB rows=true)])
 |_,_=>none
def Qv(st:St)(d:D):Option (Nat×Nat×List aR×Option Value):=match d with
 | .acc id=>(match st.H[id]? with|some (.fF sz rows u)=>some (id,sz,rows,u)|_=>none)
 |_=>none
theorem Qw{st:St}{d:D}{id sz:Nat}{rows:List aR}{u:Option Value}(h:Qv st d=some (id,sz,rows,u)):d=.acc id/\st.H[id]?=some (.fF sz rows u):=by
 unfold Qv at h;split at h
 ·split at h
  ·rename_i hH;cases h;exact⟨rfl,hH⟩
  ·cases h
 ·cases h
def TZ(st:St)(d:D):Option (Nat×Nat×Nat×Nat×List aR×Option Value):=match d with
 | .op id i sz off=>(match st.H[id]? with|some (.fF sz' rows u)=>if sz'=sz then some (id,i,off,sz,rows,u)else none|_=>none)
 |_=>none
theorem XA{st:St}{d:D}{id i off sz:Nat}{rows:List aR}{u:Option Value}(h:TZ st d=some (id,i,off,sz,rows,u)):d=.op id i sz off/\st.H[id]?=some (.fF sz rows u):=by
 unfold TZ at h;split at h
 ·split at h
  ·split at h
   ·rename_i hH he;subst he;cases h;exact⟨rfl,hH⟩
   ·cases h
  ·cases h
 ·cases h
def XD(H:bW)(A:List An):Option (bW×List An×EC):=match A with
 | .mg id i off r::A=>(match H[id]? with
  |some (.hole sz rows u p n)=>(match H[n]?,r[off]? with
   |some (.fF _ fm _),some _=>some ((H.set n .gone).set id (.fF sz (rows.set i (r.set off (.sl fm))) u),A,[rows[i]?=some r,p=i*sz+off])
   |_,_=>none)
  |_=>none)
 |A=>some (H,A,[])
def wZ(n:Nat):aR->aR×bW
 | []=>([],[])
 |d::ds=>match d with
  | .sl rows=>(.acc n::(wZ (n+1) ds).1,.tk rows::(wZ (n+1) ds).2)
  |d=>(d::(wZ n ds).1,(wZ n ds).2)
def U7(r:aR):Bool:=r.all fun d=>match d with| .sl _=>true|d=>d.flat
def KY(P:Program)(nt:Nat)(o:Oper)(st:St)(A:List An):Option (St×List An×EC):=match o.op,o.dst with
 | .box _ x,some t=>(if t<nt then match(st.ev x).cellsOf with|some ds=>some (⟨(t,.ptr st.H.length 0)::st.σ,st.H++[.box ds]⟩,A,[])|none=>none else none)
 | .alloc T,some t=>(if t<nt then match tz P T with|some ds=>some (⟨(t,.ptr st.H.length 0)::st.σ,st.H++[.box ds]⟩,A,[])|none=>none else none)
 | .store T x y,none=>(match st.ev x,(st.ev y).cellsOf with
  | .ptr id off,some ds=>(match st.H[id]? with
   |some ob=>(match ob.ZQ with
    |some cells=>(if U8 P T=true/\ds.length=BY P T/\off+ds.length<=cells.length then some (⟨st.σ,st.H.set id (ob.re (cells.take off++ds++cells.drop (off+ds.length)))⟩,A,[])else none)
    |none=>none)
   |none=>none)
  | .op id i sz off,some ds=>(match st.H[id]?,OE st.H ds,A with
   |some (.fF sz' rows u),_,.row r::A=>(if U8 P T=true/\ds.length=BY P T/\0<ds.length/\sz'=sz/\off+ds.length<=sz/\ds.all D.flat=true then
    some (⟨st.σ,st.H.set id (.fF sz (rows.set i (r.take off++ds++r.drop (off+ds.length))) u)⟩,A,[rows[i]?=some r])else none)
   |some (.row k e sz' rows),some (es,ms),.row r::A=>(if U8 P T=true/\ds.length=BY P T/\sz'=sz/\k.Tm=true/\off+ds.length<=sz/\ms.Nodup/\id∉ms then
    some (⟨st.σ,(kill st.H ms).set id (.row (k.after (ds.all (Z1 st.H))) e sz (rows.set i (r.take off++es++r.drop (off+ds.length))))⟩,A,[rows[i]?=some r])else none)
   |_,_,_=>none)
  |_,_=>none)
 | .makeMap _ none,some t=>(if t<nt then some (⟨(t,.acc st.H.length)::st.σ,st.H++[.mp []]⟩,A,[])else none)
 | .mapUpdate T x i y,none=>(match a0K P T,st.ev x,A with
  |some (kd,_),.acc id,.kv m::A=>(match st.H[id]? with
   |some (.mp kv)=>(if M7 kd (st.ev i)=true/\(st.ev y).scalar=true then some (⟨st.σ,st.H.set id (.mp m)⟩,A,[Nh (st.ev i) (st.ev y) kv=some m])else none)
   |_=>none)
  |_,_,_=>none)
 | .makeSlice T x y,some t=>(match IZ P T,st.ev x,st.ev y with
  |some (e,sz),.int _ n,.int _ n'=>(match tz P e with
   |some zs=>(if t<nt/\0<sz then some (⟨(t,.acc st.H.length)::st.σ,st.H++[.row .uq e sz (List.replicate n.toNat (zs.map D.KW))]⟩,A,[n'=n/\0<=n/\tby P e*n.toNat<=281474976710656/\n.toNat<=4611686018427387904])else none)
   |none=>none)
  |_,_,_=>none)
 | .buildSlice T len parts,some t=>(match IZ P T with
  |some (e,sz)=>(match tz P e with
   |some zs=>(match AM (vS len sz) (List.replicate len zs).flatten (parts.toList.map fun p=>(p.1,st.ev p.2))with
    |some ds=>(match OE st.H ds with
     |some (es,ms)=>(if t<nt/\0<sz/\len*sz<=16777216/\ms.Nodup then some (⟨(t,.acc st.H.length)::st.σ,kill st.H ms++[.row (BO (ds.all (Z1 st.H))) e sz (chunk sz len es)]⟩,A,[])else none)
     |none=>none)
    |none=>none)
   |none=>none)
  |none=>none)
 | .call c,some t=>(match c.callee,c.args.toList,c.argTypes.toList with
  | .builtin .append,[s,x],[T,T']=>(match IZ P T with
   |some (e,sz)=>(match tz P e,apS st.H (st.ev s) e sz,apX st.H (st.ev x) sz A with
    |some _,some (rows,u1,k1),some (fm,u2,k2,A,ow)=>(if t<nt/\0<sz/\T'=T/\(k1++k2).Nodup then
     some (⟨(t,.acc st.H.length)::st.σ,kill st.H (k1++k2)++[.row (BO (u1&&u2)) e sz (rows++fm)]⟩,A,(rows.length+fm.length<=maxLen/\(rows.length+fm.length)*tby P e<=140737488355328)::ow)else none)
    |_,_,_=>none)
   |none=>none)
  | .builtin .len,[x],[T]=>(match Qv st (st.ev x)with
   |some (_,_,rows,_)=>(if t<nt/\(IZ P T).isSome=true then some (⟨(t,.int .i64 rows.length)::st.σ,st.H⟩,A,[])else none)
   |none=>(if t<nt then match KC P st o.op A with|some (d,A,ow)=>some (⟨(t,d)::st.σ,st.H⟩,A,ow)|none=>none else none))
  | .value (.func f),xs,_=>(match MH st.H (xs.map st.ev),A with
   |_,.gv ms outs d::A=>(match Qu st.H ms with
    |some ins=>(if t<nt/\ms.Nodup/\((xs.map st.ev).all D.bare)=true then
     (match XD (Tp st.H ms outs) A with
     |some (H',A',ow)=>some (⟨(t,d)::st.σ,H'⟩,A',tg P f ((xs.map st.ev).map (D.Yk ms)) ins outs d::ow)
     |none=>none)else none)
    |none=>none)
   |_,.gp nz cells' d::A=>(match xs with
    |x0::xr=>(match st.ev x0 with
     | .ptr id 0=>(match st.H[id]? with
      |some ob=>(match ob.ZQ with
       |some OG=>(match Dz st.H nz (.agg OG::xr.map st.ev)with
        |some (.agg cells::ds,ms,qs)=>(if t<nt/\ms.Nodup/\qs.Nodup then
         some (⟨(t,(rU (st.H.length+(oC st.H.length cells').2.length) d).1)::st.σ,(kill st.H (ms++qs)).set id (ob.re (oC st.H.length cells').1)++((oC st.H.length cells').2++(rU (st.H.length+(oC st.H.length cells').2.length) d).2)⟩,A,[Be P f cells cells' ds d])else none)
        |_=>none)
       |none=>none)
      |none=>none)
     |_=>none)
    | []=>none)
   |some (ds,ms),.dn cells::A=>(if t<nt/\ms=[]then some (⟨(t,.ptr st.H.length 0)::st.σ,st.H++[.box cells]⟩,A,[a5h P f ds cells])else none)
   |some (ds,_),.dc d::A=>(if t<nt/\d.RD=true then some (⟨(t,(rU st.H.length d).1)::st.σ,st.H++(rU st.H.length d).2.map Ob.close⟩,A,[Good P f ds d])else none)
   |_,.ov id dP::A=>(match st.H[id]? with
    |some (.row .uq e sz rows)=>(if t<nt/\((xs.map st.ev).all D.bare)=true then some (⟨(t,.acc st.H.length)::st.σ,kill st.H [id]++[.row .uq e sz dP]⟩,A,[rows.flatten.all D.flat=true,KH P f ((xs.map st.ev).map (D.Yk [id])) e sz rows dP])else none)
    |_=>none)
   |_,.mu id dP::A=>(match xs,st.H[id]? with
    | [x],some (.row k e sz rows)=>(match st.ev x with
     | .acc id'=>(if t<nt/\id'=id/\k.hand=true then some (⟨(t,.gN [])::st.σ,st.H.set id (.row k e sz dP)⟩,A,[rows.flatten.all D.flat=true,US P f e sz rows dP])else none)
     |_=>none)
    |_,_=>none)
   |some (ds,ms),.d d::A=>(if t<nt/\(ms=[]\/d.RD=true)then some (⟨(t,(rU st.H.length d).1)::st.σ,st.H++(rU st.H.length d).2⟩,A,[Good P f ds d])else none)
   |_,.nl d::A=>(if t<nt/\(xs.map st.ev).all PC=true then some (⟨(t,(rU st.H.length d).1)::st.σ,st.H++(rU st.H.length d).2⟩,A,[Good P f (xs.map st.ev) d])else none)
   |_,_=>none)
  |_,_,_=>(if t<nt then match KC P st o.op A with|some (d,A,ow)=>some (⟨(t,d)::st.σ,st.H⟩,A,ow)|none=>none else none))
 | .convert s d x,some t=>(match st.ev x with
  | .acc id=>(match st.H[id]?,IZ P s with
   |some (.row _ _ _ rows),some (e,sz)=>(match bytesOf rows with
    |some bs=>(if t<nt/\sz=1/\Xh P e=some .u8/\Ov P d=true then some (⟨(t,.str bs)::st.σ,st.H⟩,A,[])else none)
    |none=>none)
   |_,_=>none)
  |_=>(if t<nt then match KC P st o.op A with|some (d,A,ow)=>some (⟨(t,d)::st.σ,st.H⟩,A,ow)|none=>none else none))
 | .assign x,some t=>(match aAd A t with
  |some A=>(match st.ev x,IZ P o.type with
   | .nil,some (e,sz)=>(if t<nt/\0<sz then some (⟨(t,.acc st.H.length)::st.σ,st.H++[.row .uq e sz []]⟩,A,[])else none)
   |_,_=>none)
  |none=>(if t<nt then some (⟨(t,st.ev x)::st.σ,st.H⟩,A,[])else none))
 | .slice T x none (some hi) none,some t=>(match st.ev x with
  | .acc id=>(match st.H[id]?,IZ P T,st.ev hi,A with
   |some (.row .uq e sz rows),some (_,sz'),.int _ n,.cut 0 h::A=>(if t<nt/\sz'=sz then some (⟨(t,.acc st.H.length)::st.σ,kill st.H [id]++[.row .uq e sz (rows.take h)]⟩,A,[n=((h:Nat):Int)/\h<=rows.length])else none)
   |_,_,_,_=>none)
  |_=>(if t<nt then match KC P st o.op A with|some (d,A,ow)=>some (⟨(t,d)::st.σ,st.H⟩,A,ow)|none=>none else none))
 | .slice T (.tmp s) (some lo) none none,some t=>(match A,lk st.σ s with
  | .fz::A,.acc id=>(match st.H[id]? with
   |some (.row k e sz rows)=>(if t<nt/\k.Tm=true then match KC P ⟨(s,.sl rows)::st.σ,st.H.set id .gone⟩ o.op A with|some (d,A,ow)=>some (⟨(t,d)::(s,.sl rows)::st.σ,st.H.set id .gone⟩,A,ow)|none=>none else none)
   |_=>none)
  |_,_=>(if t<nt then match KC P st o.op A with|some (d,A,ow)=>some (⟨(t,d)::st.σ,st.H⟩,A,ow)|none=>none else none))
 | .indexAddr T x i,some t=>(match Qv st (st.ev x)with
  |some (id,sz,rows,_)=>(match IZ P T,st.ev i,A with
   |some (_,sz'),.int _ n,.ix m::A=>(if t<nt/\sz'=sz then some (⟨(t,.op id m sz 0)::st.σ,st.H⟩,A,[n=(m:Int)/\m<rows.length])else none)
   |_,_,_=>none)
  |none=>(if t<nt then match KC P st o.op A with|some (d,A,ow)=>some (⟨(t,d)::st.σ,st.H⟩,A,ow)|none=>none else none))
 | .load T x,some t=>(match TZ st (st.ev x)with
  |some (id,i,off,sz,rows,u)=>(match BQ P T,A with
   |some false,.row r::A=>(match r[off]? with
    |some (.sl fm)=>(match IZ P T with
     |some (_,XY)=>(if t<nt then some (⟨(t,.acc st.H.length)::st.σ,st.H.set id (.hole sz (rows.set i (r.set off .any)) u (i*sz+off) st.H.length)++[.fF XY fm none]⟩,A,[rows[i]?=some r,∀q∈fm,q.length=XY])else none)
     |none=>none)
    |some d=>(if t<nt/\d.flat=true then some (⟨(t,d)::st.σ,st.H⟩,A,[rows[i]?=some r])else none)
    |none=>none)
   |_,_=>none)
  |none=>(match A,st.ev x with
   | .tk r::A,.op id i sz 0=>(match st.H[id]? with
    |some (.row (.mv n) e sz' rows)=>(if t<nt/\sz'=sz/\BQ P T=some true/\BY P T=sz then
     some (⟨(t,.agg (wZ st.H.length r).1)::st.σ,st.H.set id (.row (.mv (n+1)) e sz rows)++(wZ st.H.length r).2⟩,A,[i=n/\rows[n]?=some r/\U7 r=true])else none)
    |_=>none)
   |A,_=>(if t<nt then match KC P st o.op A with|some (d,A,ow)=>some (⟨(t,d)::st.σ,st.H⟩,A,ow)|none=>none else none)))
 |op,some t=>(if t<nt then match KC P st op A with|some (d,A,ow)=>some (⟨(t,d)::st.σ,st.H⟩,A,ow)|none=>none else none)
 |_,none=>none
section
variable{P:Program}{Γ:vn}{Q:Exit->St->Prop}{st:St}{all:Array Oper}{rest:List Oper}
theorem eO.a2X{κ:Nat->Option Value}{Θ:Nat->Nat}{a:Act}{w:World}(hs:eO Γ st κ Θ a w)(e sz:Nat)(hsz:0<sz):eO Γ ⟨st.σ,st.H++[.row .uq e sz []]⟩ (AX κ st.H.length (some (.slice none 0 0))) Θ a w:=by
 obtain⟨ρ,hu⟩:=hs.we;refine hs.put [] Dx (zm (hs.rV _ (bS _)) _) ?_ ?_ (jW.refl hs.own (by omega)) hs.mine ?_ hu (by simp) ?_
 ·intro i hi;simp only[aX,aM,bK]at hi;unfold AX;rw[bG (by omega)];exact hs.rV i (by omega)
 ·intro i x hx;unfold AX at hx;split at hx
  ·cases hx;rfl
  ·exact hs.qm i x hx
 ·exact⟨hsz,by simp,_,[],[],mE _ _ _,World.ownsRow_nil w 0 e sz,.nil,by simp[Value.ownBlock],by simp⟩
 ·intro e' sz' dP he;simp only[Ob.row.injEq,w5]at he;obtain⟨rfl,rfl,rfl⟩:=he;exact⟨_,[],[],mE _ _ _,World.ownsRow_nil w 0 e sz,.nil,by simp,by simp⟩
theorem a6p{o:Oper}{x:Operand}{t e sz:Nat}(hop:o.op=.assign x)(hd:o.dst=some t)(hg:o.guard=none)(ht:t<Γ.nt)(hx:st.ev x=.nil)(hsz:0<sz)
 (h:AO P Γ all rest Q ⟨(t,.acc st.H.length)::st.σ,st.H++[.row .uq e sz []]⟩):AO P Γ all (o::rest) Q st:=by
 intro κ Θ a w hs;obtain⟨bs,r,_⟩:=hs.ev x;rw[hx]at r;have hv:=r.Nq;have hp:pv P st o.op=some .nil:=by rw[hop];simp[pv,hx]
 obtain⟨v,b2,hrun,hrd,hz⟩:=IC hs hp;have VC:=hrd.Nq;subst VC;refine wpList_plain hg fun K hK=>?_
 unfold Oper.wp;rw[hrun,Oper.upon_value,hd];refine hK _ _ (h _ _ _ _ ((hs.a2X e sz hsz).set (t:=t) (d:=.acc st.H.length) (bs:=[]) ht ?_ (by simp)));exact(BU.acc st.H.length _ (mE _ _ _)).UB
theorem fO.a8d{κ:Nat->Option Value}{w:World}{n:Nat}(hk:κ n=some (.slice none 0 0)):∀ {vs:br} {ds:aR} {bs:af},fO w κ vs ds bs->∀ {off:Nat},ds[off]?=some .nil->∃bs',fO w κ vs (ds.set off (.acc n)) bs'/\∀b∈bs',b∈bs:=by
 intro vs ds bs h
 induction h with
 |nil=>intro off h;simp at h
 |cons v vs d ds b1 b2 h1 h2 h3 ih=>
  intro off h;cases off with
  |zero=>
   simp only[DE,az]at h;subst h;have hv:v=.slice none 0 0:=by
    cases h2 with
    |pure h2=>cases h2;rfl
   subst hv;exact⟨[]++b2,.cons _ _ _ _ _ _ h1 (.acc n _ hk) h3,fun b hb=>by simp at hb;simp[hb]⟩
  |succ off=>
   obtain⟨bs',q1,q2⟩:=ih (off:=off) (by simpa using h);exact⟨b1++bs',.cons _ _ _ _ _ _ h1 h2 q1,fun b hb=>by
    rcases au.1 hb with hb|hb
    ·exact au.2 (.inl hb)
    ·exact au.2 (.inr (q2 b hb))⟩
def St.prom(st:St)(id off e sz:Nat):Option St:=match st.H[id]? with
 |some (.box cells)=>(match cells[off]? with
  |some .nil=>(if 0<sz then some ⟨st.σ,(st.H++[Ob.row .uq e sz []]).set id (Ob.box (cells.set off (.acc st.H.length)))⟩else none)
  |_=>none)
 |_=>none
theorem eO.prom{κ:Nat->Option Value}{Θ:Nat->Nat}{a:Act}{w:World}{xf:St}{id off e sz:Nat}(hs:eO Γ st κ Θ a w)(h:st.prom id off e sz=some xf):∃κ',eO Γ xf κ' Θ a w:=by
 unfold St.prom at h;split at h
 ·rename_i cells hH;split at h
  ·rename_i hc;split at h
   ·rename_i hsz;cases h;have hlt:id<st.H.length:=(aH.1 hH).1;have hs1:=hs.a2X e sz hsz;refine⟨_,hs1.defers,hs1.size,fun i hi=>hs1.rV i (by simpa using hi),hs1.qm,hs1.slot,?_,hs1.own,hs1.old,hs1.mine,hs1.stays,?_⟩
    ·intro j y hj;simp only[gJ]at hj;split at hj
     ·rename_i e1;subst e1;split at hj
      ·cases hj;obtain⟨g,cs,T,q1,q2,q3,bs,q4,q5⟩:=hs1.ob id (.box cells) (by simpa[bA hlt]using hH);obtain⟨bs',p1,p2⟩:=fO.a8d (n:=st.H.length) (mE _ _ _) q4 hc;exact⟨g,cs,T,q1,q2,q3,bs',p1,fun b hb=>q5 b (p2 b hb)⟩
      ·cases hj
     ·exact hs1.ob j y hj
    ·obtain⟨ρ,hu⟩:=hs1.we;refine⟨ρ,hu.free,fun i e' sz' rows hi=>hu.rows i e' sz' rows ?_,fun i o hi=>?_⟩
     ·simp only[gJ]at hi;split at hi
      ·split at hi<;>cases hi
      ·exact hi
     ·simp only[gJ]at hi;split at hi
      ·split at hi
       ·cases hi;trivial
       ·cases hi
      ·exact hu.more i o hi
   ·cases h
  ·cases h
 ·cases h
theorem eO.aB3{κ:Nat->Option Value}{Θ:Nat->Nat}{a:Act}{w:World}{id e sz:Nat}{rows:List aR}(hs:eO Γ st κ Θ a w)(hH:st.H[id]?=some (.row .uq e sz rows)):eO Γ ⟨st.σ,st.H.set id (.row .sh e sz rows)⟩ κ Θ a w:=by
 have hlt:id<st.H.length:=(aH.1 hH).1;refine⟨hs.defers,hs.size,fun i hi=>hs.rV i (by simpa using hi),hs.qm,hs.slot,?_,hs.own,hs.old,hs.mine,hs.stays,?_⟩
 ·intro j y hj;simp only[gJ,hlt,sL]at hj;split at hj
  ·rename_i e1;subst e1;cases hj;exact(show yb w κ Θ id (.row .uq e sz rows)from hs.ob id _ hH)
  ·exact hs.ob j y hj
 ·obtain⟨ρ,hu⟩:=hs.we;refine⟨ρ,hu.free,fun i e' sz' dP hi=>hu.rows i e' sz' dP ?_,fun i o hi=>?_⟩
  ·simp only[gJ,hlt,sL]at hi;split at hi
   ·cases hi
   ·exact hi
  ·simp only[gJ,hlt,sL]at hi;split at hi
   ·cases hi;trivial
   ·exact hu.more i o hi
theorem eO.mvz{κ:Nat->Option Value}{Θ:Nat->Nat}{a:Act}{w:World}{id e sz:Nat}{rows:List aR}(hs:eO Γ st κ Θ a w)(hH:st.H[id]?=some (.row .uq e sz rows)):eO Γ ⟨st.σ,st.H.set id (.row (.mv 0) e sz rows)⟩ κ Θ a w:=by
 have hlt:id<st.H.length:=(aH.1 hH).1;refine⟨hs.defers,hs.size,fun i hi=>hs.rV i (by simpa using hi),hs.qm,hs.slot,?_,hs.own,hs.old,hs.mine,hs.stays,?_⟩
 ·intro j y hj;simp only[gJ,hlt,sL]at hj;split at hj
  ·rename_i e1;subst e1;cases hj;exact(show yb w κ Θ id (.row .uq e sz rows)from hs.ob id _ hH)
  ·exact hs.ob j y hj
 ·obtain⟨ρ,hu⟩:=hs.we;refine⟨ρ,hu.free,fun i e' sz' dP hi=>hu.rows i e' sz' dP ?_,fun i o hi=>?_⟩
  ·simp only[gJ,hlt,sL]at hi;split at hi
   ·cases hi
   ·exact hi
  ·simp only[gJ,hlt,sL]at hi;split at hi
   ·rename_i e1;subst e1;cases hi;obtain⟨v,cs,bs,q1,q2,q3,q4,q5⟩:=hu.rows id e sz rows hH;exact⟨v,cs,bs,q1,q2,by simpa using q3,q4,q5⟩
   ·exact hu.more i o hi
def shares:List An->St->St×List An
 | .sk id::A,st=>(match st.H[id]? with
  |some (.row .uq e sz rows)=>shares A ⟨st.σ,st.H.set id (.row .sh e sz rows)⟩
  |_=>(st,.sk id::A))
 | .mz id::A,st=>(match st.H[id]? with
  |some (.row .uq e sz rows)=>shares A ⟨st.σ,st.H.set id (.row (.mv 0) e sz rows)⟩
  |_=>(st,.mz id::A))
 |A,st=>(st,A)
theorem eO.shares{κ:Nat->Option Value}{Θ:Nat->Nat}{a:Act}{w:World}:∀ {A A1:List An} {st AQ:St},eO Γ st κ Θ a w->shares A st=(AQ,A1)->eO Γ AQ κ Θ a w:=by
 intro A
 induction A with
 |nil=>intro A1 st AQ hs h;simp only[Cx.shares,cU]at h;obtain⟨rfl,_⟩:=h;exact hs
 |cons x A ih=>
  intro A1 st AQ hs h;cases x
  case sk id=>
   simp only[Cx.shares]at h;split at h
   ·rename_i e sz rows hH;exact ih (hs.aB3 hH) h
   ·simp only[cU]at h;obtain⟨rfl,_⟩:=h;exact hs
  case mz id=>
   simp only[Cx.shares]at h;split at h
   ·rename_i e sz rows hH;exact ih (hs.mvz hH) h
   ·simp only[cU]at h;obtain⟨rfl,_⟩:=h;exact hs
  all_goals(simp only[Cx.shares,cU]at h;obtain⟨rfl,_⟩:=h;exact hs)
theorem a45{o:Oper}{s d:TypeId}{x:Operand}{t id e e' sz':Nat}{k:RK}{rows:List aR}{bs:Bytes}(hop:o.op=.convert s d x)(hd:o.dst=some t)(hg:o.guard=none)(ht:t<Γ.nt)(hx:st.ev x=.acc id)
 (hH:st.H[id]?=some (.row k e' sz' rows)) (hT:IZ P s=some (e,1)) (he:Xh P e=some .u8) (hs':Ov P d=true) (hb:bytesOf rows=some bs) (h:AO P Γ all rest Q ⟨(t,.str bs)::st.σ,st.H⟩):AO P Γ all (o::rest) Q st:=by
 intro κ Θ a w hs;obtain⟨b0,r,_⟩:=hs.ev x;rw[hx]at r;obtain⟨hk,_⟩:=r.xh;obtain⟨hsz,hrl,v,cs,b1,hk2,hown,vh,_,_⟩:=hs.ob id _ hH;rw[hk]at hk2;cases hk2;obtain⟨xs,rfl,rfl⟩:=Uo hb;obtain⟨hu,_,_⟩:=qN hT;have hue:P.underlying e=some (.int .u8):=by
  unfold Xh at he;split at he
  ·rename_i k' hk';cases he;exact hk'
  ·cases he
 have hud:=zb hs';have hfl:(xs.map (fun n=>[D.int .u8 n])).flatten=xs.map (fun n=>D.int .u8 n):=Qc xs;rw[hfl]at vh;have hcs:∀(xs:bI) (cs:br) (b:af),mY w cs (xs.map (fun n=>D.int .u8 n)) b->cs=xs.map (Value.int .u8):=by
  intro xs
  induction xs with
  |nil=>intro cs b h;cases h;rfl
  |cons n xs ih=>
   intro cs b h;cases h with
   |cons v vs _ _ b1 b2 _ h2 h3=>
    cases h2;rw[ih _ _ h3];rfl
 have hce:=hcs xs cs b1 vh;have hlen:xs.length<=maxLen:=by
  rcases hown.2 with⟨_,hn⟩|⟨g,cap,cur,_,_,_,hnc,hcm,_⟩
  ·simp at hn;rw[hn];simp
  ·simp at hnc;omega
 have hrun:(convert s d (a.eval x)).run P w=.ok (.string (strOfNums xs)) w:=by
  rcases hown.2 with⟨hv,hn⟩|⟨g,cap,cur,hv,_,hg,hnc,hcm,_,_⟩
  ·have hx0:xs=[]:=by simpa using hn
   subst hx0;rw[hv,run_convert_bytes_nil w s e hu hue 0 0 d hud];rfl
  ·rw[hv];have hcell:=hown.cells (g:=g) (by rw[hv];simp[Value.ownBlock]);refine run_convert_bytes_arg w s e hu hue g 0 _ cap xs (by simp) (fun i hi=>?_) d hud;have hi':i<xs.length:=by simpa using hi
   have:=hcell i (.int .u8 (xs.getD i 0)) (by rw[hce];simp[List.getD,ai hi']);simpa[Addr.add_lit]using this
 refine wpList_plain hg fun K hK=>?_
 unfold Oper.wp;have V9:(execOp a.eval o).run P w=.ok (.value (.string (strOfNums xs))) w:=by
  simp only[execOp,hop];simp[hrun]
 rw[V9,Oper.upon_value,hd];refine hK _ _ (h _ _ _ _ (hs.set (t:=t) (bs:=[]) ht ?_ (by simp)));have hsl:(strOfNums xs).data.toList=xs.map (fun n=>UInt8.ofNat n.toNat):=by simp[strOfNums]
 have hss:(strOfNums xs).size<=maxLen:=by
  have:(strOfNums xs).size=xs.length:=by
   have:=congrArg List.length hsl;simpa using this
  omega
 have:=Rd.str (w:=w) (strOfNums xs) hss;rw[hsl]at this;exact .of this
theorem a6l{o:Oper}{t:Nat}{s x:Operand}{T e sz:Nat}{zs:aR}{rows fm:List aR}{u1 u2:Bool}{k1 k2:af}{A A':List An}{ow:EC}
 (hop:o.op=.call {callee:=.builtin .append,args:= #[s,x],argTypes:= #[T,T]}) (hd:o.dst=some t) (hg:o.guard=none) (ht:t<Γ.nt) (hT:IZ P T=some (e,sz)) (hz:tz P e=some zs) (hsz:0<sz)
 (hS:apS st.H (st.ev s) e sz=some (rows,u1,k1)) (hX:apX st.H (st.ev x) sz A=some (fm,u2,k2,A',ow)) (how:zS ow) (hnd:(k1++k2).Nodup)
 (h63:rows.length+fm.length<=maxLen) (hby:(rows.length+fm.length)*tby P e<=140737488355328)
 (h:AO P Γ all rest Q ⟨(t,.acc st.H.length)::st.σ,kill st.H (k1++k2)++[.row (BO (u1&&u2)) e sz (rows++fm)]⟩):AO P Γ all (o::rest) Q st:=by
 refine Z7 hop hd hg ht hT hz hsz h63 hby ?_ h;intro κ Θ a w ρ hs hu;have one:∃i1 b1 c1,a13 w Θ ρ e sz (a.eval s) rows u1 i1 b1 c1/\((k1=[]/\i1=st.H.length)\/k1=[i1]):=by
  obtain⟨bs,r,_⟩:=hs.ev s;unfold apS at hS;split at hS
  ·rename_i MK;cases hS;rw[MK]at r;have:=r.Nq;rw[this];exact⟨st.H.length,[],[],a19,.inl ⟨rfl,rfl⟩⟩
  ·rename_i m MK;rw[MK]at r;obtain⟨hk,_⟩:=r.xh;split at hS
   ·rename_i k e' sz' dP hH;split at hS
    ·cases hS
    ·split at hS
     ·rename_i hc;obtain⟨rfl,rfl⟩:=hc;cases hS;obtain⟨b1,c1,hA⟩:=MW hs hu hk hH rfl;exact⟨m,b1,c1,hA,.inr rfl⟩
     ·cases hS
    ·split at hS
     ·rename_i hc;obtain⟨rfl,rfl⟩:=hc;cases hS;obtain⟨b1,c1,hA⟩:=MW hs hu hk hH rfl;exact⟨m,b1,c1,hA,.inr rfl⟩
     ·cases hS
    ·cases hS
   ·cases hS
  ·cases hS
 have two:∃i2 b2 c2,ZB w Θ ρ sz (a.eval x) fm u2 i2 b2 c2/\(u2=true->b2=[]\/i2∈k2):=by
  obtain⟨bs,r,hz⟩:=hs.ev x;unfold apX at hX;split at hX
  ·rename_i A1 MK;cases hX;rw[MK]at r;have:=r.Nq;rw[this];exact⟨0,[],[],a1A,fun _=>.inl rfl⟩
  ·rename_i A1 m MK;rw[MK]at r;obtain⟨hk,_⟩:=r.xh;split at hX
   ·rename_i k e' sz' dP hH;split at hX
    ·cases hX
    ·split at hX
     ·rename_i hc;subst hc;cases hX;obtain⟨b1,c1,hA⟩:=Ue hs hu hk hH rfl;exact⟨m,b1,c1,hA,fun _=>.inr (by simp)⟩
     ·cases hX
    ·split at hX
     ·rename_i hc;subst hc;cases hX;obtain⟨b1,c1,hA⟩:=Ue hs hu hk hH rfl;exact⟨m,b1,c1,hA,fun _=>.inr (by simp)⟩
     ·cases hX
    ·cases hX
   ·cases hX
  ·rename_i dP f A1 MK;cases hX;rw[MK]at r;obtain⟨⟨q1,q2⟩,_⟩:=how;obtain⟨b2,c2,hA,hb⟩:=a4H (ρ:=ρ) r.U3 hz q1 0 u2 q2;exact⟨0,b2,c2,hA,fun e=>.inl (hb e)⟩
  ·cases hX
 obtain⟨i1,b1,c1,hA,hk1⟩:=one;obtain⟨i2,b2,c2,hB,hk2⟩:=two;refine⟨u1,u2,i1,i2,b1,b2,c1,c2,hA,hB,?_,fun BM=>?_⟩
 ·rcases hk1 with⟨_,h⟩|h
  ·exact .inr h
  ·exact .inl (by simp[h])
 ·simp only[aY]at BM;refine⟨BM.1,BM.2,?_⟩;rcases hk2 BM.2 with h|hmem
  ·exact .inl h
  ·refine .inr ⟨by simp[hmem],fun e=>?_⟩;rcases hk1 with⟨h1,h2⟩|h1
   ·
    have hlt:i2<st.H.length:=by
     unfold apX at hX;split at hX
     ·cases hX;cases hmem
     ·rename_i A1 m MK;split at hX
      ·rename_i k e' sz' dP hH;have:=(aH.1 hH).1;split at hX
       ·cases hX
       ·split at hX
        ·cases hX;simp at hmem;omega
        ·cases hX
       ·split at hX
        ·cases hX;simp at hmem;omega
        ·cases hX
       ·cases hX
      ·cases hX
     ·cases hX;cases hmem
     ·cases hX
    omega
   ·subst e;have:=(bO.1 hnd).2.2 i1 (by simp[h1]) i1 hmem;exact this rfl
theorem a3T{κ:Nat->Option Value}{w:World}:∀ {ds:aR} {n:Nat} {vs:br} {bs:af},mY w vs ds bs->(∀d∈ds,d.flat=true\/∃rows,d=.sl rows)->bs.Nodup->
 ∃(us:br) (L:List af),us.length=(wZ n ds).2.length/\L.length=us.length/\L.flatten=bs/\
  (∀(j:Nat) o,(wZ n ds).2[j]?=some o->∃rows u b,o=.tk rows/\us[j]?=some u/\u.oneCell'=true/\L[j]?=some b/\Rd w u (.sl rows) b)/\
  (∀κ':Nat->Option Value,(∀(j:Nat) u,us[j]?=some u->κ' (n+j)=some u)->fO w κ' vs (wZ n ds).1 []):=by
 intro ds
 induction ds with
 |nil=>intro n vs bs h _ _;cases h;exact⟨[],[],rfl,rfl,rfl,by simp[wZ],fun _ _=>.nil⟩
 |cons d ds ih=>
  intro n vs bs h hd hnd;cases h with
  |cons v vs _ _ b1 b2 h1 h2 h3=>
   obtain⟨n1,n2,n3⟩:=bO.1 hnd;rcases hd d (by simp)with hf|⟨rows,rfl⟩
   ·have hb:=h2.flat hf;subst hb;obtain⟨us,L,q1,q2,q3,q4,q5⟩:=ih (n:=n) h3 (fun x hx=>hd x (by simp[hx])) n2;have e:wZ n (d::ds)=(d::(wZ n ds).1,(wZ n ds).2):=by cases d<;>first|rfl| (simp[D.flat]at hf)
    rw[e];exact⟨us,L,q1,q2,q3,q4,fun κ' hk=>by simpa using fO.cons v vs d _ [] [] h1 (.pure h2) (q5 κ' hk)⟩
   ·obtain⟨us,L,q1,q2,q3,q4,q5⟩:=ih (n:=n+1) h3 (fun x hx=>hd x (by simp[hx])) n2;refine⟨v::us,b1::L,by simp[wZ,q1],by simp[q2],by simp[q3],fun j o hj=>?_,fun κ' hk=>?_⟩
    ·cases j with
     |zero=>simp[wZ]at hj;subst hj;exact⟨rows,v,b1,rfl,rfl,h1,rfl,h2⟩
     |succ j=>
      obtain⟨dP,u,b,r1,r2,r3,r4,r5⟩:=q4 j o (by simpa[wZ]using hj);exact⟨dP,u,b,r1,by simpa using r2,r3,by simpa using r4,r5⟩
    ·have:=fO.cons v vs (.acc n) _ [] [] h1 (.acc n v (by have:=hk 0 v rfl;simpa using this)) (q5 κ' (fun j u hj=>by have:=hk (j+1) u (by simpa using hj);rw[<-this];congr 1;omega));simpa[wZ]using this
theorem Xf{r:aR}(h:U7 r=true):∀d∈r,d.flat=true\/∃rows,d=.sl rows:=by
 intro d hd;have:=bB.1 h d hd;cases d<;>first|exact .inr ⟨_,rfl⟩|exact .inl this
theorem a4A{o:Oper}{T id i sz e t:Nat}{x:Operand}{rows:List aR}{r:aR}(hop:o.op=.load T x)(hd:o.dst=some t)(hg:o.guard=none)(ht:t<Γ.nt)
 (hx:st.ev x=.op id i sz 0) (hH:st.H[id]?=some (.row (.mv i) e sz rows)) (hrow:rows[i]?=some r) (hT:BQ P T=some true) (hsz:BY P T=sz) (hok:U7 r=true)
 (h:AO P Γ all rest Q ⟨(t,.agg (wZ st.H.length r).1)::st.σ,st.H.set id (.row (.mv (i+1)) e sz rows)++(wZ st.H.length r).2⟩):AO P Γ all (o::rest) Q st:=by
 intro κ Θ a w hs;obtain⟨b1,r1,_⟩:=hs.ev x;rw[hx]at r1;obtain⟨g,o0,len,cap,hk,hv⟩:=r1.IB;obtain⟨ρ,hu⟩:=hs.we;obtain⟨a7S,hrl,vk0,cs0,bs0,a9u,a5x,aCq,hΘ,AT⟩:=hs.ob id _ hH;obtain⟨vk,cs,bs,YX,hown,vh,hnd,hρ⟩:=hu.more id _ hH;rw[hk]at YX a9u;cases YX;cases a9u;have ho0:=Ex hown;subst ho0;rw[cq]at hv;have YW:r.length=sz:=hrl r (aC hrow);have hlt:i<rows.length:=(aH.1 hrow).1;have V5:rows.drop i=r::rows.drop (i+1):=by
  rw[mm hlt]
  congr 1
  rw[ai hlt]at hrow;exact qt hrow
 rw[V5,eV]at vh;obtain⟨v1,v2,c1,c2,Qm,Hz,k1,k2⟩:=vh.split;have l1:v1.length=sz:=by rw[k1.length,YW]
 have hcells:∀j c,cs[j]?=some c->w.cell? ⟨g,0+j,none⟩=some c:=by
  intro j c hj;have:=hown.cells (g:=g) (by simp[Value.ownBlock]) j c hj;simpa[Addr.add_lit]using this
 have L0:=qY (P:=P) (w:=w) hT (o:=i*sz+0) hcells;simp only[cq,B9]at L0 hv;have hle:(i+1)*sz<=rows.length*sz:=dX _ hlt;rw[kf,o5]at hle;have a1U:=hown.1;have hval:(cs.drop (i*sz)).take sz=v1:=by rw[Qm];exact jD l1
 have hrun:(execOp a.eval o).run P w=.ok (.value (.agg v1.toArray)) w:=by
  simp only[execOp,hop,hv];have:=L0.1 trivial (by rw[hsz,a1U];omega);rw[hsz,hval]at this;simp[this]
 refine wpList_plain hg fun K hK=>?_
 unfold Oper.wp;rw[hrun,Oper.upon_value,hd];rw[Hz]at hnd hρ;obtain⟨n1,n2,n3⟩:=bO.1 hnd;obtain⟨us,L,q1,q2,q3,q4,q5⟩:=a3T (κ:=κ) (n:=st.H.length) k1 (Xf hok) n1;let N:=st.H.length
 let κ':Nat->Option Value:=fun j=>if j<N then κ j else us[j-N]?
 let ρ':Nat->Nat:=fun b=>match ix (fun x:af=>x.contains b) L with|some j=>N+j+1|none=>ρ b
 have hn:∀(j:Nat) v,κ j=some v->κ' j=some v:=by
  intro j v hj;have:j<N:=by
   rcases eR j N with h|h
   ·exact h
   ·rw[hs.rV j h]at hj;cases hj
  simp only[κ'];rw[bR this];exact hj
 have hk':∀(j:Nat) u,us[j]?=some u->κ' (N+j)=some u:=fun j u hj=>by
  simp only[κ'];rw[bG (by omega),dw];exact hj
 have a9H:L.flatten.Nodup:=by rw[q3];exact n1
 have a9y:∀(j:Nat) x b,L[j]?=some x->b∈x->ρ' b=N+j+1:=by
  intro j x b hj hb;have:ix (fun x:af=>x.contains b) L=some j:=Eu hj (by simpa using hb) (fun m y hm hy=>by
   have hy':b∈y:=by simpa using hy
   exact jV fun hne=>by
    have key:∀(L:List af),L.flatten.Nodup->∀(p q:Nat) x y,L[p]?=some x->L[q]?=some y->b∈x->b∈y->p=q:=by
     intro L
     induction L with
     |nil=>intro _ p q x y hp;simp at hp
     |cons z L ih=>
      intro hnd p q x y hp hq I0 hby;simp only[eV]at hnd;obtain⟨m1,m2,m3⟩:=bO.1 hnd;cases p with
      |zero=>
       cases q with
       |zero=>rfl
       |succ q=>
        simp at hp hq;subst hp;exact absurd rfl (m3 b I0 b (di.2 ⟨y,aC hq,hby⟩))
      |succ p=>
       cases q with
       |zero=>
        simp at hp hq;subst hq;exact absurd rfl (m3 b hby b (di.2 ⟨x,aC hp,I0⟩))
       |succ q=>simp at hp hq;rw[ih m2 p q x y hp hq I0 hby]
    exact hne (key L a9H m j y x hm hj hy' hb))
  simp only[ρ',this]
 have TQ:∀b,b∉c1->ρ' b=ρ b:=by
  intro b hb;simp only[ρ'];cases hi:ix (fun x:af=>x.contains b) L with
  |none=>rfl
  |some j=>
   obtain⟨x,hx',hp⟩:=zl hi;exact absurd (by rw[<-q3];exact di.2 ⟨x,aC hx',by simpa using hp⟩) hb
 have aF0:id<N:=(aH.1 hH).1;have key:∀(j:Nat) y,(st.H.set id (.row (.mv (i+1)) e sz rows)++(wZ st.H.length r).2)[j]?=some y->(j=id/\y=.row (.mv (i+1)) e sz rows)\/(j≠id/\j<N/\st.H[j]?=some y)\/∃m,j=N+m/\(wZ st.H.length r).2[m]?=some y:=by
  intro j y hj;by_cases hlt:j<N
  ·rw[bA (by simpa using hlt)]at hj;rcases BP j y hj with h|⟨h1,h2⟩
   ·exact .inl h
   ·exact .inr (.inl ⟨h1,hlt,h2⟩)
  ·rw[bE (by simpa using hlt)]at hj;exact .inr (.inr ⟨j-N,by omega,by simpa using hj⟩)
 have kk:jW w w Θ Θ (id+2):=jW.refl hs.own (by omega);have x9:=hs.qc kk hn hu;have hone:∀(j:Nat) u,κ' j=some u->u.oneCell'=true:=by
  intro j u hj;simp only[κ']at hj;split at hj
  ·exact hs.qm j u hj
  ·have hjl:j-N<(wZ st.H.length r).2.length:=by rw[<-q1];exact(aH.1 hj).1
   obtain⟨_,u',_,_,r2,r3,_⟩:=q4 (j-N) _ (ai hjl);rw[hj]at r2;cases r2;exact r3
 have VD:∀b∈c1,Θ b=0:=fun b hb=>(hu.free b (by rw[hρ b (by simp[hb])];omega)).1
 have hs':eO Γ ⟨st.σ,st.H.set id (.row (.mv (i+1)) e sz rows)++(wZ st.H.length r).2⟩ κ' Θ a w:=by
  refine hs.step kk hs.mine hn (fun j hj=>?_) hone (fun j y hj=>?_) ⟨ρ',fun b hb=>?_,fun j e2 XY fm hj=>?_,fun j y hj=>?_⟩
  ·simp only[aX,bf]at hj;simp only[κ'];rw[bG (by omega)];exact ck (by rw[q1];exact Nat.le_sub_of_add_le' hj)
  ·rcases key j y hj with⟨rfl,rfl⟩|⟨h1,h2,h3⟩|⟨m,rfl,hm⟩
   ·exact .inr (.inr ⟨a7S,hrl,_,cs0,bs0,hn _ _ hk,a5x,aCq,hΘ,AT⟩)
   ·exact .inr (.inl ⟨by omega,h3⟩)
   ·obtain⟨dP,u,b,rfl,r2,r3,r4,r5⟩:=q4 m y hm;exact .inr (.inr ⟨u,b,hk' m u r2,r5,fun x hx'=>VD x (by rw[<-q3];exact di.2 ⟨b,aC r4,hx'⟩)⟩)
  ·by_cases hb':b∈c1
   ·exact x9.1 b (by rw[hρ b (by simp[hb'])];omega)
   ·rw[TQ b hb']at hb;exact x9.1 b hb
  ·rcases key j _ hj with⟨_,h⟩|⟨h1,h2,h3⟩|⟨m,rfl,hm⟩
   ·cases h
   ·obtain⟨v',cs',bs',p1,p2,p3,p4,p5⟩:=x9.2.1 j e2 XY fm (by omega) h3;refine⟨v',cs',bs',p1,p2,p3,p4,fun b hb=>?_⟩;rw[TQ b (fun hb'=>by have:=hρ b (by simp[hb']);have:=p5 b hb;omega)];exact p5 b hb
   ·obtain⟨_,_,_,h,_⟩:=q4 m _ hm;cases h
  ·rcases key j _ hj with⟨rfl,rfl⟩|⟨h1,h2,h3⟩|⟨m,rfl,hm⟩
   ·refine⟨_,cs,c2,hn _ _ hk,hown,?_,n2,fun b hb=>?_⟩
    ·have e1:cs.drop ((i+1)*sz)=v2:=by
      rw[kf,o5,<-gx,Qm];exact fw l1
     rw[e1];exact k2
    ·rw[TQ b (fun hb'=>n3 b hb' b hb rfl)];exact hρ b (by simp[hb])
   ·refine(x9.2.2 j y (by omega) h3).re fun b hb=>?_
    rw[TQ b (fun hb'=>by have:=hρ b (by simp[hb']);omega)];exact hb
   ·obtain⟨dP,u,b,rfl,r2,r3,r4,r5⟩:=q4 m y hm;have hsub:∀x∈b,ρ' x=N+m+1:=fun x hx'=>a9y m b x r4 hx'
    have aCC:b.Nodup:=by
     have a7z:∀(L:List af),L.flatten.Nodup->∀x∈L,x.Nodup:=by
      intro L
      induction L with
      |nil=>intro _ x hx';cases hx'
      |cons z L ih=>
       intro hnd x hx';simp only[eV]at hnd;obtain⟨m1,m2,_⟩:=bO.1 hnd;rcases bM.1 hx' with rfl|hx'
       ·exact m1
       ·exact ih m2 x hx'
     exact a7z L a9H b (aC r4)
    exact⟨u,b,hk' m u r2,r5,aCC,hsub⟩
 refine hK _ _ (h κ' Θ _ w (hs'.set (t:=t) ht (.v (.agg v1 _ [] (q5 κ' hk'))) (by simp)))
theorem EB{o:Oper}{t:Nat}{d:D}{A A':List An}{p:EC}(hd:o.dst=some t)(hg:o.guard=none)(ht:t<Γ.nt)(hv:KC P st o.op A=some (d,A',p))(hp:zS p)(h:AO P Γ all rest Q ⟨(t,d)::st.σ,st.H⟩):
 AO P Γ all (o::rest) Q st:=a5g hd hg ht (Z2 hv hp) h
theorem Z8{o:Oper}{s id e sz:Nat}{k:RK}{rows:List aR}(hx:lk st.σ s=.acc id)(hH:st.H[id]?=some (.row k e sz rows))(hk:k.Tm=true)
 (h:AO P Γ all (o::rest) Q ⟨(s,.sl rows)::st.σ,st.H.set id .gone⟩):AO P Γ all (o::rest) Q st:=by
 intro κ Θ a w hs;obtain⟨ρ,hu⟩:=hs.we;obtain⟨Θ',ρ',hs',_,⟨v,bs,hkm,hrd,hz,_⟩,_⟩:=hs.a86 hu hH hk;obtain⟨bx,rx,_⟩:=hs.slot s;rw[hx]at rx;obtain⟨hkx,_⟩:=rx.xh;have hv:a.tmps.getD s undef=v:=by rw[hkm]at hkx;cases hkx;rfl
 refine h κ Θ' a w ⟨hs'.defers,hs'.size,hs'.rV,hs'.qm,fun u=>?_,hs'.ob,hs'.own,hs'.old,hs'.mine,hs'.stays,hs'.we⟩;show∃bs,u7 w κ (a.tmps.getD u undef) (if u=s then .sl rows else lk st.σ u) bs/\_;by_cases x9:u=s
 ·subst x9;rw[bR rfl,hv];exact⟨bs,.of hrd,hz⟩
 ·rw[bG x9];exact hs'.slot u
theorem sS(c:Call){callee:Callee}{xs:List Operand}{ts:List TypeId}(h1:c.callee=callee)(h2:c.args.toList=xs)(h3:c.argTypes.toList=ts):c= {callee:=callee,args:=xs.toArray,argTypes:=ts.toArray}:=by
 cases c;simp only at h1 h2 h3;subst h1;subst h2;subst h3;simp
theorem Td{H H':bW}{A A':List An}{p:EC}{σ:List (Nat×D)}(h:XD H A=some (H',A',p))(hp:zS p)(hn:AO P Γ all rest Q ⟨σ,H'⟩):AO P Γ all rest Q ⟨σ,H⟩:=by
 unfold XD at h;split at h
 ·split at h
  ·rename_i sz rows u p' n hH;split at h
   ·rename_i XY fm u2 d hN hc;cases h;have he:=hp.2.1;subst he;exact a0y (st:=⟨σ,H⟩) hH hN hp.1 hc hn
   ·cases h
  ·cases h
 ·cases h;exact hn
theorem Sx{o:Oper}{A A':List An}{xf:St}{p:EC}{nt:Nat}(hnt:Γ.nt=nt)(hg:o.guard=none)(h:KY P nt o st A=some (xf,A',p))(hp:zS p)(hn:AO P Γ all rest Q xf):AO P Γ all (o::rest) Q st:=by
 subst hnt;unfold KY at h;split at h
 ·rename_i T x t hop hd;split at h
  ·split at h
   ·cases h;exact a6m hop hd hg (by assumption) (by assumption) hn
   ·cases h
  ·cases h
 ·rename_i T t hop hd;split at h
  ·split at h
   ·cases h;exact a0p hop hd hg (by assumption) (by assumption) hn
   ·cases h
  ·cases h
 ·rename_i T x y hop hd;split at h
  ·rename_i id off ds h1 h2;split at h
   ·rename_i ob h3;split at h
    ·rename_i cells h4;split at h
     ·rename_i hc;cases h;exact a10 hop hd hg h1 h3 h4 h2 hc.1 hc.2.1 hc.2.2 hn
     ·cases h
    ·cases h
   ·cases h
  ·rename_i id i sz off ds h1 h2;split at h
   ·rename_i sz' rows u _ r A1 h3;split at h
    ·rename_i hc;obtain⟨c1,c2,c3,rfl,c5,c6⟩:=hc;cases h;exact Z9 hop hd hg h1 h3 hp.1 h2 c6 c1 c2 c3 c5 hn
    ·cases h
   ·rename_i k e sz' rows es ms r A1 h3 h4;split at h
    ·rename_i hc;obtain⟨c1,c2,rfl,c4,c5,c6,c7⟩:=hc;cases h;exact UP hop hd hg h1 h3 c4 hp.1 h2 h4 c6 c7 c1 c2 c5 hn
    ·cases h
   ·cases h
  ·cases h
 ·rename_i T t hop hd;split at h
  ·cases h;exact WK hop hd hg (by assumption) hn
  ·cases h
 ·rename_i T x i y hop hd;split at h
  ·rename_i kd dz id m A1 h1 h2;split at h
   ·rename_i kv h3;split at h
    ·rename_i hc;cases h;exact Sw hop hd hg h1 h2 h3 hc.1 hc.2 hp.1 hn
    ·cases h
   ·cases h
  ·cases h
 ·rename_i T x y t hop hd;split at h
  ·rename_i e sz k n k' n' h1 h2 h3;split at h
   ·rename_i zs h4;split at h
    ·rename_i hc;cases h;obtain⟨⟨rfl,q2,q3,q4⟩,_⟩:=hp;exact Sv hop hd hg hc.1 h1 h4 hc.2 h2 h3 q2 q3 q4 hn
    ·cases h
   ·cases h
  ·cases h
 ·rename_i T len parts t hop hd;split at h
  ·rename_i e sz h1;split at h
   ·rename_i zs h2;split at h
    ·rename_i ds h3;split at h
     ·rename_i es ms h4;split at h
      ·rename_i hc;cases h;exact Rf hop hd hg hc.1 h1 h2 hc.2.1 hc.2.2.1 h3 h4 hc.2.2.2 hn
      ·cases h
     ·cases h
    ·cases h
   ·cases h
  ·cases h
 ·rename_i c t hop hd;split at h
  ·rename_i s x T T' h1 h2 h3;split at h
   ·rename_i e sz h4;split at h
    ·rename_i zs rows u1 k1 fm u2 k2 A1 ow h5 h6 h7;split at h
     ·rename_i hc;obtain⟨c1,c2,rfl,c4⟩:=hc;cases h;obtain⟨⟨q1,q2⟩,q3⟩:=hp;exact a6l (hop.trans (congrArg Op.call (sS c h1 h2 h3))) hd hg c1 h4 h5 c2 h6 h7 q3 c4 q1 q2 hn
     ·cases h
    ·cases h
   ·cases h
  ·rename_i x T h1 h2 h3;split at h
   ·rename_i id sz rows u h4;obtain⟨h5,h6⟩:=Qw h4;split at h
    ·rename_i hc;cases h;exact a48 (hop.trans (congrArg Op.call (sS c h1 h2 h3))) hd hg hc.1 hc.2 h5 h6 hn
    ·cases h
   ·split at h
    ·split at h
     ·rename_i d A1 ow h4;cases h;exact EB hd hg (by assumption) h4 hp hn
     ·cases h
    ·cases h
  ·rename_i f xs ts h1;split at h
   ·rename_i ms outs d A1 h4;split at h
    ·rename_i ins h5;split at h
     ·rename_i hc;obtain⟨c1,c2,c3⟩:=hc;split at h
      ·rename_i H' A2 ow h6;cases h;exact a0w (hop.trans (congrArg Op.call (sS c h1 rfl rfl))) hd hg c1 c2 h5 (by simpa using c3) (by simpa using hp.1) (Td h6 hp.2 hn)
      ·cases h
     ·cases h
    ·cases h
   ·rename_i nz cells' d A1 h4;split at h
    ·rename_i x0 xr h5;split at h
     ·rename_i id h6;split at h
      ·rename_i ob h7;split at h
       ·rename_i OG h8;split at h
        ·rename_i cells ds ms qs h9;split at h
         ·rename_i hc;obtain⟨c1,c2,c3⟩:=hc;cases h;exact a0v (hop.trans (congrArg Op.call (sS c h1 rfl rfl))) hd hg c1 (by simpa using h5) h6 h7 h8 h9 c2 c3 hp.1 hn
         ·cases h
        ·cases h
       ·cases h
      ·cases h
     ·cases h
    ·cases h
   ·rename_i ds ms cells A1 h4;split at h
    ·rename_i hc;obtain⟨c1,rfl⟩:=hc;cases h;exact a0t (hop.trans (congrArg Op.call (sS c h1 rfl rfl))) hd hg c1 (by simpa using h4) hp.1 hn
    ·cases h
   ·rename_i ds ms d A1 h4;split at h
    ·rename_i hc;cases h;exact a0q (hop.trans (congrArg Op.call (sS c h1 rfl rfl))) hd hg hc.1 (by simpa using h4) hc.2 hp.1 hn
    ·cases h
   ·rename_i id dP A1 h4;split at h
    ·rename_i e sz rows h5;split at h
     ·rename_i hc;obtain⟨c1,c3⟩:=hc;cases h;exact a0u (hop.trans (congrArg Op.call (sS c h1 rfl rfl))) hd hg c1 h5 hp.1 (by simpa using c3) (by simpa using hp.2.1) hn
     ·cases h
    ·cases h
   ·rename_i id dP A1 h4;split at h
    ·rename_i x k e sz rows h5 h6;split at h
     ·rename_i id' h7;split at h
      ·rename_i hc;obtain⟨c1,rfl,c3⟩:=hc;cases h;have e1:c.args= #[x]:=by rw[<-wh];simpa using h5
       refine a0s (ts:=c.argTypes) (hop.trans (congrArg Op.call ?_)) (fun t' ht'=>?_) hg h7 h6 c3 hp.1 hp.2.1 ?_
       ·rw[<-e1];exact sS c h1 rfl rfl
       ·rw[hd]at ht';cases ht';exact c1
       ·rw[hd];exact hn
      ·cases h
     ·cases h
    ·cases h
   ·rename_i ds ms d A1 h4;split at h
    ·rename_i hc;cases h;exact a44 (hop.trans (congrArg Op.call (sS c h1 rfl rfl))) hd hg hc.1 (by simpa using h4) hc.2 hp.1 hn
    ·cases h
   ·rename_i d A1;split at h
    ·rename_i hc;cases h;exact a0r (hop.trans (congrArg Op.call (sS c h1 rfl rfl))) hd hg hc.1 (by simpa using hc.2) (by simpa using hp.1) hn
    ·cases h
   ·cases h
  ·split at h
   ·split at h
    ·rename_i d A1 ow h4;cases h;exact EB hd hg (by assumption) h4 hp hn
    ·cases h
   ·cases h
 ·rename_i s d x t hop hd;split at h
  ·rename_i id h1;split at h
   ·rename_i k e' sz' rows e sz h2 h3;split at h
    ·rename_i bs h4;split at h
     ·rename_i hc;obtain⟨c1,rfl,c3,c4⟩:=hc;cases h;exact a45 hop hd hg c1 h1 h2 h3 c3 c4 h4 hn
     ·cases h
    ·cases h
   ·cases h
  ·split at h
   ·split at h
    ·rename_i d A1 ow h4;cases h;exact EB hd hg (by assumption) h4 hp hn
    ·cases h
   ·cases h
 ·rename_i x t hop hd;split at h
  ·rename_i A1;split at h
   ·rename_i e sz h1 h2;split at h
    ·rename_i hc;cases h;exact a6p hop hd hg hc.1 h1 hc.2 hn
    ·cases h
   ·cases h
  ·split at h
   ·cases h;exact a5g hd hg (by assumption) (by rw[hop];rfl) hn
   ·cases h
 ·rename_i T x hi t hop hd;split at h
  ·rename_i id h1;split at h
   ·rename_i e sz rows e' sz' kk n hh A1 h2 h3 h4;split at h
    ·rename_i hc;obtain⟨c1,rfl⟩:=hc;cases h;exact a47 hop hd hg c1 h3 h1 h2 (by rw[h4,hp.1.1]) hp.1.2 hn
    ·cases h
   ·cases h
  ·split at h
   ·split at h
    ·rename_i d A1 ow h4;cases h;exact EB hd hg (by assumption) h4 hp hn
    ·cases h
   ·cases h
 ·rename_i T s lo t hop hd;split at h
  ·rename_i A0 id h1;split at h
   ·rename_i k e sz rows h2;split at h
    ·rename_i hc;split at h
     ·rename_i d A1 ow h4;cases h;exact Z8 h1 h2 hc.2 (EB hd hg hc.1 h4 hp hn)
     ·cases h
    ·cases h
   ·cases h
  ·split at h
   ·split at h
    ·rename_i d A1 ow h4;cases h;exact EB hd hg (by assumption) h4 hp hn
    ·cases h
   ·cases h
 ·rename_i T x i t hop hd;split at h
  ·rename_i id sz rows u h1;obtain⟨h2,h3⟩:=Qw h1;split at h
   ·rename_i e sz' k n m A1 h4 h5;split at h
    ·rename_i hc;obtain⟨c1,rfl⟩:=hc;cases h;exact a6n hop hd hg c1 h4 h2 h5 h3 hp.1.1 hp.1.2 hn
    ·cases h
   ·cases h
  ·split at h
   ·split at h
    ·rename_i d A1 ow h4;cases h;exact EB hd hg (by assumption) h4 hp hn
    ·cases h
   ·cases h
 ·rename_i T x t hop hd;split at h
  ·rename_i id i off sz rows u h1;obtain⟨h2,h3⟩:=XA h1;split at h
   ·rename_i r A1 h4;split at h
    ·rename_i fm h5;split at h
     ·rename_i e XY h6;split at h
      ·rename_i hc;cases h;exact a0z hop hd hg hc h4 h2 h3 hp.1 h5 hp.2.1 hn
      ·cases h
     ·cases h
    ·rename_i d _ h5;split at h
     ·rename_i hc;cases h;exact a0x hop hd hg hc.1 h4 h2 h3 hp.1 h5 hc.2 hn
     ·cases h
    ·cases h
   ·cases h
  ·split at h
   ·rename_i r A1 id i sz h1;split at h
    ·rename_i n e sz' rows h2;split at h
     ·rename_i hc;obtain⟨c1,rfl,c3,c4⟩:=hc;cases h;obtain⟨⟨rfl,q2,q3⟩,_⟩:=hp;exact a4A hop hd hg c1 h1 h2 q2 c3 c4 q3 hn
     ·cases h
    ·cases h
   ·split at h
    ·split at h
     ·rename_i d A1 ow h4;cases h;exact EB hd hg (by assumption) h4 hp hn
     ·cases h
    ·cases h
 ·split at h
  ·split at h
   ·rename_i d A1 ow h4;cases h;exact EB (by assumption) hg (by assumption) h4 hp hn
   ·cases h
  ·cases h
 ·cases h
theorem a3O{o:Oper}{A A':List An}{xf:St}{p:EC}{nt:Nat}(hnt:Γ.nt=nt)(h:KY P nt o st A=some (xf,A',p)):∀ {t:Nat},o.dst=some t->t<Γ.nt:=by
 intro t ht;subst hnt;unfold KY at h;split at h
 all_goals first
  | (rename_i hd;rw[ht]at hd;cases hd;done)
  |skip
 all_goals(try(rename_i hd;rw[ht]at hd;cases hd))
 all_goals(repeat' split at h)
 all_goals(try cases h)
 all_goals first
  |assumption
  | (
   have hc:_/\_:=by assumption
   exact hc.1)
  | (simp_all;done)
end
end Go.Cx

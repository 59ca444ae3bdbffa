/- Regions whose order is drawn: where each operation of the head only computes or calls a function that leaves what was there as it was, every order gives the state of the text's order. No condition; plain lemmas. -/
import Derived.Test.YtcmgbmkjnekbkaaGreatDoorPEmptyNetworkG1
import Derived.StillTail
import Derived.MapKept
set_option linter.unusedVariables false
set_option linter.unusedSimpArgs false
namespace Go.Cx
open Go.RowKit
abbrev lC:=List Fs
section
variable{P:Program}{Γ:pG}{Q:Exit->St->Prop}{st:St}{κ:Nat->Option Value}{Θ:Nat->Nat}{a:Act}{w:World}{all:Array Oper}
def Ext(H H':bJ):Prop:=∀(i:Nat) o,H[i]?=some o->H'[i]?=some o
theorem MG(σ:List (Nat×D))(H H':bJ)(x:Operand):St.ev ⟨σ,H⟩ x=St.ev ⟨σ,H'⟩ x:=by cases x<;>rfl
theorem LC{σ σ':List (Nat×D)}{H H':bJ}{op:Op}{d:D}(hx:Ext H H')(he:∀x∈op.operands.toList,St.ev ⟨σ,H⟩ x=St.ev ⟨σ',H'⟩ x)(h:pv P ⟨σ,H⟩ op=some d):pv P ⟨σ',H'⟩ op=some d:=by
 have hm:∀(o:Option Operand),(∀x∈o.toArray.toList,St.ev ⟨σ,H⟩ x=St.ev ⟨σ',H'⟩ x)->o.map (St.ev ⟨σ,H⟩)=o.map (St.ev ⟨σ',H'⟩):=by
  intro o h;cases o with
  |none=>rfl
  |some x=>simp[h x (by simp)]
 cases op<;>simp only[pv]at h⊢ <;>(try cases h)
 case move x=>rw[he x (by simp[Op.operands])]at*
 case assign x=>rw[he x (by simp[Op.operands])]at*
 case nilCheck x=>rw[he x (by simp[Op.operands])]at h;exact h
 case pick c x y=>rw[he c (by simp[Op.operands]),he x (by simp[Op.operands]),he y (by simp[Op.operands])]at h;exact h
 case binOp op t x y t'=>rw[he x (by simp[Op.operands]),he y (by simp[Op.operands])]at h;exact h
 case unOp op t x=>cases op<;>simp only[pv]at h⊢ <;>(try cases h)<;>(rw[he x (by simp[Op.operands])]at h;exact h)
 case convert s d x=>rw[he x (by simp[Op.operands])]at h;exact h
 case field t x f=>rw[he x (by simp[Op.operands])]at h;exact h
 case fieldAddr t x f=>rw[he x (by simp[Op.operands])]at h;exact h
 case indexAddr t x i=>
  rw[he x (by simp[Op.operands]),he i (by simp[Op.operands])]at h;split at h
  ·rename_i e sz rows kk n h1 h2 h3
   (try simp only[h1,h2,h3]);exact h
  ·rename_i e sz id kk n h1 h2 h3
   (try simp only[h1,h2,h3])
   split at h
   ·rename_i k e' sz' rows hH;simp only[hx id _ hH];exact h
   ·cases h
  ·rename_i g o' kk n h1 h2
   (try simp only[h1,h2])
   generalize CL P t=q at h⊢;cases q<;>exact h
  ·cases h
 case load t x=>
  rw[he x (by simp[Op.operands])]at h;split at h
  ·rename_i ag row off h1 h2
   (try simp only[h1,h2]);exact h
  ·rename_i ag id off h1 h2
   (try simp only[h1,h2])
   split at h
   ·rename_i cells hH;obtain⟨ob,hH,wY⟩:=kX.1 hH;simp only[hx id _ hH,aA,wY];exact h
   ·cases h
  ·rename_i ag id i sz off h1 h2
   (try simp only[h1,h2])
   split at h
   ·rename_i k e' sz' rows hH;simp only[hx id _ hH];exact h
   ·cases h
  ·rename_i ag g o' h1 h2
   (try simp only[h1,h2]);exact h
  ·cases h
 case lookup T x i ok=>
  rw[he x (by simp[Op.operands]),he i (by simp[Op.operands])]at h;split at h
  ·rename_i id h1
   (try simp only[h1])
   split at h
   ·rename_i kv hH;simp only[hx id _ hH];exact h
   ·cases h
  ·cases h
 case extract x i=>rw[he x (by simp[Op.operands])]at h;exact h
 case index t x i=>rw[he x (by simp[Op.operands]),he i (by simp[Op.operands])]at h;exact h
 case slice t x lo hi mx=>
  cases mx with
  |none=>
   simp only[pv]at h⊢;rw[he x (by simp[Op.operands]),hm lo (fun y hy=>he y (by simp only[Op.operands,jP,aU];exact .inl (.inl (.inr hy)))),
    hm hi (fun y hy=>he y (by simp only[Op.operands,jP,aU];exact .inl (.inr hy)))]at h
   exact h
  |some m=>simp only[pv]at h;cases h
 case build t parts=>
  have:(parts.toList.map fun p=>(p.1,St.ev ⟨σ,H⟩ p.2))=parts.toList.map fun p=>(p.1,St.ev ⟨σ',H'⟩ p.2):=by
   apply lD;intro p hp;rw[he p.2 (by simp only[Op.operands];simp;exact⟨p.1,by simpa using hp⟩)]
  rw[this]at h;exact h
 case call c=>
  split at h
  ·rename_i x t h1 h2 h3;have hxm:x∈(Op.call c).operands.toList:=by
    simp only[Op.operands,Call.operands,jP,aU,h2];exact .inr (by simp)
   (try simp only[h1,h2,h3])
   unfold Vk at h⊢;rw[he x hxm]at h;split at h
   ·rename_i s hs;(try simp only[hs]);exact h
   ·rename_i rows hs;(try simp only[hs]);exact h
   ·rename_i hs;(try simp only[hs]);exact h
   ·rename_i id hs
    (try simp only[hs])
    split at h
    ·rename_i kk k e sz rows h4 h5;simp only[h4,hx id _ h5];exact h
    ·cases h
   ·cases h
  ·rename_i x y t t' h1 h2 h3;have hxm:x∈(Op.call c).operands.toList:=by
    simp only[Op.operands,Call.operands,jP,aU,h2];exact .inr (by simp)
   have hym:y∈(Op.call c).operands.toList:=by
    simp only[Op.operands,Call.operands,jP,aU,h2];exact .inr (by simp)
   (try simp only[h1,h2,h3])
   rw[he x hxm,he y hym]at h;exact h
  ·cases h
theorem NH{H H':bJ}(hx:Ext H H'){d e:D}{ms:aP}(h:RQ H d=some (e,ms)):RQ H' d=some (e,ms):=by
 cases d<;>simp only[RQ]at h⊢ <;>(try exact h)
 split at h
 ·rename_i k e' sz rows hH;simp only[hx _ _ hH];exact h
 ·rename_i sz rows u hH;simp only[hx _ _ hH];exact h
 ·rename_i rows hH;simp only[hx _ _ hH];exact h
 ·cases h
theorem RF{H H':bJ}(hx:Ext H H'):∀ {ds es:aK} {ms:aP},NI H ds=some (es,ms)->NI H' ds=some (es,ms):=by
 intro ds
 induction ds with
 |nil=>intro es ms h;exact h
 |cons d ds ih=>
  intro es ms h;simp only[NI]at h⊢;split at h
  ·rename_i e m es' ms' h1 h2;rw[NH hx h1,ih h2];exact h
  ·cases h
theorem UD{H H':bJ}(hx:Ext H H'){d e:D}{ms:aP}(h:UC H d=some (e,ms)):UC H' d=some (e,ms):=by
 by_cases qG:∃ds,d=.agg ds
 ·obtain⟨ds,rfl⟩:=qG;simp only[UC]at h⊢;split at h
  ·rename_i es ms' h1;rw[RF hx h1];exact h
  ·cases h
 ·by_cases ht:∃vs,d=.iE vs
  ·obtain⟨vs,rfl⟩:=ht;simp[UC]at h
  ·have e1:∀H,UC H d=RQ H d:=by intro H;cases d<;>first|rfl|exact absurd ⟨_,rfl⟩ qG|exact absurd ⟨_,rfl⟩ ht
   rw[e1]at h⊢;exact NH hx h
theorem RG{H H':bJ}(hx:Ext H H'):∀ {ds es:aK} {ms:aP},DL H ds=some (es,ms)->DL H' ds=some (es,ms):=by
 intro ds
 induction ds with
 |nil=>intro es ms h;exact h
 |cons d ds ih=>
  intro es ms h;simp only[DL]at h⊢;split at h
  ·rename_i e m es' ms' h1 h2;rw[UD hx h1,ih h2];exact h
  ·cases h
structure Cp where
 t:Option Nat
 d:D
 r:Nat
 obs:bJ
 up:Option (Nat×Ob)
def Looks(H:bJ)(vs ds:aK)(ms:aP):Prop:=DL H vs=some (ds,ms)\/(vs.all H9=true/\ds=vs/\ms=[])
def GG(P:Program)(H:bJ)(σ:List (Nat×D))(o:Oper)(p:Cp):Prop:=
 (pv P ⟨σ,H⟩ o.op=some p.d/\p.obs=[])\/∃(f:FuncId) (xs:Array Operand) (ts:Array TypeId) (ds:aK) (ms:aP) (d:D),o.op=.call {callee:=.value (.func f),args:=xs,argTypes:=ts}/\
  Looks H (xs.toList.map (St.ev ⟨σ,H⟩)) ds ms/\(ms=[]\/d.J0=true)/\Good P f ds d/\(lE p.r d=(p.d,p.obs)\/(d.YR=true/\p.d=d.Ua/\p.obs=[]))
def KU(P:Program)(H:bJ)(σ:List (Nat×D))(o:Oper)(p:Cp):Prop:=
 (∃T zs,o.op=.alloc T/\tz P T=some zs/\p.d=.ptr p.r 0/\p.obs=[.box zs])\/∃T x ds,o.op=.box T x/\(St.ev ⟨σ,H⟩ x).cellsOf=some ds/\p.d=.ptr p.r 0/\p.obs=[.box ds]
def KW(P:Program)(H:bJ)(σ:List (Nat×D))(o:Oper)(p:Cp):Prop:=
 ∃T e sz len parts zs ds es,o.op=.buildSlice T len parts/\CL P T=some (e,sz)/\tz P e=some zs/\0<sz/\len*sz<=16777216/\
  uJ (pW len sz) (List.replicate len zs).flatten (parts.toList.map fun q=>(q.1,St.ev ⟨σ,H⟩ q.2))=some ds/\GL H ds=some (es,[])/\p.d=.acc p.r/\p.obs=[.row (vP (ds.all (Po H))) e sz (chunk sz len es)]
def KV(P:Program)(H:bJ)(σ:List (Nat×D))(o:Oper)(p:Cp):Prop:=
 ∃T e sz len parts zs ds,o.op=.buildSlice T len parts/\CL P T=some (e,sz)/\tz P e=some zs/\0<sz/\len*sz<=16777216/\
  uJ (pW len sz) (List.replicate len zs).flatten (parts.toList.map fun q=>(q.1,St.ev ⟨σ,H⟩ q.2))=some ds/\ds.all D.Lh=true/\ds.all D.flat=true/\p.d=.sl (chunk sz len ds)/\p.obs=[]
def En(P:Program)(H:bJ)(σ:List (Nat×D))(o:Oper)(p:Cp):Prop:=GG P H σ o p\/KU P H σ o p\/KW P H σ o p\/KV P H σ o p
def ZE(P:Program)(Γ:pG)(all:Array Oper)(H:bJ)(σ:List (Nat×D))(o:Oper)(p:Cp):Prop:=
 ∃t,p.t=some t/\p.up=none/\o.dst=some t/\t<Γ.nt/\((o.guard=none/\En P H σ o p)\/
  (∃(j s:Nat) (want b:Bool),o.guard=some (j,want)/\(all[j]?).bind (·.dst)=some s/\lk σ s=.bool b/\((b=want/\En P H σ o p)\/(b≠want/\p.d=.iE []/\p.obs=[])))\/
  ∃(j s:Nat) (want:Bool),o.guard=some (j,want)/\(all[j]?).bind (·.dst)=some s/\lk σ s=.iE []/\p.d=.iE []/\p.obs=[])
def ZD(P:Program)(H:bJ)(σ:List (Nat×D))(o:Oper)(p:Cp):Prop:=
 p.t=none/\p.obs=[]/\o.dst=none/\o.guard=none/\∃T x y id ds,o.op=.store T x y/\St.ev ⟨σ,H⟩ x=.ptr id 0/\H.length<=id/\(St.ev ⟨σ,H⟩ y).cellsOf=some ds/\LP P T=true/\ds.length=vV P T/\p.up=some (id,.box ds)
def qJ(P:Program)(Γ:pG)(all:Array Oper)(H:bJ)(σ:List (Nat×D))(o:Oper)(p:Cp):Prop:=ZE P Γ all H σ o p\/ZD P H σ o p
def Cp.slot(p:Cp)(σ:List (Nat×D)):List (Nat×D):=match p.t with|some t=>(t,p.d)::σ|none=>σ
def Cp.fill(n:Nat)(p:Cp)(acc:bJ):bJ:=match p.up with|some (id,ob)=>acc.set (id-n) ob|none=>acc++p.obs
def Cp.a0i(n:Nat)(p:Cp)(U:aP)(acc:bJ):Prop:=match p.up with|some (id,ob)=>id∉U/\n<=id/\∃zs ds,acc[id-n]?=some (.box zs)/\ob=.box ds/\zs.length=ds.length|none=>True
def Cp.ups(p:Cp)(U:aP):aP:=match p.up with|some (id,_)=>id::U|none=>U
def Gt(P:Program)(Γ:pG)(all:Array Oper)(H:bJ)(K:List (Nat×D)->bJ->Prop):List Oper->List (Nat×D)->bJ->aP->Prop
 | [],σ,acc,_=>K σ acc
 |o::os,σ,acc,U=>∃p:Cp,p.r=H.length+acc.length/\qJ P Γ all H σ o p/\p.a0i H.length U acc/\Gt P Γ all H K os (p.slot σ) (p.fill H.length acc) (p.ups U)
theorem wX{Q':Exit->Act->World->Prop}{ops:Array Oper}{i:Nat}{o:Oper}{K:Act->World->Prop}(hi:ops[i]?=some o)(hw:Region.wanted o (yielded ops a.tmps)=true)(h:o.wp P a w K Q'):wpOp P ops Q' i K a w:=by
 unfold wpOp;simp only[hi,hw,nM];exact .inl h
theorem cz.Yx(hs:cz Γ st κ Θ a w){ops:Array Oper}{j s:Nat}{b:Bool}(hj:(ops[j]?).bind (·.dst)=some s)(hb:lk st.σ s=.bool b):yielded ops a.tmps j=some b:=by
 obtain⟨bs,r,_⟩:=hs.slot s;rw[hb]at r;have hv:=r.sS;have hlt:s<a.tmps.size:=by
  rcases dL s a.tmps.size with h|h
  ·exact h
  ·exfalso;rw[bz,oH h]at hv;simp[undef]at hv
 have h1:a.tmps[s]?=some (.bool b):=by
  rw[bz,cF hlt]at hv;rw[cF hlt];simpa using hv
 simp[yielded,hj,h1]
theorem IN{st rO:St}{ops:Array Oper}{o:Oper}(h:∀t∈o.looksAt ops,lk st.σ t=lk rO.σ t):∀x∈o.op.operands.toList,st.ev x=rO.ev x:=by
 intro x hx;cases x with
 |tmp t=>
  refine h t ?_;unfold Oper.looksAt;exact aU.2 (.inl (bt.2 ⟨.tmp t,hx,rfl⟩))
 |const v=>rfl
 |global g=>rfl
 |func f=>rfl
theorem Bx(l:List (Nat×D))(σ:List (Nat×D))(t:Nat):(∀p∈l,p.1≠t)->lk (l++σ) t=lk σ t:=by
 induction l with
 |nil=>intro _;rfl
 |cons q l ih=>
  intro h;obtain⟨u,d⟩:=q;simp only[cv,lk];rw[b9 (fun e=>h (u,d) (by simp) e.symm)];exact ih (fun p hp=>h p (by simp[hp]))
theorem EV(l:List (Nat×D))(σ:List (Nat×D))(p:Nat×D)(hp:p∈l)(hd:∀q∈l,q.1=p.1->q=p):lk (l++σ) p.1=p.2:=by
 induction l with
 |nil=>cases hp
 |cons q l ih=>
  obtain⟨u,d⟩:=q;simp only[cv,lk];by_cases e:p.1=u
  ·rw[bM e];have:=hd (u,d) (by simp) e.symm;rw[<-this]
  ·rw[b9 e];rcases bG.1 hp with rfl|hp
   ·exact absurd rfl e
   ·exact ih hp (fun q hq=>hd q (by simp[hq]))
def S3(ops:Array Oper)(n:Nat):Bool:=
 decide (n<=ops.size)&&(decide (n=ops.size)||(decide (n<ops.size)&&(Region.sinkB .any ops n&&Region.chainB .any ops n)))&&
 Region.seqB .any ops (ops.size-n) n (Array.replicate n true++Array.replicate (ops.size-n) false)&&
 (List.range n).all fun i=>match ops[i]? with
  |none=>false
  |some o=>(o.after.all fun e=> !Region.binds .any e||decide (e.on<i))&&
   ((o.looksAt ops).all fun t=>(List.range n).all fun j=>match ops[j]? with|some oj=> !(oj.dst==some t)||(decide (j<i)&&Region.waitsFor .any ops i j)|none=>true)&&
   (List.range n).all fun j=>j==i||(match ops[j]? with|some oj=> !(oj.dst==o.dst)||o.dst.isNone|none=>true)
def place(H:bJ)(r:Nat)(obs:bJ):bJ:=H.take r++(obs++H.drop (r+obs.length))
theorem qi{H:bJ}{r:Nat}{obs:bJ}(h:r+obs.length<=H.length)(j:Nat):(place H r obs)[j]?=if j<r then H[j]? else if j<r+obs.length then obs[j-r]? else H[j]?:=by
 unfold place;have hl:(H.take r).length=r:=by rw[cG];omega
 by_cases h1:j<r
 ·rw[bM h1,aj (by omega),cH,bM h1]
 ·rw[b9 h1,av (by omega),hl];by_cases h2:j<r+obs.length
  ·rw[bM h2,aj (by omega)]
  ·rw[b9 h2,av (by omega),dW]
   congr 1;omega
theorem qj{H:bJ}{r:Nat}{obs:bJ}(h:r+obs.length<=H.length):(place H r obs).length=H.length:=by
 unfold place;simp;omega
theorem GG.wp{Q':Exit->Act->World->Prop}{σ:List (Nat×D)}{H H':bJ}{o:Oper}{p:Cp}{K:Act->World->Prop}(hs:cz Γ ⟨σ,H'⟩ κ Θ a w)(hx:Ext H H'){t:Nat}(hd:o.dst=some t)(ht:t<Γ.nt)(h:GG P H σ o p)
 (hr:p.r+p.obs.length<=H'.length) (hfree:∀i,i<p.obs.length->κ (p.r+i)=none)
 (hK:∀κ' Θ' a' w',cz Γ ⟨(t,p.d)::σ,place H' p.r p.obs⟩ κ' Θ' a' w'->(∀j,(j<p.r\/p.r+p.obs.length<=j)->κ' j=κ j)->K a' w'):o.wp P a w K Q':=by
 rcases h with⟨h,hno⟩|⟨f,xs,ts,ds,ms,d,hop,hds,hsh,kV,hi⟩
 ·have h':=LC (σ:=σ) (σ':=σ) hx (fun x _=>MG σ H H' x) h;obtain⟨v,bs,hrun,hrd,hz⟩:=C3 hs h';unfold Oper.wp;rw[hrun,Oper.upon_value,hd];have hp:place H' p.r p.obs=H':=by rw[hno];simp[place]
  exact hK κ Θ _ _ (by rw[hp];exact hs.set ht hrd hz) (fun _ _=>rfl)
 ·have hev:xs.toList.map (St.ev ⟨σ,H⟩)=xs.toList.map (St.ev ⟨σ,H'⟩):=lD (fun x _=>MG σ H H' x);have XV:∃bs,Ow w (xs.toList.map a.eval) ds bs/\∀b∈bs,Seen Θ ms b:=by
   rcases hds with hds|⟨hk,rfl,rfl⟩
   ·have:=RG hx hds;rw[hev]at this;exact Hr hs this
   ·rw[hev]at hk⊢;exact K3 hs hk
  obtain⟨bs,hargs,hz⟩:=XV;let Θc:Nat->Nat:=fun b=>if Θ b=0\/ms.any (fun m=>Θ b==m+2)then 0 else 1
  have H6:∀b,Seen Θ ms b->Θc b=0:=by
   intro b h;simp only[Θc];rw[bM];rcases h with h|⟨m,h1,h2⟩
   ·exact .inl h
   ·exact .inr (cW.2 ⟨m,h1,by simp[h2]⟩)
  have hc:=kV.2 w Θc _ bs hs.Z5 hargs (fun b hb=>H6 b (hz b hb)) (fun b hb=>hs.own b (fun e=>hb (H6 b (.inl e)))) (fun b=>by simp only[Θc];split<;>omega);unfold Oper.wp;rw[si hop kV.1,Oper.upon_enter];have e:xs.map a.eval=(xs.toList.map a.eval).toArray:=by rw[<-fY,iR]
  rw[e];refine hc.mono ?_;rintro e w' ⟨v,bs',tb,ub,rfl,hb,hr',JI,htb,hnd,hfr,hsub⟩;show K (a.put o.dst v) w';rw[hd];rcases hi with hi|⟨hown,O1,Lg⟩
  rotate_left
  ·cases hr' with
   |iE=>cases hown
   |v hv=>
    have Bq:bs'=[]:=hv.own (by
     unfold D.YR at hown;split at hown
     ·cases hown
     ·exact hown)
    obtain⟨b,q,s⟩:=hv.zM;have hp:place H' p.r p.obs=H':=by rw[Lg];simp[place]
    refine hK κ Θ _ w' ?_ (fun _ _=>rfl);rw[hp,O1];refine(hs.grow hb).set ht (.v (.cell (.pure q))) fun x hx'=>?_
    rcases s x hx' with h|h
    ·rw[Bq]at h;cases h
    ·by_cases h0:Θ x=0
     ·exact h0
     ·have:=hs.own x h0;have:=(hfr x h).1;omega
  obtain⟨L,q1,q2,q3,q4,q5⟩:=hr'.inst p.r;rw[hi]at q1 q5;simp only at q1 q5;have hLl:L.length=p.obs.length:=by have:=congrArg List.length q1;simpa using this
  obtain⟨κ',Θ',hs',hnm,_,hno,hsame⟩:=hs.K1 hb L q2 (q3▸hnd) (fun b hb'=>hfr b (q3▸hb')) p.r (place H' p.r p.obs) (fun i hi'=>hfree i (by omega)) (by rw[qj hr];exact bH _) (by rw[qj hr];omega) (by
   intro j y hj;rw[qi hr]at hj;split at hj
   ·rename_i h1;exact .inr ⟨.inl h1,.inr hj⟩
   ·rename_i h1;split at hj
    ·rename_i h2;rw[<-q1,bg]at hj;cases hx':L[j-p.r]? with
     |none=>simp[hx']at hj
     |some x=>simp[hx']at hj;exact .inl ⟨j-p.r,x,by omega,hx',hj.symm⟩
    ·exact .inr ⟨.inr (by omega),.inr hj⟩)
  refine hK κ' Θ' _ w' (hs'.set (t:=t) ht (q5 κ' hnm) fun b hb'=>?_) (fun j hj=>hsame j (by omega));rw[hno b (q4▸htb b hb')];rcases hsh with IZ|hown
  ·by_cases hlt:b<w.heap.size
   ·have h0:=JI b hb' hlt;simp only[Θc,IZ,El]at h0;by_cases h1:Θ b=0
    ·exact h1
    ·simp[h1]at h0
   ·by_cases h0:Θ b=0
    ·exact h0
    ·exact absurd (hs.own b h0) hlt
  ·rw[hr'.own hown]at hb';cases hb'
theorem cz.Mo{σ:List (Nat×D)}{H':bJ}(hs:cz Γ ⟨σ,H'⟩ κ Θ a w){r:Nat}(hr:r+1<=H'.length)(hfree:κ r=none){cs:Array Value}{ds:aK}{bs:aP}(T:TypeId)(hrd:eN w κ cs.toList ds bs)(hz:∀b∈bs,Θ b=0):
 cz Γ ⟨σ,place H' r [.box ds]⟩ (uP κ r (some (.pointer (some ⟨w.heap.size,0,none⟩)))) (fun b=>if b=w.heap.size then r+2 else Θ b) a (w.alloc (.cells cs T)):=by
 have k:=gZ.alloc hs (.cells cs T) (tag:=r+2) (by omega);have hn:=tf hfree (some (Value.pointer (some ⟨w.heap.size,0,none⟩)));obtain⟨h1,h2⟩:=eN.stay k hn hrd hz;obtain⟨ρ,hu⟩:=hs.qA;refine hs.put (id:=r) (o:=.box ds) [] ?_ hn ?_ ?_ k (hs.vS (fun b hb=>by by_cases e:b=w.heap.size<;>simp_all)) ?_ hu (by simp) (by intro e sz rows h;cases h)
 ·intro j y hj;rw[qi (by simpa using hr)]at hj;split at hj
  ·exact .inr ⟨by omega,hj⟩
  ·split at hj
   ·rename_i h2;simp only[aG,b8]at h2;have e:j=r:=by omega
    subst e;simp at hj;exact .inl ⟨rfl,hj.symm⟩
   ·rename_i h2;simp only[aG,b8]at h2;exact .inr ⟨by omega,hj⟩
 ·intro i hi;rw[qj (by simpa using hr)]at hi;unfold uP;rw[b9 (by omega)];exact hs.mT i hi
 ·intro i x hx;unfold uP at hx;split at hx
  ·cases hx;rfl
  ·exact hs.lM i x hx
 ·exact⟨w.heap.size,cs,T,by simp[uP],heap_alloc_new w _,by simp,bs,h1,h2⟩
theorem KU.wp{Q':Exit->Act->World->Prop}{σ:List (Nat×D)}{H H':bJ}{o:Oper}{p:Cp}{K:Act->World->Prop}(hs:cz Γ ⟨σ,H'⟩ κ Θ a w){t:Nat}(hd:o.dst=some t)(ht:t<Γ.nt)(h:KU P H σ o p)
 (hr:p.r+p.obs.length<=H'.length) (hfree:∀i,i<p.obs.length->κ (p.r+i)=none)
 (hK:∀κ' Θ' a' w',cz Γ ⟨(t,p.d)::σ,place H' p.r p.obs⟩ κ' Θ' a' w'->(∀j,(j<p.r\/p.r+p.obs.length<=j)->κ' j=κ j)->K a' w'):o.wp P a w K Q':=by
 rcases h with⟨T,zs,hop,hz,O1,Lg⟩|⟨T,x,ds,hop,hc,O1,Lg⟩
 ·rw[Lg]at hr hfree hK;rw[O1]at hK;obtain⟨i,z,hi,uN,hsz,hlen,hone,rfl⟩:=tW hz;have hs':=hs.Mo (r:=p.r) hr (by simpa using hfree 0 (by simp)) T (cs:=z.cells) (yO z.cells.toList hone) (by simp);unfold Oper.wp;have hrun:(execOp a.eval o).run P w=.ok (.value (.pointer (some ⟨w.heap.size,0,none⟩))) (w.alloc (.cells z.cells T)):=by
   simp[execOp,hop,Instr.alloc,zeroValue,typeInfo,hi,uN,newVar,newRow]
  rw[hrun,Oper.upon_value,hd];refine hK _ _ _ _ (hs'.set (t:=t) (d:=.ptr p.r 0) (bs:=[]) ht ?_ (by simp)) (fun j hj=>?_)
  ·exact(vR.ptr p.r 0 w.heap.size (by simp[uP])).LR
  ·unfold uP;simp only[aG,b8]at hj;rw[b9 (by omega)]
 ·rw[Lg]at hr hfree hK;rw[O1]at hK;obtain⟨bs,rr,hz⟩:=hs.ev x;rw[MG σ H' H x]at rr;have hcs:=xu hs.lM rr hc;have hs':=hs.Mo (r:=p.r) hr (by simpa using hfree 0 (by simp)) T hcs hz;unfold Oper.wp;have hrun:(execOp a.eval o).run P w=.ok (.value (.pointer (some ⟨w.heap.size,0,none⟩))) (w.alloc (.cells (a.eval x).cells T)):=by
   simp[execOp,hop,Instr.box,newVar,newRow]
  rw[hrun,Oper.upon_value,hd];refine hK _ _ _ _ (hs'.set (t:=t) (d:=.ptr p.r 0) (bs:=[]) ht ?_ (by simp)) (fun j hj=>?_)
  ·exact(vR.ptr p.r 0 w.heap.size (by simp[uP])).LR
  ·unfold uP;simp only[aG,b8]at hj;rw[b9 (by omega)]
theorem cz.TE{σ:List (Nat×D)}{H':bJ}(hs:cz Γ ⟨σ,H'⟩ κ Θ a w){r:Nat}(hr:r+1<=H'.length)(hfree:κ r=none){u:Bool}{e sz cap:Nat}{rows:List aK}{bs:aP}(cur:Array Value)(hsz:0<sz)(hrl:∀x∈rows,x.length=sz)
 (IW:cur.size=cap*sz) (hn:rows.length<=cap) (hcap:cap<=maxLen) (hrd:jR w (cur.toList.take (rows.length*sz)) rows.flatten bs) (hz:∀b∈bs,Θ b=0) (hq:u=true->bs=[]):
 cz Γ ⟨σ,place H' r [.row (vP u) e sz rows]⟩ (uP κ r (some (.slice (some ⟨w.heap.size,0,none⟩) rows.length cap))) (fun b=>if b=w.heap.size then r+2 else Θ b) a (w.alloc (.cells cur e)):=by
 have k:=gZ.alloc hs (.cells cur e) (tag:=r+2) (by omega);have hkn:=tf hfree (some (Value.slice (some ⟨w.heap.size,0,none⟩) rows.length cap));obtain⟨h1,h2⟩:=jR.over k hrd hz;have hlen:(cur.toList.take (rows.length*sz)).length=rows.length*sz:=by
  have:rows.length*sz<=cap*sz:=dO _ hn;have h3:cur.toList.length=cap*sz:=by rw[<-IW];simp
  rw[cG,h3,eD this]
 have hown:(w.alloc (.cells cur e)).ownsRow 0 e sz (.slice (some ⟨w.heap.size,0,none⟩) rows.length cap) rows.length (cur.toList.take (rows.length*sz)):=
  ⟨hlen,.inr ⟨w.heap.size,cap,cur,rfl,by omega,heap_alloc_new w _,hn,hcap,IW,rfl⟩⟩
 obtain⟨ρ,hu⟩:=hs.qA;refine hs.put (id:=r) (o:=.row (vP u) e sz rows) [] ?_ hkn ?_ ?_ k (hs.vS (fun b hb=>by by_cases e:b=w.heap.size<;>simp_all)) ?_ hu (by simp) ?_
 ·intro j y hj;rw[qi (by simpa using hr)]at hj;split at hj
  ·exact .inr ⟨by omega,hj⟩
  ·split at hj
   ·rename_i h2;simp only[aG,b8]at h2;have e:j=r:=by omega
    subst e;simp at hj;exact .inl ⟨rfl,hj.symm⟩
   ·rename_i h2;simp only[aG,b8]at h2;exact .inr ⟨by omega,hj⟩
 ·intro i hi;rw[qj (by simpa using hr)]at hi;unfold uP;rw[b9 (by omega)];exact hs.mT i hi
 ·intro i x hx;unfold uP at hx;split at hx
  ·cases hx;rfl
  ·exact hs.lM i x hx
 ·refine⟨hsz,hrl,_,_,bs,by simp[uP],hown,h1,?_,?_⟩
  ·intro g hg;simp only[Value.ownBlock,ah]at hg;subst hg;simp
  ·cases u<;>exact h2
 ·intro e' sz' cm he;cases u with
  |false=>simp[vP]at he
  |true=>
   simp only[vP,Ob.row.injEq,nU]at he;obtain⟨rfl,rfl,rfl⟩:=he;have:=hq rfl;subst this;exact⟨_,_,[],by simp[uP],hown,h1,by simp,by simp⟩
theorem KW.wp{Q':Exit->Act->World->Prop}{σ:List (Nat×D)}{H H':bJ}{o:Oper}{p:Cp}{K:Act->World->Prop}(hs:cz Γ ⟨σ,H'⟩ κ Θ a w)(hx:Ext H H'){t:Nat}(hd:o.dst=some t)(ht:t<Γ.nt)(h:KW P H σ o p)
 (hr:p.r+p.obs.length<=H'.length) (hfree:∀i,i<p.obs.length->κ (p.r+i)=none)
 (hK:∀κ' Θ' a' w',cz Γ ⟨(t,p.d)::σ,place H' p.r p.obs⟩ κ' Θ' a' w'->(∀j,(j<p.r\/p.r+p.obs.length<=j)->κ' j=κ j)->K a' w'):o.wp P a w K Q':=by
 obtain⟨T,e,sz,len,parts,zs,ds,es,hop,hT,hz,hsz,hsmall,hf,habs,O1,Lg⟩:=h;rw[Lg]at hr hfree hK;rw[O1]at hK;have hf':uJ (pW len sz) (List.replicate len zs).flatten (parts.toList.map fun q=>(q.1,St.ev ⟨σ,H'⟩ q.2))=some ds:=by
  rw[<-hf];congr 1
 obtain⟨arr,b0,hrun,JZ,hb0,hal,hdl⟩:=vn (st:=⟨σ,H'⟩) hop hT hz hsz hsmall hf' hs;obtain⟨ρ,hu⟩:=hs.qA;obtain⟨bs,q1,q2,q3⟩:=NV (H:=H) (ρ:=ρ) habs (by simp) JZ hb0 (by simp);have hel:es.length=len*sz:=by rw[<-q1.length,JZ.length,hdl]
 obtain⟨c1,c2,c3⟩:=Ao sz len es hel;have hs':=hs.TE (r:=p.r) hr (by simpa using hfree 0 (by simp)) (u:=ds.all (Po H)) (e:=e) (sz:=sz) (cap:=len) (rows:=chunk sz len es) (bs:=bs) arr hsz c3 hal (by rw[c1];exact bH _)
  (by unfold maxLen;have:len*1<=len*sz:=dw _ hsz;omega) (by rw[c1,c2,oI (by simp[hal])];exact q1) q2
  (fun hq=>by
   obtain⟨_,h2⟩:=q3 hq;cases bs with
   |nil=>rfl
   |cons b bs=>obtain⟨m,hm,_⟩:=h2 b (by simp);cases hm)
 unfold Oper.wp;rw[hrun,Oper.upon_value,hd];rw[c1]at hs';refine hK _ _ _ _ (hs'.set (t:=t) (d:=.acc p.r) (bs:=[]) ht ?_ (by simp)) (fun j hj=>?_)
 ·exact(vR.acc p.r _ (by simp[uP])).LR
 ·unfold uP;simp only[aG,b8]at hj;rw[b9 (by omega)]
theorem KV.wp{Q':Exit->Act->World->Prop}{σ:List (Nat×D)}{H H':bJ}{o:Oper}{p:Cp}{K:Act->World->Prop}(hs:cz Γ ⟨σ,H'⟩ κ Θ a w){t:Nat}(hd:o.dst=some t)(ht:t<Γ.nt)(h:KV P H σ o p)
 (hK:∀κ' Θ' a' w',cz Γ ⟨(t,p.d)::σ,place H' p.r p.obs⟩ κ' Θ' a' w'->(∀j,(j<p.r\/p.r+p.obs.length<=j)->κ' j=κ j)->K a' w'):o.wp P a w K Q':=by
 obtain⟨T,e,sz,len,parts,zs,ds,hop,hT,hz,hsz,hsmall,hf,a22,Fe,O1,Lg⟩:=h;rw[Lg]at hK;rw[O1]at hK;have hf':uJ (pW len sz) (List.replicate len zs).flatten (parts.toList.map fun q=>(q.1,St.ev ⟨σ,H'⟩ q.2))=some ds:=by
  rw[<-hf];congr 1
 obtain⟨arr,b0,hrun,JZ,hb0,hal,hdl⟩:=vn (st:=⟨σ,H'⟩) hop hT hz hsz hsmall hf' hs;have hrd:=JZ.pure a22;have a1h:b0=[]:=hrd.flat Fe;subst a1h;obtain⟨c1,c2,c3⟩:=Ao sz len ds hdl;have Ns:Below w.heap.size w (w.alloc (.cells arr e)):=by
  have k:=gZ.alloc hs (.cells arr e) (tag:=2) (by omega);refine⟨k.os,k.tape,k.output,k.size,fun b hlt=>?_⟩;simp only[World.alloc];rw[Array.getElem?_push,b9 (by omega)]
 have hs':=hs.grow Ns;unfold Oper.wp;rw[hrun,Oper.upon_value,hd];have hpl:place H' p.r ([]:bJ)=H':=by simp[place]
 rw[hpl]at hK;refine hK _ _ _ _ (hs'.set (t:=t) (d:=.sl (chunk sz len ds)) (bs:=[w.heap.size]) ht ?_ ?_) (fun j hj=>rfl)
 ·have hcell:∀j c,arr.toList[j]?=some c->(w.alloc (.cells arr e)).cell? ⟨w.heap.size,0+j,none⟩=some c:=by
   intro j c hj;simp only[cY,World.cell?,heap_alloc_new w _];simpa using hj
  have hlt:w.heap.size<(w.alloc (.cells arr e)).heap.size:=(az.1 (heap_alloc_new w _)).1;have:=Rd.sl (w:=w.alloc (.cells arr e)) w.heap.size 0 len sz (chunk sz len ds) arr.toList [] hlt (by rw[c1];exact bH _) (by unfold maxLen;have:len*1<=len*sz:=dw _ hsz;omega) c3 hcell (by rw[c2];exact hrd.keep (by simp));rw[c1]at this;exact .of this
 ·intro b hb;simp only[dX]at hb;subst hb;cases h:Θ w.heap.size with
  |zero=>rfl
  |succ m=>exact absurd (hs.own w.heap.size (by omega)) (by omega)
theorem En.wp{Q':Exit->Act->World->Prop}{σ:List (Nat×D)}{H H':bJ}{o:Oper}{p:Cp}{K:Act->World->Prop}(hs:cz Γ ⟨σ,H'⟩ κ Θ a w)(hx:Ext H H'){t:Nat}(hd:o.dst=some t)(ht:t<Γ.nt)(h:En P H σ o p)
 (hr:p.r+p.obs.length<=H'.length) (hfree:∀i,i<p.obs.length->κ (p.r+i)=none)
 (hK:∀κ' Θ' a' w',cz Γ ⟨(t,p.d)::σ,place H' p.r p.obs⟩ κ' Θ' a' w'->(∀j,(j<p.r\/p.r+p.obs.length<=j)->κ' j=κ j)->K a' w'):o.wp P a w K Q':=by
 rcases h with h|h|h|h
 ·exact h.wp hs hx hd ht hr hfree hK
 ·exact h.wp hs hd ht hr hfree hK
 ·exact h.wp hs hx hd ht hr hfree hK
 ·exact h.wp hs hd ht hK
theorem cz.U6(hs:cz Γ st κ Θ a w){ops:Array Oper}{j s:Nat}(hj:(ops[j]?).bind (·.dst)=some s)(hb:lk st.σ s=.iE []):yielded ops a.tmps j=none:=by
 obtain⟨bs,r,_⟩:=hs.slot s;rw[hb]at r;have hv:=r.KJ;rcases dL s a.tmps.size with hlt|hlt
 ·have h1:a.tmps[s]?=some (.tuple #[]):=by
   rw[bz,cF hlt]at hv;rw[cF hlt];simpa using hv
  simp[yielded,hj,h1]
 ·simp[yielded,hj,oH hlt]
def Cp.xW(p:Cp)(H':bJ):bJ:=match p.up with|some (id,ob)=>H'.set id ob|none=>place H' p.r p.obs
theorem qJ.wp{Q':Exit->Act->World->Prop}{σ:List (Nat×D)}{H H':bJ}{ops:Array Oper}{i:Nat}{o:Oper}{p:Cp}{K:Act->World->Prop}(hs:cz Γ ⟨σ,H'⟩ κ Θ a w)(hx:Ext H H')(hi:ops[i]?=some o)(h:qJ P Γ ops H σ o p)
 (hr:p.r+p.obs.length<=H'.length) (hfree:∀i,i<p.obs.length->κ (p.r+i)=none) (NO:∀id ob,p.up=some (id,ob)->∃zs ds,H'[id]?=some (.box zs)/\ob=.box ds/\zs.length=ds.length)
 (hK:∀κ' Θ' a' w',cz Γ ⟨p.slot σ,p.xW H'⟩ κ' Θ' a' w'->(∀j,(j<p.r\/p.r+p.obs.length<=j)->κ' j=κ j)->K a' w'):wpOp P ops Q' i K a w:=by
 rcases h with⟨t,hpt,PL,hd,ht,h⟩|⟨hpt,Lg,hd,hg,T,x,y,id,ds,hop,hev,hlen,hc,hT,hl,PL⟩
 ·have e1:p.slot σ=(t,p.d)::σ:=by simp[Cp.slot,hpt]
  have e2:p.xW H'=place H' p.r p.obs:=by simp[Cp.xW,PL]
  rw[e1,e2]at hK;rcases h with⟨hg,hc⟩|⟨j,s,want,b,hg,hj,hb,hc⟩|⟨j,s,want,hg,hj,hb,XU,hno⟩
  ·exact wX hi (by simp[Region.wanted,hg]) (hc.wp hs hx hd ht hr hfree hK)
  ·have hy:=hs.Yx hj hb;rcases hc with⟨rfl,hc⟩|⟨hne,XU,hno⟩
   ·exact wX hi (by simp[Region.wanted,hg,hy]) (hc.wp hs hx hd ht hr hfree hK)
   ·unfold wpOp;have hw:Region.wanted o (yielded ops a.tmps)=false:=by simp[Region.wanted,hg,hy,hne]
    simp only[hi,hw,vX,vb,hd];have hp:place H' p.r p.obs=H':=by rw[hno];simp[place]
    exact hK κ Θ _ _ (by rw[hp,XU];exact hs.set ht (.iE [] [] [] .nil) (by simp)) (fun _ _=>rfl)
  ·have hy:=hs.U6 hj hb;unfold wpOp;have hw:Region.wanted o (yielded ops a.tmps)=false:=by simp[Region.wanted,hg,hy]
   simp only[hi,hw,vX,vb,hd];have hp:place H' p.r p.obs=H':=by rw[hno];simp[place]
   exact hK κ Θ _ _ (by rw[hp,XU];exact hs.set ht (.iE [] [] [] .nil) (by simp)) (fun _ _=>rfl)
 ·have e1:p.slot σ=σ:=by simp[Cp.slot,hpt]
  have e2:p.xW H'=H'.set id (.box ds):=by simp[Cp.xW,PL]
  rw[e1,e2]at hK;obtain⟨zs,ds',hz,he,hzl⟩:=NO id _ PL;cases he;obtain⟨w',hrun,hs'⟩:=KH (st:=⟨σ,H'⟩) hop (by rw[MG σ H' H x];exact hev) hz rfl (by rw[MG σ H' H y];exact hc) hT hl (by omega) hs;refine wX hi (by simp[Region.wanted,hg]) ?_;unfold Oper.wp;rw[hrun,Oper.upon_skip,hd];have e3:zs.take 0++ds++zs.drop (0+ds.length)=ds:=by
   rw[yW (by omega)];simp
  rw[e3]at hs';exact hK κ Θ _ _ hs' (fun _ _=>rfl)
theorem GG.congr{H:bJ}{σ σ':List (Nat×D)}{o:Oper}{p:Cp}(he:∀x∈o.op.operands.toList,St.ev ⟨σ,H⟩ x=St.ev ⟨σ',H⟩ x)(h:GG P H σ o p):GG P H σ' o p:=by
 rcases h with⟨h,hno⟩|⟨f,xs,ts,ds,ms,d,hop,hds,hsh,kV,hi⟩
 ·exact .inl ⟨LC (fun _ _ h=>h) he h,hno⟩
 ·have hm:xs.toList.map (St.ev ⟨σ,H⟩)=xs.toList.map (St.ev ⟨σ',H⟩):=by
   apply lD;intro x hx;refine he x ?_;rw[hop];simp only[Op.operands,Call.operands,jP,aU];exact .inr hx
  rw[hm]at hds;exact .inr ⟨f,xs,ts,ds,ms,d,hop,hds,hsh,kV,hi⟩
theorem En.congr{H:bJ}{σ σ':List (Nat×D)}{o:Oper}{p:Cp}(he:∀x∈o.op.operands.toList,St.ev ⟨σ,H⟩ x=St.ev ⟨σ',H⟩ x)(h:En P H σ o p):En P H σ' o p:=by
 rcases h with h| (h|⟨T,x,ds,hop,hc,O1,Lg⟩)|⟨T,e,sz,len,parts,zs,ds,es,hop,hT,hz,hsz,hsmall,hf,habs,O1,Lg⟩|⟨T,e,sz,len,parts,zs,ds,hop,hT,hz,hsz,hsmall,hf,habs,hfl,O1,Lg⟩
 ·exact .inl (h.congr he)
 ·exact .inr (.inl (.inl h))
 ·exact .inr (.inl (.inr ⟨T,x,ds,hop,by rw[<-he x (by rw[hop];simp[Op.operands])];exact hc,O1,Lg⟩))
 ·refine .inr (.inr (.inl ⟨T,e,sz,len,parts,zs,ds,es,hop,hT,hz,hsz,hsmall,?_,habs,O1,Lg⟩));rw[<-hf]
  congr 1
  apply lD;intro q hq;rw[he q.2 ?_];rw[hop];simp only[Op.operands,fY];exact cO.2 ⟨q,hq,rfl⟩
 ·refine .inr (.inr (.inr ⟨T,e,sz,len,parts,zs,ds,hop,hT,hz,hsz,hsmall,?_,habs,hfl,O1,Lg⟩));rw[<-hf]
  congr 1
  apply lD;intro q hq;rw[he q.2 ?_];rw[hop];simp only[Op.operands,fY];exact cO.2 ⟨q,hq,rfl⟩
theorem qJ.congr{H:bJ}{σ σ':List (Nat×D)}{ops:Array Oper}{o:Oper}{p:Cp}(he:∀t∈o.looksAt ops,lk σ t=lk σ' t)(h:qJ P Γ ops H σ o p):qJ P Γ ops H σ' o p:=by
 have hev:=IN (st:=⟨σ,H⟩) (rO:=⟨σ',H⟩) he;have hgu:∀ {j s:Nat} {want:Bool},o.guard=some (j,want)->(ops[j]?).bind (·.dst)=some s->lk σ s=lk σ' s:=by
  intro j s want hg hj;refine he s ?_;unfold Oper.looksAt;refine aU.2 (.inr ?_);simp[hg,hj]
 rcases h with⟨t,hpt,PL,hd,ht,h⟩|⟨hpt,Lg,hd,hg,T,x,y,id,ds,hop,hx,hlen,hc,hT,hl,PL⟩
 ·refine .inl ⟨t,hpt,PL,hd,ht,?_⟩;rcases h with⟨hg,hc⟩|⟨j,s,want,b,hg,hj,hb,hc⟩|⟨j,s,want,hg,hj,hb,hc⟩
  ·exact .inl ⟨hg,hc.congr hev⟩
  ·refine .inr (.inl ⟨j,s,want,b,hg,hj,by rw[<-hgu hg hj];exact hb,?_⟩);rcases hc with⟨h1,hc⟩|hc
   ·exact .inl ⟨h1,hc.congr hev⟩
   ·exact .inr hc
  ·exact .inr (.inr ⟨j,s,want,hg,hj,by rw[<-hgu hg hj];exact hb,hc⟩)
 ·refine .inr ⟨hpt,Lg,hd,hg,T,x,y,id,ds,hop,?_,hlen,?_,hT,hl,PL⟩
  ·rw[<-hev x (by rw[hop];simp[Op.operands])];exact hx
  ·rw[<-hev y (by rw[hop];simp[Op.operands])];exact hc
def Cp.sl(p:Cp):Option (Nat×D):=p.t.map fun t=>(t,p.d)
theorem Cp.Vy(p:Cp)(σ:List (Nat×D)):p.slot σ=p.sl.toList++σ:=by
 unfold Cp.slot Cp.sl;cases p.t<;>rfl
theorem Hl(p:Cp)(ps:List Cp)(σ:List (Nat×D)):((p::ps).filterMap Cp.sl).reverse++σ=(ps.filterMap Cp.sl).reverse++p.slot σ:=by
 rw[Cp.Vy,uf];cases p.sl<;>simp
theorem qJ.U8{H:bJ}{σ:List (Nat×D)}{o:Oper}{p:Cp}(h:qJ P Γ all H σ o p):p.up=none\/p.obs=[]:=by
 rcases h with⟨_,_,h,_⟩|⟨_,h,_⟩
 ·exact .inl h
 ·exact .inr h
theorem qJ.slots{H:bJ}{σ:List (Nat×D)}{o:Oper}{p:Cp}(h:qJ P Γ all H σ o p):o.dst=p.t:=by
 rcases h with⟨t,h1,_,h2,_⟩|⟨h1,_,h2,_⟩
 ·rw[h1,h2]
 ·rw[h1,h2]
theorem Gt.unfold{H:bJ}{K:List (Nat×D)->bJ->Prop}:∀(l:List Oper) (σ:List (Nat×D)) (acc:bJ) (U:aP),Gt P Γ all H K l σ acc U->
 ∃(ps:List Cp) (HP:bJ),ps.length=l.length/\(∀(i:Nat) o p,l[i]?=some o->ps[i]?=some p->qJ P Γ all H (((ps.take i).filterMap Cp.sl).reverse++σ) o p/\p.r=H.length+acc.length+((ps.take i).flatMap Cp.obs).length/\
  ∀id ob,p.up=some (id,ob)->id∉U/\H.length<=id/\(∃zs ds,ob=.box ds/\zs.length=ds.length/\(acc++(ps.take i).flatMap Cp.obs)[id-H.length]?=some (.box zs))/\∀(i2:Nat) q xj,i2<i->ps[i2]?=some q->q.up≠some (id,xj))/\
  K ((ps.filterMap Cp.sl).reverse++σ) HP/\HP.length=acc.length+(ps.flatMap Cp.obs).length/\
  (∀k,(∀(i:Nat) q ob,ps[i]?=some q->q.up≠some (H.length+k,ob))->HP[k]?=(acc++ps.flatMap Cp.obs)[k]?)/\
  ∀(i:Nat) q id ob,ps[i]?=some q->q.up=some (id,ob)->HP[id-H.length]?=some ob:=by
 intro l
 induction l with
 |nil=>
  intro σ acc U h;have h:K σ acc:=h;exact⟨[],acc,rfl,by simp,by simpa using h,by simp,by simp,by simp⟩
 |cons o l ih=>
  intro σ acc U h;obtain⟨p,hr,hc,hok,p8⟩:=h;obtain⟨ps,HP,h1,h2,h3,h4,h5,h6⟩:=ih _ _ _ p8;cases NO:p.up with
  |none=>
   have ef:p.fill H.length acc=acc++p.obs:=by simp[Cp.fill,NO]
   have eu:p.ups U=U:=by simp[Cp.ups,NO]
   rw[ef]at h2 h4 h5;rw[eu]at h2;refine⟨p::ps,HP,by simp[h1],?_,by rw[Hl];exact h3,by rw[h4];simp;omega,?_,?_⟩
   ·intro i o' p' ho hp;cases i with
    |zero=>
     simp at ho hp;subst ho;subst hp;refine⟨by simpa using hc,by simpa using hr,?_⟩;intro id ob he;rw[NO]at he;cases he
    |succ i=>
     simp at ho hp;obtain⟨q1,q2,q3⟩:=h2 i o' p' ho hp;refine⟨by rw[qv,Hl];exact q1,by rw[q2];simp;omega,?_⟩;intro id ob he;obtain⟨r1,r2,⟨zs,ds,r3,r4,r5⟩,r6⟩:=q3 id ob he;refine⟨r1,r2,⟨zs,ds,r3,r4,by rw[<-r5];simp⟩,?_⟩;intro i2 q xj hlt hq;cases i2 with
     |zero=>simp at hq;subst hq;rw[NO];simp
     |succ i2=>exact r6 i2 q xj (by omega) (by simpa using hq)
   ·intro k hk;rw[h5 k (fun i q ob hq=>hk (i+1) q ob (by simpa using hq))];simp
   ·intro i q id ob hq he;cases i with
    |zero=>simp at hq;subst hq;rw[NO]at he;cases he
    |succ i=>exact h6 i q id ob (by simpa using hq) he
  |some x=>
   obtain⟨PT,ob0⟩:=x;have ef:p.fill H.length acc=acc.set (PT-H.length) ob0:=by simp[Cp.fill,NO]
   have eu:p.ups U=PT::U:=by simp[Cp.ups,NO]
   have UT:p.obs=[]:=by
    rcases hc.U8 with h|h
    ·rw[h]at NO;cases NO
    ·exact h
   rw[ef]at h2 h4 h5;rw[eu]at h2;simp only[Cp.a0i,NO]at hok;obtain⟨u1,u2,zs0,QF,u3,u4,u5⟩:=hok;have oD:∀(X:bJ) (k:Nat),k≠PT-H.length->(acc.set (PT-H.length) ob0++X)[k]?=(acc++X)[k]?:=by
    intro X k hk;by_cases hl:k<acc.length
    ·rw[aj (by simpa using hl),aj hl,bw (oJ hk)]
    ·rw[av (by simpa using hl),av (by omega)];simp
   have hno:∀(i:Nat) q xj,ps[i]?=some q->q.up≠some (PT,xj):=by
    intro i q xj hq he;have hlt:i<l.length:=by have:=(aD.1 hq).1;omega
    have:=(h2 i l[i] q (aV hlt) hq).2.2 PT xj he;exact this.1 (by simp)
   refine⟨p::ps,HP,by simp[h1],?_,by rw[Hl];exact h3,by rw[h4];simp[UT],?_,?_⟩
   ·intro i o' p' ho hp;cases i with
    |zero=>
     simp at ho hp;subst ho;subst hp;refine⟨by simpa using hc,by simpa using hr,?_⟩;intro id ob he;rw[NO]at he;cases he;exact⟨u1,u2,⟨zs0,QF,u4,u5,by simpa using u3⟩,by intro i2 q xj hlt;omega⟩
    |succ i=>
     simp at ho hp;obtain⟨q1,q2,q3⟩:=h2 i o' p' ho hp;refine⟨by rw[qv,Hl];exact q1,by rw[q2];simp[UT],?_⟩;intro id ob he;obtain⟨r1,r2,⟨zs,ds,r3,r4,r5⟩,r6⟩:=q3 id ob he;have hne:id≠PT:=fun e=>r1 (by simp[e])
     refine⟨fun h=>r1 (by simp[h]),r2,⟨zs,ds,r3,r4,?_⟩,?_⟩
     ·rw[<-r5,oD _ _ (by omega)];simp[UT]
     ·intro i2 q xj hlt hq;cases i2 with
      |zero=>simp at hq;subst hq;rw[NO];intro e;cases e;exact hne rfl
      |succ i2=>exact r6 i2 q xj (by omega) (by simpa using hq)
   ·intro k hk;rw[h5 k (fun i q ob hq=>hk (i+1) q ob (by simpa using hq))];have hne:k≠PT-H.length:=fun e=>hk 0 p ob0 rfl (by rw[NO,e,show H.length+(PT-H.length)=PT from by omega])
    rw[oD _ _ hne];simp[UT]
   ·intro i q id ob hq he;cases i with
    |zero=>
     simp at hq;subst hq;rw[NO]at he;cases he;rw[h5 (PT-H.length) (fun i q xj hq=>by rw[show H.length+(PT-H.length)=PT from by omega];exact hno i q xj hq)];have hl:PT-H.length<acc.length:=(aD.1 u3).1;rw[aj (by simpa using hl),cx hl]
    |succ i=>exact h6 i q id ob (by simpa using hq) he
theorem cz.same{σ':List (Nat×D)}(h:∀t,lk st.σ t=lk σ' t)(hs:cz Γ st κ Θ a w):cz Γ ⟨σ',st.H⟩ κ Θ a w:=
 ⟨hs.defers,hs.size,hs.mT,hs.lM,fun t=>by show∃bs,oK w κ _ (lk σ' t) bs/\_;rw[<-h t];exact hs.slot t,hs.ob,hs.own,hs.old,hs.mine,hs.stays,hs.qA⟩
theorem cz.room(hs:cz Γ st κ Θ a w)(m:Nat):cz Γ ⟨st.σ,st.H++List.replicate m .gone⟩ κ Θ a w:=by
 have key:∀(j:Nat) y,(st.H++List.replicate m .gone)[j]?=some y->y=.gone\/st.H[j]?=some y:=by
  intro j y hj;by_cases hlt:j<st.H.length
  ·rw[aj hlt]at hj;exact .inr hj
  ·rw[av (by omega)]at hj;rw[List.getElem?_replicate]at hj;split at hj
   ·cases hj;exact .inl rfl
   ·cases hj
 obtain⟨ρ,hu⟩:=hs.qA;refine⟨hs.defers,hs.size,fun i hi=>hs.mT i (by simp at hi;omega),hs.lM,hs.slot,?_,hs.own,hs.old,hs.mine,hs.stays,ρ,hu.free,?_,?_⟩
 ·intro j o hj;rcases key j o hj with rfl|h
  ·trivial
  ·exact hs.ob j o h
 ·intro id e sz rows hj;rcases key id _ hj with h|h
  ·cases h
  ·exact hu.rows id e sz rows h
 ·intro id o hj;rcases key id _ hj with h|h
  ·subst h;trivial
  ·exact hu.more id o h
theorem nJ{ps:List Cp}{i:Nat}{p:Cp}(h:ps[i]?=some p):ps.flatMap Cp.obs=(ps.take i).flatMap Cp.obs++(p.obs++(ps.drop (i+1)).flatMap Cp.obs):=by
 have e:ps=ps.take i++(p::ps.drop (i+1)):=by
  obtain⟨hlt,rfl⟩:=aD.1 h;rw[yX,cA]
 conv=>lhs;rw[e]
 simp
theorem vO{ps:List Cp}:∀ {k:Nat},k<(ps.flatMap Cp.obs).length->∃(i:Nat) (p:Cp) (j:Nat),ps[i]?=some p/\j<p.obs.length/\k=((ps.take i).flatMap Cp.obs).length+j:=by
 induction ps with
 |nil=>intro k h;simp at h
 |cons p ps ih=>
  intro k h;by_cases hk:k<p.obs.length
  ·exact⟨0,p,k,rfl,hk,by simp⟩
  ·simp only[eF,aM]at h;obtain⟨i,q,j,h1,h2,h3⟩:=ih (k:=k-p.obs.length) (by omega);refine⟨i+1,q,j,by simpa using h1,h2,?_⟩;rw[qv,eF,aM];omega
theorem KC{ps:List Cp}{i j:Nat}{p:Cp}(hp:ps[i]?=some p)(hij:i<j):((ps.take i).flatMap Cp.obs).length+p.obs.length<=((ps.take j).flatMap Cp.obs).length:=by
 have h:(ps.take j)[i]?=some p:=by rw[cH,bM hij];exact hp
 have:=nJ h;rw[this];have e:(ps.take j).take i=ps.take i:=by rw[qI,eD (by omega)]
 rw[e];simp only[aM];omega
theorem Ul{id:Nat}{l:List Oper}(n:Nat)(hm:P.follows .mixedOrders=true)(hB:S3 l.toArray n=true)
 (h:Gt P Γ l.toArray st.H (fun σ acc=>AO P Γ l.toArray (l.drop n) Q ⟨σ,st.H++acc⟩) (l.take n) st.σ [] []):AW P Γ (.region id l.toArray true) Q st:=by
 simp only[S3,aX,l6,bO]at hB;obtain⟨⟨⟨hn,hsc⟩,VD⟩,Gy⟩:=hB;obtain⟨ps,HP,hlen,IV,hK,hFl,ZK,hFu⟩:=Gt.unfold _ _ _ _ h;simp only[cC,b8,vE,cY]at IV hK hFl ZK;have hn':n<=l.length:=by simpa using hn
 have hpl:ps.length=n:=by rw[hlen];simp;omega
 have hop:∀(i:Nat),i<n->∃o p,l.toArray[i]?=some o/\ps[i]?=some p/\o.dst=p.t/\qJ P Γ l.toArray st.H (((ps.take i).filterMap Cp.sl).reverse++st.σ) o p/\p.r=st.H.length+((ps.take i).flatMap Cp.obs).length:=by
  intro i hi;have h1:l[i]?=some l[i]:=aV (by omega);have h2:ps[i]?=some ps[i]:=aV (by omega);have h3:=IV i l[i] ps[i] (by rw[cH,bM hi];exact h1) h2;exact⟨l[i],ps[i],by simp[iB,h1],h2,h3.1.slots,h3.1,h3.2.1⟩
 have O2:∀(i:Nat) p,ps[i]?=some p->p.r=st.H.length+((ps.take i).flatMap Cp.obs).length:=by
  intro i p hp;have hi:i<n:=by have:=(aD.1 hp).1;omega
  obtain⟨_,p',_,hp',_,_,hr⟩:=hop i hi;rw[hp]at hp';cases hp';exact hr
 have Kn:∀(i:Nat) p id ob,ps[i]?=some p->p.up=some (id,ob)->st.H.length<=id/\(∃zs ds,ob=.box ds/\zs.length=ds.length/\((ps.take i).flatMap Cp.obs)[id-st.H.length]?=some (.box zs))/\∀(i2:Nat) q xj,i2<i->ps[i2]?=some q->q.up≠some (id,xj):=by
  intro i p id ob hp he;have hi:i<n:=by have:=(aD.1 hp).1;omega
  have h1:l[i]?=some l[i]:=aV (by omega);have h3:=(IV i l[i] p (by rw[cH,bM hi];exact h1) hp).2.2 id ob he;exact⟨h3.2.1,h3.2.2.1,h3.2.2.2⟩
 have Sa:∀(i j:Nat) p q id ob xj,ps[i]?=some p->ps[j]?=some q->p.up=some (id,ob)->q.up=some (id,xj)->i=j:=by
  intro i j p q id ob xj hp hq he ER;rcases sN i j with h|h|h
  ·exact absurd he ((Kn j q id xj hq ER).2.2 i p ob h hp)
  ·exact h
  ·exact absurd ER ((Kn i p id ob hp he).2.2 j q xj h hq)
 have Sb:∀(i:Nat) p id ob,ps[i]?=some p->p.up=some (id,ob)->p.obs=[]:=by
  intro i p id ob hp he;have hi:i<n:=by have:=(aD.1 hp).1;omega
  obtain⟨_,p',_,hp',_,hc,_⟩:=hop i hi;rw[hp]at hp';cases hp';rcases hc.U8 with h|h
  ·rw[h]at he;cases he
  ·exact h
 have hfit:∀(i:Nat) p,ps[i]?=some p->p.r+p.obs.length<=st.H.length+(ps.flatMap Cp.obs).length:=by
  intro i p hp;rw[O2 i p hp,nJ hp];simp only[aM];omega
 have Kj:∀(i j:Nat) p q,ps[i]?=some p->ps[j]?=some q->i<j->p.r+p.obs.length<=q.r:=by
  intro i j p q hp hq hij;rw[O2 i p hp,O2 j q hq];have:=KC hp hij;omega
 have hdist:∀(i j:Nat) p q t,ps[i]?=some p->ps[j]?=some q->p.t=some t->q.t=some t->i=j:=by
  intro i j p q t hp hq he1 ER;have hi:i<n:=by have:=(aD.1 hp).1;omega
  have hj:j<n:=by have:=(aD.1 hq).1;omega
  obtain⟨oi,p',ho,hp',hdi,_⟩:=hop i hi;obtain⟨oj,q',uG,Jc,hdj,_⟩:=hop j hj;rw[hp]at hp';cases hp';rw[hq]at Jc;cases Jc;have:=au.1 Gy i (bW.2 hi);simp only[ho,aX]at this;have:=au.1 this.2 j (bW.2 hj);simp only[uG,hdi,hdj,he1,ER,cw,c8,rD,Option.isNone_some,rD,cR]at this;exact this.symm
 have Br:∀(i:Nat) p t,ps[i]?=some p->p.t=some t->∀q∈ps.filterMap Cp.sl,q.1=t->q=(t,p.d):=by
  intro i p t hp hpt q hq he;obtain⟨q',Jc,Gg⟩:=bt.1 hq;obtain⟨j,hj,rfl⟩:=dN.1 Jc;have Ej:ps[j]?=some ps[j]:=aV hj;unfold Cp.sl at Gg;cases VB:ps[j].t with
  |none=>rw[VB]at Gg;cases Gg
  |some u=>
   rw[VB]at Gg;simp only[cJ,ah]at Gg;subst Gg;simp only at he;subst he;have:=hdist j i _ p u Ej hp VB hpt;subst this;rw[hp]at Ej;cases Ej;rfl
 intro κ Θ a w hs;have main:∀(f:Nat) (listed:Array Bool) (σ':List (Nat×D)) (H':bJ) (κ:Nat->Option Value) (Θ:Nat->Nat) (a:Act) (w:World),HeadInv .any l.toArray n listed->
  ((List.range n).filter fun i=> !listed.getD i false).length=f->
  (∀(i:Nat) p t,ps[i]?=some p->p.t=some t->listed.getD i false=true->lk σ' t=p.d)->
  (∀t,(∀(i:Nat) p,ps[i]?=some p->listed.getD i false=true->p.t≠some t)->lk σ' t=lk st.σ t)->
  H'.length=st.H.length+(ps.flatMap Cp.obs).length->Ext st.H H'->
  (∀(i:Nat) p,ps[i]?=some p->listed.getD i false=true->∀(j:Nat) o,p.obs[j]?=some o->(∀(i2:Nat) q ob,ps[i2]?=some q->listed.getD i2 false=true->q.up≠some (p.r+j,ob))->H'[p.r+j]?=some o)->
  (∀(i:Nat) q id ob,ps[i]?=some q->listed.getD i false=true->q.up=some (id,ob)->H'[id]?=some ob/\∃v,κ id=some v)->
  (∀(i:Nat) p,ps[i]?=some p->listed.getD i false=false->∀j,j<p.obs.length->κ (p.r+j)=none)->
  cz Γ ⟨σ',H'⟩ κ Θ a w->
  wpAny P .any l.toArray (fun e a' w'=>∃rO κ' Θ',cz Γ rO κ' Θ' a' w'/\Q e rO) (f+(l.toArray.size-n)) listed a w:=by
  intro f
  induction f with
  |zero=>
   intro listed σ' H' κ Θ a w inv lK hA hB WQ RM PI UR PG hs;have hall:∀i,i<n->listed.getD i false=true:=by
    intro i hi;have h0:=cS lK;cases hl:listed.getD i false with
    |true=>rfl
    |false=>
     have:i∈(List.range n).filter fun i=> !listed.getD i false:=fV.2 ⟨bW.2 hi,by simp[hl]⟩
     rw[h0]at this;cases this
   have SK:listed=Array.replicate n true++Array.replicate (l.toArray.size-n) false:=by
    apply Array.ext
    ·rw[inv.size];simp;simp at hn;omega
    ·intro i h1 h2;by_cases hi:i<n
     ·have:=hall i hi;rw[we (by simpa using hi)];simp[h1]at this;simp[this]
     ·have hi':i<l.toArray.size:=by rw[<-inv.size];exact h1
      have:=inv.tail i (by omega) hi';rw[vW (by simpa using hi)];simp[h1]at this;simp[this]
   rw[cY];have ES:∀t,lk σ' t=lk ((ps.filterMap Cp.sl).reverse++st.σ) t:=by
    intro t;by_cases hex:∃(i:Nat) (p:Cp),ps[i]?=some p/\p.t=some t
    ·obtain⟨i,p,hp,hpt⟩:=hex;have hi:i<n:=by have:=(aD.1 hp).1;omega
     rw[hA i p t hp hpt (hall i hi)];have:=EV (ps.filterMap Cp.sl).reverse st.σ (t,p.d) (by rw[dB];exact bt.2 ⟨p,aB hp,by simp[Cp.sl,hpt]⟩) (fun q hq he=>Br i p t hp hpt q (by simpa using hq) he);exact this.symm
    ·rw[hB t (fun i p hp _ he=>hex ⟨i,p,hp,he⟩),Bx];intro q hq he;obtain⟨p,hp,hps⟩:=bt.1 (dB.1 hq);obtain⟨i,hi,hpi⟩:=dN.1 hp;refine hex ⟨i,p,by rw[<-hpi];exact aV hi,?_⟩;unfold Cp.sl at hps;cases hpt:p.t with
     |none=>rw[hpt]at hps;cases hps
     |some u=>rw[hpt]at hps;simp only[cJ,ah]at hps;subst hps;simp only at he;rw[he]
   have S8:H'=st.H++HP:=by
    apply mh;intro k;by_cases h1:k<st.H.length
    ·rw[aj h1];exact RM k _ (aV h1)|>.trans (aV h1).symm
    ·rw[av (by omega)];by_cases hex:∃(i:Nat) (q:Cp) (ob:Ob),ps[i]?=some q/\q.up=some (k,ob)
     ·obtain⟨i,q,ob,hq,he⟩:=hex;have hi:i<n:=by have:=(aD.1 hq).1;omega
      rw[(UR i q k ob hq (hall i hi) he).1,hFu i q k ob hq he]
     ·have hno:∀(i:Nat) q ob,ps[i]?=some q->q.up≠some (k,ob):=fun i q ob hq he=>hex ⟨i,q,ob,hq,he⟩
      rw[ZK (k-st.H.length) (fun i q ob hq=>by rw[show st.H.length+(k-st.H.length)=k from by omega];exact hno i q ob hq)];by_cases h2:k-st.H.length<(ps.flatMap Cp.obs).length
      ·obtain⟨i,p,j,hp,hj,hk⟩:=vO h2;have hi:i<n:=by have:=(aD.1 hp).1;omega
       have e3:p.r+j=k:=by rw[O2 i p hp];omega
       have h3:=PI i p hp (hall i hi) j _ (aV hj) (fun i2 q ob hq _=>by rw[e3];exact hno i2 q ob hq);rw[e3]at h3;rw[h3,nJ hp,hk,av (by omega),ck,aj hj,aV hj]
      ·rw[cD (by omega),cD (by omega)]
   have hs2:=cz.same (st:=⟨σ',H'⟩) (σ':=(ps.filterMap Cp.sl).reverse++st.σ) ES hs;simp only[S8]at hs2;have hwp:=hK κ Θ a w hs2;have hdl:(l.drop n).length=l.toArray.size-n:=by simp
   have:=wpAny_of_seq (md:=.any) (l.drop n) n listed a w (fun j=>by simp[dW]) (by rw[hdl,SK];exact VD) hwp
   rwa[hdl]at this
  |succ f ih=>
   intro listed σ' H' κ Θ a w inv lK hA hB WQ RM PI UR PG hs;have hun:∃i,i<n/\listed.getD i false=false:=by
    have hne:((List.range n).filter fun i=> !listed.getD i false)≠[]:=by
     intro h0;rw[h0]at lK;simp at lK
    obtain⟨i,hi⟩:=ql _ hne;obtain⟨h1,h2⟩:=fV.1 hi;exact⟨i,bW.1 h1,by simpa using h2⟩
   have hsz:=inv.size;rw[show f+1+(l.toArray.size-n)=(f+(l.toArray.size-n))+1 from by omega];refine⟨fun h0=>?_,fun i hi=>?_⟩
   ·exfalso;obtain⟨i,⟨hin,Nw⟩,hmin⟩:=exists_least (p:=fun i=>i<n/\listed.getD i false=false) hun;obtain⟨o,p,ho,_,_,_⟩:=hop i hin;have:i∈Region.ready .any l.toArray listed:=by
     refine mem_ready.2 ⟨getD_in (by rw[hsz];omega) Nw,o,ho,fun e he hb=>?_⟩;have:=au.1 Gy i (bW.2 hin);simp only[ho,aX]at this;have:=rS.1 this.1.1 e he;simp only[hb,c8,rC,bO]at this;cases hl:listed.getD e.on false with
     |true=>rfl
     |false=>
      have:=hmin e.on ⟨by omega,hl⟩;omega
    rw[h0]at this;cases this
   ·obtain⟨i0,hi0,hl0⟩:=hun;have hin:i<n:=by
     rcases dL i n with h|h
     ·exact h
     ·rcases hsc with he|⟨hn2,Zp,hchain⟩
      ·obtain⟨_,oi,Zi,_⟩:=mem_ready.1 hi;have:=(az.1 Zi).1;omega
      ·exact absurd hi (tail_waits Zp hchain hn2 inv _ i0 rfl hi0 (getD_in (by rw[hsz];omega) hl0) i h)
    obtain⟨o,p,ho,hp,hd,hc,_⟩:=hop i hin;obtain⟨Nw,o',ho',hall⟩:=mem_ready.1 hi;rw[ho]at ho';cases ho';have xQ:=getD_both Nw;have V8:qJ P Γ l.toArray st.H σ' o p:=by
     refine qJ.congr (σ:=((ps.take i).filterMap Cp.sl).reverse++st.σ) (σ':=σ') ?_ hc;intro t ht;have Fc:=au.1 Gy i (bW.2 hin);simp only[ho,aX]at Fc;have Fc:=au.1 Fc.1.2 t ht;by_cases hex:∃(j:Nat) (q:Cp),ps[j]?=some q/\q.t=some t
     ·obtain⟨j,q,hq,HV⟩:=hex;have hj:j<n:=by have:=(aD.1 hq).1;omega
      obtain⟨oj,q',uG,Jc,hdj,_⟩:=hop j hj;rw[hq]at Jc;cases Jc;have:=au.1 Fc j (bW.2 hj);simp only[uG,hdj,HV,cw,c8,rC,aX,bO]at this;obtain⟨hji,Sc⟩:=this;obtain⟨oi',SU,e,he,hb,hon⟩:=Region.waitsFor_spec Sc;rw[ho]at SU;cases SU;have hjl:=hall e he hb;rw[hon]at hjl;rw[hA j q t hq HV hjl];refine EV ((ps.take i).filterMap Cp.sl).reverse st.σ (t,q.d) ?_ (fun q2 Ej ER=>Br j q t hq HV q2 ?_ ER)
      ·rw[dB];exact bt.2 ⟨q,aB (i:=j) (by rw[cH,bM hji];exact hq),by simp[Cp.sl,HV]⟩
      ·obtain⟨q3,O3,uH⟩:=bt.1 (dB.1 Ej);exact bt.2 ⟨q3,cM O3,uH⟩
     ·rw[hB t (fun j q hq _ he=>hex ⟨j,q,hq,he⟩),Bx];intro q hq he;obtain⟨q3,O3,uH⟩:=bt.1 (dB.1 hq);obtain⟨j,hj,Zn⟩:=dN.1 (cM O3);refine hex ⟨j,q3,by rw[<-Zn];exact aV hj,?_⟩;unfold Cp.sl at uH;cases hpt:q3.t with
      |none=>rw[hpt]at uH;cases uH
      |some u=>rw[hpt]at uH;simp only[cJ,ah]at uH;subst uH;simp only at he;rw[he]
    have hfp:=hfit i p hp;have SJ:∀id ob,p.up=some (id,ob)->∃v,κ id=some v:=by
     intro id ob he;rcases V8 with⟨_,_,h,_⟩|⟨_,_,_,_,T,x,y,id',ds,Ny,hx',_,_,_,_,PL⟩
     ·rw[h]at he;cases he
     ·rw[PL]at he;cases he;obtain⟨b1,r1,_⟩:=hs.ev x;rw[MG σ' H' st.H x,hx']at r1;obtain⟨g,hk,_⟩:=r1.xE;exact⟨_,hk⟩
    have SZ:∀id ob,p.up=some (id,ob)->∃zs ds,H'[id]?=some (.box zs)/\ob=.box ds/\zs.length=ds.length:=by
     intro id ob he;obtain⟨u1,⟨zs,ds,u2,u3,u4⟩,_⟩:=Kn i p id ob hp he;refine⟨zs,ds,?_,u2,u3⟩;obtain⟨i1,p1,j1,hp1,DU,hk1⟩:=vO (aD.1 u4).1;have O0:ps[i1]?=some p1:=by
      have:=(aD.1 hp1).1;rw[cH]at hp1;split at hp1
      ·exact hp1
      ·cases hp1
     have hi1:i1<i:=by have:=(aD.1 hp1).1;simp at this;omega
     have et:(ps.take i).take i1=ps.take i1:=by rw[qI,eD (by omega)]
     rw[et]at hk1;have e1:p1.r+j1=id:=by rw[O2 i1 p1 O0];omega
     have wY:p1.obs[j1]?=some (.box zs):=by
      rw[nJ hp1,et,hk1,av (by omega),ck,aj DU]at u4;exact u4
     have hl1:listed.getD i1 false=true:=by
      cases hl:listed.getD i1 false with
      |true=>rfl
      |false=>
       have h0:=PG i1 p1 O0 hl j1 DU;rw[e1]at h0;obtain⟨v,hv⟩:=SJ id ob he;rw[h0]at hv;cases hv
     have:=PI i1 p1 O0 hl1 j1 _ wY (fun i2 q xj hq hl ER=>by
      rw[e1]at ER;have:=Sa i i2 p q id ob xj hp hq he ER;subst this;rw[xQ]at hl;cases hl)
     rw[e1]at this;exact this
    refine V8.wp hs RM ho (by omega) (fun j hj=>PG i p hp xQ j hj) SZ fun κ' Θ' a' w' hs' hsame=>?_
    have oD:∀(j:Nat),(listed.setIfInBounds i true).getD j false=true↔(j=i\/listed.getD j false=true):=by
     intro j;by_cases e:i=j
     ·subst e;have:i<listed.size:=by rw[hsz];omega
      simp[this]
     ·rw[getD_set_ne false e];constructor
      ·exact .inr
      ·rintro(rfl|h)
       ·exact absurd rfl e
       ·exact h
    have hput:(p.xW H').length=H'.length:=by
     unfold Cp.xW;split
     ·simp
     ·exact qj (by omega)
    have Xg:∀(k:Nat),k<st.H.length->(p.xW H')[k]?=H'[k]?:=by
     intro k hk;unfold Cp.xW;split
     ·rename_i id ob he;have:=(Kn i p id ob hp he).1;rw[bw (by omega)]
     ·rw[qi (by omega),bM (by rw[O2 i p hp];omega)]
    refine ih (listed.setIfInBounds i true) (p.slot σ') (p.xW H') κ' Θ' a' w' (inv.set hi hin) ?_ ?_ ?_ (by rw[hput];exact WQ) ?_ ?_ ?_ ?_ hs'
    ·have QW:((List.range n).filter fun j=> !(listed.setIfInBounds i true).getD j false)=((List.range n).filter fun j=> !listed.getD j false).erase i:=by
      have hnd:((List.range n).filter fun j=> !listed.getD j false).Nodup:=tg _ xo;rw[hnd.erase_eq_filter,vY];apply x6;intro j _;by_cases e:j=i
      ·subst e;have:=(oD j).2 (.inl rfl);rw[this];simp
      ·rw[getD_set_ne false (oJ e)];simp[e]
     rw[QW,nC (fV.2 ⟨bW.2 hin,by simp[xQ]⟩),lK];rfl
    ·intro j q t hq HV hl;unfold Cp.slot;rcases(oD j).1 hl with rfl|zW
     ·rw[hp]at hq;cases hq;rw[HV];simp[lk]
     ·cases hpt:p.t with
      |none=>exact hA j q t hq HV zW
      |some u=>
       simp only[lk];rw[b9,hA j q t hq HV zW];intro e;have:=hdist j i q p t hq hp HV (by rw[hpt,e]);subst this;rw[xQ]at zW;cases zW
    ·intro t ht;unfold Cp.slot;have p8:=hB t (fun j q hq hl=>ht j q hq ((oD j).2 (.inr hl)));cases hpt:p.t with
     |none=>exact p8
     |some u=>
      simp only[lk];rw[b9 (fun e=>ht i p hp ((oD i).2 (.inl rfl)) (by rw[hpt,e]))];exact p8
    ·intro j y hj;rw[Xg j (aD.1 hj).1];exact RM j y hj
    ·intro j q hq hl k y hy hno;have Ze:=(aD.1 hy).1;unfold Cp.xW;split
     ·rename_i id ob he;have hne:q.r+k≠id:=fun e=>hno i p ob hp ((oD i).2 (.inl rfl)) (by rw[e];exact he)
      rw[bw (oJ hne)];rcases(oD j).1 hl with rfl|zW
      ·rw[hp]at hq;cases hq;rw[Sb j p id ob hp he]at hy;simp at hy
      ·exact PI j q hq zW k y hy (fun i2 q2 xj Ej Xe=>hno i2 q2 xj Ej ((oD i2).2 (.inr Xe)))
     ·rw[qi (by omega)];rcases(oD j).1 hl with rfl|zW
      ·rw[hp]at hq;cases hq;rw[b9 (by omega),bM (by omega),ck];exact hy
      ·have hne:j≠i:=fun e=>by subst e;rw[xQ]at zW;cases zW
       have h3:=PI j q hq zW k y hy (fun i2 q2 xj Ej Xe=>hno i2 q2 xj Ej ((oD i2).2 (.inr Xe)));rcases rT hne with h|h
       ·have:=Kj j i q p hq hp h;rw[bM (by omega)];exact h3
       ·have:=Kj i j p q hp hq h;rw[b9 (by omega),b9 (by omega)];exact h3
    ·intro j q id ob hq hl he;rcases(oD j).1 hl with rfl|zW
     ·rw[hp]at hq;cases hq;obtain⟨zs,ds,z1,_⟩:=SZ id ob he;have hlt:=(aD.1 z1).1;refine⟨by simp only[Cp.xW,he];rw[cx hlt],?_⟩;obtain⟨v,hv⟩:=SJ id ob he;refine⟨v,?_⟩;rw[hsame id (by rw[Sb j p id ob hp he];simp;omega)];exact hv
     ·obtain⟨h1,v,hv⟩:=UR j q id ob hq zW he;have hout:id<p.r\/p.r+p.obs.length<=id:=by
       rcases dL id p.r with h|h
       ·exact .inl h
       ·rcases dL id (p.r+p.obs.length)with h2|h2
        ·have:=PG i p hp xQ (id-p.r) (by omega);rw[show p.r+(id-p.r)=id from by omega,hv]at this;cases this
        ·exact .inr h2
      refine⟨?_,v,by rw[hsame id hout];exact hv⟩;unfold Cp.xW;split
      ·rename_i id2 xj ER;have hne:id2≠id:=fun e=>by
        subst e;have:=Sa i j p q id2 xj ob hp hq ER he;subst this;rw[xQ]at zW;cases zW
       rw[bw hne];exact h1
      ·rw[qi (by omega)];rcases hout with h|h
       ·rw[bM h];exact h1
       ·rw[b9 (by omega),b9 (by omega)];exact h1
    ·intro j q hq hl k hk;have hne:j≠i:=fun e=>by
      subst e;have:=(oD j).2 (.inl rfl);rw[this]at hl;cases hl
     have zW:listed.getD j false=false:=by
      cases h:listed.getD j false with
      |false=>rfl
      |true=>have:=(oD j).2 (.inr h);rw[this]at hl;cases hl
     have h3:=PG j q hq zW k hk;rw[hsame,h3];rcases rT hne with h|h
     ·have:=Kj j i q p hq hp h;omega
     ·have:=Kj i j p q hp hq h;omega
 refine wp_region_any hm ?_;have YC:HeadInv .any l.toArray n (Array.replicate l.toArray.size false):=
  ⟨by simp,fun j oj _ hl=>(by rw[getD_replicate_false]at hl;cases hl),fun t _ ht=>getD_in (by simpa using ht) (getD_replicate_false _ _)⟩
 have lK:((List.range n).filter fun i=> !(Array.replicate l.toArray.size false).getD i false).length=n:=by
  rw[List.filter_eq_self.2]
  ·simp
  ·intro i _;rw[getD_replicate_false];rfl
 have:=main n (Array.replicate l.toArray.size false) st.σ (st.H++List.replicate (ps.flatMap Cp.obs).length .gone) κ Θ a w.drew YC lK (fun i p t _ _ hl=>by rw[getD_replicate_false]at hl;cases hl) (fun t _=>rfl)
  (by simp) (fun i o h=>by rw[aj (aD.1 h).1];exact h) (fun i p _ hl=>by rw[getD_replicate_false]at hl;cases hl)
  (fun i q id ob _ hl=>by rw[getD_replicate_false]at hl;cases hl)
  (fun i p hp _ j _=>hs.mT _ (by rw[O2 i p hp];omega)) (hs.drew.room _)
 rw[show n+(l.toArray.size-n)=l.toArray.size from by omega]at this;exact this
end
end Go.Cx
namespace Go.Cx
open Go.RowKit
def pos(o:aP)(i:Nat):Option Nat:=ix (fun j=>j==i) o
def D.PY(o:aP)(d:D):D:=match d with
 | .acc i=>(match pos o i with|some j=>.acc j|none=>.any)
 | .ptr i off=>(match pos o i with|some j=>.ptr j off|none=>.any)
 | .op i a b c=>(match pos o i with|some j=>.op j a b c|none=>.any)
 |d=>d
def D.X4(o:aP)(d:D):D:=match d with
 | .agg cs=>.agg (cs.map (D.PY o))
 |d=>d.PY o
def D.PZ(o:aP)(d:D):D:=match d with
 | .iE vs=>.iE (vs.map (D.X4 o))
 |d=>d.X4 o
def Ob.rn(o:aP)(x:Ob):Ob:=match x with
 | .box cells=>.box (cells.map (D.PY o))
 | .Gj cells v=>.Gj (cells.map (D.PY o)) v
 | .hole _ _ _ _ _=>.gone
 |x=>x
def St.zT(st:St)(K o:aP):St:=⟨K.map fun t=>(t,(lk st.σ t).PZ o),o.map fun i=>((st.H[i]?).getD .gone).rn o⟩
section
variable{P:Program}{Γ:pG}{Q:Exit->St->Prop}{st:St}{κ κ':Nat->Option Value}{Θ Θ':Nat->Nat}{a:Act}{w:World}{o:aP}
theorem K9:∀ {o:aP},o.Nodup->∀(i j x:Nat),o[i]?=some x->o[j]?=some x->i=j:=by
 intro o
 induction o with
 |nil=>intro _ i j x h;simp at h
 |cons y o ih=>
  intro hnd i j x hi hj;obtain⟨h1,h2⟩:=eo.1 hnd;cases i with
  |zero=>
   cases j with
   |zero=>rfl
   |succ j=>simp at hi hj;subst hi;exact absurd (aB hj) h1
  |succ i=>
   cases j with
   |zero=>simp at hi hj;subst hj;exact absurd (aB hi) h1
   |succ j=>simp at hi hj;rw[ih h2 i j x hi hj]
theorem LA{i j:Nat}(h:pos o i=some j):o[j]?=some i:=by
 obtain⟨x,h1,h2⟩:=td h;simp only[cR]at h2;subst h2;exact h1
theorem OT{i j:Nat}(hnd:o.Nodup)(h:o[j]?=some i):pos o i=some j:=
 zG h (by simp) (fun k y hk hy=>by
  simp only[cR]at hy;subst hy;obtain⟨h1,h2⟩:=aD.1 h;obtain⟨h3,h4⟩:=aD.1 hk;exact K9 hnd k j _ hk h)
section
variable(hk:∀(i j:Nat) v,pos o i=some j->κ i=some v->κ' j=some v)(uN:∀b,Θ b=0->Θ' b=0)
include hk uN
theorem vR.rn{v:Value}{d:D}{bs:aP}(h:vR w κ v d bs)(hz:∀b∈bs,Θ b=0):∃b',vR w κ' v (d.PY o) b'/\∀b∈b',Θ' b=0:=by
 cases h with
 |pure h=>
  have e:d.PY o=d:=by cases h<;>rfl
  rw[e];exact⟨bs,.pure h,fun b hb=>uN b (hz b hb)⟩
 |acc i v hi=>
  simp only[D.PY];cases hp:pos o i with
  |none=>exact⟨[],.pure (.any _),by simp⟩
  |some j=>exact⟨[],.acc j v (hk i j v hp hi),by simp⟩
 |ptr i off b hi=>
  simp only[D.PY];cases hp:pos o i with
  |none=>exact⟨[],.pure (.any _),by simp⟩
  |some j=>exact⟨[],.ptr j off b (hk i j _ hp hi),by simp⟩
 |op i x sz off b o0 len cap hi=>
  simp only[D.PY];cases hp:pos o i with
  |none=>exact⟨[],.pure (.any _),by simp⟩
  |some j=>exact⟨[],.op j x sz off b o0 len cap (hk i j _ hp hi),by simp⟩
theorem eN.rn{vs:bY}{ds:aK}{bs:aP}(h:eN w κ vs ds bs)(hz:∀b∈bs,Θ b=0):∃b',eN w κ' vs (ds.map (D.PY o)) b'/\∀b∈b',Θ' b=0:=by
 induction h with
 |nil=>exact⟨[],.nil,by simp⟩
 |cons v vs d ds b1 b2 h1 h2 _ ih=>
  obtain⟨c1,q1,q2⟩:=vR.rn hk uN h2 (fun b hb=>hz b (by simp[hb]));obtain⟨c2,p1,p2⟩:=ih (fun b hb=>hz b (by simp[hb]));refine⟨c1++c2,.cons _ _ _ _ _ _ h1 q1 p1,fun b hb=>?_⟩;rcases aU.1 hb with hb|hb
  ·exact q2 b hb
  ·exact p2 b hb
theorem I0.rn{v:Value}{d:D}{bs:aP}(h:I0 w κ v d bs)(hz:∀b∈bs,Θ b=0):∃b',I0 w κ' v (d.X4 o) b'/\∀b∈b',Θ' b=0:=by
 cases h with
 |cell h=>
  by_cases qG:∃ds,d=.agg ds
  ·obtain⟨ds,rfl⟩:=qG;cases h with
   |pure h=>
    cases h with
    |agg cs _ _ h=>
     obtain⟨b',q1,q2⟩:=eN.rn hk uN (eN.zY (κ:=κ) h) hz;exact⟨b',.agg _ _ _ q1,q2⟩
  ·have e:d.X4 o=d.PY o:=by cases d<;>first|rfl|exact absurd ⟨_,rfl⟩ qG
   rw[e];obtain⟨b',q1,q2⟩:=vR.rn hk uN h hz;exact⟨b',.cell q1,q2⟩
 |agg cs ds bs h=>
  obtain⟨b',q1,q2⟩:=eN.rn hk uN h hz;exact⟨b',.agg _ _ _ q1,q2⟩
theorem yd.rn{vs:bY}{ds:aK}{bs:aP}(h:yd w κ vs ds bs)(hz:∀b∈bs,Θ b=0):∃b',yd w κ' vs (ds.map (D.X4 o)) b'/\∀b∈b',Θ' b=0:=by
 induction h with
 |nil=>exact⟨[],.nil,by simp⟩
 |cons v vs d ds b1 b2 h2 _ ih=>
  obtain⟨c1,q1,q2⟩:=I0.rn hk uN h2 (fun b hb=>hz b (by simp[hb]));obtain⟨c2,p1,p2⟩:=ih (fun b hb=>hz b (by simp[hb]));refine⟨c1++c2,.cons _ _ _ _ _ _ q1 p1,fun b hb=>?_⟩;rcases aU.1 hb with hb|hb
  ·exact q2 b hb
  ·exact p2 b hb
theorem oK.rn{v:Value}{d:D}{bs:aP}(h:oK w κ v d bs)(hz:∀b∈bs,Θ b=0):∃b',oK w κ' v (d.PZ o) b'/\∀b∈b',Θ' b=0:=by
 cases h with
 |v h=>
  have hnt:∀vs,d≠ .iE vs:=by
   intro vs e;subst e;cases h with
   |cell h=>cases h with|pure h=>cases h
  have e:d.PZ o=d.X4 o:=by cases d<;>first|rfl|exact absurd rfl (hnt _)
  rw[e];obtain⟨b',q1,q2⟩:=I0.rn hk uN h hz;exact⟨b',.v q1,q2⟩
 |iE vs ds bs h=>
  obtain⟨b',q1,q2⟩:=yd.rn hk uN h hz;exact⟨b',.iE _ _ _ q1,q2⟩
end
theorem T6(σ:List (Nat×D))(K:aP)(f:D->D)(t:Nat):lk (K.map fun t=>(t,f (lk σ t))) t=if t∈K then f (lk σ t)else .any:=by
 induction K with
 |nil=>simp[lk]
 |cons u K ih=>
  simp only[bI,lk];by_cases e:t=u
  ·subst e;simp
  ·rw[b9 e,ih];simp[e]
theorem cz.zT(hs:cz Γ st κ Θ a w)(K o:aP)(hnd:o.Nodup):∃κ' Θ',cz Γ (st.zT K o) κ' Θ' a w:=by
 let κ':Nat->Option Value:=fun j=>(o[j]?).bind κ
 let Θ':Nat->Nat:=fun b=>if Θ b<=1 then Θ b else match pos o (Θ b-2)with|some j=>j+2|none=>1
 have uN:∀b,Θ b=0->Θ' b=0:=fun b h=>by simp[Θ',h]
 have hk:∀(i j:Nat) v,pos o i=some j->κ i=some v->κ' j=some v:=fun i j v h1 h2=>by simp[κ',LA h1,h2]
 have hk2:∀(i j:Nat),o[j]?=some i->κ' j=κ i:=fun i j h=>by simp[κ',h]
 have Je:∀b (i j:Nat),o[j]?=some i->Θ b=i+2->Θ' b=j+2:=by
  intro b i j hj h;simp only[Θ'];rw[b9 (by omega),h,vZ,OT hnd hj]
 have key:∀(j:Nat) x,(st.zT K o).H[j]?=some x->∃i,o[j]?=some i/\((st.H[i]?=none/\x=.gone)\/∃y,st.H[i]?=some y/\x=y.rn o):=by
  intro j x hj;simp only[St.zT,bg]at hj;cases ho:o[j]? with
  |none=>simp[ho]at hj
  |some i=>
   simp only[ho,cJ,ah]at hj;refine⟨i,rfl,?_⟩;cases hH:st.H[i]? with
   |none=>rw[hH]at hj;exact .inl ⟨rfl,hj.symm⟩
   |some y=>rw[hH]at hj;exact .inr ⟨y,rfl,hj.symm⟩
 obtain⟨ρ,hu⟩:=hs.qA;let ρ':Nat->Nat:=fun b=>if ρ b=0 then 0 else match pos o (ρ b-1)with|some j=>j+1|none=>0
 refine⟨κ',Θ',hs.defers,hs.size,?_,?_,?_,?_,?_,?_,?_,hs.stays,ρ',?_,?_,?_⟩
 ·intro i hi;simp only[St.zT,ai]at hi;simp[κ',cD hi]
 ·intro i u sr;simp only[κ']at sr;cases ho:o[i]? with
  |none=>simp[ho]at sr
  |some j=>simp[ho]at sr;exact hs.lM j u sr
 ·intro t;show∃bs,oK w κ' _ (lk (K.map fun t=>(t,(lk st.σ t).PZ o)) t) bs/\_;rw[T6 st.σ K (fun d=>d.PZ o) t];split
  ·obtain⟨bs,hr,hz⟩:=hs.slot t;exact oK.rn hk uN hr hz
  ·exact⟨[],.of (.any _),by simp⟩
 ·intro j x hj;obtain⟨i,ho,⟨_,rfl⟩|⟨y,hH,rfl⟩⟩:=key j x hj
  ·trivial
  ·have wY:=hs.ob i y hH;cases y with
   |gone=>trivial
   |hole=>trivial
   |tk rows=>
    obtain⟨v,bs,q1,q2,q3⟩:=wY;exact⟨v,bs,by rw[hk2 i j ho];exact q1,q2,fun b hb=>uN b (q3 b hb)⟩
   |mp kv=>
    obtain⟨g,es,c,q1,q2,q3,q4⟩:=wY;exact⟨g,es,c,by rw[hk2 i j ho];exact q1,q2,Je g i j ho q3,q4⟩
   |eE sz rows u=>
    obtain⟨q1,q0,v,bs,q2,q3,q4,q5⟩:=wY;exact⟨q1,fun x hx=>by rw[hk2 i j ho];exact q0 x hx,v,bs,by rw[hk2 i j ho];exact q2,q3,q4,fun b hb=>⟨Je b i j ho (q5 b hb).1,(q5 b hb).2⟩⟩
   |box cells=>
    obtain⟨g,cs,T,q1,q2,q3,bs,q4,q5⟩:=wY;obtain⟨b',p1,p2⟩:=eN.rn hk uN q4 q5;exact⟨g,cs,T,by rw[hk2 i j ho];exact q1,q2,Je g i j ho q3,b',p1,p2⟩
   |Gj cells u=>
    obtain⟨q0,g,cs,T,q1,q2,q3,bs,q4,q5⟩:=wY;obtain⟨b',p1,p2⟩:=eN.rn hk uN q4 q5;exact⟨by rw[hk2 i j ho];exact q0,g,cs,T,by rw[hk2 i j ho];exact q1,q2,Je g i j ho q3,b',p1,p2⟩
   |row k e sz rows=>
    obtain⟨q1,q2,v,cs,bs,q3,q4,q5,q6,q7⟩:=wY;refine⟨q1,q2,v,cs,bs,by rw[hk2 i j ho];exact q3,q4,q5,fun g hg=>Je g i j ho (q6 g hg),?_⟩;cases k with
    |cl=>exact⟨q7.1,fun b hb=>⟨Je b i j ho (q7.2.1 b hb).1,(q7.2.1 b hb).2⟩,q7.2.2⟩
    |sh=>exact fun b hb=>uN b (q7 b hb)
    |uq=>exact fun b hb=>uN b (q7 b hb)
    |mv n=>exact fun b hb=>uN b (q7 b hb)
 ·intro b hb;exact hs.own b (fun h=>hb (uN b h))
 ·intro b hb hx;obtain⟨h1,h2⟩:=hs.old b hb hx;simp only[Θ'];rw[bM h2];exact⟨h1,h2⟩
 ·intro b hb;refine hs.mine b ?_;simp only[Θ']at hb;split at hb<;>omega
 ·intro b hb;have hb':ρ b≠0:=fun h=>hb (by simp[ρ',h])
  obtain⟨h1,h2⟩:=hu.free b hb';exact⟨uN b h1,h2⟩
 ·intro j e sz rows hj;obtain⟨i,ho,⟨_,h⟩|⟨y,hH,h⟩⟩:=key j _ hj
  ·cases h
  ·have hy:y=.row .uq e sz rows:=by cases y<;>first| (simp only[Ob.rn]at h;exact h.symm)|cases h
   subst hy;obtain⟨v,cs,bs,q1,q2,q3,q4,q5⟩:=hu.rows i e sz rows hH;refine⟨v,cs,bs,by rw[hk2 i j ho];exact q1,q2,q3,q4,fun b hb=>?_⟩;simp only[ρ'];rw[q5 b hb,b9 (by omega),vZ,OT hnd ho]
 ·intro j x hj;obtain⟨i,ho,⟨_,h⟩|⟨y,hH,h⟩⟩:=key j _ hj
  ·subst h;trivial
  ·have hm:=hu.more i y hH;have Zw:∀b,ρ b=i+1->ρ' b=j+1:=fun b hb=>by
    simp only[ρ'];rw[hb,b9 (by omega),vZ,OT hnd ho]
   subst h;cases y with
   |tk rows=>
    obtain⟨v,bs,q1,q2,q3,q4⟩:=hm;exact⟨v,bs,by rw[hk2 i j ho];exact q1,q2,q3,fun b hb=>Zw b (q4 b hb)⟩
   |row k e sz rows=>
    cases k with
    |mv n=>
     obtain⟨v,cs,bs,q1,q2,q3,q4,q5⟩:=hm;exact⟨v,cs,bs,by rw[hk2 i j ho];exact q1,q2,q3,q4,fun b hb=>Zw b (q5 b hb)⟩
    |_=>trivial
   |_=>trivial
end
end Go.Cx
namespace Go.Cx
open Go.RowKit
abbrev Rw:=Nat×List (List D)
def Rw.ob(x:Rw)(v:Option Value):Ob:=.eE x.1 x.2 v
def x8(w:World)(κ:Nat->Option Value):Nat->List Rw->aP->Prop
 |_,[],us=>us=[]
 |n,x::xs,us=>∃v bs RE,κ n=some v/\(∀r∈x.2,r.length=x.1)/\Rd w v (.sl x.2) bs/\us=bs++RE/\x8 w κ (n+1) xs RE
def oF(P:Program)(f:FuncId)(ds:aK)(ins outs:List Rw)(d:D):Prop:=
 (∃fn,P.funcs[f]?=some fn/\fn.body.isSome=true/\(fn.name== "runtime.NumGoroutine")=false)/\outs.length=ins.length/\d.flat=true/\
 ∀(w:World) (κ:Nat->Option Value) (args:bY) (us:aP),JR w (fun b=>b∈us)->args.length=ds.length->(∀(i:Nat) d,ds[i]?=some d->∃v,args[i]?=some v/\oK w κ v d [])->
  (∀i,ins.length<=i->κ i=none)->(∀(i:Nat) u,κ i=some u->u.oneCell'=true)->x8 w κ 0 ins us->us.Nodup->(∀b∈us,Wr w b)->
  Calls P f args.toArray w (fun e w'=>∃v RE,e=.returned v/\Rd w' v d []/\x8 w' κ 0 outs RE/\RE.Nodup/\(∀b∈RE,(b∈us\/w.heap.size<=b)/\Wr w' b)/\
   w'.os=w.os/\w'.tape=w.tape/\w'.output=w.output/\w.heap.size<=w'.heap.size/\∀b,b<w.heap.size->b∉us->w'.heap[b]?=w.heap[b]?)
section
variable{P:Program}{Γ:pG}{Q:Exit->St->Prop}{st:St}{κ κ':Nat->Option Value}{Θ Θ':Nat->Nat}{a:Act}{w w':World}{all:Array Oper}{rest:List Oper}
theorem x8.at:∀ {xs:List Rw} {n:Nat} {us:aP},x8 w κ n xs us->∀(i:Nat) x,xs[i]?=some x->∃v bs,κ (n+i)=some v/\(∀r∈x.2,r.length=x.1)/\Rd w v (.sl x.2) bs/\∀b∈bs,b∈us:=by
 intro xs
 induction xs with
 |nil=>intro n us _ i x hx;simp at hx
 |cons y ys ih=>
  intro n us h i x hx;obtain⟨v,bs,RE,h1,h2,h3,rfl,h5⟩:=h;cases i with
  |zero=>simp at hx;subst hx;exact⟨v,bs,h1,h2,h3,fun b hb=>by simp[hb]⟩
  |succ i=>
   simp at hx;obtain⟨v',bs',q1,q2,q3,q4⟩:=ih h5 i x hx;exact⟨v',bs',by rw[<-q1];congr 1;omega,q2,q3,fun b hb=>by simp[q4 b hb]⟩
theorem x8.parts:∀ {xs:List Rw} {n:Nat} {us:aP},x8 w κ n xs us->∃L:List aP,L.length=xs.length/\us=L.flatten/\∀(i:Nat) x bs,xs[i]?=some x->L[i]?=some bs->∃v,κ (n+i)=some v/\(∀r∈x.2,r.length=x.1)/\Rd w v (.sl x.2) bs:=by
 intro xs
 induction xs with
 |nil=>intro n us h;exact⟨[],rfl,by simpa[x8]using h,by simp⟩
 |cons y ys ih=>
  intro n us h;obtain⟨v,bs,RE,h1,h2,h3,rfl,h5⟩:=h;obtain⟨L,q1,rfl,q3⟩:=ih h5;refine⟨bs::L,by simp[q1],by simp,?_⟩;intro i x b hx hb;cases i with
  |zero=>simp at hx hb;subst hx;subst hb;exact⟨v,h1,h2,h3⟩
  |succ i=>
   simp at hx hb;obtain⟨v',r1,r2,r3⟩:=q3 i x b hx hb;exact⟨v',by rw[<-r1];congr 1;omega,r2,r3⟩
theorem x8.of:∀ {xs:List Rw} {n:Nat} {L:List aP},L.length=xs.length->(∀(i:Nat) x bs,xs[i]?=some x->L[i]?=some bs->∃v,κ (n+i)=some v/\(∀r∈x.2,r.length=x.1)/\Rd w v (.sl x.2) bs)->x8 w κ n xs L.flatten:=by
 intro xs
 induction xs with
 |nil=>
  intro n L hl _;have:L=[]:=cS (by simpa using hl);subst this;rfl
 |cons y ys ih=>
  intro n L hl h;cases L with
  |nil=>simp at hl
  |cons bs L=>
   obtain⟨v,h1,h2,h3⟩:=h 0 y bs rfl rfl;refine⟨v,bs,L.flatten,h1,h2,h3,by simp,ih (by simpa using hl) ?_⟩;intro i x b hx hb;obtain⟨v',r1,r2,r3⟩:=h (i+1) x b (by simpa using hx) (by simpa using hb);exact⟨v',by rw[<-r1];congr 1;omega,r2,r3⟩
theorem cz.forget(hs:cz Γ st κ Θ a w)(ms:aP):cz Γ ⟨st.σ,kill st.H ms⟩ κ (fun b=>if ms.any (fun m=>Θ b==m+2)then st.H.length+2 else Θ b) a w:=by
 have h0:∀b,Θ b=0->(if ms.any (fun m=>Θ b==m+2)then st.H.length+2 else Θ b)=0:=by
  intro b hb;rw[b9,hb];intro h;obtain⟨m,_,hm⟩:=cW.1 h;simp[hb]at hm
 have hk:∀(j:Nat) o,(kill st.H ms)[j]?=some o->o=.gone\/(j∉ms/\st.H[j]?=some o):=fun j o h=>lF h
 have hold:∀b j,j∉ms->Θ b=j+2->(if ms.any (fun m=>Θ b==m+2)then st.H.length+2 else Θ b)=j+2:=by
  intro b j hj hb;rw[b9,hb];intro h;obtain⟨m,hm,he⟩:=cW.1 h;simp only[hb,cR]at he;exact hj (by
   have:j=m:=by omega
   rw[this];exact hm)
 obtain⟨ρ,hu⟩:=hs.qA;refine⟨hs.defers,hs.size,fun i hi=>hs.mT i (by simpa[eX]using hi),hs.lM,?_,?_,?_,?_,?_,hs.stays,ρ,?_,?_,?_⟩
 ·intro t;obtain⟨bs,hr,hz⟩:=hs.slot t;exact⟨bs,hr,fun b hb=>h0 b (hz b hb)⟩
 ·intro j o hj;rcases hk j o hj with rfl|⟨hn,hj'⟩
  ·trivial
  ·have wY:=hs.ob j o hj';cases o with
   |gone=>trivial
   |tk rows=>
    obtain⟨v,bs,q1,q2,q3⟩:=wY;exact⟨v,bs,q1,q2,fun b hb=>h0 b (q3 b hb)⟩
   |box cells=>
    obtain⟨g,cs,T,q1,q2,q3,bs,q4,q5⟩:=wY;exact⟨g,cs,T,q1,q2,hold g j hn q3,bs,q4,fun b hb=>h0 b (q5 b hb)⟩
   |Gj cells u=>
    obtain⟨q0,g,cs,T,q1,q2,q3,bs,q4,q5⟩:=wY;exact⟨q0,g,cs,T,q1,q2,hold g j hn q3,bs,q4,fun b hb=>h0 b (q5 b hb)⟩
   |row k e sz rows=>
    obtain⟨q1,q2,v,cs,bs,q3,q4,q5,q6,q7⟩:=wY;refine⟨q1,q2,v,cs,bs,q3,q4,q5,fun g hg=>hold g j hn (q6 g hg),?_⟩;cases k with
    |cl=>exact⟨q7.1,fun b hb=>⟨hold b j hn (q7.2.1 b hb).1,(q7.2.1 b hb).2⟩,q7.2.2⟩
    |sh=>exact fun b hb=>h0 b (q7 b hb)
    |uq=>exact fun b hb=>h0 b (q7 b hb)
    |mv n=>exact fun b hb=>h0 b (q7 b hb)
   |eE sz rows u=>
    obtain⟨q1,q0,v,bs,q2,q3,q4,q5⟩:=wY;exact⟨q1,q0,v,bs,q2,q3,q4,fun b hb=>⟨hold b j hn (q5 b hb).1,(q5 b hb).2⟩⟩
   |hole sz rows u p n=>
    obtain⟨q1,q0,v,bs,q2,q3,q4,q5⟩:=wY;exact⟨q1,q0,v,bs,q2,q3,q4,fun b hb=>⟨hold b j hn (q5 b hb).1,(q5 b hb).2⟩⟩
   |mp kv=>
    obtain⟨g,es,c,q1,q2,q3,q4⟩:=wY;exact⟨g,es,c,q1,q2,hold g j hn q3,q4⟩
 ·intro b hb;refine hs.own b fun h=>hb ?_
  exact h0 b h
 ·intro b hb hx;obtain⟨h1,h2⟩:=hs.old b hb hx;have:(if ms.any (fun m=>Θ b==m+2)then st.H.length+2 else Θ b)=Θ b:=by
   rw[b9];intro h;obtain⟨m,_,hm⟩:=cW.1 h;simp only[cR]at hm;omega
  show(if ms.any (fun m=>Θ b==m+2)then st.H.length+2 else Θ b)=_/\(if ms.any (fun m=>Θ b==m+2)then st.H.length+2 else Θ b)<=1;rw[this];exact⟨h1,h2⟩
 ·intro b hb;refine hs.mine b ?_;by_cases h:ms.any (fun m=>Θ b==m+2)=true
  ·obtain⟨m,_,hm⟩:=cW.1 h;simp only[cR]at hm;omega
  ·simp only[h]at hb;simpa using hb
 ·intro b hb;obtain⟨h1,h2⟩:=hu.free b hb;exact⟨h0 b h1,h2⟩
 ·intro id e sz rows hj;rcases hk id _ hj with h|⟨_,h⟩
  ·cases h
  ·exact hu.rows id e sz rows h
 ·intro id o hj;rcases hk id _ hj with h|⟨_,h⟩
  ·subst h;trivial
  ·exact hu.more id o h
def lv(H:bJ)(m:Nat):Option Value:=match H[m]? with|some (.eE _ _ v)=>v|_=>none
def LB:bJ->aP->List Rw->bJ
 |H,m::ms,x::xs=>LB (H.set m (x.ob (lv H m))) ms xs
 |H,_,_=>H
theorem HD:∀(H:bJ) (ms:aP) (xs:List Rw),(LB H ms xs).length=H.length:=by
 intro H ms
 induction ms generalizing H with
 |nil=>intro xs;cases xs<;>rfl
 |cons m ms ih=>intro xs;cases xs with|nil=>rfl|cons x xs=>simp[LB,ih]
theorem TO:∀ {H:bJ} {ms:aP} {xs:List Rw} {j:Nat} {y:Ob},ms.Nodup->xs.length=ms.length->(LB H ms xs)[j]?=some y->(∃(i:Nat) (x:Rw),ms[i]?=some j/\xs[i]?=some x/\y=x.ob (lv H j))\/(j∉ms/\H[j]?=some y):=by
 intro H ms
 induction ms generalizing H with
 |nil=>intro xs j y _ _ h;cases xs<;>exact .inr ⟨by simp,h⟩
 |cons m ms ih=>
  intro xs j y hnd hl h;cases xs with
  |nil=>simp at hl
  |cons x xs=>
   obtain⟨n1,n2⟩:=eo.1 hnd;rcases ih n2 (by simpa using hl) h with⟨i,z,h1,h2,h3⟩|⟨h1,h2⟩
   ·refine .inl ⟨i+1,z,by simpa using h1,by simpa using h2,?_⟩;rw[h3];have hne:m≠j:=fun e=>n1 (by rw[e];exact aB h1)
    simp only[lv,bw hne]
   ·rcases vQ j y h2 with⟨rfl,rfl⟩|⟨h3,h4⟩
    ·exact .inl ⟨0,x,rfl,rfl,rfl⟩
    ·exact .inr ⟨by simp[h1,h3],h4⟩
def Ik(H:bJ):aP->Option (List Rw)
 | []=>some []
 |m::ms=>match H[m]?,Ik H ms with|some (.eE sz rows _),some xs=>some ((sz,rows)::xs)|_,_=>none
theorem OD{H:bJ}:∀ {ms:aP} {xs:List Rw},Ik H ms=some xs->xs.length=ms.length/\∀(i m:Nat) x,ms[i]?=some m->xs[i]?=some x->∃v,H[m]?=some (x.ob v):=by
 intro ms
 induction ms with
 |nil=>intro xs h;cases h;simp
 |cons m ms ih=>
  intro xs h;simp only[Ik]at h;split at h
  ·rename_i sz rows u ys h1 h2;cases h;obtain⟨q1,q2⟩:=ih h2;refine⟨by simp[q1],?_⟩;intro i m' x hm hx;cases i with
   |zero=>simp at hm hx;subst hm;subst hx;exact⟨u,h1⟩
   |succ i=>exact q2 i m' x (by simpa using hm) (by simpa using hx)
  ·cases h
def D.DQ(d:D):Bool:=match d with
 | .acc _=>true
 |d=>d.flat
def D.bare(d:D):Bool:=match d with
 | .agg cs=>cs.all D.DQ
 |d=>d.DQ
theorem vR.Hi{v:Value}{d:D}{bs:aP}(h:vR w κ v d bs)(hf:d.DQ=true):bs=[]:=by
 cases h with
 |pure h=>
  refine h.flat ?_;cases h<;>exact hf
 |_=>rfl
theorem eN.Hi{vs:bY}{ds:aK}{bs:aP}(h:eN w κ vs ds bs)(hf:ds.all D.DQ=true):bs=[]:=by
 induction h with
 |nil=>rfl
 |cons v vs d ds b1 b2 h1 h2 _ ih=>
  simp only[dD,aX]at hf;rw[h2.Hi hf.1,ih hf.2];rfl
theorem oK.P0{v:Value}{d:D}{bs:aP}(h:oK w κ v d bs)(hf:d.bare=true):bs=[]:=by
 cases h with
 |v h=>
  cases h with
  |cell h=>
   cases h with
   |pure h=>
    cases h with
    |agg cs ds _ h=>exact eN.Hi (eN.zY (κ:=κ) h) hf
    |_=>first|rfl|exact absurd hf (by simp[D.bare,D.DQ,D.flat])
   |_=>rfl
  |agg cs ds bs h=>exact h.Hi hf
 |iE=>simp[D.bare,D.DQ,D.flat]at hf
theorem D.Rs(o:aP){c:D}(h:c.DQ=true):(c.PY o).DQ=true:=by
 cases c with
 |acc m=>simp only[D.PY];cases pos o m<;>rfl
 |_=>first|exact h| (simp[D.DQ,D.flat]at h)
theorem D.P3(o:aP){d:D}(h:d.bare=true):(d.PZ o).bare=true:=by
 cases d with
 |agg cs=>
  simp only[D.PZ,D.X4,D.bare,Ek]at h⊢;rw[au]at h⊢;intro c hcm;exact D.Rs o (h c hcm)
 |acc m=>simp only[D.PZ,D.X4,D.PY];cases pos o m<;>rfl
 |_=>first|exact h| (simp[D.bare,D.DQ,D.flat]at h)
theorem Gx{L:List aP}(h:L.flatten.Nodup):∀(i j:Nat) x y b,L[i]?=some x->L[j]?=some y->b∈x->b∈y->i=j:=by
 intro i j x y b hi hj hx hy;have:=sE (f:=fun l:aP=>l) (l:=L) (by simpa[List.flatMap_id]using h);exact this i j x y b hi hj hx hy
theorem IT{L:List aP}(h:L.flatten.Nodup):∀x∈L,x.Nodup:=by
 induction L with
 |nil=>intro x hx;cases hx
 |cons y L ih=>
  intro x hx;simp only[dR]at h;obtain⟨h1,h2,_⟩:=bA.1 h;rcases bG.1 hx with rfl|hx
  ·exact h1
  ·exact ih h2 x hx
theorem DV:∀ {L:List aP},(∀x∈L,x.Nodup)->(∀(i j:Nat) x y b,L[i]?=some x->L[j]?=some y->b∈x->b∈y->i=j)->L.flatten.Nodup:=by
 intro L
 induction L with
 |nil=>intro _ _;simp
 |cons y L ih=>
  intro h1 h2;simp only[dR];refine bA.2 ⟨h1 y (by simp),ih (fun x hx=>h1 x (by simp[hx])) (fun i j x z b hi hj hx hz=>?_),?_⟩
  ·have:=h2 (i+1) (j+1) x z b (by simpa using hi) (by simpa using hj) hx hz;omega
  ·intro b hb c hc e;subst e;obtain⟨x,hx,xD⟩:=dA.1 hc;obtain⟨j,hj⟩:=cX hx;have:=h2 0 (j+1) y x b rfl (by simpa using hj) hb xD;omega
theorem Rb{o:Oper}{f t:Nat}{xs:Array Operand}{ts:Array TypeId}{ms:aP}{ins outs:List Rw}{d:D}(hop:o.op=.call {callee:=.value (.func f),args:=xs,argTypes:=ts})(hd:o.dst=some t)(hg:o.guard=none)
 (ht:t<Γ.nt) (hnd:ms.Nodup) (hins:Ik st.H ms=some ins) (hb:((xs.toList.map st.ev).all D.bare)=true) (kV:oF P f ((xs.toList.map st.ev).map (D.PZ ms)) ins outs d)
 (h:AO P Γ all rest Q ⟨(t,d)::st.σ,LB st.H ms outs⟩):AO P Γ all (o::rest) Q st:=by
 intro κ Θ a w hs;obtain⟨Nw,hig⟩:=OD hins;obtain⟨hfn,hol,hfl,ZU⟩:=kV;let κc:Nat->Option Value:=fun j=>(ms[j]?).bind κ
 have hkc:∀(i m:Nat),ms[i]?=some m->κc i=κ m:=fun i m h=>by simp[κc,h]
 have wY:∀(i m:Nat) x,ms[i]?=some m->ins[i]?=some x->∃v bs,κ m=some v/\(∀r∈x.2,r.length=x.1)/\Rd w v (.sl x.2) bs/\bs.Nodup/\∀b∈bs,Θ b=m+2/\Wr w b:=by
  intro i m x hm hx;obtain⟨u,hu⟩:=hig i m x hm hx;obtain⟨q1,_,v,bs,q2,q3,q4,q5⟩:=hs.ob m _ hu;exact⟨v,bs,q2,q1,q3,q4,q5⟩
 have hL:∃L:List aP,L.length=ins.length/\∀(i m:Nat) x bs,ms[i]?=some m->ins[i]?=some x->L[i]?=some bs->(∃v,κ m=some v/\(∀r∈x.2,r.length=x.1)/\Rd w v (.sl x.2) bs)/\bs.Nodup/\∀b∈bs,Θ b=m+2/\Wr w b:=by
  have key:∀(ms:aP) (ins:List Rw),ins.length=ms.length->(∀(i m:Nat) x,ms[i]?=some m->ins[i]?=some x->∃v bs,κ m=some v/\(∀r∈x.2,r.length=x.1)/\Rd w v (.sl x.2) bs/\bs.Nodup/\∀b∈bs,Θ b=m+2/\Wr w b)->
   ∃L:List aP,L.length=ins.length/\∀(i m:Nat) x bs,ms[i]?=some m->ins[i]?=some x->L[i]?=some bs->(∃v,κ m=some v/\(∀r∈x.2,r.length=x.1)/\Rd w v (.sl x.2) bs)/\bs.Nodup/\∀b∈bs,Θ b=m+2/\Wr w b:=by
   intro ms
   induction ms with
   |nil=>intro ins hl _;exact⟨[],by simpa using hl.symm,by simp⟩
   |cons m ms ih=>
    intro ins hl wY;cases ins with
    |nil=>simp at hl
    |cons x ins=>
     obtain⟨L,q1,q2⟩:=ih ins (by simpa using hl) (fun i m' x' hm hx=>wY (i+1) m' x' (by simpa using hm) (by simpa using hx));obtain⟨v,bs,r1,r2,r3,r4,r5⟩:=wY 0 m x rfl rfl;refine⟨bs::L,by simp[q1],?_⟩;intro i m' x' b hm hx hb;cases i with
     |zero=>simp at hm hx hb;subst hm;subst hx;subst hb;exact⟨⟨v,r1,r2,r3⟩,r4,r5⟩
     |succ i=>exact q2 i m' x' b (by simpa using hm) (by simpa using hx) (by simpa using hb)
  exact key ms ins Nw wY
 obtain⟨L,hLl,V6⟩:=hL;have Xh:∀(i:Nat) bs,L[i]?=some bs->∃m x,ms[i]?=some m/\ins[i]?=some x:=by
  intro i bs hb';have hlt:=(aD.1 hb').1;exact⟨_,_,aV (by omega),aV (by omega)⟩
 have hmem:∀b∈L.flatten,∃m∈ms,Θ b=m+2:=by
  intro b hb';obtain⟨x,hx,xD⟩:=dA.1 hb';obtain⟨i,hi⟩:=cX hx;obtain⟨m,y,h1,h2⟩:=Xh i x hi;exact⟨m,aB h1,((V6 i m y x h1 h2 hi).2.2 b xD).1⟩
 have q9:L.flatten.Nodup:=by
  refine DV (fun x hx=>?_) (fun i j x y b hi hj hx hy=>?_)
  ·obtain⟨i,hi⟩:=cX hx;obtain⟨m,y,h1,h2⟩:=Xh i x hi;exact(V6 i m y x h1 h2 hi).2.1
  ·obtain⟨m1,y1,h1,h2⟩:=Xh i x hi;obtain⟨m2,y2,h3,h4⟩:=Xh j y hj;have e1:=((V6 i m1 y1 x h1 h2 hi).2.2 b hx).1;have e2:=((V6 j m2 y2 y h3 h4 hj).2.2 b hy).1;have:m1=m2:=by omega
   subst this;exact K9 hnd i j m1 h1 h3
 have IY:x8 w κc 0 ins L.flatten:=x8.of hLl (fun i x bs hx hb'=>by
  obtain⟨m,y,h1,h2⟩:=Xh i bs hb';rw[hx]at h2;cases h2;obtain⟨⟨v,q1,q2,q3⟩,_⟩:=V6 i m x bs h1 hx hb';exact⟨v,by rw[cY,hkc i m h1];exact q1,q2,q3⟩)
 have hwr:∀b∈L.flatten,Wr w b:=by
  intro b hb';obtain⟨x,hx,xD⟩:=dA.1 hb';obtain⟨i,hi⟩:=cX hx;obtain⟨m,y,h1,h2⟩:=Xh i x hi;exact((V6 i m y x h1 h2 hi).2.2 b xD).2
 have hargs:∀(i:Nat) d,((xs.toList.map st.ev).map (D.PZ ms))[i]?=some d->∃v,(xs.toList.map a.eval)[i]?=some v/\oK w κc v d []:=by
  intro i d Ei;rw[bg,bg]at Ei;cases hx:xs.toList[i]? with
  |none=>rw[hx]at Ei;cases Ei
  |some x=>
   rw[hx]at Ei;simp only[cJ,ah]at Ei;subst Ei;refine⟨a.eval x,by rw[bg,hx];rfl,?_⟩;obtain⟨bs,r,hz⟩:=hs.ev x;have SA:(st.ev x).bare=true:=au.1 hb _ (cO.2 ⟨x,aB hx,rfl⟩);obtain⟨b',r',_⟩:=oK.rn (o:=ms) (κ':=κc) (Θ:=fun _=>0) (Θ':=fun _=>0) (fun i j v h1 h2=>by simp[κc,LA h1,h2]) (fun _ _=>rfl) r (fun _ _=>rfl);have:=r'.P0 (D.P3 ms SA);subst this;exact r'
 have Ic:JR w fun b=>b∈L.flatten:=by
  obtain⟨B,v1,v2⟩:=hs.Z6;refine⟨B,v1,fun b hB=>⟨(v2 b hB).2.1,fun hb'=>?_⟩⟩;obtain⟨x,hx,xD⟩:=dA.1 hb';obtain⟨i,hi⟩:=cX hx;obtain⟨m,y,h1,h2⟩:=Xh i x hi;have e1:=((V6 i m y x h1 h2 hi).2.2 b xD).1;rcases hs.mine b (by omega)with q|q
  ·have:=(v2 b hB).1;omega
  ·exact(v2 b hB).2.2 q
 have hc:=ZU w κc (xs.toList.map a.eval) L.flatten Ic (by simp) hargs (fun i hi=>by simp[κc,cD (by omega:ms.length<=i)]) (fun i u hu=>by
  simp only[κc]at hu;cases hm:ms[i]? with
  |none=>rw[hm]at hu;cases hu
  |some m=>rw[hm]at hu;exact hs.lM m u hu) IY q9 hwr
 refine wpList_plain hg fun K hK=>?_
 unfold Oper.wp;rw[si hop hfn,Oper.upon_enter];have e:xs.map a.eval=(xs.toList.map a.eval).toArray:=by rw[<-fY,iR]
 rw[e];refine hc.mono ?_;rintro e w' ⟨v,RE,rfl,hv,hl',AY,Ja,k1,k2,k3,k4,k5⟩;show K (a.put o.dst v) w';rw[hd];obtain⟨L',ZM,rfl,Nq⟩:=hl'.parts;have SO:∀(i:Nat) bs,L'[i]?=some bs->∃m x,ms[i]?=some m/\outs[i]?=some x:=by
  intro i bs hb';have hlt:=(aD.1 hb').1;exact⟨_,_,aV (by omega),aV (by omega)⟩
 have hs1:=hs.forget ms;let Θ1:Nat->Nat:=fun b=>if ms.any (fun m=>Θ b==m+2)then st.H.length+2 else Θ b
 have Zv:∀b,b∈L.flatten->Θ1 b=st.H.length+2:=by
  intro b hb';obtain⟨m,hm,he⟩:=hmem b hb';simp only[Θ1];rw[bM (cW.2 ⟨m,hm,by simp[he]⟩)]
 let Θ2:Nat->Nat:=fun b=>match ix (fun x:aP=>x.contains b) L' with|some i=>(match ms[i]? with|some m=>m+2|none=>1)|none=>if Θ1 b=st.H.length+2 then 1 else Θ1 b
 have a2b:∀(i m:Nat) bs b,ms[i]?=some m->L'[i]?=some bs->b∈bs->Θ2 b=m+2:=by
  intro i m bs b hm hi hb';have:ix (fun x:aP=>x.contains b) L'=some i:=zG hi (by simpa using hb') (fun j y hj hy=>Gx AY j i y bs b hj hi (by simpa using hy) hb');simp only[Θ2,this,hm]
 have Sf:∀b,b∉L'.flatten->Θ2 b=if Θ1 b=st.H.length+2 then 1 else Θ1 b:=by
  intro b hb';simp only[Θ2];cases h:ix (fun x:aP=>x.contains b) L' with
  |none=>rfl
  |some i=>
   obtain⟨x,hx,hp⟩:=td h;exact absurd (dA.2 ⟨x,aB hx,by simpa using hp⟩) hb'
 have hlt':∀b∈L'.flatten,b<w'.heap.size:=fun b hb'=>by
  obtain⟨cs,T,hx⟩:=(Ja b hb').2;exact(az.1 hx).1
 have kk:gZ w w' Θ1 Θ2 (st.H.length+2):=by
  refine⟨by omega,k1,k2,k3,k4,fun b hlt hne=>k5 b hlt fun hb'=>hne (Zv b hb'),fun b hlt hne=>?_,fun b hb'=>?_⟩
  ·by_cases hin:b∈L'.flatten
   ·rcases(Ja b hin).1 with h'|h'
    ·exact absurd (Zv b h') hne
    ·omega
   ·rw[Sf b hin,b9 hne]
  ·by_cases hin:b∈L'.flatten
   ·exact hlt' b hin
   ·rw[Sf b hin]at hb';refine dG (hs1.own b ?_) k4;intro h0;have h0':Θ1 b=0:=h0;rw[h0']at hb';rw[b9 (by omega)]at hb';exact hb' rfl
 have hm2:∀b,2<=Θ2 b->uS Γ b:=by
  intro b hb';by_cases hin:b∈L'.flatten
  ·rcases(Ja b hin).1 with h'|h'
   ·obtain⟨m,_,he⟩:=hmem b h';exact hs.mine b (by omega)
   ·exact .inl (cZ hs.base h')
  ·rw[Sf b hin]at hb';split at hb'
   ·omega
   ·exact hs1.mine b hb'
 obtain⟨ρ,hu⟩:=hs1.qA;have Xp:=hs1.lG kk (κ':=κ) (fun _ _ h=>h) hu;have Ze:(kill st.H ms).length=st.H.length:=eX _ _;have hpk:∀(j:Nat) y,(LB st.H ms outs)[j]?=some y->(∃(i:Nat) (x:Rw),ms[i]?=some j/\outs[i]?=some x/\y=x.ob (lv st.H j))\/(j∉ms/\(kill st.H ms)[j]?=some y):=by
  intro j y hj;rcases TO hnd (by omega) hj with h'|⟨h1,h2⟩
  ·exact .inl h'
  ·exact .inr ⟨h1,by rw[fB h1];exact h2⟩
 have IX:∀(j:Nat) y,(LB st.H ms outs)[j]?=some y->j+2≠st.H.length+2:=fun j y hj=>by
  have:=(aD.1 hj).1;rw[HD]at this;omega
 have hs2:cz Γ ⟨st.σ,LB st.H ms outs⟩ κ Θ2 a w':=by
  refine hs1.step kk hm2 (fun _ _ h=>h) (fun i hi=>hs.mT i (by rw[HD]at hi;exact hi)) hs.lM ?_ ⟨ρ,Xp.1,?_,?_⟩
  ·intro j y hj;have hjl:=IX j y hj;rcases hpk j y hj with⟨i,x,h1,h2,rfl⟩|⟨_,h2⟩
   ·right;right
    have QV:∃bs,L'[i]?=some bs:=⟨_,aV (by have:=(aD.1 h2).1;omega)⟩
    obtain⟨bs,QV⟩:=QV;obtain⟨v',q1,q2,q3⟩:=Nq i x bs h2 QV;rw[cY,hkc i j h1]at q1;refine⟨q2,fun x hx=>?_,v',bs,q1,q3,IT AY bs (aB QV),fun b hb'=>⟨a2b i j bs b h1 QV hb',(Ja b (dA.2 ⟨bs,aB QV,hb'⟩)).2⟩⟩;unfold lv at hx;split at hx
    ·rename_i sz0 a3V u0 ZL;subst hx;obtain⟨_,q0,_⟩:=hs.ob j _ ZL;exact q0 x rfl
    ·cases hx
   ·exact .inr (.inl ⟨hjl,h2⟩)
  ·intro id e' sz' cm hj;have hjl:=IX id _ hj;rcases hpk id _ hj with⟨i,x,h1,h2,h3⟩|⟨_,h2⟩
   ·simp[Rw.ob]at h3
   ·exact Xp.2.1 id e' sz' cm hjl h2
  ·intro id y hj;have hjl:=IX id _ hj;rcases hpk id _ hj with⟨i,x,h1,h2,h3⟩|⟨_,h2⟩
   ·subst h3;exact GJ.sZ rfl
   ·exact Xp.2.2 id y hjl h2
 have p9:oK w' κ v d []:=.of hv;exact hK _ _ (h κ Θ2 _ w' (hs2.set (t:=t) ht p9 (by simp)))
def Ob.close:Ob->Ob
 | .row _ _ sz rows=>.eE sz rows none
 |o=>o
theorem cz.Qf(hs:cz Γ st κ Θ a w)(hb:Below w.heap.size w w')(L:lC)(hL:∀x∈L,x.ok w')(hnd:(L.flatMap Fs.bl).Nodup)(hfr:∀b∈L.flatMap Fs.bl,w.heap.size<=b/\Wr w' b):
 ∃κ' Θ',cz Γ ⟨st.σ,st.H++(L.map Fs.ob).map Ob.close⟩ κ' Θ' a w'/\Names κ' st.H.length L:=by
 let n:=st.H.length
 let κ':Nat->Option Value:=fun j=>if j<n\/n+L.length<=j then κ j else(L[j-n]?).map Fs.v
 let Θ':Nat->Nat:=fun b=>match ix (fun x:Fs=>x.bl.contains b) L with|some i=>n+i+2|none=>Θ b
 have hu1:∀(i j:Nat) x y b,L[i]?=some x->L[j]?=some y->b∈x.bl->b∈y.bl->i=j:=fun i j x y b=>sE hnd i j x y b
 have hts:∀(i:Nat) x b,L[i]?=some x->b∈x.bl->Θ' b=n+i+2:=by
  intro i x b hi RO;have:ix (fun x:Fs=>x.bl.contains b) L=some i:=zG hi (by simpa using RO) (fun j y hj hy=>hu1 j i y x b hj hi (by simpa using hy) RO);simp only[Θ',this]
 have hno:∀b,b∉L.flatMap Fs.bl->Θ' b=Θ b:=by
  intro b hb';simp only[Θ'];cases h:ix (fun x:Fs=>x.bl.contains b) L with
  |none=>rfl
  |some i=>
   obtain⟨x,hx,hp⟩:=td h;exact absurd (bp.2 ⟨x,aB hx,by simpa using hp⟩) hb'
 have hold:∀b,b<w.heap.size->Θ' b=Θ b:=fun b hlt=>hno b (fun h=>by have:=(hfr b h).1;omega)
 have hn:∀(j:Nat) v,κ j=some v->κ' j=some v:=by
  intro j v hj;have:j<n:=by
   rcases dL j n with h|h
   ·exact h
   ·have:=hs.mT j h;rw[hj]at this;cases this
  simp only[κ'];rw[bM (.inl this)];exact hj
 have rZ:Names κ' n L:=by
  intro i x hx;have hlt:=(aD.1 hx).1;simp only[κ'];rw[b9 (by omega),ck,hx];rfl
 have hlen:(st.H++(L.map Fs.ob).map Ob.close).length=n+L.length:=by simp[n]
 have k:gZ w w' Θ Θ' (n+L.length+2):=by
  refine⟨by omega,hb.os,hb.tape,hb.output,hb.size,fun b hlt _=>hb.block b hlt,fun b hlt _=>hold b hlt,fun b h=>?_⟩;by_cases hin:b∈L.flatMap Fs.bl
  ·obtain⟨cs,T,hx⟩:=(hfr b hin).2;exact(az.1 hx).1
  ·rw[hno b hin]at h;exact dG (hs.own b h) hb.size
 have hm:∀b,2<=Θ' b->uS Γ b:=by
  intro b h;by_cases hin:b∈L.flatMap Fs.bl
  ·exact .inl (cZ hs.base (hfr b hin).1)
  ·rw[hno b hin]at h;exact hs.mine b h
 have key:∀(j:Nat) y,(st.H++(L.map Fs.ob).map Ob.close)[j]?=some y->(∃i x,j=n+i/\L[i]?=some x/\y=.eE x.sz x.rows none)\/(j<n/\st.H[j]?=some y):=by
  intro j y hj;by_cases hlt:j<st.H.length
  ·rw[aj hlt]at hj;exact .inr ⟨hlt,hj⟩
  ·rw[av (by omega),bg,bg]at hj;cases hx:L[j-st.H.length]? with
   |none=>simp[hx]at hj
   |some x=>simp[hx]at hj;exact .inl ⟨j-st.H.length,x,by omega,hx,hj.symm⟩
 have IX:∀(j:Nat) y,(st.H++(L.map Fs.ob).map Ob.close)[j]?=some y->j+2≠n+L.length+2:=fun j y hj=>by
  have:=(aD.1 hj).1;omega
 obtain⟨ρ,hu⟩:=hs.qA;have q9:=hs.lG k hn hu;refine⟨κ',Θ',hs.step k hm hn (fun i hi=>?_) (fun i u sr=>?_) (fun j y hj=>?_) ⟨ρ,q9.1,fun id e sz rows hj=>?_,fun id y hj=>?_⟩,rZ⟩
 ·rw[hlen]at hi;simp only[κ'];rw[bM (by omega)];exact hs.mT i (by omega)
 ·simp only[κ']at sr;split at sr
  ·exact hs.lM i u sr
  ·cases hx:L[i-n]? with
   |none=>simp[hx]at sr
   |some x=>simp[hx]at sr;subst sr;exact(hL x (aB hx)).2.2.2.2
 ·have hjl:=IX j y hj;rcases key j y hj with⟨i,x,rfl,hx,rfl⟩|⟨hlt,hy⟩
  ·right;right
   obtain⟨q1,q2,q3,q4,_⟩:=hL x (aB hx);have Gf:x.bl.Nodup:=by
    have:∀(l:lC),(l.flatMap Fs.bl).Nodup->∀x∈l,x.bl.Nodup:=by
     intro l
     induction l with
     |nil=>intro _ x hx;cases hx
     |cons z r ih=>
      intro hnd x hx;simp only[eF]at hnd;obtain⟨n1,n2,_⟩:=bA.1 hnd;rcases bG.1 hx with rfl|hx
      ·exact n1
      ·exact ih n2 x hx
    exact this L hnd x (aB hx)
   exact⟨q2,by simp,x.v,x.bl,rZ i x hx,rj q2 q3 q4,Gf,fun b hb'=>⟨hts i x b hx hb',(hfr b (bp.2 ⟨x,aB hx,hb'⟩)).2⟩⟩
  ·exact .inr (.inl ⟨hjl,hy⟩)
 ·have hjl:=IX id _ hj;rcases key id _ hj with⟨i,x,_,_,h⟩|⟨hlt,hy⟩
  ·cases h
  ·exact q9.2.1 id e sz rows hjl hy
 ·have hjl:=IX id _ hj;rcases key id _ hj with⟨i,x,_,_,h⟩|⟨hlt,hy⟩
  ·subst h;exact GJ.sZ rfl
  ·exact q9.2.2 id y hjl hy
theorem RU{o:Oper}{f t:Nat}{xs:Array Operand}{ts:Array TypeId}{ds:aK}{ms:aP}{d:D}(hop:o.op=.call {callee:=.value (.func f),args:=xs,argTypes:=ts})(hd:o.dst=some t)(hg:o.guard=none)
 (ht:t<Γ.nt) (hds:DL st.H (xs.toList.map st.ev)=some (ds,ms)) (hown:d.J0=true) (kV:Good P f ds d)
 (h:AO P Γ all rest Q ⟨(t,(lE st.H.length d).1)::st.σ,st.H++(lE st.H.length d).2.map Ob.close⟩):AO P Γ all (o::rest) Q st:=by
 intro κ Θ a w hs;obtain⟨bs,hargs,hz⟩:=Hr hs hds;let Θc:Nat->Nat:=fun b=>if Θ b=0\/ms.any (fun m=>Θ b==m+2)then 0 else 1
 have H6:∀b,Seen Θ ms b->Θc b=0:=by
  intro b h;simp only[Θc];rw[bM];rcases h with h|⟨m,h1,h2⟩
  ·exact .inl h
  ·exact .inr (cW.2 ⟨m,h1,by simp[h2]⟩)
 have hc:=kV.2 w Θc _ bs hs.Z5 hargs (fun b hb=>H6 b (hz b hb)) (fun b hb=>hs.own b (fun e=>hb (H6 b (.inl e)))) (fun b=>by simp only[Θc];split<;>omega);refine wpList_plain hg fun K hK=>?_
 unfold Oper.wp;rw[si hop kV.1,Oper.upon_enter];have e:xs.map a.eval=(xs.toList.map a.eval).toArray:=by rw[<-fY,iR]
 rw[e];refine hc.mono ?_;rintro e w' ⟨v,bs',tb,ub,rfl,hb,hr,JI,htb,hnd,hfr,hsub⟩;show K (a.put o.dst v) w';rw[hd];obtain⟨L,q1,q2,q3,q4,q5⟩:=hr.inst st.H.length;obtain⟨κ',Θ',hs',hnm⟩:=hs.Qf hb L q2 (q3▸hnd) (fun b hb'=>hfr b (q3▸hb'));rw[q1]at hs';refine hK _ _ (h κ' Θ' _ w' (hs'.set (t:=t) ht (q5 κ' hnm) fun b hb'=>?_));rw[hr.own hown]at hb';cases hb'
def uY:List Rw->bY->bJ
 |x::xs,v::vs=>x.ob (some v)::uY xs vs
 |_,_=>[]
theorem EU:∀ {xs:List Rw} {vs:bY} {j:Nat} {y:Ob},(uY xs vs)[j]?=some y->∃x v,xs[j]?=some x/\vs[j]?=some v/\y=x.ob (some v):=by
 intro xs
 induction xs with
 |nil=>intro vs j y h;simp[uY]at h
 |cons x xs ih=>
  intro vs j y h;cases vs with
  |nil=>simp[uY]at h
  |cons v vs=>
   cases j with
   |zero=>simp[uY]at h;exact⟨x,v,rfl,rfl,h.symm⟩
   |succ j=>simp only[uY,di]at h⊢;exact ih h
theorem Jg:∀(xs:List Rw) (vs:bY),(uY xs vs).length=min xs.length vs.length:=by
 intro xs
 induction xs with
 |nil=>intro vs;simp[uY]
 |cons x xs ih=>intro vs;cases vs with|nil=>simp[uY]|cons v vs=>simp[uY,ih]
def qF(P:Program)(fn:Func)(vs:bY)(outs:List Rw)(d:D)(e:Exit)(st:St):Prop:=
 (e=.ret\/e=.normal)/\∃ds,zZ P st fn.results.toList=some ds/\ds.all D.flat=true/\vC ds=d/\∀(i:Nat) x v,outs[i]?=some x->vs[i]?=some v->st.H[i]?=some (x.ob (some v))
theorem oF.of{f:FuncId}{fn:Func}{c:Code}{ds:aK}{ins outs:List Rw}{d:D}(hf:P.funcs[f]?=some fn)(hb:fn.body=some c)(hn:(fn.name== "runtime.NumGoroutine")=false)
 (hl:ds.length<=fn.ntmps) (hol:outs.length=ins.length) (hfl:d.flat=true) (h:(∀x∈ins,x.2.length<=maxLen)->∀Γ:pG,Γ.nt=fn.ntmps->∀vs:bY,vs.length=ins.length->AW P Γ c (qF P fn vs outs d) ⟨uj 0 ds,uY ins vs⟩):oF P f ds ins outs d:=by
 refine⟨⟨fn,hf,by simp[hb],hn⟩,hol,hfl,?_⟩;intro w κ args us Ic hlen hargs Xd hk1 IY hnd hwr;obtain⟨L,hLl,rfl,V6⟩:=IY.parts;have hvs:∃vs:bY,vs.length=ins.length/\∀(i:Nat) v,vs[i]?=some v->κ i=some v:=by
  have:∀(xs:List Rw) (n:Nat),(∀(i:Nat) x,xs[i]?=some x->∃v,κ (n+i)=some v)->∃vs:bY,vs.length=xs.length/\∀(i:Nat) v,vs[i]?=some v->κ (n+i)=some v:=by
   intro xs
   induction xs with
   |nil=>intro n _;exact⟨[],rfl,by simp⟩
   |cons x xs ih=>
    intro n h;obtain⟨v,hv⟩:=h 0 x rfl;obtain⟨vs,q1,q2⟩:=ih (n+1) (fun i y hy=>by
     obtain⟨v,hv⟩:=h (i+1) y (by simpa using hy);exact⟨v,by rw[<-hv];congr 1;omega⟩)
    refine⟨v::vs,by simp[q1],?_⟩;intro i u hu;cases i with
    |zero=>simp at hu;subst hu;exact hv
    |succ i=>
     have:=q2 i u (by simpa using hu);rw[<-this];congr 1;omega
  obtain⟨vs,q1,q2⟩:=this ins 0 (fun i x hx=>by
   obtain⟨v,bs,h1,_⟩:=IY.at i x hx;exact⟨v,h1⟩)
  exact⟨vs,q1,fun i v hv=>by have:=q2 i v hv;rwa[cY]at this⟩
 obtain⟨vs,hvl,PN⟩:=hvs;refine calls_of_wp hf hb ?_;let Θ:Nat->Nat:=fun b=>match ix (fun x:aP=>x.contains b) L with|some i=>i+2|none=>if b<w.heap.size then 1 else 0
 have hΘ:∀(i:Nat) bs b,L[i]?=some bs->b∈bs->Θ b=i+2:=by
  intro i bs b hi hb';have:ix (fun x:aP=>x.contains b) L=some i:=zG hi (by simpa using hb') (fun j y hj hy=>Gx hnd j i y bs b hj hi (by simpa using hy) hb');simp only[Θ,this]
 have Xs:∀b,b∉L.flatten->Θ b=if b<w.heap.size then 1 else 0:=by
  intro b hb';simp only[Θ];cases h:ix (fun x:aP=>x.contains b) L with
  |none=>rfl
  |some i=>
   obtain⟨x,hx,hp⟩:=td h;exact absurd (dA.2 ⟨x,aB hx,by simpa using hp⟩) hb'
 have hlt:∀b∈L.flatten,b<w.heap.size:=fun b hb'=>by
  obtain⟨cs,T,hx⟩:=hwr b hb';exact(az.1 hx).1
 let Γ:pG:=⟨w,Θ,fun b=>b∈L.flatten,fn.ntmps,fun _=>False,Ic⟩
 have xR:∀x∈ins,x.2.length<=maxLen:=by
  intro x hx;obtain⟨i,hi⟩:=cX hx;obtain⟨v,bs,_,_,hr,_⟩:=IY.at i x hi;exact(gm.sl ⟨w,v,bs,hr⟩).1
 have hs:cz Γ ⟨uj 0 ds,uY ins vs⟩ κ Θ {tmps:=args.toArray++Array.replicate (fn.ntmps-args.toArray.size) undef,defers:=[]} w:=by
  refine⟨rfl,?_,fun i hi=>Xd i (by rw[Jg]at hi;omega),hk1,?_,?_,?_,?_,?_,⟨rfl,rfl,rfl,bH _,fun _ _ _=>rfl⟩,⟨fun _=>0,by simp,?_,?_⟩⟩
  ·simp[Γ];omega
  ·intro t;rw[By];simp only[rP,vb,sO];cases hd:ds[t]? with
   |none=>exact⟨[],.of (.any _),by simp⟩
   |some x=>
    obtain⟨v,k1,k2⟩:=hargs t x hd;refine⟨[],?_,by simp⟩;have hlt:t<args.length:=(aD.1 k1).1;have:(args.toArray++Array.replicate (fn.ntmps-args.toArray.size) undef).getD t undef=v:=by
     rw[bz,dV (by simpa using hlt)];simp[k1]
    rw[this];exact k2
  ·intro j o hj;obtain⟨x,v0,hx,Zs,rfl⟩:=EU hj;have QV:∃bs,L[j]?=some bs:=⟨_,aV (by have:=(aD.1 hx).1;omega)⟩
   obtain⟨bs,QV⟩:=QV;obtain⟨v,q1,q2,q3⟩:=V6 j x bs hx QV;refine⟨q2,fun y hy=>by cases hy;exact PN j v0 Zs,v,bs,by rw[<-q1];congr 1;omega,q3,IT hnd bs (aB QV),fun b hb'=>⟨hΘ j bs b QV hb',hwr b (dA.2 ⟨bs,aB QV,hb'⟩)⟩⟩
  ·intro b hb';by_cases hin:b∈L.flatten
   ·exact hlt b hin
   ·rw[Xs b hin]at hb';split at hb'
    ·assumption
    ·exact absurd rfl hb'
  ·intro b hb' hx;refine⟨rfl,?_⟩;rw[Xs b hx];split<;>omega
  ·intro b hb';by_cases hin:b∈L.flatten
   ·exact .inr hin
   ·rw[Xs b hin]at hb';split at hb'<;>omega
  ·intro id e sz rows hj;obtain⟨x,v0,_,_,h⟩:=EU hj;simp[Rw.ob]at h
  ·intro id o hj;obtain⟨x,v0,_,_,h⟩:=EU hj;subst h;exact GJ.sZ rfl
 refine wp_mono (h xR Γ rfl vs hvl _ _ _ _ hs) ?_;rintro e a' w' ⟨JJ,κ0,Θ0,hs0,xS,QF,hres,Fe,rfl,hout⟩;obtain⟨rs,bs',m1,m2,m3,m4,m5⟩:=yS hs0 hres;have ES:∃v,(results fn a'.tmps).run P w'=.ok v w'/\Rd w' v (vC QF) []:=by
  have hrun:(results fn a'.tmps).run P w'=.ok (if h:rs.toArray.size=1 then rs.toArray[0]else .tuple rs.toArray) w':=by
   rw[results_eq,je];simp[m1]
  match QF,rs,m2,m3,m4,Fe,hfl,hrun with
  | [x],[v],_,_,m4,Fe,_,hrun=>
   obtain⟨v',b,k1,k2,_⟩:=m4 0 x rfl;simp at k1;subst k1;refine⟨v,by simpa using hrun,?_⟩;simp only[dD,List.all_nil,DO]at Fe;simp only[vC];cases k2 with
   |v k2=>
    cases k2 with
    |cell k2=>
     cases k2 with
     |pure k2=>have:=k2.flat Fe;subst this;exact k2
     |_=>simp[D.flat]at Fe
    |agg=>simp[D.flat]at Fe
   |iE=>simp[D.flat]at Fe
  | [],_,_,_,_,_,hfl,_=>simp[vC,D.flat]at hfl
  |_::_::_,_,_,_,_,_,hfl,_=>simp[vC,D.flat]at hfl
  | [x],[],h1,h2,_,_,_,_=>simp at h1 h2;omega
  | [x],_::_::_,h1,h2,_,_,_,_=>simp at h1 h2;omega
 obtain⟨v,O4,VC⟩:=ES;have wY:∀(i:Nat) x,outs[i]?=some x->∃v bs,κ i=some v/\(∀r∈x.2,r.length=x.1)/\Rd w' v (.sl x.2) bs/\bs.Nodup/\∀b∈bs,Θ0 b=i+2/\Wr w' b:=by
  intro i x hx;have hlt:i<vs.length:=by have:=(aD.1 hx).1;omega
  obtain⟨q1,q0,v,bs,q2,q3,q4,q5⟩:=hs0.ob i _ (hout i x _ hx (aV hlt));have e1:=q0 _ rfl;rw[q2]at e1;cases e1;exact⟨_,bs,PN i _ (aV hlt),q1,q3,q4,q5⟩
 have hL':∃L':List aP,L'.length=outs.length/\∀(i:Nat) x bs,outs[i]?=some x->L'[i]?=some bs->(∃v,κ i=some v/\(∀r∈x.2,r.length=x.1)/\Rd w' v (.sl x.2) bs)/\bs.Nodup/\∀b∈bs,Θ0 b=i+2/\Wr w' b:=by
  have key:∀(xs:List Rw) (n:Nat),(∀(i:Nat) x,xs[i]?=some x->∃v bs,κ (n+i)=some v/\(∀r∈x.2,r.length=x.1)/\Rd w' v (.sl x.2) bs/\bs.Nodup/\∀b∈bs,Θ0 b=(n+i)+2/\Wr w' b)->
   ∃L':List aP,L'.length=xs.length/\∀(i:Nat) x bs,xs[i]?=some x->L'[i]?=some bs->(∃v,κ (n+i)=some v/\(∀r∈x.2,r.length=x.1)/\Rd w' v (.sl x.2) bs)/\bs.Nodup/\∀b∈bs,Θ0 b=(n+i)+2/\Wr w' b:=by
   intro xs
   induction xs with
   |nil=>intro n _;exact⟨[],rfl,by simp⟩
   |cons x xs ih=>
    intro n h;obtain⟨v,bs,r1,r2,r3,r4,r5⟩:=h 0 x rfl;obtain⟨L',q1,q2⟩:=ih (n+1) (fun i y hy=>by
     have:=h (i+1) y (by simpa using hy);rw[show n+(i+1)=n+1+i from by omega]at this;exact this)
    refine⟨bs::L',by simp[q1],?_⟩;intro i y b hy hb';cases i with
    |zero=>simp at hy hb';subst hy;subst hb';exact⟨⟨v,r1,r2,r3⟩,r4,r5⟩
    |succ i=>
     have:=q2 i y b (by simpa using hy) (by simpa using hb');rw[show n+1+i=n+(i+1)from by omega]at this;exact this
  obtain⟨L',q1,q2⟩:=key outs 0 (fun i x hx=>by rw[cY];exact wY i x hx);exact⟨L',q1,fun i x bs hx hb'=>by have:=q2 i x bs hx hb';rwa[cY]at this⟩
 obtain⟨L',ZM,Nq⟩:=hL';have SO:∀(i:Nat) bs,L'[i]?=some bs->∃x,outs[i]?=some x:=fun i bs hb'=>⟨_,aV (by have:=(aD.1 hb').1;omega)⟩
 have AY:L'.flatten.Nodup:=by
  refine DV (fun x hx=>?_) (fun i j x y b hi hj hx hy=>?_)
  ·obtain⟨i,hi⟩:=cX hx;obtain⟨y,h1⟩:=SO i x hi;exact(Nq i y x h1 hi).2.1
  ·obtain⟨y1,h1⟩:=SO i x hi;obtain⟨y2,h2⟩:=SO j y hj;have e1:=((Nq i y1 x h1 hi).2.2 b hx).1;have e2:=((Nq j y2 y h2 hj).2.2 b hy).1;omega
 have Nt:∀b∈L'.flatten,2<=Θ0 b/\Wr w' b:=by
  intro b hb';obtain⟨x,hx,xD⟩:=dA.1 hb';obtain⟨i,hi⟩:=cX hx;obtain⟨y,h1⟩:=SO i x hi;have:=(Nq i y x h1 hi).2.2 b xD;exact⟨by omega,this.2⟩
 have Gz:∀b∈L'.flatten,b∈L.flatten\/w.heap.size<=b:=by
  intro b hb';rcases hs0.mine b (Nt b hb').1 with h|h
  ·exact .inr h
  ·exact .inl h
 have post:a'.defers=[]/\∃v,(results fn a'.tmps).run P w'=.ok v w'/\∃u RE,Ending.returned v=.returned u/\Rd w' u (vC QF) []/\x8 w' κ 0 outs RE/\RE.Nodup/\(∀b∈RE,(b∈L.flatten\/w.heap.size<=b)/\Wr w' b)/\
  w'.os=w.os/\w'.tape=w.tape/\w'.output=w.output/\w.heap.size<=w'.heap.size/\∀b,b<w.heap.size->b∉L.flatten->w'.heap[b]?=w.heap[b]?:=by
  refine⟨hs0.defers,v,O4,v,L'.flatten,rfl,VC,x8.of ZM (fun i x bs hx hb'=>?_),AY,fun b hb'=>⟨Gz b hb',(Nt b hb').2⟩,hs0.stays.os,hs0.stays.tape,hs0.stays.output,hs0.stays.size,fun b hb' hx=>hs0.stays.block b hb' hx⟩;obtain⟨⟨v',q1,q2,q3⟩,_⟩:=Nq i x bs hx hb';exact⟨v',by rw[cY];exact q1,q2,q3⟩
 rcases xS with rfl|rfl
 ·exact post
 ·exact post
end
end Go.Cx
namespace Go.Cx
open Go.RowKit
section
variable{P:Program}{Γ:pG}{Q:Exit->St->Prop}{st:St}{κ κ':Nat->Option Value}{Θ Θ':Nat->Nat}{a:Act}{w w':World}{all:Array Oper}{rest:List Oper}
theorem cz.OX(hs:cz Γ st κ Θ a w)(ms:aP){H':bJ}(h1:w'.os=w.os)(h2:w'.tape=w.tape)(h3:w'.output=w.output)(h4:w.heap.size<=w'.heap.size)
 (IU:∀b,b<w.heap.size->(∀m∈ms,Θ b≠m+2)->w'.heap[b]?=w.heap[b]?) (Xl:∀b,b<w.heap.size->(∀m∈ms,Θ b≠m+2)->Θ' b=Θ b) (hown:∀b,Θ' b≠0->b<w'.heap.size)
 (hm:∀b,2<=Θ' b->uS Γ b) (hn:∀(j:Nat) v,κ j=some v->κ' j=some v) (Xd:∀i,H'.length<=i->κ' i=none) (hk1:∀(i:Nat) u,κ' i=some u->u.oneCell'=true)
 (wY:∀(j:Nat) y,H'[j]?=some y->y=.gone\/(j∉ms/\st.H[j]?=some y)\/(sQ w' κ' Θ' j y/\y.RD=false)):cz Γ ⟨st.σ,H'⟩ κ' Θ' a w':=by
 have hs1:=hs.forget ms;have hin:∀b,(ms.any (fun m=>Θ b==m+2))=false->∀m∈ms,Θ b≠m+2:=by
  intro b h m hm' he;have:ms.any (fun m=>Θ b==m+2)=true:=cW.2 ⟨m,hm',by simp[he]⟩;rw[h]at this;cases this
 have hlt2:∀b,(if ms.any (fun m=>Θ b==m+2)then st.H.length+2 else Θ b)≠st.H.length+2->(ms.any (fun m=>Θ b==m+2))=false:=by
  intro b h;cases hc:ms.any (fun m=>Θ b==m+2)with
  |false=>rfl
  |true=>simp[hc]at h
 have kk:gZ w w' (fun b=>if ms.any (fun m=>Θ b==m+2)then st.H.length+2 else Θ b) Θ' (st.H.length+2):=by
  refine⟨by omega,h1,h2,h3,h4,fun b hb hne=>IU b hb (hin b (hlt2 b hne)),fun b hb hne=>?_,hown⟩;have hc:=hlt2 b hne;rw[Xl b hb (hin b hc)];simp[hc]
 obtain⟨ρ,hu⟩:=hs1.qA;have q9:=hs1.lG kk hn hu;refine hs1.step kk hm hn Xd hk1 (fun j y hj=>?_) ⟨ρ,q9.1,fun id e sz rows hj=>?_,fun id y hj=>?_⟩
 ·rcases wY j y hj with h|⟨h,hy⟩|⟨h,_⟩
  ·exact .inl h
  ·have:=(aD.1 hy).1;exact .inr (.inl ⟨by omega,by rw[fB h];exact hy⟩)
  ·exact .inr (.inr h)
 ·rcases wY id _ hj with h|⟨h,hy⟩|⟨_,h⟩
  ·cases h
  ·have:=(aD.1 hy).1;exact q9.2.1 id e sz rows (by omega) (by rw[fB h];exact hy)
  ·simp[Ob.RD]at h
 ·rcases wY id _ hj with h|⟨h,hy⟩|⟨_,h⟩
  ·subst h;trivial
  ·have:=(aD.1 hy).1;exact q9.2.2 id y (by omega) (by rw[fB h];exact hy)
  ·exact GJ.plain h
theorem Rd.Yo{v:Value}{rows:List aK}{bs:aP}(h:Rd w v (.sl rows) bs):(∃q c,v=.slice q rows.length c)/\rows.length<=maxLen:=by
 cases h with
 |vD=>exact⟨⟨_,_,rfl⟩,by simp⟩
 |lN=>exact⟨⟨_,_,rfl⟩,by simp⟩
 |sl b off cap sz _ cs bs hb h1 h2=>exact⟨⟨_,_,rfl⟩,by omega⟩
theorem Ui{o:Oper}{t T id sz:Nat}{x:Operand}{rows:List aK}{u:Option Value}(hop:o.op=.call {callee:=.builtin .len,args:= #[x],argTypes:= #[T]})(hd:o.dst=some t)(hg:o.guard=none)(ht:t<Γ.nt)
 (hT:(CL P T).isSome=true) (hx:st.ev x=.acc id) (hH:st.H[id]?=some (.eE sz rows u)) (h:AO P Γ all rest Q ⟨(t,.int .i64 rows.length)::st.σ,st.H⟩):AO P Γ all (o::rest) Q st:=by
 intro κ Θ a w hs;obtain⟨b1,r1,_⟩:=hs.ev x;rw[hx]at r1;obtain⟨hk,_⟩:=r1.rQ;obtain⟨_,_,v,bs,hk2,hrd,_⟩:=hs.ob id _ hH;rw[hk]at hk2;cases hk2;obtain⟨⟨q,c,hv⟩,xR⟩:=hrd.Yo;obtain⟨⟨e,sz'⟩,hT⟩:=dP.1 hT;obtain⟨hu,_,_⟩:=lg hT;refine wpList_plain hg fun K hK=>?_
 unfold Oper.wp;have hrun:(execOp a.eval o).run P w=.ok (.value (.int .i64 rows.length)) w:=by
  simp only[execOp,hop,resolve,invoke,builtin,lS,bI,bP,hv];simp[Builtin.len_,run_underlying hu,goInt]
 rw[hrun,Oper.upon_value,hd];exact hK _ _ (h κ Θ _ w (hs.set (d:=.int .i64 rows.length) (bs:=[]) ht (.of (.int _ _ (L6 xR))) (by simp)))
theorem XF{o:Oper}{t T id sz e m:Nat}{x i:Operand}{rows:List aK}{u:Option Value}{k:IntKind}{n:Int}(hop:o.op=.indexAddr T x i)(hd:o.dst=some t)(hg:o.guard=none)(ht:t<Γ.nt)
 (hT:CL P T=some (e,sz)) (hx:st.ev x=.acc id) (hi:st.ev i=.int k n) (hH:st.H[id]?=some (.eE sz rows u)) (hn:n=(m:Int)) (hm:m<rows.length) (h:AO P Γ all rest Q ⟨(t,.op id m sz 0)::st.σ,st.H⟩):AO P Γ all (o::rest) Q st:=by
 intro κ Θ a w hs;obtain⟨b1,r1,_⟩:=hs.ev x;obtain⟨b2,r2,_⟩:=hs.ev i;rw[hx]at r1;rw[hi]at r2;have hiv:=r2.nR;obtain⟨hk,_⟩:=r1.rQ;obtain⟨_,_,v,bs,hk2,hrd,_⟩:=hs.ob id _ hH;rw[hk]at hk2;cases hk2;obtain⟨hu,Ge,Fh⟩:=lg hT;have hsz:=rN (P:=P) Ge w;subst hn;generalize PO:a.eval x=vx at hrd hk;cases hrd with
 |vD=>simp at hm
 |lN=>simp at hm
 |sl b off cap sz' _ cs bs hb hcap xR hrl hc p9=>
  have hn':0<=(m:Int)/\(m:Int)<(rows.length:Int):=⟨by omega,by omega⟩
  refine wpList_plain hg fun K hK=>?_
  unfold Oper.wp;have hrun:(execOp a.eval o).run P w=.ok (.value (.pointer (some ⟨b,off+(m*sz+0),none⟩))) w:=by
   simp only[execOp,hop,PO,hiv];simp[Instr.indexAt,asIntOf,run_underlying hu,hn',hm,hsz,Fh,Addr.add_lit]
  rw[hrun,Oper.upon_value,hd];exact hK _ _ (h κ Θ _ w (hs.set (d:=.op id m sz 0) (bs:=[]) ht (vR.op id m sz 0 b off _ _ hk).LR (by simp)))
theorem Hj{rows:List aK}{sz i off:Nat}{r:aK}{d:D}(hrl:∀r∈rows,r.length=sz)(hr:rows[i]?=some r)(hd:r[off]?=some d):rows.flatten[i*sz+off]?=some d/\off<sz/\i*sz+off<rows.length*sz:=by
 have h1:=hrl r (aB hr);have h2:=(aD.1 hd).1;have hmid:=Bl hrl hr;have hlt:=(aD.1 hr).1;have hle:(i+1)*sz<=rows.length*sz:=dO _ hlt;rw[iT,kP]at hle;refine⟨?_,by omega,by omega⟩;rw[<-hmid,cH,bM (by omega),dW]at hd;exact hd
theorem Rc{o:Oper}{t T id i sz off:Nat}{x:Operand}{rows:List aK}{r:aK}{d:D}{u:Option Value}(hop:o.op=.load T x)(hd:o.dst=some t)(hg:o.guard=none)(ht:t<Γ.nt)
 (hT:wU P T=some false) (hx:st.ev x=.op id i sz off) (hH:st.H[id]?=some (.eE sz rows u)) (hr:rows[i]?=some r) (hc:r[off]?=some d) (hfl:d.flat=true) (h:AO P Γ all rest Q ⟨(t,d)::st.σ,st.H⟩):AO P Γ all (o::rest) Q st:=by
 intro κ Θ a w hs;obtain⟨b1,r1,_⟩:=hs.ev x;rw[hx]at r1;obtain⟨g,o0,len,Ut,hk,hv⟩:=r1.C1;obtain⟨hrl,_,v,bs,hk2,hrd,_⟩:=hs.ob id _ hH;rw[hk]at hk2;cases hk2;obtain⟨hf,_,_⟩:=Hj hrl hr hc;cases hrd with
 |lN=>simp at hr
 |sl _ _ _ sz' _ cs ns hb hcap xR HW hcs p9=>
  obtain⟨c,b',h1,h2,h3,h4⟩:=p9.at hf;have L:=mJ (P:=P) (w:=w) hT (o:=i*sz+off) hcs;have hb':=h3.flat hfl;subst hb';refine wpList_plain hg fun K hK=>?_
  unfold Oper.wp;have hrun:(execOp a.eval o).run P w=.ok (.value c) w:=by
   simp only[execOp,hop,hv];simp[L.2 rfl c h1]
  rw[hrun,Oper.upon_value,hd];exact hK _ _ (h κ Θ _ w (hs.set (d:=d) (bs:=[]) ht (.of h3) (by simp)))
theorem jR.a0I{vs:bY}{ds:aK}{bs:aP}(h:jR w vs ds bs){p:Nat}{d:D}(hd:ds[p]?=some d):
 ∃c b1 b2 b3,vs[p]?=some c/\c.oneCell'=true/\Rd w c d b2/\bs=b1++(b2++b3)/\∀(e:D) (b4:aP),Rd w c e b4->jR w vs (ds.set p e) (b1++(b4++b3)):=by
 obtain⟨l,r,rfl,hl⟩:=K6 hd;obtain⟨v1,v2,c1,c2,rfl,rfl,k1,k2⟩:=h.split;cases k2 with
 |cons c vs _ _ b2 b3 h1 h2 h3=>
  have hl1:v1.length=p:=by rw[k1.length];exact hl
  refine⟨c,c1,b2,b3,by rw[av (by omega),hl1];simp,h1,h2,rfl,fun e b4 he=>?_⟩;have e1:(l++d::r).set p e=l++e::r:=by rw[jg _ _ (by omega),hl];simp
  rw[e1];exact k1.app (.cons _ _ _ _ _ _ h1 he h3)
theorem Fb{rows:List aK}{sz i off:Nat}{r:aK}{d e:D}(hrl:∀r∈rows,r.length=sz)(hr:rows[i]?=some r)(hd:r[off]?=some d):(rows.set i (r.set off e)).flatten=rows.flatten.set (i*sz+off) e:=by
 have hlt:=(aD.1 hd).1;have h1:=hrl r (aB hr);have:=Bm (rows:=rows) (sz:=sz) (i:=i) (off:=off) (row:=r) (ds:=[e]) hrl hr (by simp;omega);have e1:r.set off e=r.take off++[e]++r.drop (off+[e].length):=by
  apply mh;intro j;rw[fC];simp only[bN,cr,aG,b8,cY];by_cases hj:j<off
  ·rw[b9 (by omega),aj (by simp;omega),cH,bM hj]
  ·rw[av (by simp;omega),cG,eD (by omega)];by_cases he:off=j
   ·subst he;simp[hlt]
   ·rw[b9 he];obtain⟨m,hm⟩:∃m,j-off=m+1:=⟨j-off-1,by omega⟩
    rw[hm,di,dW]
    congr 1;omega
 rw[e1,this];have hfl:=lR hrl;obtain⟨hf,_,hlt2⟩:=Hj hrl hr hd;apply mh;intro j;rw[fC];simp only[bN,cr,aG,b8,cY];by_cases hj:j<i*sz+off
 ·rw[b9 (by omega),aj (by rw[cG];omega),cH,bM hj]
 ·rw[av (by rw[cG];omega),cG,eD (by omega)];by_cases he:i*sz+off=j
  ·subst he;rw[bM rfl,bM (by omega),lI];rfl
  ·rw[b9 he];obtain⟨m,hm⟩:∃m,j-(i*sz+off)=m+1:=⟨j-(i*sz+off)-1,by omega⟩
   rw[hm,di,dW]
   congr 1;omega
theorem Hq{rows:List aK}{sz i:Nat}{r:aK}(hrl:∀r∈rows,r.length=sz)(hr:r.length=sz):∀x∈rows.set i r,x.length=sz:=by
 intro x hx;rcases wg hx with hx|rfl
 ·exact hrl x hx
 ·exact hr
theorem Rf{o:Oper}{t T id i sz off Oa:Nat}{x:Operand}{rows eY:List aK}{r:aK}{u:Option Value}(hop:o.op=.load T x)(hd:o.dst=some t)(hg:o.guard=none)(ht:t<Γ.nt)
 (hT:wU P T=some false) (hx:st.ev x=.op id i sz off) (hH:st.H[id]?=some (.eE sz rows u)) (hr:rows[i]?=some r) (hc:r[off]?=some (.sl eY)) (h2:∀q∈eY,q.length=Oa)
 (h:AO P Γ all rest Q ⟨(t,.acc st.H.length)::st.σ,st.H.set id (.hole sz (rows.set i (r.set off .any)) u (i*sz+off) st.H.length)++[.eE Oa eY none]⟩):AO P Γ all (o::rest) Q st:=by
 intro κ Θ a w hs;obtain⟨b1,r1,_⟩:=hs.ev x;rw[hx]at r1;obtain⟨g,o0,len,Ut,hk,hv⟩:=r1.C1;obtain⟨hrl,VG,v,bs,hk2,hrd,hnd,Bq⟩:=hs.ob id _ hH;rw[hk]at hk2;cases hk2;obtain⟨hf,hoff,_⟩:=Hj hrl hr hc;cases hrd with
 |lN=>simp at hr
 |sl _ _ _ sz' _ cs ns hb hcap xR HW hcs p9=>
  obtain⟨c,c1,c2,c3,h1,h1c,h3,rfl,oD⟩:=p9.a0I hf;have L:=mJ (P:=P) (w:=w) hT (o:=i*sz+off) hcs;have Zd:id<st.H.length:=(aD.1 hH).1;have hnew:=oD .any [] (.any c);have AY:=hnd;simp only[eo,aU,GF]at AY;obtain⟨⟨hg1,Zc,hg3⟩,Gf⟩:=AY;obtain⟨n1,n2,n3⟩:=bA.1 Gf;obtain⟨n4,n5,n6⟩:=bA.1 n2;let Θ':Nat->Nat:=fun b=>if b∈c2 then st.H.length+2 else Θ b
  have hs':cz Γ ⟨st.σ,st.H.set id (.hole sz (rows.set i (r.set off .any)) u (i*sz+off) st.H.length)++[.eE Oa eY none]⟩ (uP κ st.H.length (some c)) Θ' a w:=by
   have hn:=tf (hs.mT _ (bH _)) (some c);have Je:∀b∈c2,Θ b=id+2:=fun b hb'=>(Bq b (by simp[hb'])).1
   refine hs.OX [id] rfl rfl rfl (bH _) (fun _ _ _=>rfl) (fun b _ hne=>?_) (fun b hb'=>?_) (fun b hb'=>?_) hn (fun j hj=>?_) (fun j y hy=>?_) (fun j y hj=>?_)
   ·simp only[Θ'];rw[b9];intro hin;exact hne id (by simp) (Je b hin)
   ·simp only[Θ']at hb';split at hb'
    ·rename_i hin;exact hs.own b (by rw[Je b hin];omega)
    ·exact hs.own b hb'
   ·simp only[Θ']at hb';split at hb'
    ·rename_i hin;exact hs.mine b (by rw[Je b hin];omega)
    ·exact hs.mine b hb'
   ·simp only[aM,bQ,aG,b8]at hj;unfold uP;rw[b9 (by omega)];exact hs.mT j (by omega)
   ·unfold uP at hy;split at hy
    ·cases hy;exact h1c
    ·exact hs.lM j y hy
   ·rcases yQ j y hj with⟨hjl,rfl⟩|⟨hjl,hy⟩
    ·right;right
     have hjn:j=st.H.length:=by rw[hjl];simp
     subst hjn;refine⟨⟨h2,by simp,c,c2,jN _ _ _,h3,n4,fun b hb'=>⟨by simp[Θ',hb'],(Bq b (by simp[hb'])).2⟩⟩,rfl⟩
    ·rcases vQ j y hy with⟨rfl,rfl⟩|⟨hne,hy'⟩
     ·right;right
      refine⟨⟨Hq hrl (by rw[bQ];exact hrl r (aB hr)),fun z hz=>hn _ _ (VG z hz),_,g::(c1++([]++c3)),hn _ _ hk,⟨g,o0,Ut,cs,c1++([]++c3),by simp,hb,by simpa using hcap,xR,hcs,?_,rfl,c,h1,jN _ _ _⟩,?_,fun b hb'=>?_⟩,rfl⟩
      ·rw[Fb hrl hr hc];exact hnew
      ·simp only[cC,eo,aU,GF];exact⟨⟨hg1,hg3⟩,bA.2 ⟨n1,n5,fun x hx y hy e=>n3 x hx y (by simp[hy]) e⟩⟩
      ·have ZR:b∈g::(c1++(c2++c3)):=by
        simp only[cC,bG,aU]at hb'⊢;rcases hb' with h|h|h<;>simp[h]
       refine⟨?_,(Bq b ZR).2⟩;simp only[Θ'];rw[b9,(Bq b ZR).1];intro hin;simp only[cC,bG,aU]at hb';rcases hb' with h|h|h
       ·subst h;exact Zc hin
       ·exact n3 b h b (by simp[hin]) rfl
       ·exact n6 b hin b h rfl
     ·exact .inr (.inl ⟨by simpa using hne,hy'⟩)
  refine wpList_plain hg fun K hK=>?_
  unfold Oper.wp;have hrun:(execOp a.eval o).run P w=.ok (.value c) w:=by
   simp only[execOp,hop,hv];simp[L.2 rfl c h1]
  rw[hrun,Oper.upon_value,hd];exact hK _ _ (h _ _ _ w (hs'.set (d:=.acc st.H.length) (bs:=[]) ht (vR.acc st.H.length c (jN _ _ _)).LR (by simp)))
theorem Re{id n i sz off Oa:Nat}{rows eY:List aK}{r:aK}{d:D}{u u2:Option Value}(hH:st.H[id]?=some (.hole sz rows u (i*sz+off) n))(hN:st.H[n]?=some (.eE Oa eY u2))(hr:rows[i]?=some r)(hc:r[off]?=some d)
 (h:AO P Γ all rest Q ⟨st.σ,(st.H.set n .gone).set id (.eE sz (rows.set i (r.set off (.sl eY))) u)⟩):AO P Γ all rest Q st:=by
 intro κ Θ a w hs;obtain⟨hrl,VG,v,bs,hk,⟨b,o0,cap,cs,ns,rfl,h1,h2,h3,h4,h5,rfl,c,h6,h7⟩,hnd,Bq⟩:=hs.ob id _ hH;obtain⟨a4b,_,v2,UQ,hk2,a2I,a2B,SB⟩:=hs.ob n _ hN;rw[h7]at hk2;cases hk2;obtain⟨hf,hoff,_⟩:=Hj hrl hr hc;obtain⟨c',c1,c2,c3,q1,q1c,q3,rfl,oD⟩:=h5.a0I hf;rw[h6]at q1;cases q1;have hnew:=oD (.sl eY) UQ a2I;have hne:n≠id:=fun e=>by subst e;rw[hH]at hN;cases hN
 have Zd:id<st.H.length:=(aD.1 hH).1;have AY:=hnd;simp only[eo,aU,GF]at AY;obtain⟨⟨hg1,Zc,hg3⟩,Gf⟩:=AY;obtain⟨n1,n2,n3⟩:=bA.1 Gf;obtain⟨n4,n5,n6⟩:=bA.1 n2;have Xa:∀x∈UQ,∀y∈b::(c1++(c2++c3)),x≠y:=by
  intro x hx y hy e;subst e;have e1:=(SB x hx).1;have e2:=(Bq x hy).1;omega
 let Θ':Nat->Nat:=fun x=>if x∈UQ then id+2 else if Θ x=n+2 then 1 else Θ x
 refine h κ Θ' a w (hs.OX [id,n] rfl rfl rfl (bH _) (fun _ _ _=>rfl) (fun x _ hnx=>?_) (fun x hx=>?_) (fun x hx=>?_) (fun _ _ h=>h) (fun j hj=>hs.mT j (by simpa using hj)) hs.lM (fun j y hj=>?_))
 ·simp only[Θ'];rw[b9 (fun hin=>hnx n (by simp) (SB x hin).1),b9 (hnx n (by simp))]
 ·simp only[Θ']at hx;split at hx
  ·rename_i hin;exact hs.own x (by rw[(SB x hin).1];omega)
  ·split at hx
   ·rename_i he;exact hs.own x (by rw[he];omega)
   ·exact hs.own x hx
 ·simp only[Θ']at hx;split at hx
  ·rename_i hin;exact hs.mine x (by rw[(SB x hin).1];omega)
  ·split at hx
   ·omega
   ·exact hs.mine x hx
 ·rcases vQ j y hj with⟨rfl,rfl⟩|⟨DU,hy⟩
  ·right;right
   refine⟨⟨Hq hrl (by rw[bQ];exact hrl r (aB hr)),VG,_,b::(c1++(UQ++c3)),hk,?_,?_,fun x hx=>?_⟩,rfl⟩
   ·have hl:(rows.set i (r.set off (.sl eY))).length=rows.length:=by simp
    have:=Rd.sl (w:=w) b o0 cap sz (rows.set i (r.set off (.sl eY))) cs (c1++(UQ++c3)) h1 (by rw[hl];exact h2) h3 (Hq hrl (by rw[bQ];exact hrl r (aB hr))) h4 (by rw[Fb hrl hr hc];exact hnew);rw[hl]at this;exact this
   ·simp only[eo,aU,GF];refine⟨⟨hg1,fun hin=>Xa b hin b (by simp) rfl,hg3⟩,bA.2 ⟨n1,bA.2 ⟨a2B,n5,fun x hx y hy e=>Xa x hx y (by simp[hy]) e⟩,fun x hx y hy e=>?_⟩⟩;rcases aU.1 hy with hy|hy
    ·exact Xa y hy x (by simp[hx]) e.symm
    ·exact n3 x hx y (by simp[hy]) e
   ·by_cases hin:x∈UQ
    ·exact⟨by simp[Θ',hin],(SB x hin).2⟩
    ·have ZR:x∈b::(c1++(c2++c3)):=by
      simp only[bG,aU]at hx⊢;rcases hx with h|h|h|h
      ·simp[h]
      ·simp[h]
      ·exact absurd h hin
      ·simp[h]
     refine⟨?_,(Bq x ZR).2⟩;have e1:=(Bq x ZR).1;simp only[Θ'];rw[b9 hin,b9 (by omega),e1]
  ·rcases vQ j y hy with⟨rfl,rfl⟩|⟨hj2,hy'⟩
   ·exact .inl rfl
   ·exact .inr (.inl ⟨by simp[DU,hj2],hy'⟩)
theorem jR.setCells{vs:bY}{ds es:aK}{us:bY}{bs:aP}(h:jR w vs ds bs)(p:Nat)(hp:p+es.length<=ds.length)(hu:jR w us es []):
 ∃b',jR w (vs.take p++us++vs.drop (p+us.length)) (ds.take p++es++ds.drop (p+es.length)) b'/\(∀b∈b',b∈bs)/\(bs.Nodup->b'.Nodup):=by
 have e:ds=ds.take p++((ds.drop p).take es.length++(ds.drop p).drop es.length):=by rw[cA,cA]
 rw[e]at h;obtain⟨v1,v2,b1,b2,rfl,rfl,k1,k2⟩:=h.split;obtain⟨v3,v4,b3,b4,rfl,rfl,k3,k4⟩:=k2.split;have l1:v1.length=p:=by rw[k1.length];simp;omega
 have l3:v3.length=es.length:=by rw[k3.length];simp;omega
 have lu:=hu.length;have t1:(v1++(v3++v4)).take p=v1:=gU l1;have t2:(v1++(v3++v4)).drop (p+us.length)=v4:=by
  rw[<-fU,eg l1,lu,eg l3]
 rw[t1,t2];rw[fU]at k4;refine⟨b1++[]++b4,(k1.app hu).app k4,fun b hb=>?_,fun hnd=>?_⟩
 ·simp only[cB,aU]at hb⊢;rcases hb with h|h<;>simp[h]
 ·obtain⟨n1,n2,n3⟩:=bA.1 hnd;obtain⟨_,n5,_⟩:=bA.1 n2;simp only[cB];exact bA.2 ⟨n1,n5,fun x hx y hy e=>n3 x hx y (by simp[hy]) e⟩
theorem Pv{o:Oper}{T id i sz off:Nat}{x y:Operand}{rows:List aK}{r ds:aK}{u:Option Value}(hop:o.op=.store T x y)(hd:o.dst=none)(hg:o.guard=none)
 (hx:st.ev x=.op id i sz off) (hH:st.H[id]?=some (.eE sz rows u)) (hr:rows[i]?=some r) (hc:(st.ev y).cellsOf=some ds) (hfl:ds.all D.flat=true) (hT:LP P T=true) (hl:ds.length=vV P T) (hpos:0<ds.length) (hfit:off+ds.length<=sz)
 (h:AO P Γ all rest Q ⟨st.σ,st.H.set id (.eE sz (rows.set i (r.take off++ds++r.drop (off+ds.length))) u)⟩):AO P Γ all (o::rest) Q st:=by
 intro κ Θ a w hs;obtain⟨b1,r1,_⟩:=hs.ev x;obtain⟨b2,r2,_⟩:=hs.ev y;rw[hx]at r1;obtain⟨g,o0,len,Ut,hk,hv⟩:=r1.C1;obtain⟨hrl,VG,v,bs,hk2,hrd,hnd,Bq⟩:=hs.ob id _ hH;rw[hk]at hk2;cases hk2;have SD:=xu hs.lM r2 hc;have hl1:=SD.length;have a1t:ds.all D.Lh=true:=by
  rw[au]at hfl⊢;intro d Ei;have:=hfl d Ei;cases d<;>first|rfl| (simp[D.flat]at this)
 have ZW:=SD.pure a1t;have NN:=ZW.flat hfl;subst NN;have hrow:=hrl r (aB hr);have hilt:=(aD.1 hr).1;have Xb:(i+1)*sz<=rows.length*sz:=dO _ hilt;rw[iT,kP]at Xb;cases hrd with
 |lN=>simp at hr
 |sl _ _ _ sz' _ cs ns hb hcap xR HW hcs p9=>
  obtain⟨hgT,hgw⟩:=Bq g (by simp);obtain⟨cur,Tb,US⟩:=hgw;have Zb:=lR hrl;have hcl:cs.length=rows.length*sz:=by rw[p9.length,Zb]
  have IW:∀j c,cs[j]?=some c->cur[o0+j]?=some c:=by
   intro j c hj;have:=hcs j c hj;simpa[World.cell?,US]using this
  have Za:o0+(i*sz+off)+(a.eval y).cells.size<=cur.size:=by
   have e1:(a.eval y).cells.size=ds.length:=by rw[<-hl1];simp
   rw[e1];have:=IW (i*sz+off+ds.length-1) cs[i*sz+off+ds.length-1] (aV (by omega));have:=(az.1 this).1;omega
  have Xo:(a.eval y).cells.size=vV P T:=by rw[<-hl,<-hl1];simp
  have hst:=C4 (P:=P) (T:=T) (off:=o0+(i*sz+off)) US Xo (dP.1 hT) Za SD.one;have hne:(a.eval y).cells.toList.length=ds.length:=hl1;let HS:Array Value:=(cur.toList.take (o0+(i*sz+off))++(a.eval y).cells.toList++cur.toList.drop (o0+(i*sz+off)+(a.eval y).cells.toList.length)).toArray
  have hw':∀x,x≠g->(w.setRow g HS).heap[x]?=w.heap[x]?:=fun x hx=>setRow_other w g x _ hx
  have hsame:∀x,x<w.heap.size->(∀m∈[id],Θ x≠m+2)->(w.setRow g HS).heap[x]?=w.heap[x]?:=fun x _ hx=>hw' x (fun e=>hx id (by simp) (by rw[e];exact hgT))
  simp only[eo]at hnd;have a2L:jR (w.setRow g HS) cs rows.flatten ns:=p9.keep fun b hb'=>hw' b (fun e=>hnd.1 (e▸hb'))
  have a1l:jR (w.setRow g HS) (a.eval y).cells.toList ds []:=ZW.keep (by simp);obtain⟨ns',q1,q2,q3⟩:=a2L.setCells (i*sz+off) (by rw[Zb];omega) a1l;have hfs:=Bm (ds:=ds) (off:=off) hrl hr hfit;have Zg:(rows.set i (r.take off++ds++r.drop (off+ds.length))).length=rows.length:=by simp
  have Zo:∀z∈rows.set i (r.take off++ds++r.drop (off+ds.length)),z.length=sz:=Hq hrl (by simp;omega);have hcell:∀j c,(cs.take (i*sz+off)++(a.eval y).cells.toList++cs.drop (i*sz+off+(a.eval y).cells.toList.length))[j]?=some c->(w.setRow g HS).cell? ⟨g,o0+j,none⟩=some c:=by
   intro j c hj;have hgh:(w.setRow g HS).heap[g]?=some (.cells HS Tb (0,0)):=setRow_heap w g cur _ Tb _ US;simp only[World.cell?,hgh];show HS[o0+j]?=some c;simp only[HS,iB,bN]at hj⊢;have hcz:o0+(i*sz+off)<=cur.toList.length:=by simp;omega
   by_cases DU:j<i*sz+off
   ·rw[aj (by simp;omega),cH,bM DU]at hj;rw[aj (by rw[cG];omega),cH,bM (by omega)];have:=IW j c hj;simpa using this
   ·rw[av (by rw[cG];omega),cG,eD (by omega)]at hj;rw[av (by rw[cG];omega),cG,eD hcz];rw[show o0+j-(o0+(i*sz+off))=j-(i*sz+off)from by omega];by_cases hj2:j-(i*sz+off)<(a.eval y).cells.toList.length
    ·rw[aj hj2]at hj⊢;exact hj
    ·rw[av (by omega),dW]at hj⊢;have:=IW _ c hj;rw[<-pX]at this;rw[<-this];congr 1;omega
  refine wpList_plain hg fun K hK=>?_
  unfold Oper.wp;have hrun:(execOp a.eval o).run P w=.ok .skip (w.setRow g HS):=by
   simp only[execOp,hop,hv];simp[hst,HS]
  rw[hrun,Oper.upon_skip,hd];refine hK _ _ (h κ Θ _ _ (hs.OX [id] rfl rfl rfl (by simp) hsame (fun _ _ _=>rfl) (fun b hb'=>by simpa using hs.own b hb') hs.mine (fun _ _ h=>h) (fun j hj=>hs.mT j (by simpa using hj)) hs.lM (fun j z hj=>?_)));rcases vQ j z hj with⟨rfl,rfl⟩|⟨DU,hz⟩
  ·right;right
   refine⟨⟨Zo,VG,_,g::ns',hk,?_,?_,fun b hb'=>?_⟩,rfl⟩
   ·have:=Rd.sl (w:=w.setRow g HS) g o0 Ut sz (rows.set i (r.take off++ds++r.drop (off+ds.length))) _ ns' (by simpa using hb) (by rw[Zg];exact hcap) xR Zo hcell (by rw[hfs];exact q1);rw[Zg]at this;exact this
   ·simp only[eo];exact⟨fun hin=>hnd.1 (q2 g hin),q3 hnd.2⟩
   ·rcases bG.1 hb' with rfl|hin
    ·exact⟨hgT,⟨_,Tb,setRow_heap w b cur _ Tb _ US⟩⟩
    ·have hm:=Bq b (by simp[q2 b hin]);refine⟨hm.1,?_⟩;obtain⟨xs,T',hxs⟩:=hm.2;exact⟨xs,T',(hw' b (fun e=>hnd.1 (e▸q2 b hin))).trans hxs⟩
  ·exact .inr (.inl ⟨by simpa using DU,hz⟩)
end
end Go.Cx
namespace Go.Cx
open Go.RowKit
def DP(P:Program)(f:FuncId)(ds:aK)(e sz:Nat)(rows cm:List aK):Prop:=
 (∃fn,P.funcs[f]?=some fn/\fn.body.isSome=true/\(fn.name== "runtime.NumGoroutine")=false)/\
 ∀(w:World) (κ:Nat->Option Value) (args:bY) (v:Value) (cs:bY),JR w (fun b=>v.ownBlock=some b)->args.length=ds.length->(∀(i:Nat) d,ds[i]?=some d->∃u,args[i]?=some u/\oK w κ u d [])->
  κ 0=some v->(∀i,1<=i->κ i=none)->v.oneCell'=true->0<sz->(∀r∈rows,r.length=sz)->w.ownsRow 0 e sz v rows.length cs->jR w cs rows.flatten []->
  Calls P f args.toArray w (fun x w'=>∃v' cs',x=.returned v'/\v'.oneCell'=true/\(∀r∈cm,r.length=sz)/\w'.ownsRow 0 e sz v' cm.length cs'/\jR w' cs' cm.flatten []/\(∀g,v'.ownBlock=some g->w.heap.size<=g\/v.ownBlock=some g)/\
   w'.os=w.os/\w'.tape=w.tape/\w'.output=w.output/\w.heap.size<=w'.heap.size/\∀b,b<w.heap.size->v.ownBlock≠some b->w'.heap[b]?=w.heap[b]?)
section
variable{P:Program}{Γ:pG}{Q:Exit->St->Prop}{st:St}{κ κ':Nat->Option Value}{Θ Θ':Nat->Nat}{a:Act}{w w':World}{all:Array Oper}{rest:List Oper}
theorem KY.out{fn:Func}{d:D}{e:Exit}{a':Act}{w':World}{JJ:St}{κ0:Nat->Option Value}{Θ0:Nat->Nat}(hs0:cz Γ JJ κ0 Θ0 a' w')(SW:KY P fn d e JJ):
 (e=.ret\/e=.normal)/\a'.defers=[]/\Lo Γ w'/\∃v bs ts us,(results fn a'.tmps).run P w'=.ok v w'/\vf w' v d bs ts us/\∀b∈ts,uS Γ b:=by
 obtain⟨xS,nz,QF,es,ms,qs,hres,SX,IZ,Gg,rfl⟩:=SW;obtain⟨ρ0,VF⟩:=hs0.qA;have wv:=sG SX;obtain⟨Θ1,ρ1,hs1,hu1,hm1,Jf,O4⟩:=cz.CG ms hs0 VF IZ (fun m hm=>by
  obtain⟨e,sz,rows,hH⟩:=wv.1 m hm;exact⟨_,e,sz,rows,hH,rfl⟩)
 obtain⟨vs,bs',m1,m2,m3,m4,m5⟩:=yS hs0 hres;have hq:∀m e sz rows,JJ.H[m]?=some (.row .uq e sz rows)->∃v cs ns,κ0 m=some v/\0<sz/\(∀r∈rows,r.length=sz)/\w'.ownsRow 0 e sz v rows.length cs/\jR w' cs rows.flatten ns/\ns.Nodup/\(∀b∈ns,ρ1 b=m+1)/\∀g,v.ownBlock=some g->Θ1 g=m+2:=by
  intro m e sz rows hH;have hnm:m∉ms:=fun hm=>by
   obtain⟨e',sz',cm,AX⟩:=wv.1 m hm;rw[hH]at AX;cases AX
  have JH:(kill JJ.H ms)[m]?=some (.row .uq e sz rows):=by rw[fB hnm];exact hH
  obtain⟨v,cs,ns,r1,r2,r3,r4,r5⟩:=hu1.rows m e sz rows JH;obtain⟨p1,p2,v2,_,_,p3,_,_,p4,_⟩:=hs1.ob m _ JH;rw[r1]at p3;cases p3;exact⟨v,cs,ns,r1,p1,p2,r2,r3,r4,r5,p4⟩
 obtain⟨c,ts,us,yK,wH⟩:=vU (w:=w') (vs:=vs) (fun b hb=>(hu1.free b hb).1) hq hs0.lM SX Gg (by omega) (fun i d hd=>by
  obtain⟨v,b,k1,k2,k3⟩:=m4 i d hd;exact⟨v,b,k1,k2,fun x hx=>Jf x (m5 x (k3 x hx))⟩) hm1
 have ES:∃v,(results fn a'.tmps).run P w'=.ok v w'/\vf w' v (vC es) c ts us:=by
  have hrun:(results fn a'.tmps).run P w'=.ok (if h:vs.toArray.size=1 then vs.toArray[0]else .tuple vs.toArray) w':=by
   rw[results_eq,je];simp[m1]
  cases yK with
  |nil=>exact⟨.tuple #[],by simpa using hrun,.iE [] [] [] [] [] .nil⟩
  |cons v vs d es b1 b2 t1 t2 u1 u2 hv p8=>
   cases p8 with
   |nil=>
    simp only[cB];exact⟨v,by simpa using hrun,.v hv⟩
   |cons v2 vs d2 es b3 b4 t3 t4 u3 u4 MW p8=>exact⟨.tuple (v::v2::vs).toArray,by simpa using hrun,.iE _ _ _ _ _ (.cons _ _ _ _ _ _ _ _ _ _ hv (.cons _ _ _ _ _ _ _ _ _ _ MW p8))⟩
 obtain⟨v,O5,Jd⟩:=ES;refine⟨xS,hs0.defers,hs0.stays,v,c,ts,us,O5,Jd,fun b hb'=>?_⟩;obtain⟨⟨m,hm,hΘ⟩,_⟩:=wH.top b hb';exact hs1.mine b (by omega)
theorem DP.of{f:FuncId}{fn:Func}{c:Code}{ds:aK}{e sz:Nat}{rows cm:List aK}(hf:P.funcs[f]?=some fn)(hb:fn.body=some c)(hn:(fn.name== "runtime.NumGoroutine")=false)
 (hl:ds.length<=fn.ntmps) (hfl:cm.flatten.all D.flat=true) (h:rows.length<=maxLen->∀Γ:pG,Γ.nt=fn.ntmps->AW P Γ c (KY P fn (.fr e sz cm)) ⟨uj 0 ds,[.row .uq e sz rows]⟩):DP P f ds e sz rows cm:=by
 refine⟨⟨fn,hf,by simp[hb],hn⟩,?_⟩;intro w κ args v cs Ic hlen hargs hk0 hk1 hone hsz hrl hown hrd;refine calls_of_wp hf hb ?_;let Θ:Nat->Nat:=fun b=>if v.ownBlock=some b then 2 else if b<w.heap.size then 1 else 0
 let Γ:pG:=⟨w,Θ,fun b=>v.ownBlock=some b,fn.ntmps,fun _=>False,Ic⟩
 have hlt:∀b,v.ownBlock=some b->b<w.heap.size:=fun b hb'=>(hown.lt b hb').2
 have xR:rows.length<=maxLen:=(gm.sl ⟨w,v,_,rj hrl hown hrd⟩).1;have hs:cz Γ ⟨uj 0 ds,[.row .uq e sz rows]⟩ κ Θ {tmps:=args.toArray++Array.replicate (fn.ntmps-args.toArray.size) undef,defers:=[]} w:=by
  refine⟨rfl,?_,fun i hi=>hk1 i (by simpa using hi),?_,?_,?_,?_,?_,?_,⟨rfl,rfl,rfl,bH _,fun _ _ _=>rfl⟩,⟨fun _=>0,by simp,?_,?_⟩⟩
  ·simp[Γ];omega
  ·intro id u hu;rcases Nat.eq_zero_or_pos id with rfl|hp
   ·rw[hk0]at hu;cases hu;exact hone
   ·rw[hk1 id hp]at hu;cases hu
  ·intro t;rw[By];simp only[rP,vb,sO];cases hd:ds[t]? with
   |none=>exact⟨[],.of (.any _),by simp⟩
   |some x=>
    obtain⟨u,k1,k2⟩:=hargs t x hd;refine⟨[],?_,by simp⟩;have hlt:t<args.length:=(aD.1 k1).1;have:(args.toArray++Array.replicate (fn.ntmps-args.toArray.size) undef).getD t undef=u:=by
     rw[bz,dV (by simpa using hlt)];simp[k1]
    rw[this];exact k2
  ·intro j o hj;cases j with
   |zero=>
    simp at hj;subst hj;exact⟨hsz,hrl,v,cs,[],hk0,hown,hrd,fun g hg=>by simp only[Θ];rw[bM hg],by simp⟩
   |succ j=>simp at hj
  ·intro b hb';simp only[Θ]at hb';split at hb'
   ·rename_i hv;exact hlt b hv
   ·split at hb'
    ·assumption
    ·exact absurd rfl hb'
  ·intro b hb' hx;refine⟨rfl,?_⟩;have hx':¬v.ownBlock=some b:=hx;simp only[Θ];rw[b9 hx'];split<;>omega
  ·intro b hb';simp only[Θ]at hb';split at hb'
   ·rename_i hv;exact .inr hv
   ·split at hb'<;>omega
  ·intro id e' sz' eY hj;cases id with
   |zero=>
    simp at hj;obtain⟨rfl,rfl,rfl⟩:=hj;exact⟨v,cs,[],hk0,hown,hrd,by simp,by simp⟩
   |succ j=>simp at hj
  ·intro id o hj;cases id with
   |zero=>simp at hj;subst hj;exact GJ.sZ rfl
   |succ j=>simp at hj
 refine wp_mono (h xR Γ rfl _ _ _ _ hs) ?_;rintro x a' w' ⟨JJ,κ0,Θ0,hs0,SW⟩;obtain⟨xS,hdf,hst,u,bs,ts,us,hrun,hres,Gz⟩:=KY.out hs0 SW;have ES:∃u cs',(results fn a'.tmps).run P w'=.ok u w'/\u.oneCell'=true/\(∀r∈cm,r.length=sz)/\w'.ownsRow 0 e sz u cm.length cs'/\jR w' cs' cm.flatten []/\(∀g,u.ownBlock=some g->w.heap.size<=g\/v.ownBlock=some g)/\
  w'.os=w.os/\w'.tape=w.tape/\w'.output=w.output/\w.heap.size<=w'.heap.size/\∀b,b<w.heap.size->v.ownBlock≠some b->w'.heap[b]?=w.heap[b]?:=by
  cases hres with
  |v hv=>
   cases hv with
   |cell hc=>
    cases hc with
    |pure hc=>cases hc
    |fr _ _ _ cs' ns h1 h2 h3 h4 h5=>
     have:=h4.flat hfl;subst this;exact⟨u,cs',hrun,h5,h2,h3,h4,fun g hg=>Gz g (by simp[hg]),hst.os,hst.tape,hst.output,hst.size,fun b hb' hx=>hst.block b hb' hx⟩
 obtain⟨u,cs',q1,q2⟩:=ES;have post:a'.defers=[]/\∃v',(results fn a'.tmps).run P w'=.ok v' w'/\∃v2 cs2,Ending.returned v'=.returned v2/\v2.oneCell'=true/\(∀r∈cm,r.length=sz)/\w'.ownsRow 0 e sz v2 cm.length cs2/\jR w' cs2 cm.flatten []/\(∀g,v2.ownBlock=some g->w.heap.size<=g\/v.ownBlock=some g)/\
  w'.os=w.os/\w'.tape=w.tape/\w'.output=w.output/\w.heap.size<=w'.heap.size/\∀b,b<w.heap.size->v.ownBlock≠some b->w'.heap[b]?=w.heap[b]?:=⟨hdf,u,q1,u,cs',rfl,q2⟩
 rcases xS with rfl|rfl
 ·exact post
 ·exact post
theorem RZ{o:Oper}{f t id:Nat}{xs:Array Operand}{ts:Array TypeId}{e sz:Nat}{rows cm:List aK}(hop:o.op=.call {callee:=.value (.func f),args:=xs,argTypes:=ts})(hd:o.dst=some t)(hg:o.guard=none)
 (ht:t<Γ.nt) (hH:st.H[id]?=some (.row .uq e sz rows)) (hfl:rows.flatten.all D.flat=true) (hb:((xs.toList.map st.ev).all D.bare)=true) (kV:DP P f ((xs.toList.map st.ev).map (D.PZ [id])) e sz rows cm)
 (h:AO P Γ all rest Q ⟨(t,.acc st.H.length)::st.σ,kill st.H [id]++[.row .uq e sz cm]⟩):AO P Γ all (o::rest) Q st:=by
 intro κ Θ a w hs;obtain⟨hsz,hrl,v,cs,bs,hk,hown,hrd,Bs,_⟩:=hs.ob id _ hH;have Bq:=hrd.flat hfl;subst Bq;have QZ:id<st.H.length:=(aD.1 hH).1;let κc:Nat->Option Value:=fun j=>if j=0 then some v else none
 have Ic:JR w fun b=>v.ownBlock=some b:=by
  obtain⟨B,v1,v2⟩:=hs.Z6;refine⟨B,v1,fun b hB=>⟨(v2 b hB).2.1,fun hb'=>?_⟩⟩;have e1:=Bs b hb';rcases hs.mine b (by omega)with q|q
  ·have:=(v2 b hB).1;omega
  ·exact(v2 b hB).2.2 q
 have hargs:∀(i:Nat) d,((xs.toList.map st.ev).map (D.PZ [id]))[i]?=some d->∃u,(xs.toList.map a.eval)[i]?=some u/\oK w κc u d []:=by
  intro i d Ei;rw[bg,bg]at Ei;cases hx:xs.toList[i]? with
  |none=>rw[hx]at Ei;cases Ei
  |some x=>
   rw[hx]at Ei;simp only[cJ,ah]at Ei;subst Ei;refine⟨a.eval x,by rw[bg,hx];rfl,?_⟩;obtain⟨bs,r,hz⟩:=hs.ev x;have SA:(st.ev x).bare=true:=au.1 hb _ (cO.2 ⟨x,aB hx,rfl⟩);obtain⟨b',r',_⟩:=oK.rn (o:=[id]) (κ':=κc) (Θ:=fun _=>0) (Θ':=fun _=>0) (fun i j u h1 h2=>by
    have h3:=LA h1;cases j with
    |zero=>simp at h3;subst h3;rw[hk]at h2;simpa[κc]using h2
    |succ j=>simp at h3) (fun _ _=>rfl) r (fun _ _=>rfl)
   have:=r'.P0 (D.P3 [id] SA);subst this;exact r'
 have hc:=kV.2 w κc (xs.toList.map a.eval) v cs Ic (by simp) hargs (by simp[κc]) (fun i hi=>by simp only[κc];rw[b9 (by omega)]) (hs.lM id v hk) hsz hrl hown hrd;refine wpList_plain hg fun K hK=>?_
 unfold Oper.wp;rw[si hop kV.1,Oper.upon_enter];have e0:xs.map a.eval=(xs.toList.map a.eval).toArray:=by rw[<-fY,iR]
 rw[e0];refine hc.mono ?_;rintro x w' ⟨v',cs',rfl,hone,HW,Ff,Ia,XW,h1,h2,h3,h4,IU⟩;show K (a.put o.dst v') w';rw[hd];let n:=st.H.length
 let Θ':Nat->Nat:=fun b=>if some b=v'.ownBlock then n+2 else Θ b
 have UW:∀g,v'.ownBlock=some g->Θ g=id+2\/w.heap.size<=g:=by
  intro g QY;rcases XW g QY with h|h
  ·exact .inr h
  ·exact .inl (Bs g h)
 have k:gZ w w' Θ Θ' (id+2):=by
  refine⟨by omega,h1,h2,h3,h4,fun b hb hne=>IU b hb (fun e=>hne (Bs b e)),fun b hb hne=>?_,fun b hb=>?_⟩
  ·simp only[Θ'];rw[b9];intro e;rcases UW b e.symm with h|h
   ·exact hne h
   ·omega
  ·simp only[Θ']at hb;split at hb
   ·rename_i e;exact(Ff.lt b e.symm).2
   ·exact dG (hs.own b hb) h4
 have hm:∀b,2<=Θ' b->uS Γ b:=by
  intro b hb;simp only[Θ']at hb;split at hb
  ·rename_i e;rcases UW b e.symm with h|h
   ·exact hs.mine b (by omega)
   ·exact .inl (cZ hs.base h)
  ·exact hs.mine b hb
 have hn:=tf (hs.mT n (bH _)) (some v');obtain⟨ρ,hu⟩:=hs.qA;have q9:=hs.lG k hn hu;have key:∀(j:Nat) y,(kill st.H [id]++[.row .uq e sz cm])[j]?=some y->(j=n/\y=.row .uq e sz cm)\/(j≠n/\(y=.gone\/(j∉[id]/\st.H[j]?=some y))):=by
  intro j y hj;rcases yQ j y hj with⟨h1,h2⟩|⟨h1,h2⟩
  ·rw[eX]at h1;exact .inl ⟨h1,h2⟩
  ·rw[eX]at h1;exact .inr ⟨h1,lF h2⟩
 have hs':cz Γ ⟨st.σ,kill st.H [id]++[.row .uq e sz cm]⟩ (uP κ n (some v')) Θ' a w':=by
  refine hs.step k hm hn ?_ ?_ ?_ ⟨ρ,q9.1,fun j e' sz' eY hj=>?_,fun j y hj=>?_⟩
  ·intro i hi;simp only[aM,aG,b8,eX]at hi;unfold uP;rw[b9 (by omega)];exact hs.mT i (by omega)
  ·intro i y hy;unfold uP at hy;split at hy
   ·cases hy;exact hone
   ·exact hs.lM i y hy
  ·intro j y hj;rcases key j y hj with⟨rfl,rfl⟩|⟨_,hy|⟨hjk,hy⟩⟩
   ·exact .inr (.inr ⟨hsz,HW,v',cs',[],jN _ _ _,Ff,Ia,fun g QY=>by simp only[Θ'];rw[bM QY.symm],by simp⟩)
   ·exact .inl hy
   ·exact .inr (.inl ⟨fun e=>hjk (by simp;omega),hy⟩)
  ·rcases key j _ hj with⟨rfl,hy⟩|⟨_,hy|⟨hjk,hy⟩⟩
   ·simp only[Ob.row.injEq,nU]at hy;obtain⟨rfl,rfl,rfl⟩:=hy;exact⟨v',cs',[],jN _ _ _,Ff,Ia,by simp,by simp⟩
   ·cases hy
   ·exact q9.2.1 j e' sz' eY (fun e=>hjk (by simp;omega)) hy
  ·rcases key j _ hj with⟨rfl,hy⟩|⟨_,hy|⟨hjk,hy⟩⟩
   ·subst hy;exact GJ.sZ rfl
   ·subst hy;trivial
   ·exact q9.2.2 j y (fun e=>hjk (by simp;omega)) hy
 refine hK _ _ (h _ _ _ _ (hs'.set (t:=t) (d:=.acc n) (bs:=[]) ht ?_ (by simp)));exact(vR.acc n _ (jN _ _ _)).LR
end
end Go.Cx
namespace Go.Cx
open Go.RowKit
def qm(P:Program)(f:FuncId)(cells cells':aK)(ds:aK)(d:D):Prop:=
 (∃fn,P.funcs[f]?=some fn/\fn.body.isSome=true/\(fn.name== "runtime.NumGoroutine")=false)/\
 ∀(w:World) (Θ:Nat->Nat) (g:Nat) (cs:Array Value) (T:TypeId) (args:bY) (bs ts us:aP),
  JR w (fun b=>b=g\/b∈ts)->w.heap[g]?=some (.cells cs T (0,0))->x9 w (.agg cs::args) (.agg cells::ds) bs ts us->
  (∀b∈bs,Θ b=0)->(∀b,Θ b≠0->b<w.heap.size)->(∀b,Θ b<=1)->Θ g=1->(∀b∈ts,Θ b=1/\b∈us/\b≠g)->us.Nodup->(∀b∈us,(b∉ts->Θ b=0)/\Wr w b)->
  Calls P f (.pointer (some ⟨g,0,none⟩)::args).toArray w (fun e w'=>∃v cs' T' b2 t2 u2 b3 t3 u3,e=.returned v/\w'.os=w.os/\w'.tape=w.tape/\w'.output=w.output/\w.heap.size<=w'.heap.size/\
   (∀b,b<w.heap.size->b≠g->b∉ts->w'.heap[b]?=w.heap[b]?)/\w'.heap[g]?=some (.cells cs' T' (0,0))/\
   vf w' v d b2 t2 u2/\qK w' cs'.toList cells' b3 t3 u3/\(∀b∈b3++b2,(b<w.heap.size->Θ b=0\/b∈ts)/\b≠g/\b∉t3++t2)/\(u3++u2).Nodup/\
   (∀b∈u3++u2,(w.heap.size<=b\/b∈us)/\b≠g/\Wr w' b)/\∀b∈t3++t2,b∈u3++u2/\(w.heap.size<=b\/b∈ts))
section
variable{P:Program}{Γ:pG}{Q:Exit->St->Prop}{st:St}{κ κ':Nat->Option Value}{Θ Θ':Nat->Nat}{a:Act}{w w':World}{all:Array Oper}{rest:List Oper}
theorem CN.Rn{cs:Array Value}{ds:aK}{bs ts us:aP}(h:CN w (.agg cs) (.agg ds) bs ts us):qK w cs.toList ds bs ts us:=by
 generalize hv:Value.agg cs=v at h;cases h with
 |cell h=>
  cases h with
  |pure h=>
   cases h with
   |agg l _ _ h=>cases hv;simpa using qK.zY h
 |agg l _ _ _ _ h=>cases hv;simpa using h
theorem I0.Rn{cs:Array Value}{ds:aK}{bs:aP}(h:I0 w κ (.agg cs) (.agg ds) bs):eN w κ cs.toList ds bs:=by
 generalize hv:Value.agg cs=v at h;cases h with
 |cell h=>
  cases h with
  |pure h=>
   cases h with
   |agg l _ _ h=>cases hv;simpa using eN.zY h
 |agg l _ _ h=>cases hv;simpa using h
theorem CM.shown{v:Value}{d:D}{bs ts us:aP}(h:CM w v d bs ts us):∃b,Rd w v d.UZ b:=by
 cases h with
 |pure h=>
  have e:d.UZ=d:=by cases h<;>rfl
  exact⟨_,e.symm▸h⟩
 |fr e sz rows cs ns h1 h2 h3 h4 h5=>exact⟨_,rj h2 h3 h4⟩
theorem qK.shown{vs:bY}{ds:aK}{bs ts us:aP}(h:qK w vs ds bs ts us):∃b,jR w vs (ds.map D.UZ) b:=by
 induction h with
 |nil=>exact⟨_,.nil⟩
 |cons v vs d ds b1 b2 t1 t2 u1 u2 h1 h2 _ ih=>
  obtain⟨b,q⟩:=h2.shown;obtain⟨b',q'⟩:=ih;exact⟨_,.cons _ _ _ _ _ _ h1 q q'⟩
theorem CN.shown{v:Value}{d:D}{bs ts us:aP}(h:CN w v d bs ts us):gm d.Ua:=by
 cases h with
 |cell h=>
  by_cases qG:∃ds,d=.agg ds
  ·obtain⟨ds,rfl⟩:=qG;cases h with
   |pure h=>cases h with
    |agg cs _ _ h=>
     obtain⟨b,q⟩:=(qK.zY h).shown;exact⟨w,_,_,.agg _ _ _ q⟩
  ·have e:d.Ua=d.UZ:=by cases d<;>first|rfl|exact absurd ⟨_,rfl⟩ qG
   rw[e];obtain⟨b,q⟩:=h.shown;exact⟨w,_,_,q⟩
 |agg cs ds bs ts us h=>
  obtain⟨b,q⟩:=h.shown;exact⟨w,_,_,.agg _ _ _ q⟩
theorem x9.shown{vs:bY}{ds:aK}{bs ts us:aP}(h:x9 w vs ds bs ts us):∀d∈ds.map D.Ua,gm d:=by
 induction h with
 |nil=>intro d hd;cases hd
 |cons v vs d ds b1 b2 t1 t2 u1 u2 h2 _ ih=>
  intro x hx;rcases bG.1 hx with rfl|hx
  ·exact h2.shown
  ·exact ih x hx
def HJ(L:lC)(b:Nat):Option Nat:=ix (fun x:Fs=>x.v.ownBlock==some b) L
def qC(L:lC)(b:Nat):Option Nat:=ix (fun x:Fs=>x.ns.contains b) L
theorem G4{L:lC}(hnd:(L.flatMap Fs.bl).Nodup){i:Nat}{x:Fs}{b:Nat}(hi:L[i]?=some x)(hb:x.v.ownBlock=some b):HJ L b=some i:=
 zG hi (by simp[hb]) (fun j y hj hy=>by
  simp only[cR]at hy;exact sE hnd j i y x b hj hi (by simp[Fs.bl,hy]) (by simp[Fs.bl,hb]))
theorem Oj{L:lC}{b i:Nat}(h:HJ L b=some i):b∈L.flatMap Fs.ts:=by
 obtain⟨x,hx,hp⟩:=td h;exact bp.2 ⟨x,aB hx,by simp only[cR]at hp;simp[Fs.ts,hp]⟩
theorem tT{L:lC}{b:Nat}(h:b∉L.flatMap Fs.ts):HJ L b=none:=by
 cases hb:HJ L b with
 |none=>rfl
 |some i=>exact absurd (Oj hb) h
theorem ye{L:lC}(hnd:(L.flatMap Fs.bl).Nodup){i:Nat}{x:Fs}{b:Nat}(hi:L[i]?=some x)(hb:b∈x.ns):qC L b=some i:=
 zG hi (by simpa using hb) (fun j y hj hy=>sE hnd j i y x b hj hi (by simp only[Fs.bl];exact aU.2 (.inr (by simpa using hy))) (by simp only[Fs.bl];exact aU.2 (.inr hb)))
theorem qc{L:lC}{b i:Nat}(h:qC L b=some i):∃x,L[i]?=some x/\b∈x.ns:=by
 obtain⟨x,hx,hp⟩:=td h;exact⟨x,hx,by simpa using hp⟩
theorem Ak{L:lC}{b:Nat}(h:b∈L.flatMap Fs.ts):b∈L.flatMap Fs.bl:=by
 obtain⟨x,hx,xD⟩:=bp.1 h;exact bp.2 ⟨x,hx,by simp only[Fs.bl,Fs.ts]at xD⊢;exact aU.2 (.inl xD)⟩
theorem oV{L:lC}{i b:Nat}{x:Fs}(h:L[i]?=some x)(hb:b∈x.ns):b∈L.flatMap Fs.bl:=
 bp.2 ⟨x,aB h,by simp only[Fs.bl];exact aU.2 (.inr hb)⟩
theorem M4{L:lC}(hnd:(L.flatMap Fs.bl).Nodup):∀x∈L,x.bl.Nodup:=by
 induction L with
 |nil=>intro x hx;cases hx
 |cons z r ih=>
  intro x hx;simp only[eF]at hnd;obtain⟨n1,n2,_⟩:=bA.1 hnd;rcases bG.1 hx with rfl|hx
  ·exact n1
  ·exact ih n2 x hx
theorem zI{L:lC}(hnd:(L.flatMap Fs.bl).Nodup){i b:Nat}{x:Fs}(h:L[i]?=some x)(hb:b∈x.ns):b∉L.flatMap Fs.ts:=by
 intro ht;obtain⟨y,hy,hby⟩:=bp.1 ht;obtain⟨j,hj⟩:=cX hy;have:=sE hnd j i y x b hj h (by simp only[Fs.bl,Fs.ts]at hby⊢;exact aU.2 (.inl hby)) (by simp only[Fs.bl];exact aU.2 (.inr hb));subst this;rw[hj]at h;cases h;have Gf:=M4 hnd x hy;simp only[Fs.bl]at Gf;exact(bA.1 Gf).2.2 b hby b hb rfl
theorem Ft{L:lC}(hnd:(L.flatMap Fs.bl).Nodup){i:Nat}{x:Fs}(h:L[i]?=some x):x.ns.Nodup:=by
 have:=M4 hnd x (aB h);simp only[Fs.bl]at this;exact(bA.1 this).2.1
def Rl(P:Program)(fn:Func)(v0:Value)(cells':aK)(d:D)(e:Exit)(st:St):Prop:=
 (e=.ret\/e=.normal)/\∃nz QF Kc es ms qs,zZ P st fn.results.toList=some QF/\st.H[0]?=some (.Gj Kc v0)/\
  wR st.H nz (.agg Kc::QF)=some (.agg cells'::es,ms,qs)/\ms.Nodup/\qs.Nodup/\vC es=d
theorem Rl.out{fn:Func}{v0:Value}{cells':aK}{d:D}{e:Exit}{a':Act}{w':World}{JJ:St}{κ0:Nat->Option Value}{Θ0:Nat->Nat}(hs0:cz Γ JJ κ0 Θ0 a' w')(SW:Rl P fn v0 cells' d e JJ):
 (e=.ret\/e=.normal)/\a'.defers=[]/\Lo Γ w'/\∃v g cs' T b2 t2 u2 b3 t3 u3,(results fn a'.tmps).run P w'=.ok v w'/\v0=.pointer (some ⟨g,0,none⟩)/\w'.heap[g]?=some (.cells cs' T (0,0))/\
  vf w' v d b2 t2 u2/\qK w' cs'.toList cells' b3 t3 u3/\(∀b∈b3++b2,(b<Γ.W0.heap.size->¬Γ.X b->Γ.Θ0 b=0)/\b≠g/\b∉t3++t2)/\(u3++u2).Nodup/\
  (∀b∈u3++u2,Ou Γ b/\b≠g/\Wr w' b)/\∀b∈t3++t2,b∈u3++u2/\uS Γ b:=by
 obtain⟨xS,nz,QF,Kc,es,ms,qs,hres,ZL,SX,IZ,Gg,rfl⟩:=SW;obtain⟨ρ0,VF⟩:=hs0.qA;have wv:=sG SX;obtain⟨Θ1,ρ1,hs1,hu1,hm1,Jf,O4⟩:=cz.CG ms hs0 VF IZ (fun m hm=>by
  obtain⟨e,sz,rows,hH⟩:=wv.1 m hm;exact⟨_,e,sz,rows,hH,rfl⟩)
 obtain⟨vs,bs',m1,m2,m3,m4,m5⟩:=yS hs0 hres;have hq:∀m e sz rows,JJ.H[m]?=some (.row .uq e sz rows)->∃v cs ns,κ0 m=some v/\0<sz/\(∀r∈rows,r.length=sz)/\w'.ownsRow 0 e sz v rows.length cs/\jR w' cs rows.flatten ns/\ns.Nodup/\(∀b∈ns,ρ1 b=m+1)/\∀g,v.ownBlock=some g->Θ1 g=m+2:=by
  intro m e sz rows hH;have hnm:m∉ms:=fun hm=>by
   obtain⟨e',sz',cm,AX⟩:=wv.1 m hm;rw[hH]at AX;cases AX
  have JH:(kill JJ.H ms)[m]?=some (.row .uq e sz rows):=by rw[fB hnm];exact hH
  obtain⟨v,cs,ns,r1,r2,r3,r4,r5⟩:=hu1.rows m e sz rows JH;obtain⟨p1,p2,v2,_,_,p3,_,_,p4,_⟩:=hs1.ob m _ JH;rw[r1]at p3;cases p3;exact⟨v,cs,ns,r1,p1,p2,r2,r3,r4,r5,p4⟩
 have h0m:0∉ms:=fun hm=>by
  obtain⟨e',sz',cm,AX⟩:=wv.1 0 hm;rw[ZL]at AX;cases AX
 have h0q:0∉qs:=fun hm=>by
  obtain⟨e',sz',cm,AX⟩:=wv.2 0 hm;rw[ZL]at AX;cases AX
 obtain⟨Zs,g,cs',T,hk0,hg,Kq,bb,ZQ,hbz⟩:=hs1.ob 0 _ (show(kill JJ.H ms)[0]?=_ by rw[fB h0m];exact ZL);have e0:v0=.pointer (some ⟨g,0,none⟩):=by rw[Zs]at hk0;cases hk0;rfl
 have Kq:Θ1 g=2:=Kq;obtain⟨c,tt,uu,yK,wH⟩:=vU (w:=w') (vs:=.agg cs'::vs) (fun b hb=>(hu1.free b hb).1) hq hs0.lM SX Gg (by simp;omega) (fun i d hd=>by
  cases i with
  |zero=>
   simp at hd;subst hd;have:=I0.agg _ _ _ ZQ;exact⟨_,bb,rfl,.v (by simpa using this),hbz⟩
  |succ i=>
   obtain⟨v,b,k1,k2,k3⟩:=m4 i d (by simpa using hd);exact⟨v,b,by simpa using k1,k2,fun x hx=>Jf x (m5 x (k3 x hx))⟩) hm1
 cases yK with
 |cons _ _ _ _ b3 b2 t3 t2 u3 u2 V7 p8=>
 have ES:∃v,(results fn a'.tmps).run P w'=.ok v w'/\vf w' v (vC es) b2 t2 u2:=by
  have hrun:(results fn a'.tmps).run P w'=.ok (if h:vs.toArray.size=1 then vs.toArray[0]else .tuple vs.toArray) w':=by
   rw[results_eq,je];simp[m1]
  cases p8 with
  |nil=>exact⟨.tuple #[],by simpa using hrun,.iE [] [] [] [] [] .nil⟩
  |cons v vs d es b1 b2 t1 t2 u1 u2 hv p8=>
   cases p8 with
   |nil=>
    simp only[cB];exact⟨v,by simpa using hrun,.v hv⟩
   |cons v2 vs d2 es b3 b4 t3 t4 u3 u4 MW p8=>exact⟨.tuple (v::v2::vs).toArray,by simpa using hrun,.iE _ _ _ _ _ (.cons _ _ _ _ _ _ _ _ _ _ hv (.cons _ _ _ _ _ _ _ _ _ _ MW p8))⟩
 obtain⟨v,O5,Jd⟩:=ES;have Bs:∀b∈t3++t2,Wr w' b:=by
  intro b hb;rcases aU.1 hb with hb|hb
  ·exact I2 V7 b hb
  ·exact I1 Jd b hb
 refine⟨xS,hs0.defers,hs0.stays,v,g,cs',T,b2,t2,u2,b3,t3,u3,O5,e0,hg,Jd,V7.Rn,fun b hb=>⟨fun hlt hx=>?_,fun e=>?_,fun ht=>?_⟩,wH.nd,fun b hb=>?_,fun b hb=>?_⟩
 ·have:=wH.zero b hb;rw[<-(hs1.old b hlt hx).1];exact this
 ·have:=wH.zero b hb;subst e;omega
 ·obtain⟨⟨m,_,hΘ⟩,_⟩:=wH.top b ht;have:=wH.zero b hb;omega
 ·rcases wH.mem b hb with h|⟨m,hm,hρ⟩
  ·obtain⟨⟨m,hm,hΘ⟩,_⟩:=wH.top b h;refine⟨.inl (hs1.mine b (by omega)),fun e=>?_,Bs b h⟩;subst e;rw[Kq]at hΘ;have:m=0:=by omega
   subst this;exact h0q hm
  ·have:=hu1.free b (by omega);refine⟨this.2.1,fun e=>?_,this.2.2⟩;have h0:=this.1;subst e;omega
 ·obtain⟨⟨m,hm,hΘ⟩,h2⟩:=wH.top b hb;exact⟨h2,hs1.mine b (by omega)⟩
theorem yd.len{vs:bY}{ds:aK}{bs:aP}(h:yd w κ vs ds bs):vs.length=ds.length:=by
 induction h with
 |nil=>rfl
 |cons v vs d ds b1 b2 h1 _ ih=>simp[ih]
theorem qm.of{f:FuncId}{fn:Func}{c:Code}{cells cells' Al ds Lf:aK}{obs:bJ}{d:D}(hf:P.funcs[f]?=some fn)(hb:fn.body=some c)(hn:(fn.name== "runtime.NumGoroutine")=false)
 (hI:xT 1 (.agg cells::ds)=(.agg Al::Lf,obs)) (hl:Lf.length+1<=fn.ntmps)
 (h:(∀x∈(D.agg cells::ds).map D.Ua,gm x)->∀(v0:Value) (Γ:pG),Γ.nt=fn.ntmps->AW P Γ c (Rl P fn v0 cells' d) ⟨uj 0 (.ptr 0 0::Lf),.Gj Al v0::obs⟩):qm P f cells cells' ds d:=by
 refine⟨⟨fn,hf,by simp[hb],hn⟩,?_⟩;intro w Θ g cs T args bs ts us hvs hg hargs hz hown h1 hg1 hts hnd q9;have O6:=hargs.shown;obtain⟨L,q1,q2,rfl,rfl,q5⟩:=hargs.inst 1;rw[hI]at q1 q5;have q1:L.map Fs.ob=obs:=q1;refine calls_of_wp hf hb ?_;let v0:Value:=.pointer (some ⟨g,0,none⟩)
 let κ0:Nat->Option Value:=fun i=>if i=0 then some v0 else(L[i-1]?).map Fs.v
 let Θ0:Nat->Nat:=fun b=>if b=g then 2 else match HJ L b with|some i=>i+3|none=>Θ b
 let ρ0:Nat->Nat:=fun b=>match qC L b with|some i=>i+2|none=>0
 let Γ:pG:=⟨w,Θ0,fun b=>b=g\/b∈L.flatMap Fs.ts,fn.ntmps,fun b=>b∈L.flatMap Fs.bl,hvs⟩
 have hgl:g<w.heap.size:=(az.1 hg).1;have hk0:κ0 0=some v0:=rfl;have Xc:∀i x,L[i]?=some x->κ0 (i+1)=some x.v:=fun i x hx=>by simp[κ0,hx]
 have hnm:Names κ0 1 L:=fun i x hx=>by rw[Nat.add_comm];exact Xc i x hx
 have hrd:=q5 κ0 hnm;have hlen:=hrd.len;have WX:∀(i:Nat) x b,L[i]?=some x->x.v.ownBlock=some b->b∈L.flatMap Fs.ts:=fun i x b hx hb'=>bp.2 ⟨x,aB hx,by simp[Fs.ts,hb']⟩
 have O7:∀(i:Nat) x b,L[i]?=some x->x.v.ownBlock=some b->Θ0 b=i+3:=by
  intro i x b hx hb';have:=(hts b (WX i x b hx hb')).2.2;simp only[Θ0,G4 hnd hx hb'];rw[b9 this]
 have Qb:∀b,Θ b=0->Θ0 b=0:=by
  intro b h0;have e1:b≠g:=fun e=>by subst e;omega
  have e2:b∉L.flatMap Fs.ts:=fun e=>by have:=(hts b e).1;omega
  simp only[Θ0,tT e2];rw[b9 e1,h0]
 have SQ:∀(i:Nat) x b,L[i]?=some x->b∈x.ns->Θ0 b=0:=fun i x b hx hb'=>Qb b ((q9 b (oV hx hb')).1 (zI hnd hx hb'))
 have wJ:∀b,Θ0 b≠Θ b->b=g\/b∈L.flatMap Fs.ts:=by
  intro b hne;by_cases e:b=g
  ·exact .inl e
  ·refine .inr (cq fun ht=>hne ?_);simp only[Θ0,tT ht];rw[b9 e]
 have Nx:∀(j:Nat) o,obs[j]?=some o->∃x,L[j]?=some x/\o=x.ob:=by
  intro j o hj;rw[<-q1,bg]at hj;cases hx:L[j]? with
  |none=>simp[hx]at hj
  |some x=>simp[hx]at hj;exact⟨x,rfl,hj.symm⟩
 have Xj:obs.length=L.length:=by rw[<-q1];simp
 have V7:∃b',eN w κ0 cs.toList Al b'/\∀b∈b',Θ0 b=0:=by
  obtain⟨v,b',k1,k2,k3⟩:=hrd.at (i:=0) (d:=.agg Al) rfl;simp at k1;subst k1;exact⟨b',k2.Rn,fun b hb'=>Qb b (hz b (k3 b hb'))⟩
 have hs:cz Γ ⟨uj 0 (.ptr 0 0::Lf),.Gj Al v0::obs⟩ κ0 Θ0 {tmps:=(v0::args).toArray++Array.replicate (fn.ntmps-(v0::args).toArray.size) undef,defers:=[]} w:=by
  refine⟨rfl,?_,fun i hi=>?_,?_,?_,?_,?_,?_,?_,⟨rfl,rfl,rfl,bH _,fun _ _ _=>rfl⟩,⟨ρ0,?_,?_,?_⟩⟩
  ·simp only[aG]at hlen;simp[Γ];omega
  ·simp only[aG]at hi;simp only[κ0];rw[b9 (by omega),cD (by omega)];rfl
  ·intro id u hu;simp only[κ0]at hu;split at hu
   ·cases hu;rfl
   ·cases hx:L[id-1]? with
    |none=>simp[hx]at hu
    |some x=>simp[hx]at hu;subst hu;exact(q2 x (aB hx)).2.2.2.2
  ·intro t;rw[By];simp only[rP,vb,sO];have PJ:∀v,(v0::args)[t]?=some v->((v0::args).toArray++Array.replicate (fn.ntmps-(v0::args).toArray.size) undef).getD t undef=v:=by
    intro v hv;have hlt:=(aD.1 hv).1;rw[bz,dV (by simpa using hlt)];simp only[iB,hv,qZ]
   cases t with
   |zero=>
    refine⟨[],?_,by simp⟩;rw[PJ v0 rfl];exact .v (.cell (.ptr 0 0 g hk0))
   |succ s=>
    rw[di];cases hd:Lf[s]? with
    |none=>exact⟨[],.of (.any _),by simp⟩
    |some x=>
     obtain⟨v,b',k1,k2,k3⟩:=hrd.at (i:=s+1) (d:=x) (by simpa using hd);rw[PJ v (by simpa using k1)];exact⟨b',.v k2,fun b hb'=>Qb b (hz b (k3 b hb'))⟩
  ·intro j o hj;cases j with
   |zero=>
    simp at hj;subst hj;obtain⟨b',k1,k2⟩:=V7;exact⟨hk0,g,cs,T,hk0,hg,by simp[Θ0],b',k1,k2⟩
   |succ j=>
    obtain⟨x,hx,rfl⟩:=Nx j o (by simpa using hj);obtain⟨p1,p2,p3,p4,_⟩:=q2 x (aB hx);exact⟨p1,p2,x.v,x.cs,x.ns,Xc j x hx,p3,p4,fun b hb'=>O7 j x b hx hb',fun b hb'=>SQ j x b hx hb'⟩
  ·intro b hb';by_cases e:Θ0 b=Θ b
   ·exact hown b (by rw[<-e];exact hb')
   ·rcases wJ b e with rfl|ht
    ·exact hgl
    ·exact hown b (by have:=(hts b ht).1;omega)
  ·intro b hlt hx;refine⟨rfl,?_⟩;have e:Θ0 b=Θ b:=cq fun e=>hx (wJ b e)
   rw[e];exact h1 b
  ·intro b hb';refine .inr (wJ b fun e=>?_);have:=h1 b;omega
  ·intro b hb';cases Nt:qC L b with
   |none=>simp[ρ0,Nt]at hb'
   |some i=>
    obtain⟨x,hx,xD⟩:=qc Nt;exact⟨SQ i x b hx xD,.inr (oV hx xD),(q9 b (oV hx xD)).2⟩
  ·intro id e sz rows hj;cases id with
   |zero=>simp at hj
   |succ j=>
    obtain⟨x,hx,Nz⟩:=Nx j _ (by simpa using hj);simp only[Fs.ob,Ob.row.injEq,nU]at Nz;obtain⟨rfl,rfl,rfl⟩:=Nz;obtain⟨p1,p2,p3,p4,_⟩:=q2 x (aB hx);exact⟨x.v,x.cs,x.ns,Xc j x hx,p3,p4,Ft hnd hx,fun b hb'=>by simp[ρ0,ye hnd hx hb']⟩
  ·intro id o hj;cases id with
   |zero=>simp at hj;subst hj;trivial
   |succ j=>
    obtain⟨x,hx,Nz⟩:=Nx j _ (by simpa using hj);subst Nz;exact GJ.sZ rfl
 refine wp_mono (h O6 v0 Γ rfl _ _ _ _ hs) ?_;rintro x a' w' ⟨JJ,κ1,Θ1,hs0,SW⟩;obtain⟨xS,hdf,hst,v,g',cs',T',b2,t2,u2,b3,t3,u3,hrun,e0,hg',hres,a1m,a1i,AY,sr,ht'⟩:=Rl.out hs0 SW;obtain rfl:g=g':=by
  have e1:Value.pointer (some ⟨g,0,none⟩)=.pointer (some ⟨g',0,none⟩):=e0;cases e1;rfl
 have post:a'.defers=[]/\∃v',(results fn a'.tmps).run P w'=.ok v' w'/\∃v cs' T' b2 t2 u2 b3 t3 u3,Ending.returned v'=.returned v/\w'.os=w.os/\w'.tape=w.tape/\w'.output=w.output/\w.heap.size<=w'.heap.size/\
  (∀b,b<w.heap.size->b≠g->b∉L.flatMap Fs.ts->w'.heap[b]?=w.heap[b]?)/\w'.heap[g]?=some (.cells cs' T' (0,0))/\
  vf w' v d b2 t2 u2/\qK w' cs'.toList cells' b3 t3 u3/\(∀b∈b3++b2,(b<w.heap.size->Θ b=0\/b∈L.flatMap Fs.ts)/\b≠g/\b∉t3++t2)/\(u3++u2).Nodup/\
  (∀b∈u3++u2,(w.heap.size<=b\/b∈L.flatMap Fs.bl)/\b≠g/\Wr w' b)/\∀b∈t3++t2,b∈u3++u2/\(w.heap.size<=b\/b∈L.flatMap Fs.ts):=by
  refine⟨hdf,v,hrun,v,cs',T',b2,t2,u2,b3,t3,u3,rfl,hst.os,hst.tape,hst.output,hst.size,fun b hlt hne hnt=>hst.block b hlt (fun hx=>hx.elim hne hnt),hg',hres,a1m,fun b hb'=>?_,AY,fun b hb'=>?_,fun b hb'=>?_⟩
  ·obtain⟨k1,k2,k3⟩:=a1i b hb';refine⟨fun hlt=>?_,k2,k3⟩;by_cases ht:b∈L.flatMap Fs.ts
   ·exact .inr ht
   ·refine .inl ?_;have:=k1 hlt (fun hx=>hx.elim k2 ht);have e:Θ0 b=Θ b:=cq fun e=>(wJ b e).elim k2 ht
    rw[<-e];exact this
  ·obtain⟨k1,k2,k3⟩:=sr b hb';refine⟨?_,k2,k3⟩;rcases k1 with(k1|k1|k1)|k1
   ·exact .inl k1
   ·exact absurd k1 k2
   ·exact .inr (Ak k1)
   ·exact .inr k1
  ·obtain⟨k1,k2⟩:=ht' b hb';refine⟨k1,?_⟩;have:=(sr b k1).2.1;rcases k2 with k2|k2|k2
   ·exact .inl k2
   ·exact absurd k2 this
   ·exact .inr k2
 rcases xS with rfl|rfl
 ·exact post
 ·exact post
theorem Ra{o:Oper}{f t id:Nat}{xs:Array Operand}{ty:Array TypeId}{x0:Operand}{xr:List Operand}{ob:Ob}{GN cells cells' ds:aK}{d:D}{nz:List (List (Option (Nat×Nat)))}{ms qs:aP}
 (hop:o.op=.call {callee:=.value (.func f),args:=xs,argTypes:=ty}) (hd:o.dst=some t) (hg:o.guard=none) (ht:t<Γ.nt)
 (hxs:xs.toList=x0::xr) (hx0:st.ev x0=.ptr id 0) (hH:st.H[id]?=some ob) (wY:ob.QE=some GN)
 (xS:wR st.H nz (.agg GN::xr.map st.ev)=some (.agg cells::ds,ms,qs)) (IZ:ms.Nodup) (Gg:qs.Nodup) (kV:qm P f cells cells' ds d)
 (h:AO P Γ all rest Q ⟨(t,(lE (st.H.length+(kW st.H.length cells').2.length) d).1)::st.σ,
  (kill st.H (ms++qs)).set id (ob.re (kW st.H.length cells').1)++((kW st.H.length cells').2++(lE (st.H.length+(kW st.H.length cells').2.length) d).2)⟩):AO P Γ all (o::rest) Q st:=by
 intro κ Θ a w hs;have wv:=sG xS;obtain⟨ρ,hu⟩:=hs.qA;obtain⟨Θ1,ρ1,hs1,hu1,hm1,Jf,O4⟩:=cz.CG ms hs hu IZ (fun m hm=>by
  obtain⟨e,sz,rows,hH⟩:=wv.1 m hm;exact⟨_,e,sz,rows,hH,rfl⟩)
 have QZ:id<st.H.length:=(aD.1 hH).1;have hnr:∀k e sz rows,st.H[id]?≠some (.row k e sz rows):=fun k e sz rows e1=>by rw[hH]at e1;cases e1;cases wY
 have a1y:id∉ms:=fun hm=>by obtain⟨e',sz',cm,AX⟩:=wv.1 id hm;exact hnr _ _ _ _ AX
 have a1z:id∉qs:=fun hm=>by obtain⟨e',sz',cm,AX⟩:=wv.2 id hm;exact hnr _ _ _ _ AX
 have JH:(kill st.H ms)[id]?=some ob:=by rw[fB a1y];exact hH
 have Zh:=hs1.ob id _ JH;obtain⟨g,cs,T,hk0,US,Kq,bb,ZQ,hbz⟩:=Zh.cs wY;have hgl:g<w.heap.size:=(az.1 US).1;have hq:∀m e sz rows,st.H[m]?=some (.row .uq e sz rows)->∃v cs ns,κ m=some v/\0<sz/\(∀r∈rows,r.length=sz)/\w.ownsRow 0 e sz v rows.length cs/\jR w cs rows.flatten ns/\ns.Nodup/\(∀b∈ns,ρ1 b=m+1)/\∀g,v.ownBlock=some g->Θ1 g=m+2:=by
  intro m e sz rows hH;have hnm:m∉ms:=fun hm=>by
   obtain⟨e',sz',cm,AX⟩:=wv.1 m hm;rw[hH]at AX;cases AX
  have JH:(kill st.H ms)[m]?=some (.row .uq e sz rows):=by rw[fB hnm];exact hH
  obtain⟨v,cs,ns,r1,r2,r3,r4,r5⟩:=hu1.rows m e sz rows JH;obtain⟨p1,p2,v2,_,_,p3,_,_,p4,_⟩:=hs1.ob m _ JH;rw[r1]at p3;cases p3;exact⟨v,cs,ns,r1,p1,p2,r2,r3,r4,r5,p4⟩
 obtain⟨bs,ts,us,yK,wH⟩:=vU (w:=w) (vs:=.agg cs::xr.map a.eval) (fun b hb=>(hu1.free b hb).1) hq hs.lM xS Gg (by simp) (fun i d hd=>by
  cases i with
  |zero=>
   simp at hd;subst hd;have:=I0.agg _ _ _ ZQ;exact⟨_,bb,rfl,.v (by simpa using this),hbz⟩
  |succ i=>
   rw[di,bg]at hd;cases hx:xr[i]? with
   |none=>rw[hx]at hd;cases hd
   |some x=>
    rw[hx]at hd;simp only[cJ,ah]at hd;subst hd;obtain⟨b,r,z⟩:=hs.ev x;exact⟨a.eval x,b,by simp[hx],r,fun y hy=>Jf y (z y hy)⟩) hm1
 let Θc:Nat->Nat:=fun b=>if Θ1 b=0 then 0 else 1
 have wJ:∀b,Θc b=0↔Θ1 b=0:=fun b=>by simp only[Θc];split<;>simp_all
 have Fg:∀b∈ts,∃m∈qs,Θ1 b=m+2:=fun b hb=>(wH.top b hb).1
 have a2U:∀b∈ts,b≠g:=fun b hb e=>by
  obtain⟨m,hm,hΘ⟩:=Fg b hb;subst e;rw[Kq]at hΘ;exact a1z (by
   have:id=m:=by omega
   rw[this];exact hm)
 have Ic:JR w fun b=>b=g\/b∈ts:=by
  obtain⟨B,v1,v2⟩:=hs1.Z6;refine⟨B,v1,fun b hB=>⟨(v2 b hB).2.1,fun hb'=>?_⟩⟩;have hm:uS Γ b:=by
   rcases hb' with rfl|hb'
   ·exact hs1.mine b (by omega)
   ·obtain⟨m,hm,hΘ⟩:=Fg b hb';exact hs1.mine b (by omega)
  rcases hm with q|q
  ·have:=(v2 b hB).1;omega
  ·exact(v2 b hB).2.2 q
 have hwr:∀b∈us,Wr w b:=by
  intro b hb;rcases wH.mem b hb with h|⟨m,hm,hρ⟩
  ·exact GH yK b h
  ·exact(hu1.free b (by omega)).2.2
 have hc:=kV.2 w Θc g cs T (xr.map a.eval) bs ts us Ic US yK (fun b hb=>(wJ b).2 (wH.zero b hb)) (fun b hb=>hs1.own b (fun e=>hb ((wJ b).2 e))) (fun b=>by simp only[Θc];split<;>omega)
  (by simp only[Θc];rw[b9 (by omega)]) (fun b hb=>by
   obtain⟨m,hm,hΘ⟩:=Fg b hb;exact⟨by simp only[Θc];rw[b9 (by omega)],(wH.top b hb).2,a2U b hb⟩) wH.nd (fun b hb=>⟨fun hnt=>by
   rcases wH.mem b hb with h|⟨m,hm,hρ⟩
   ·exact absurd h hnt
   ·exact(wJ b).2 (hu1.free b (by omega)).1,hwr b hb⟩)
 refine wpList_plain hg fun K hK=>?_
 unfold Oper.wp;rw[si hop kV.1,Oper.upon_enter];have e0:xs.map a.eval=(.pointer (some ⟨g,0,none⟩)::xr.map a.eval).toArray:=by
  obtain⟨b0,r0,_⟩:=hs.ev x0;rw[hx0]at r0;obtain⟨g',hk',hv⟩:=r0.xE;rw[hk0]at hk';cases hk';rw[<-nT,fY,hxs];simp[hv]
 rw[e0];refine hc.mono ?_;rintro x w' ⟨v,cs',T',b2,t2,u2,b3,t3,u3,rfl,k1,k2,k3,k4,OB,kg,YF,kcs,kb,UX,ku,kt⟩;show K (a.put o.dst v) w';rw[hd];let N:=st.H.length
 have hs2:=hs1.forget (id::qs);have hNl:(kill st.H ms).length=N:=eX _ _;simp only[hNl]at hs2;let Θ2:Nat->Nat:=fun b=>if(id::qs).any (fun m=>Θ1 b==m+2)then N+2 else Θ1 b
 have hs2:cz Γ ⟨st.σ,kill (kill st.H ms) (id::qs)⟩ κ Θ2 a w:=hs2;have Ie:∀b,Θ1 b=0->Θ2 b=0:=fun b hb=>by
  simp only[Θ2];rw[b9,hb];intro h;obtain⟨m,_,hm⟩:=cW.1 h;simp[hb]at hm
 have Bt:∀b,b=g\/b∈ts->Θ2 b=N+2:=by
  intro b hb;simp only[Θ2];rw[bM];rcases hb with rfl|hb
  ·exact cW.2 ⟨id,by simp,by simp[Kq]⟩
  ·obtain⟨m,hm,hΘ⟩:=Fg b hb;exact cW.2 ⟨m,by simp[hm],by simp[hΘ]⟩
 have UU:vg Γ (kill (kill st.H ms) (id::qs)) κ Θ2 w ρ1:=by
  refine⟨fun b hb=>?_,fun j e sz rows hj=>?_,fun j o hj=>?_⟩
  ·obtain⟨q1,q2⟩:=hu1.free b hb;exact⟨Ie b q1,q2⟩
  ·rcases lF hj with h|⟨_,h⟩
   ·cases h
   ·exact hu1.rows j e sz rows h
  ·rcases lF hj with h|⟨_,h⟩
   ·subst h;trivial
   ·exact hu1.more j o h
 obtain⟨Lb,a1,a2,a3,a4,a5⟩:=kcs.inst N;obtain⟨Ld,c1,c2,c3,c4,c5⟩:=YF.inst (N+(kW N cells').2.length);have a1c:Lb.length=(kW N cells').2.length:=by rw[<-a1];simp
 let L:=Lb++Ld
 have Nt:u3++u2=L.flatMap Fs.bl:=by simp[L,a3,c3]
 have a2T:t3++t2=L.flatMap Fs.ts:=by simp[L,a4,c4]
 rw[Nt]at UX ku kt;rw[a2T]at kt kb;have Nr:∀x∈L,x.ok w':=fun x hx=>by
  rcases aU.1 hx with hx|hx
  ·exact a2 x hx
  ·exact c2 x hx
 let κ':Nat->Option Value:=fun j=>if j<N then κ j else(L[j-N]?).map Fs.v
 let Θ':Nat->Nat:=fun b=>if b=g then id+2 else match HJ L b with|some i=>N+i+2|none=>if Θ2 b=N+2 then 0 else Θ2 b
 let ρ':Nat->Nat:=fun b=>match qC L b with|some i=>N+i+1|none=>ρ1 b
 have hgt:g∉L.flatMap Fs.bl:=fun h=>(ku g h).2.1 rfl
 have Zu:Θ' g=id+2:=by simp[Θ']
 have Kp:∀(i:Nat) x b,L[i]?=some x->x.v.ownBlock=some b->Θ' b=N+i+2:=by
  intro i x b hx hb;have hb':b∈L.flatMap Fs.ts:=bp.2 ⟨x,aB hx,by simp[Fs.ts,hb]⟩;have hne:b≠g:=fun e=>hgt (e▸Ak hb')
  simp only[Θ',G4 UX hx hb];rw[b9 hne]
 have wI:∀b,b≠g->b∉L.flatMap Fs.ts->Θ' b=if Θ2 b=N+2 then 0 else Θ2 b:=by
  intro b h1 h2;simp only[Θ',tT h2];rw[b9 h1]
 have hzero:∀b,w.heap.size<=b->Θ2 b=0:=fun b hge=>by
  cases h:Θ2 b with
  |zero=>rfl
  |succ m=>exact absurd (hs2.own b (by omega)) (by omega)
 have VE:∀b∈b3++b2,Θ' b=0:=by
  intro b hb;obtain⟨p1,p2,p3⟩:=kb b hb;rw[wI b p2 p3];by_cases hlt:b<w.heap.size
  ·rcases p1 hlt with h|h
   ·rw[Ie b ((wJ b).1 h)];simp
   ·rw[bM (Bt b (.inr h))]
  ·rw[hzero b (by omega)];simp
 have SR:∀(i:Nat) x b,L[i]?=some x->b∈x.ns->Θ' b=0:=by
  intro i x b hx hb;have hmem:=oV hx hb;rw[wI b (ku b hmem).2.1 (zI UX hx hb)];rcases(ku b hmem).1 with h|h
  ·rw[hzero b h];simp
  ·rcases wH.mem b h with h|⟨m,hm,hρ⟩
   ·rw[bM (Bt b (.inr h))]
   ·rw[Ie b (hu1.free b (by omega)).1];simp
 have hn:∀(j:Nat) v,κ j=some v->κ' j=some v:=by
  intro j v hj;have:j<N:=cq fun h=>by rw[hs.mT j (by omega)]at hj;cases hj
  simp only[κ'];rw[bM this];exact hj
 have rZ:Names κ' N L:=by
  intro i x hx;simp only[κ'];rw[b9 (by omega),ck,hx];rfl
 have SM:∀b∈L.flatMap Fs.ts,uS Γ b:=by
  intro b hb;rcases(kt b hb).2 with h|h
  ·exact .inl (cZ hs.base h)
  ·obtain⟨m,hm,hΘ⟩:=Fg b h;exact hs1.mine b (by omega)
 have k:gZ w w' Θ2 Θ' (N+2):=by
  refine⟨by omega,k1,k2,k3,k4,fun b hlt hne=>OB b hlt (fun e=>hne (Bt b (.inl e))) (fun e=>hne (Bt b (.inr e))),fun b hlt hne=>?_,fun b hb=>?_⟩
  ·rw[wI b (fun e=>hne (Bt b (.inl e))) (fun e=>?_),b9 hne];rcases(kt b e).2 with h|h
   ·omega
   ·exact hne (Bt b (.inr h))
  ·by_cases e:b=g
   ·subst e;omega
   ·by_cases ht':b∈L.flatMap Fs.ts
    ·obtain⟨x,T,hx⟩:=(ku b (Ak ht')).2.2;exact(az.1 hx).1
    ·rw[wI b e ht']at hb;split at hb
     ·exact absurd rfl hb
     ·exact dG (hs2.own b hb) k4
 have hm:∀b,2<=Θ' b->uS Γ b:=by
  intro b hb;by_cases e:b=g
  ·subst e;exact hs1.mine b (by omega)
  ·by_cases ht':b∈L.flatMap Fs.ts
   ·exact SM b ht'
   ·rw[wI b e ht']at hb;split at hb
    ·omega
    ·exact hs2.mine b hb
 have q9:=hs2.lG k hn UU;have EQ:((kill st.H (ms++qs)).set id (ob.re (kW N cells').1)).length=N:=by simp[eX,N]
 have a0E:∀(a_ bs:aP) (H:bJ),kill H (a_++bs)=kill (kill H a_) bs:=by
  intro a_
  induction a_ with
  |nil=>intro bs H;rfl
  |cons x a_ ih=>intro bs H;simp only[cv,kill,ih]
 have a2C:(kW N cells').2++(lE (N+(kW N cells').2.length) d).2=L.map Fs.ob:=by simp[L,a1,c1]
 have key:∀(j:Nat) y,((kill st.H (ms++qs)).set id (ob.re (kW N cells').1)++L.map Fs.ob)[j]?=some y->(∃i x,j=N+i/\L[i]?=some x/\y=x.ob)\/(j=id/\y=ob.re (kW N cells').1)\/(j≠id/\j<N/\(y=.gone\/(kill (kill st.H ms) (id::qs))[j]?=some y)):=by
  intro j y hj;by_cases hlt:j<N
  ·rw[aj (by rw[EQ];exact hlt)]at hj;rcases vQ j y hj with⟨rfl,rfl⟩|⟨h1,h2⟩
   ·exact .inr (.inl ⟨rfl,rfl⟩)
   ·refine .inr (.inr ⟨h1,hlt,?_⟩);rcases lF h2 with h|⟨h3,h4⟩
    ·exact .inl h
    ·refine .inr ?_;simp only[aU,GF]at h3;rw[fB (by simp[h1,h3.2]),fB h3.1];exact h4
  ·rw[av (by omega),EQ,bg]at hj;cases hx:L[j-N]? with
   |none=>simp[hx]at hj
   |some x=>simp[hx]at hj;exact .inl ⟨j-N,x,by omega,hx,hj.symm⟩
 have hs':cz Γ ⟨st.σ,(kill st.H (ms++qs)).set id (ob.re (kW N cells').1)++L.map Fs.ob⟩ κ' Θ' a w':=by
  have H7:∀(j:Nat) y,(kill (kill st.H ms) (id::qs))[j]?=some y->y≠ .gone->∀b,ρ1 b=j+1->ρ' b=j+1:=by
   intro j y hy hyg b Xt;have hjk:j∉id::qs:=by
    rcases lF hy with h|h
    ·exact absurd h hyg
    ·exact h.1
   have hnb:qC L b=none:=by
    cases hi:qC L b with
    |none=>rfl
    |some i=>
     exfalso;obtain⟨x,hx,xD⟩:=qc hi;obtain⟨z0,_,a1S,T'',Xq⟩:=hu1.free b (by omega);rcases(ku b (oV hx xD)).1 with h|h
     ·have:=(az.1 Xq).1;omega
     ·rcases wH.mem b h with h|⟨m,hm',hρ⟩
      ·obtain⟨m,hm',hΘ⟩:=Fg b h;omega
      ·exact hjk (by
        have:j=m:=by omega
        rw[this];simp[hm'])
   simp only[ρ',hnb];exact Xt
  refine hs2.step k hm hn ?_ ?_ ?_ ⟨ρ',?_,?_,?_⟩
  ·intro i hi;simp only[aM,EQ,ai]at hi;simp only[κ'];rw[b9 (by omega),cD (by omega)];rfl
  ·intro i u sr;simp only[κ']at sr;split at sr
   ·exact hs.lM i u sr
   ·cases hx:L[i-N]? with
    |none=>simp[hx]at sr
    |some x=>simp[hx]at sr;subst sr;exact(Nr x (aB hx)).2.2.2.2
  ·intro j y hj;rcases key j y hj with⟨i,x,rfl,hx,rfl⟩|⟨rfl,rfl⟩|⟨hji,hjl,hy|hy⟩
   ·obtain⟨q1,q2,q3,q4,_⟩:=Nr x (aB hx);exact .inr (.inr ⟨q1,q2,x.v,x.cs,x.ns,rZ i x hx,q3,q4,fun g' hg'=>Kp i x g' hx hg',fun b hb'=>SR i x b hx hb'⟩)
   ·refine .inr (.inr (sQ.a0U wY Zh (hn _) ⟨g,cs',T',hn _ _ hk0,kg,Zu,b3,a5 κ' rZ.left,fun b hb=>VE b (by simp[hb])⟩))
   ·exact .inl hy
   ·exact .inr (.inl ⟨by omega,hy⟩)
  ·intro b hb;cases Ja:qC L b with
   |some i=>
    obtain⟨x,hx,xD⟩:=qc Ja;have hmem:=oV hx xD;refine⟨SR i x b hx xD,?_,(ku b hmem).2.2⟩;rcases(ku b hmem).1 with h|h
    ·exact .inl (.inl (cZ hs.base h))
    ·rcases wH.mem b h with h|⟨m,hm',hρ⟩
     ·obtain⟨m,hm',hΘ⟩:=Fg b h;exact .inl (hs1.mine b (by omega))
     ·exact(hu1.free b (by omega)).2.1
   |none=>
    simp only[ρ',Ja]at hb;exact q9.1 b hb
  ·intro j e sz rows hj;rcases key j _ hj with⟨i,x,rfl,hx,hy⟩|⟨rfl,hy⟩|⟨hji,hjl,hy|hy⟩
   ·simp only[Fs.ob,Ob.row.injEq,nU]at hy;obtain⟨rfl,rfl,rfl⟩:=hy;obtain⟨q1,q2,q3,q4,_⟩:=Nr x (aB hx);exact⟨x.v,x.cs,x.ns,rZ i x hx,q3,q4,Ft UX hx,fun b hb'=>by simp only[ρ',ye UX hx hb']⟩
   ·cases ob<;>simp[Ob.re]at hy
   ·cases hy
   ·obtain⟨v',c',bs',r1,r2,r3,r4,r5⟩:=q9.2.1 j e sz rows (by omega) hy;exact⟨v',c',bs',r1,r2,r3,r4,fun b hb'=>H7 j _ hy (by simp) b (r5 b hb')⟩
  ·intro j y hj;rcases key j _ hj with⟨i,x,rfl,hx,hy⟩|⟨rfl,hy⟩|⟨hji,hjl,hy|hy⟩
   ·subst hy;exact GJ.sZ rfl
   ·subst hy;cases ob<;>exact GJ.sZ rfl
   ·subst hy;trivial
   ·by_cases hg:y=.gone
    ·subst hg;trivial
    ·exact(q9.2.2 j y (by omega) hy).re (H7 j y hy hg)
 rw[a2C]at h;refine hK _ _ (h _ _ _ _ (hs'.set (t:=t) ht (c5 κ' ?_) fun b hb=>VE b (by simp[hb])));rw[<-a1c];exact rZ.right
def WI(P:Program)(f:FuncId)(ds cells:aK):Prop:=
 (∃fn,P.funcs[f]?=some fn/\fn.body.isSome=true/\(fn.name== "runtime.NumGoroutine")=false)/\
 ∀(w:World) (Θ:Nat->Nat) (args:bY) (bs:aP),JR w (fun _=>False)->Ow w args ds bs->(∀b∈bs,Θ b=0)->(∀b,Θ b≠0->b<w.heap.size)->(∀b,Θ b<=1)->
  Calls P f args.toArray w (fun e w'=>∃g cs T bs',e=.returned (.pointer (some ⟨g,0,none⟩))/\Below w.heap.size w w'/\w.heap.size<=g/\w'.heap[g]?=some (.cells cs T (0,0))/\jR w' cs.toList cells bs'/\
   ∀b∈bs',(b<w.heap.size->Θ b=0)/\b≠g)
def a1M(P:Program)(fn:Func)(cells:aK)(e:Exit)(st:St):Prop:=
 (e=.ret\/e=.normal)/\∃j,zZ P st fn.results.toList=some [.ptr j 0]/\st.H[j]?=some (.box cells)/\cells.all D.Lh=true
theorem RY{o:Oper}{f t:Nat}{xs:Array Operand}{ts:Array TypeId}{ds cells:aK}(hop:o.op=.call {callee:=.value (.func f),args:=xs,argTypes:=ts})(hd:o.dst=some t)(hg:o.guard=none)
 (ht:t<Γ.nt) (hds:DL st.H (xs.toList.map st.ev)=some (ds,[])) (kV:WI P f ds cells)
 (h:AO P Γ all rest Q ⟨(t,.ptr st.H.length 0)::st.σ,st.H++[.box cells]⟩):AO P Γ all (o::rest) Q st:=by
 intro κ Θ a w hs;obtain⟨bs,hargs,hz⟩:=Hr hs hds;have uN:∀b∈bs,Θ b=0:=fun b hb=>(hz b hb).elim id (fun⟨m,h1,_⟩=>by cases h1)
 let Θc:Nat->Nat:=fun b=>if Θ b=0 then 0 else 1
 have wJ:∀b,Θc b=0↔Θ b=0:=fun b=>by simp only[Θc];split<;>simp_all
 have hc:=kV.2 w Θc _ bs hs.Z5 hargs (fun b hb=>(wJ b).2 (uN b hb)) (fun b hb=>hs.own b (fun e=>hb ((wJ b).2 e))) (fun b=>by simp only[Θc];split<;>omega);refine wpList_plain hg fun K hK=>?_
 unfold Oper.wp;rw[si hop kV.1,Oper.upon_enter];have e:xs.map a.eval=(xs.toList.map a.eval).toArray:=by rw[<-fY,iR]
 rw[e];refine hc.mono ?_;rintro e w' ⟨g,cs,T,bs',rfl,hb,hge,hg',hrd,ZQ⟩;show K (a.put o.dst (.pointer (some ⟨g,0,none⟩))) w';rw[hd];let Θ':Nat->Nat:=fun b=>if b=g then st.H.length+2 else Θ b
 have k:gZ w w' Θ Θ' (st.H.length+2):=by
  refine⟨by omega,hb.os,hb.tape,hb.output,hb.size,fun b hlt _=>hb.block b hlt,fun b hlt _=>?_,fun b hb'=>?_⟩
  ·simp only[Θ'];rw[b9 (by omega)]
  ·simp only[Θ']at hb';split at hb'
   ·rename_i e;subst e;exact(az.1 hg').1
   ·exact dG (hs.own b hb') hb.size
 have hbz:∀b∈bs',Θ' b=0:=by
  intro b hb';obtain⟨h1,h2⟩:=ZQ b hb';simp only[Θ'];rw[b9 h2];by_cases hlt:b<w.heap.size
  ·exact(wJ b).1 (h1 hlt)
  ·cases h:Θ b with
   |zero=>rfl
   |succ m=>exact absurd (hs.own b (by omega)) hlt
 have hs':=hs.push (o:=.box cells) (v:=.pointer (some ⟨g,0,none⟩)) rfl k (hs.vS (fun b hb'=>by
  simp only[Θ']at hb';split at hb'
  ·rename_i e;subst e;exact .inr hge
  ·exact .inl hb')) ⟨g,cs,T,jN _ _ _,hg',by simp[Θ'],bs',eN.zY hrd,hbz⟩ rfl
 refine hK _ _ (h _ _ _ _ (hs'.set (t:=t) (d:=.ptr st.H.length 0) (bs:=[]) ht ?_ (by simp)));exact(vR.ptr st.H.length 0 g (jN _ _ _)).LR
theorem Uh{o:Oper}{T t id e e' sz h:Nat}{kk:IntKind}{x hi:Operand}{rows:List aK}(hop:o.op=.slice T x none (some hi) none)(hd:o.dst=some t)(hg:o.guard=none)(ht:t<Γ.nt)
 (hT:CL P T=some (e',sz)) (hx:st.ev x=.acc id) (hH:st.H[id]?=some (.row .uq e sz rows)) (hhi:st.ev hi=.int kk (h:Int)) (hle:h<=rows.length)
 (hn:AO P Γ all rest Q ⟨(t,.acc st.H.length)::st.σ,kill st.H [id]++[.row .uq e sz (rows.take h)]⟩):AO P Γ all (o::rest) Q st:=by
 intro κ Θ a w hs;obtain⟨hsz,hrl,v,cs0,bs0,hk,WW,a4Z,Bs,uN⟩:=hs.ob id _ hH;obtain⟨ρ,hu⟩:=hs.qA;obtain⟨v2,cs,bs,hk2,hown,hrd,hnd,hρ⟩:=hu.rows id e sz rows hH;rw[hk]at hk2;cases hk2;obtain⟨bx,rx,_⟩:=hs.ev x;rw[hx]at rx;obtain⟨Zf,_⟩:=rx.rQ;have PO:a.eval x=v:=by rw[hk]at Zf;cases Zf;rfl
 let v':Value:=match v with| .slice q _ cap=>.slice q h cap|u=>u
 have hc:HY rows.length ((none:Option Operand).map st.ev) ((some hi).map st.ev)=some (0,h):=by
  simp[HY,hhi,hle]
 have hrun:∃q cap,v=.slice q rows.length cap/\v'=.slice q h cap/\(execOp a.eval o).run P w=.ok (.value v') w:=by
  obtain⟨sr,Ge,Fh⟩:=lg hT;have main:∀(q:Option Addr) (cap:Nat),(∀b off sp,q=some ⟨b,off,sp⟩->off=0/\sp=none)->v=.slice q rows.length cap->rows.length<=cap->(execOp a.eval o).run P w=.ok (.value (.slice q h cap)) w:=by
   intro q cap Zm hq hcap;obtain⟨hr,hl,hh⟩:=LG (P:=P) (isSlice:=true) (cap:=cap) hs hcap hc;have a4D:(if cap=0 then q else q.map (·.add (0*sz)))=q:=by
    split
    ·rfl
    ·cases q with
     |none=>rfl
     |some ad=>simp[Addr.add]
   simp only[uR,cJ]at hr;simp only[execOp,hop,PO,hq];simp[Instr.sliceAt,Instr.slice,run_underlying sr,hr,rN (P:=P) Ge w];intro hc0;cases q with
   |none=>rfl
   |some ad=>simp[Addr.add]
  rcases hown.2 with⟨rfl,h0⟩|⟨g,cap,cur,rfl,_,Km,hnc,hcm,hcs,htk⟩
  ·exact⟨none,0,by rw[h0],rfl,main none 0 (by simp) (by rw[h0]) (by omega)⟩
  ·exact⟨some ⟨g,0,none⟩,cap,rfl,rfl,main _ _ (by simp) rfl hnc⟩
 obtain⟨q,cap,hvq,VH,hrun⟩:=hrun;have wY:v'.ownBlock=v.ownBlock:=by rw[VH,hvq];cases q<;>rfl
 have hone:v'.oneCell'=true:=by
  have:=hs.lM id v hk;rw[hvq]at this;rw[VH];exact this
 have hsplit:∃cs' bs',w.ownsRow 0 e sz v' (rows.take h).length cs'/\jR w cs' (rows.take h).flatten bs'/\bs'.Nodup/\∀b∈bs',b∈bs:=by
  have e1:rows.flatten=(rows.take h).flatten++(rows.drop h).flatten:=by rw[<-jQ,cA]
  have Ia:=hrd;rw[e1]at Ia;obtain⟨c1,c2,b1,b2,rfl,rfl,k1,k2⟩:=Ia.split;have htl:(rows.take h).length=h:=by rw[cG];omega
  have hc1:c1.length=h*sz:=by rw[k1.length,lR (fun r hr=>hrl r (cM hr)),htl]
  refine⟨c1,b1,?_,k1,(bA.1 hnd).1,fun b hb=>by simp[hb]⟩;rw[htl];refine⟨hc1,?_⟩;rcases hown.2 with⟨Zs,h0⟩|⟨g,cap',cur,hvs,hbg,Km,hnc,hcm,hcs,htk⟩
  ·left
   have:h=0:=by omega
   subst this;have e3:=Zs.symm.trans hvq;simp only[Value.slice.injEq]at e3;exact⟨by rw[VH,<-e3.1,<-e3.2.2],rfl⟩
  ·right
   have e3:=hvs.symm.trans hvq;simp only[Value.slice.injEq]at e3;refine⟨g,cap',cur,by rw[VH,<-e3.1,<-e3.2.2],hbg,Km,by omega,hcm,hcs,?_⟩;have h3:(cur.toList.take (rows.length*sz)).take (h*sz)=(c1++c2).take (h*sz):=by rw[htk]
   rw[qI,eD (dO _ hle)]at h3;rw[h3];exact gU hc1
 obtain⟨cs',bs',p1,p2,p3,p4⟩:=hsplit;refine wpList_plain hg fun K hK=>?_
 unfold Oper.wp;rw[hrun,Oper.upon_value,hd];let n:=st.H.length
 have QZ:id<n:=(aD.1 hH).1;let Θ':Nat->Nat:=fun b=>if some b=v'.ownBlock then n+2 else Θ b
 let ρ':Nat->Nat:=fun b=>if ρ b=id+1 then n+1 else ρ b
 have UW:∀g,v'.ownBlock=some g->Θ g=id+2:=fun g QY=>Bs g (wY▸QY)
 have k:gZ w w Θ Θ' (id+2):=by
  refine⟨by omega,rfl,rfl,rfl,bH _,fun _ _ _=>rfl,fun b hb hne=>?_,fun b hb=>?_⟩
  ·simp only[Θ'];rw[b9 fun e=>hne (UW b e.symm)]
  ·simp only[Θ']at hb;split at hb
   ·rename_i e;exact hs.own b (by rw[UW b e.symm];omega)
   ·exact hs.own b hb
 have hm:∀b,2<=Θ' b->uS Γ b:=by
  intro b hb;simp only[Θ']at hb;split at hb
  ·rename_i e;exact hs.mine b (by rw[UW b e.symm];omega)
  ·exact hs.mine b hb
 have Xi:=tf (hs.mT n (bH _)) (some v');have q9:=hs.lG k Xi hu;have JI:∀b∈bs',Θ' b=0:=by
  intro b hb;have h1:=(hu.free b (by rw[hρ b (p4 b hb)];omega)).1;simp only[Θ'];rw[b9 fun e=>by have:=UW b e.symm;omega];exact h1
 have key:∀(j:Nat) y,(kill st.H [id]++[.row .uq e sz (rows.take h)])[j]?=some y->(j=n/\y=.row .uq e sz (rows.take h))\/(j≠n/\(y=.gone\/(j∉[id]/\st.H[j]?=some y))):=by
  intro j y hj;rcases yQ j y hj with⟨h1,h2⟩|⟨h1,h2⟩
  ·rw[eX]at h1;exact .inl ⟨h1,h2⟩
  ·rw[eX]at h1;exact .inr ⟨h1,lF h2⟩
 have hs':cz Γ ⟨st.σ,kill st.H [id]++[.row .uq e sz (rows.take h)]⟩ (uP κ n (some v')) Θ' a w:=by
  refine hs.step k hm Xi ?_ ?_ ?_ ⟨ρ',fun b hb=>?_,fun j e2 Oa eY hj=>?_,fun j y hj=>?_⟩
  ·intro i hi;simp only[aM,aG,b8,eX]at hi;unfold uP;rw[b9 (by omega)];exact hs.mT i (by omega)
  ·intro i y hy;unfold uP at hy;split at hy
   ·cases hy;exact hone
   ·exact hs.lM i y hy
  ·intro j y hj;rcases key j y hj with⟨rfl,rfl⟩|⟨_,hy|⟨hjk,hy⟩⟩
   ·exact .inr (.inr ⟨hsz,fun r hr=>hrl r (cM hr),v',cs',bs',jN _ _ _,p1,p2,fun g QY=>by simp only[Θ'];rw[bM QY.symm],JI⟩)
   ·exact .inl hy
   ·exact .inr (.inl ⟨fun e=>hjk (by simp;omega),hy⟩)
  ·refine q9.1 b fun h0=>hb ?_
   simp only[ρ'];rw[b9 (by omega)];exact h0
  ·rcases key j _ hj with⟨rfl,hy⟩|⟨_,hy|⟨hjk,hy⟩⟩
   ·simp only[Ob.row.injEq,nU]at hy;obtain⟨rfl,rfl,rfl⟩:=hy;exact⟨v',cs',bs',jN _ _ _,p1,p2,p3,fun b hb=>by simp only[ρ'];rw[bM (hρ b (p4 b hb))]⟩
   ·cases hy
   ·obtain⟨v3,c3,b3,q1,q2,q3,q4,q5⟩:=q9.2.1 j e2 Oa eY (fun e=>hjk (by simp;omega)) hy;refine⟨v3,c3,b3,q1,q2,q3,q4,fun b hb=>?_⟩;have hne:j≠id:=fun e=>hjk (by simp[e])
    simp only[ρ'];rw[b9 (by rw[q5 b hb];omega)];exact q5 b hb
  ·rcases key j _ hj with⟨rfl,hy⟩|⟨_,hy|⟨hjk,hy⟩⟩
   ·subst hy;exact GJ.sZ rfl
   ·subst hy;trivial
   ·refine(q9.2.2 j y (fun e=>hjk (by simp;omega)) hy).re fun b hb=>?_
    have hne:j≠id:=fun e=>hjk (by simp[e])
    simp only[ρ'];rw[b9 (by omega)];exact hb
 refine hK _ _ (hn _ _ _ _ (hs'.set (t:=t) (d:=.acc n) (bs:=[]) ht ?_ (by simp)));exact(vR.acc n _ (jN _ _ _)).LR
end
end Go.Cx
namespace Go.Cx
open Go.RowKit
section
variable{P:Program}{Γ:pG}{Q:Exit->St->Prop}{st:St}{κ κ':Nat->Option Value}{Θ Θ':Nat->Nat}{a:Act}{w w':World}{all:Array Oper}{rest:List Oper}
theorem cz.YO(hs:cz Γ st κ Θ a w):
 cz Γ ⟨st.σ,st.H++[.mp []]⟩ (uP κ st.H.length (some (.map (some w.heap.size)))) (fun b=>if b=w.heap.size then st.H.length+2 else Θ b) a (w.alloc (.map #[] 0)):=by
 have k:=gZ.alloc hs (.map #[] 0) (tag:=st.H.length+2) (by omega);refine hs.push rfl k (hs.vS (fun b hb=>by by_cases e:b=w.heap.size<;>simp_all)) ?_ rfl;exact⟨w.heap.size,#[],0,by simp[uP],heap_alloc_new w _,by simp,rfl,by simp⟩
theorem NQ{o:Oper}{T t:Nat}(hop:o.op=.makeMap T none)(hd:o.dst=some t)(hg:o.guard=none)(ht:t<Γ.nt)
 (h:AO P Γ all rest Q ⟨(t,.acc st.H.length)::st.σ,st.H++[.mp []]⟩):AO P Γ all (o::rest) Q st:=by
 intro κ Θ a w hs;have hs':=hs.YO;refine wpList_plain hg fun K hK=>?_
 unfold Oper.wp;have hrun:(execOp a.eval o).run P w=.ok (.value (.map (some w.heap.size))) (w.alloc (.map #[] 0)):=by
  simp[execOp,hop,Instr.makeMap,newObj];rfl
 rw[hrun,Oper.upon_value,hd];refine hK _ _ (h _ _ _ _ (hs'.set (t:=t) (d:=.acc st.H.length) (bs:=[]) ht ?_ (by simp)));exact(vR.acc st.H.length _ (jN _ _ _)).LR
theorem uh.push{es:List MapEntry}{kv:List (D×D)}{k v:D}{u x:Value}(h:uh w es kv)(hk:Rd w u k [])(hv:Rd w x v [])(c:Nat):uh w (es++[{key:=u,val:=x,born:=c}]) (kv++[(k,v)]):=by
 refine⟨by simp[h.1],fun j e p h1 h2=>?_⟩;by_cases hj:j<es.length
 ·rw[aj hj]at h1;rw[aj (by rw[<-h.1];exact hj)]at h2;exact h.2 j e p h1 h2
 ·rw[av (by omega)]at h1;rw[av (by rw[<-h.1];omega),<-h.1]at h2;have e0:j-es.length=0:=by
   have:=(aD.1 h1).1;simp at this;omega
  rw[e0]at h1 h2;simp at h1 h2;subst h1;subst h2;exact⟨hk,hv⟩
theorem uh.put{es:List MapEntry}{kv:List (D×D)}{k v:D}{u x:Value}(h:uh w es kv)(hk:Rd w u k [])(hv:Rd w x v [])(i:Nat){es':List MapEntry}(hl:es'.length=es.length)
 (he:∀(j:Nat) e,es'[j]?=some e->(j=i/\e.key=u/\e.val=x)\/(j≠i/\es[j]?=some e)):uh w es' (kv.set i (k,v)):=by
 refine⟨by simp[hl,h.1],fun j e p h1 h2=>?_⟩;rcases he j e h1 with⟨rfl,h3,h4⟩|⟨hne,h3⟩
 ·have hlt:j<kv.length:=by
   have:=(aD.1 h2).1;simpa using this
  rw[cx hlt]at h2;cases h2;rw[h3,h4];exact⟨hk,hv⟩
 ·rw[bw (oJ hne)]at h2;exact h.2 j e p h3 h2
theorem YG{kd:TypeDesc}{k v:D}{u:Value}(Jb:ET kd k=true)(hu:Rd w u k []):∀ {es:List MapEntry} {kv kv':List (D×D)} (i:Nat),uh w es kv->Fj k v kv=some kv'->
 (Instr.findNow kd u es i=some none/\kv'=kv++[(k,v)])\/∃j x e,Instr.findNow kd u es i=some (some (i+j,x))/\es[j]?=some e/\e.key=u/\kv'=kv.set j (k,v):=by
 intro es
 induction es with
 |nil=>
  intro kv kv' i hr h;cases kv with
  |nil=>cases h;exact .inl ⟨rfl,rfl⟩
  |cons p kv=>exact absurd hr.1 (by simp)
 |cons e es ih=>
  intro kv kv' i hr h;cases kv with
  |nil=>exact absurd hr.1 (by simp)
  |cons p kv=>
   obtain⟨r1,r2,r3⟩:=hr.cons;simp only[Fj]at h;split at h
   ·rename_i hq;cases h;have:=Hp Jb hu r1 hq;exact .inr ⟨0,e.val,e,by simp[Instr.findNow,this.1],rfl,this.2 rfl,rfl⟩
   ·rename_i hq;have Jc:=(Hp Jb hu r1 hq).1;cases hk:Fj k v kv with
    |none=>rw[hk]at h;cases h
    |some kv1=>
     rw[hk]at h;cases h;rcases ih (i+1) r3 hk with⟨h1,h2⟩|⟨j,x,e',h1,h2,h3,h4⟩
     ·exact .inl ⟨by simpa[Instr.findNow,Jc]using h1,by rw[h2];rfl⟩
     ·exact .inr ⟨j+1,x,e',by simp only[Instr.findNow,Jc];rw[h1];congr 3;omega,by simpa using h2,h3,by rw[h4];rfl⟩
   ·cases h
theorem LI{kd:TypeDesc}{u:Value}(h:MapKept.IsKey kd u)(n:Nat):Instr.sameBits n u u=true:=by
 cases kd<;>cases u<;>simp[MapKept.IsKey]at h<;>simp[Instr.sameBits]
 all_goals first
  |exact(MapKept.bytes_beq _ _).2 rfl
  |rfl
def D.scalar:D->Bool
 | .str _=>true
 | .int _ _=>true
 | .bool _=>true
 |_=>false
theorem N6{v:Value}{d:D}{bs:aP}(hd:d.scalar=true)(hu:oK w κ v d bs):Rd w v d []:=by
 cases d<;>simp[D.scalar]at hd
 all_goals cases hu with|v h=>cases h with|cell h=>cases h with|pure h=>cases h<;>(constructor<;>assumption)
theorem KS{o:Oper}{T id:Nat}{x i y:Operand}{kd:TypeDesc}{dz:D}{kv kv':List (D×D)}(hop:o.op=.mapUpdate T x i y)(hd:o.dst=none)(hg:o.guard=none)
 (hT:R9 P T=some (kd,dz)) (hx:st.ev x=.acc id) (hH:st.H[id]?=some (.mp kv)) (Jb:ET kd (st.ev i)=true) (hsc:(st.ev y).scalar=true) (hput:Fj (st.ev i) (st.ev y) kv=some kv')
 (h:AO P Γ all rest Q ⟨st.σ,st.H.set id (.mp kv')⟩):AO P Γ all (o::rest) Q st:=by
 intro κ Θ a w hs;obtain⟨g,es,c,q1,q2,q3,q4⟩:=hs.ob id _ hH;obtain⟨bs,r,_⟩:=hs.ev x;rw[hx]at r;obtain⟨hk,_⟩:=r.rQ;rw[q1]at hk;have Xr:a.eval x=.map (some g):=(oS hk).symm;obtain⟨bi,ri,_⟩:=hs.ev i;obtain⟨by',ry,_⟩:=hs.ev y;have hu:=K5 Jb ri;have hv:=N6 hsc ry;obtain⟨kt,et,z,t1,t2,t3,t4⟩:=JF hT;have hik:=Ma Jb hu;have XY:=MapKept.run_checkKey (P:=P) (w:=w) t2 hik false 9999;have a1w:g<w.heap.size:=(az.1 q2).1;have QZ:id<st.H.length:=(aD.1 hH).1;have hrun:∃es' c',(execOp a.eval o).run P w=.ok .skip {w with heap:=w.heap.setIfInBounds g (.map es' c')}/\uh w es'.toList kv':=by
  rcases YG Jb hu 0 q4 hput with⟨hn,rfl⟩|⟨j,x',e,hn,he,hek,rfl⟩
  ·have VA:=MapKept.run_findKey (P:=P) (w:=w) t2 hn;refine⟨es.push {key:=a.eval i,val:=a.eval y,born:=c},c+1,?_,?_⟩
   ·simp[execOp,hop,Xr,Instr.mapUpdate,run_underlying t1,MapKept.run_getObj_map q2,XY,VA,MapKept.run_setObj_map _ q2]
   ·rw[Array.toList_push];exact q4.push hu hv c
  ·rw[cY]at hn;have VA:=MapKept.run_findKey (P:=P) (w:=w) t2 hn;have hej:es[j]?=some e:=by simpa using he
   have hst:(Instr.keyThatStays (((es[j]?).map (·.key)).getD (a.eval i)) (a.eval i)).run P w=.ok (a.eval i) w:=by
    rw[hej];simp[Instr.keyThatStays,hek,LI hik]
   refine⟨es.modify j fun e=> {e with key:=a.eval i,val:=a.eval y},c,?_,?_⟩
   ·simp[execOp,hop,Xr,Instr.mapUpdate,run_underlying t1,MapKept.run_getObj_map q2,XY,VA,hst,MapKept.run_setObj_map _ q2]
   ·refine q4.put hu hv j (by simp) fun m e' hm=>?_
    rw[pX,sv]at hm;by_cases hmj:j=m
    ·subst hmj;rw[bM rfl,hej]at hm;cases hm;exact .inl ⟨rfl,rfl,rfl⟩
    ·rw[b9 hmj]at hm;exact .inr ⟨oJ hmj,by simpa using hm⟩
 obtain⟨es',c',hr,a2J⟩:=hrun;have Xk:∀b,b≠g->(w.heap.setIfInBounds g (.map es' c'))[b]?=w.heap[b]?:=fun b hb=>by simp[oJ hb]
 have k:gZ w {w with heap:=w.heap.setIfInBounds g (.map es' c')} Θ Θ (id+2):=by
  refine⟨by omega,rfl,rfl,rfl,by simp,fun b hb hne=>Xk b fun e=>hne (e▸q3),fun _ _ _=>rfl,fun b hb=>?_⟩;simpa using hs.own b hb
 have hs':cz Γ ⟨st.σ,st.H.set id (.mp kv')⟩ κ Θ a {w with heap:=w.heap.setIfInBounds g (.map es' c')}:=by
  obtain⟨ρ,sr⟩:=hs.qA;have q9:=hs.lG k (fun _ _ h=>h) sr;refine hs.step k hs.mine (fun _ _ h=>h) (fun i hi=>hs.mT i (by simpa using hi)) hs.lM ?_ ⟨ρ,q9.1,fun j e sz rows hj=>?_,fun j y hj=>?_⟩
  ·intro j y' hj;by_cases e:j=id
   ·subst e;rw[cx QZ]at hj;cases hj;exact .inr (.inr ⟨g,es',c',q1,by simp[a1w],q3,a2J.stay⟩)
   ·rw[bw (oJ e)]at hj;exact .inr (.inl ⟨by omega,hj⟩)
  ·by_cases e':j=id
   ·subst e';rw[cx QZ]at hj;cases hj
   ·rw[bw (oJ e')]at hj;exact q9.2.1 j e sz rows (by omega) hj
  ·by_cases e':j=id
   ·subst e';rw[cx QZ]at hj;cases hj;trivial
   ·rw[bw (oJ e')]at hj;exact q9.2.2 j y (by omega) hj
 refine wpList_plain hg fun K hK=>?_
 unfold Oper.wp;rw[hr,Oper.upon_skip,hd];exact hK _ _ (h _ _ _ _ hs')
end
end Go.Cx
namespace Go.Cx
open Go.RowKit
def Ot(P:Program)(f:FuncId)(ds:aK)(d:D):Prop:=
 (∃fn,P.funcs[f]?=some fn/\fn.body.isSome=true/\(fn.name== "runtime.NumGoroutine")=false)/\
 ∀(w:World) (Θ:Nat->Nat) (args:bY) (bs ts us:aP),
  JR w (fun b=>b∈ts)->x9 w args ds bs ts us->
  (∀b∈bs,Θ b=0)->(∀b,Θ b≠0->b<w.heap.size)->(∀b,Θ b<=1)->(∀b∈ts,Θ b=1/\b∈us)->us.Nodup->(∀b∈us,(b∉ts->Θ b=0)/\Wr w b)->
  Calls P f args.toArray w (fun e w'=>∃v b2 t2 u2,e=.returned v/\w'.os=w.os/\w'.tape=w.tape/\w'.output=w.output/\w.heap.size<=w'.heap.size/\
   (∀b,b<w.heap.size->b∉ts->w'.heap[b]?=w.heap[b]?)/\
   vf w' v d b2 t2 u2/\(∀b∈b2,(b<w.heap.size->Θ b=0\/b∈ts)/\b∉t2)/\u2.Nodup/\
   (∀b∈u2,(w.heap.size<=b\/b∈us)/\Wr w' b)/\∀b∈t2,b∈u2/\(w.heap.size<=b\/b∈ts))
section
variable{P:Program}{Γ:pG}{Q:Exit->St->Prop}{st:St}{κ κ':Nat->Option Value}{Θ Θ':Nat->Nat}{a:Act}{w w':World}{all:Array Oper}{rest:List Oper}
theorem a1L.out{fn:Func}{d:D}{e:Exit}{a':Act}{w':World}{JJ:St}{κ0:Nat->Option Value}{Θ0:Nat->Nat}(hs0:cz Γ JJ κ0 Θ0 a' w')(SW:KY P fn d e JJ):
 (e=.ret\/e=.normal)/\a'.defers=[]/\Lo Γ w'/\∃v b2 t2 u2,(results fn a'.tmps).run P w'=.ok v w'/\
  vf w' v d b2 t2 u2/\(∀b∈b2,(b<Γ.W0.heap.size->¬Γ.X b->Γ.Θ0 b=0)/\b∉t2)/\u2.Nodup/\
  (∀b∈u2,Ou Γ b/\Wr w' b)/\∀b∈t2,b∈u2/\uS Γ b:=by
 obtain⟨xS,nz,QF,es,ms,qs,hres,SX,IZ,Gg,rfl⟩:=SW;obtain⟨ρ0,VF⟩:=hs0.qA;have wv:=sG SX;obtain⟨Θ1,ρ1,hs1,hu1,hm1,Jf,O4⟩:=cz.CG ms hs0 VF IZ (fun m hm=>by
  obtain⟨e,sz,rows,hH⟩:=wv.1 m hm;exact⟨_,e,sz,rows,hH,rfl⟩)
 obtain⟨vs,bs',m1,m2,m3,m4,m5⟩:=yS hs0 hres;have hq:∀m e sz rows,JJ.H[m]?=some (.row .uq e sz rows)->∃v cs ns,κ0 m=some v/\0<sz/\(∀r∈rows,r.length=sz)/\w'.ownsRow 0 e sz v rows.length cs/\jR w' cs rows.flatten ns/\ns.Nodup/\(∀b∈ns,ρ1 b=m+1)/\∀g,v.ownBlock=some g->Θ1 g=m+2:=by
  intro m e sz rows hH;have hnm:m∉ms:=fun hm=>by
   obtain⟨e',sz',cm,AX⟩:=wv.1 m hm;rw[hH]at AX;cases AX
  have JH:(kill JJ.H ms)[m]?=some (.row .uq e sz rows):=by rw[fB hnm];exact hH
  obtain⟨v,cs,ns,r1,r2,r3,r4,r5⟩:=hu1.rows m e sz rows JH;obtain⟨p1,p2,v2,_,_,p3,_,_,p4,_⟩:=hs1.ob m _ JH;rw[r1]at p3;cases p3;exact⟨v,cs,ns,r1,p1,p2,r2,r3,r4,r5,p4⟩
 obtain⟨c,ts,us,yK,wH⟩:=vU (w:=w') (vs:=vs) (fun b hb=>(hu1.free b hb).1) hq hs0.lM SX Gg (by omega) (fun i d hd=>by
  obtain⟨v,b,k1,k2,k3⟩:=m4 i d hd;exact⟨v,b,k1,k2,fun x hx=>Jf x (m5 x (k3 x hx))⟩) hm1
 have ES:∃v,(results fn a'.tmps).run P w'=.ok v w'/\vf w' v (vC es) c ts us:=by
  have hrun:(results fn a'.tmps).run P w'=.ok (if h:vs.toArray.size=1 then vs.toArray[0]else .tuple vs.toArray) w':=by
   rw[results_eq,je];simp[m1]
  cases yK with
  |nil=>exact⟨.tuple #[],by simpa using hrun,.iE [] [] [] [] [] .nil⟩
  |cons v vs d es b1 b2 t1 t2 u1 u2 hv p8=>
   cases p8 with
   |nil=>
    simp only[cB];exact⟨v,by simpa using hrun,.v hv⟩
   |cons v2 vs d2 es b3 b4 t3 t4 u3 u4 MW p8=>exact⟨.tuple (v::v2::vs).toArray,by simpa using hrun,.iE _ _ _ _ _ (.cons _ _ _ _ _ _ _ _ _ _ hv (.cons _ _ _ _ _ _ _ _ _ _ MW p8))⟩
 obtain⟨v,O5,Jd⟩:=ES;refine⟨xS,hs0.defers,hs0.stays,v,c,ts,us,O5,Jd,fun b hb=>⟨fun hlt hx=>?_,fun ht=>?_⟩,wH.nd,fun b hb=>?_,fun b hb=>?_⟩
 ·have:=wH.zero b hb;rw[<-(hs1.old b hlt hx).1];exact this
 ·obtain⟨⟨m,_,hΘ⟩,_⟩:=wH.top b ht;have:=wH.zero b hb;omega
 ·rcases wH.mem b hb with h|⟨m,hm,hρ⟩
  ·obtain⟨⟨m,hm,hΘ⟩,_⟩:=wH.top b h;exact⟨.inl (hs1.mine b (by omega)),I1 Jd b h⟩
  ·have:=hu1.free b (by omega);exact⟨this.2.1,this.2.2⟩
 ·obtain⟨⟨m,hm,hΘ⟩,h2⟩:=wH.top b hb;exact⟨h2,hs1.mine b (by omega)⟩
theorem Ot.of{f:FuncId}{fn:Func}{c:Code}{ds Lf:aK}{obs:bJ}{d:D}(hf:P.funcs[f]?=some fn)(hb:fn.body=some c)(hn:(fn.name== "runtime.NumGoroutine")=false)
 (hI:xT 0 ds=(Lf,obs)) (hl:Lf.length<=fn.ntmps)
 (h:(∀x∈ds.map D.Ua,gm x)->∀(Γ:pG),Γ.nt=fn.ntmps->AW P Γ c (KY P fn d) ⟨uj 0 Lf,obs⟩):Ot P f ds d:=by
 refine⟨⟨fn,hf,by simp[hb],hn⟩,?_⟩;intro w Θ args bs ts us hvs hargs hz hown h1 hts hnd q9;have O6:=hargs.shown;obtain⟨L,q1,q2,rfl,rfl,q5⟩:=hargs.inst 0;rw[hI]at q1 q5;have q1:L.map Fs.ob=obs:=q1;refine calls_of_wp hf hb ?_;let κ0:Nat->Option Value:=fun i=>(L[i]?).map Fs.v
 let Θ0:Nat->Nat:=fun b=>match HJ L b with|some i=>i+2|none=>Θ b
 let ρ0:Nat->Nat:=fun b=>match qC L b with|some i=>i+1|none=>0
 let Γ:pG:=⟨w,Θ0,fun b=>b∈L.flatMap Fs.ts,fn.ntmps,fun b=>b∈L.flatMap Fs.bl,hvs⟩
 have Xc:∀i x,L[i]?=some x->κ0 i=some x.v:=fun i x hx=>by simp[κ0,hx]
 have hnm:Names κ0 0 L:=fun i x hx=>by rw[cY];exact Xc i x hx
 have hrd:=q5 κ0 hnm;have hlen:args.length=Lf.length:=hrd.len;have WX:∀(i:Nat) x b,L[i]?=some x->x.v.ownBlock=some b->b∈L.flatMap Fs.ts:=fun i x b hx hb'=>bp.2 ⟨x,aB hx,by simp[Fs.ts,hb']⟩
 have O7:∀(i:Nat) x b,L[i]?=some x->x.v.ownBlock=some b->Θ0 b=i+2:=by
  intro i x b hx hb';simp only[Θ0,G4 hnd hx hb']
 have Qb:∀b,Θ b=0->Θ0 b=0:=by
  intro b h0;have e2:b∉L.flatMap Fs.ts:=fun e=>by have:=(hts b e).1;omega
  simp only[Θ0,tT e2];exact h0
 have SQ:∀(i:Nat) x b,L[i]?=some x->b∈x.ns->Θ0 b=0:=fun i x b hx hb'=>Qb b ((q9 b (oV hx hb')).1 (zI hnd hx hb'))
 have wJ:∀b,Θ0 b≠Θ b->b∈L.flatMap Fs.ts:=by
  intro b hne;refine cq fun ht=>hne ?_
  simp only[Θ0,tT ht]
 have Nx:∀(j:Nat) o,obs[j]?=some o->∃x,L[j]?=some x/\o=x.ob:=by
  intro j o hj;rw[<-q1,bg]at hj;cases hx:L[j]? with
  |none=>simp[hx]at hj
  |some x=>simp[hx]at hj;exact⟨x,rfl,hj.symm⟩
 have Xj:obs.length=L.length:=by rw[<-q1];simp
 have hs:cz Γ ⟨uj 0 Lf,obs⟩ κ0 Θ0 {tmps:=args.toArray++Array.replicate (fn.ntmps-args.toArray.size) undef,defers:=[]} w:=by
  refine⟨rfl,?_,fun i hi=>?_,?_,?_,?_,?_,?_,?_,⟨rfl,rfl,rfl,bH _,fun _ _ _=>rfl⟩,⟨ρ0,?_,?_,?_⟩⟩
  ·simp[Γ];omega
  ·have hi:obs.length<=i:=hi;simp only[κ0];rw[cD (by omega)];rfl
  ·intro id u hu;simp only[κ0]at hu;cases hx:L[id]? with
   |none=>simp[hx]at hu
   |some x=>simp[hx]at hu;subst hu;exact(q2 x (aB hx)).2.2.2.2
  ·intro t;rw[By];simp only[rP,vb,sO];have PJ:∀v,args[t]?=some v->(args.toArray++Array.replicate (fn.ntmps-args.toArray.size) undef).getD t undef=v:=by
    intro v hv;have hlt:=(aD.1 hv).1;rw[bz,dV (by simpa using hlt)];simp only[iB,hv,qZ]
   cases hd:Lf[t]? with
   |none=>exact⟨[],.of (.any _),by simp⟩
   |some x=>
    obtain⟨v,b',k1,k2,k3⟩:=hrd.at (i:=t) (d:=x) hd;rw[PJ v k1];exact⟨b',.v k2,fun b hb'=>Qb b (hz b (k3 b hb'))⟩
  ·intro j o hj;obtain⟨x,hx,rfl⟩:=Nx j o hj;obtain⟨p1,p2,p3,p4,_⟩:=q2 x (aB hx);exact⟨p1,p2,x.v,x.cs,x.ns,Xc j x hx,p3,p4,fun b hb'=>O7 j x b hx hb',fun b hb'=>SQ j x b hx hb'⟩
  ·intro b hb';by_cases e:Θ0 b=Θ b
   ·exact hown b (by rw[<-e];exact hb')
   ·exact hown b (by have:=(hts b (wJ b e)).1;omega)
  ·intro b hlt hx;refine⟨rfl,?_⟩;have e:Θ0 b=Θ b:=cq fun e=>hx (wJ b e)
   rw[e];exact h1 b
  ·intro b hb';refine .inr (wJ b fun e=>?_);have:=h1 b;omega
  ·intro b hb';cases Nt:qC L b with
   |none=>simp[ρ0,Nt]at hb'
   |some i=>
    obtain⟨x,hx,xD⟩:=qc Nt;exact⟨SQ i x b hx xD,.inr (oV hx xD),(q9 b (oV hx xD)).2⟩
  ·intro id e sz rows hj;obtain⟨x,hx,Nz⟩:=Nx id _ hj;simp only[Fs.ob,Ob.row.injEq,nU]at Nz;obtain⟨rfl,rfl,rfl⟩:=Nz;obtain⟨p1,p2,p3,p4,_⟩:=q2 x (aB hx);exact⟨x.v,x.cs,x.ns,Xc id x hx,p3,p4,Ft hnd hx,fun b hb'=>by simp[ρ0,ye hnd hx hb']⟩
  ·intro id o hj;obtain⟨x,hx,Nz⟩:=Nx id _ hj;subst Nz;exact GJ.sZ rfl
 refine wp_mono (h O6 Γ rfl _ _ _ _ hs) ?_;rintro x a' w' ⟨JJ,κ1,Θ1,hs0,SW⟩;obtain⟨xS,hdf,hst,v,b2,t2,u2,hrun,hres,NN,AY,sr,ht'⟩:=a1L.out hs0 SW;have post:a'.defers=[]/\∃v',(results fn a'.tmps).run P w'=.ok v' w'/\∃v b2 t2 u2,Ending.returned v'=.returned v/\w'.os=w.os/\w'.tape=w.tape/\w'.output=w.output/\w.heap.size<=w'.heap.size/\
  (∀b,b<w.heap.size->b∉L.flatMap Fs.ts->w'.heap[b]?=w.heap[b]?)/\
  vf w' v d b2 t2 u2/\(∀b∈b2,(b<w.heap.size->Θ b=0\/b∈L.flatMap Fs.ts)/\b∉t2)/\u2.Nodup/\
  (∀b∈u2,(w.heap.size<=b\/b∈L.flatMap Fs.bl)/\Wr w' b)/\∀b∈t2,b∈u2/\(w.heap.size<=b\/b∈L.flatMap Fs.ts):=by
  refine⟨hdf,v,hrun,v,b2,t2,u2,rfl,hst.os,hst.tape,hst.output,hst.size,fun b hlt hnt=>hst.block b hlt (fun hx=>hnt hx),hres,fun b hb'=>?_,AY,fun b hb'=>?_,fun b hb'=>?_⟩
  ·obtain⟨k1,k3⟩:=NN b hb';refine⟨fun hlt=>?_,k3⟩;by_cases ht:b∈L.flatMap Fs.ts
   ·exact .inr ht
   ·refine .inl ?_;have:=k1 hlt (fun hx=>ht hx);have e:Θ0 b=Θ b:=cq fun e=>ht (wJ b e)
    rw[<-e];exact this
  ·obtain⟨k1,k3⟩:=sr b hb';refine⟨?_,k3⟩;rcases k1 with(k1|k1)|k1
   ·exact .inl k1
   ·exact .inr (Ak k1)
   ·exact .inr k1
  ·obtain⟨k1,k2⟩:=ht' b hb';exact⟨k1,k2⟩
 rcases xS with rfl|rfl
 ·exact post
 ·exact post
theorem RV{o:Oper}{f t:Nat}{xs:Array Operand}{ty:Array TypeId}{ds:aK}{d:D}{nz:List (List (Option (Nat×Nat)))}{ms qs:aP}
 (hop:o.op=.call {callee:=.value (.func f),args:=xs,argTypes:=ty}) (hd:o.dst=some t) (hg:o.guard=none) (ht:t<Γ.nt)
 (xS:wR st.H nz (xs.toList.map st.ev)=some (ds,ms,qs)) (IZ:ms.Nodup) (Gg:qs.Nodup) (kV:Ot P f ds d)
 (h:AO P Γ all rest Q ⟨(t,(lE st.H.length d).1)::st.σ,kill st.H (ms++qs)++(lE st.H.length d).2⟩):AO P Γ all (o::rest) Q st:=by
 intro κ Θ a w hs;have wv:=sG xS;obtain⟨ρ,hu⟩:=hs.qA;obtain⟨Θ1,ρ1,hs1,hu1,hm1,Jf,O4⟩:=cz.CG ms hs hu IZ (fun m hm=>by
  obtain⟨e,sz,rows,hH⟩:=wv.1 m hm;exact⟨_,e,sz,rows,hH,rfl⟩)
 have hq:∀m e sz rows,st.H[m]?=some (.row .uq e sz rows)->∃v cs ns,κ m=some v/\0<sz/\(∀r∈rows,r.length=sz)/\w.ownsRow 0 e sz v rows.length cs/\jR w cs rows.flatten ns/\ns.Nodup/\(∀b∈ns,ρ1 b=m+1)/\∀g,v.ownBlock=some g->Θ1 g=m+2:=by
  intro m e sz rows hH;have hnm:m∉ms:=fun hm=>by
   obtain⟨e',sz',cm,AX⟩:=wv.1 m hm;rw[hH]at AX;cases AX
  have JH:(kill st.H ms)[m]?=some (.row .uq e sz rows):=by rw[fB hnm];exact hH
  obtain⟨v,cs,ns,r1,r2,r3,r4,r5⟩:=hu1.rows m e sz rows JH;obtain⟨p1,p2,v2,_,_,p3,_,_,p4,_⟩:=hs1.ob m _ JH;rw[r1]at p3;cases p3;exact⟨v,cs,ns,r1,p1,p2,r2,r3,r4,r5,p4⟩
 obtain⟨bs,ts,us,yK,wH⟩:=vU (w:=w) (vs:=xs.toList.map a.eval) (fun b hb=>(hu1.free b hb).1) hq hs.lM xS Gg (by simp) (fun i d hd=>by
  rw[bg]at hd;cases hx:xs.toList[i]? with
  |none=>rw[hx]at hd;cases hd
  |some x=>
   rw[hx]at hd;simp only[cJ,ah]at hd;subst hd;obtain⟨b,r,z⟩:=hs.ev x;exact⟨a.eval x,b,by rw[bg,hx];rfl,r,fun y hy=>Jf y (z y hy)⟩) hm1
 let Θc:Nat->Nat:=fun b=>if Θ1 b=0 then 0 else 1
 have wJ:∀b,Θc b=0↔Θ1 b=0:=fun b=>by simp only[Θc];split<;>simp_all
 have Fg:∀b∈ts,∃m∈qs,Θ1 b=m+2:=fun b hb=>(wH.top b hb).1
 have Ic:JR w fun b=>b∈ts:=by
  obtain⟨B,v1,v2⟩:=hs1.Z6;refine⟨B,v1,fun b hB=>⟨(v2 b hB).2.1,fun hb'=>?_⟩⟩;have hm:uS Γ b:=by
   obtain⟨m,hm,hΘ⟩:=Fg b hb';exact hs1.mine b (by omega)
  rcases hm with q|q
  ·have:=(v2 b hB).1;omega
  ·exact(v2 b hB).2.2 q
 have hwr:∀b∈us,Wr w b:=by
  intro b hb;rcases wH.mem b hb with h|⟨m,hm,hρ⟩
  ·exact GH yK b h
  ·exact(hu1.free b (by omega)).2.2
 have hc:=kV.2 w Θc (xs.toList.map a.eval) bs ts us Ic yK (fun b hb=>(wJ b).2 (wH.zero b hb)) (fun b hb=>hs1.own b (fun e=>hb ((wJ b).2 e))) (fun b=>by simp only[Θc];split<;>omega)
  (fun b hb=>by
   obtain⟨m,hm,hΘ⟩:=Fg b hb;exact⟨by simp only[Θc];rw[b9 (by omega)],(wH.top b hb).2⟩) wH.nd (fun b hb=>⟨fun hnt=>by
   rcases wH.mem b hb with h|⟨m,hm,hρ⟩
   ·exact absurd h hnt
   ·exact(wJ b).2 (hu1.free b (by omega)).1,hwr b hb⟩)
 refine wpList_plain hg fun K hK=>?_
 unfold Oper.wp;rw[si hop kV.1,Oper.upon_enter];have e0:xs.map a.eval=(xs.toList.map a.eval).toArray:=by
  rw[<-nT,fY]
 rw[e0];refine hc.mono ?_;rintro x w' ⟨v,b2,t2,u2,rfl,k1,k2,k3,k4,OB,YF,kb,UX,ku,kt⟩;show K (a.put o.dst v) w';rw[hd];let N:=st.H.length
 have hs2:=hs1.forget qs;have hNl:(kill st.H ms).length=N:=eX _ _;simp only[hNl]at hs2;let Θ2:Nat->Nat:=fun b=>if qs.any (fun m=>Θ1 b==m+2)then N+2 else Θ1 b
 have hs2:cz Γ ⟨st.σ,kill (kill st.H ms) qs⟩ κ Θ2 a w:=hs2;have Ie:∀b,Θ1 b=0->Θ2 b=0:=fun b hb=>by
  simp only[Θ2];rw[b9,hb];intro h;obtain⟨m,_,hm⟩:=cW.1 h;simp[hb]at hm
 have Bt:∀b,b∈ts->Θ2 b=N+2:=by
  intro b hb;simp only[Θ2];rw[bM];obtain⟨m,hm,hΘ⟩:=Fg b hb;exact cW.2 ⟨m,hm,by simp[hΘ]⟩
 have UU:vg Γ (kill (kill st.H ms) qs) κ Θ2 w ρ1:=by
  refine⟨fun b hb=>?_,fun j e sz rows hj=>?_,fun j o hj=>?_⟩
  ·obtain⟨q1,q2⟩:=hu1.free b hb;exact⟨Ie b q1,q2⟩
  ·rcases lF hj with h|⟨_,h⟩
   ·cases h
   ·exact hu1.rows j e sz rows h
  ·rcases lF hj with h|⟨_,h⟩
   ·subst h;trivial
   ·exact hu1.more j o h
 obtain⟨L,c1,c2,c3,c4,c5⟩:=YF.inst N;subst c3;subst c4;have Nr:∀x∈L,x.ok w':=c2;let κ':Nat->Option Value:=fun j=>if j<N then κ j else(L[j-N]?).map Fs.v
 let Θ':Nat->Nat:=fun b=>match HJ L b with|some i=>N+i+2|none=>if Θ2 b=N+2 then 0 else Θ2 b
 let ρ':Nat->Nat:=fun b=>match qC L b with|some i=>N+i+1|none=>ρ1 b
 have Kp:∀(i:Nat) x b,L[i]?=some x->x.v.ownBlock=some b->Θ' b=N+i+2:=by
  intro i x b hx hb;simp only[Θ',G4 UX hx hb]
 have wI:∀b,b∉L.flatMap Fs.ts->Θ' b=if Θ2 b=N+2 then 0 else Θ2 b:=by
  intro b h2;simp only[Θ',tT h2]
 have hzero:∀b,w.heap.size<=b->Θ2 b=0:=fun b hge=>by
  cases h:Θ2 b with
  |zero=>rfl
  |succ m=>exact absurd (hs2.own b (by omega)) (by omega)
 have VE:∀b∈b2,Θ' b=0:=by
  intro b hb;obtain⟨p1,p3⟩:=kb b hb;rw[wI b p3];by_cases hlt:b<w.heap.size
  ·rcases p1 hlt with h|h
   ·rw[Ie b ((wJ b).1 h)];simp
   ·rw[bM (Bt b h)]
  ·rw[hzero b (by omega)];simp
 have SR:∀(i:Nat) x b,L[i]?=some x->b∈x.ns->Θ' b=0:=by
  intro i x b hx hb;have hmem:=oV hx hb;rw[wI b (zI UX hx hb)];rcases(ku b hmem).1 with h|h
  ·rw[hzero b h];simp
  ·rcases wH.mem b h with h|⟨m,hm,hρ⟩
   ·rw[bM (Bt b h)]
   ·rw[Ie b (hu1.free b (by omega)).1];simp
 have hn:∀(j:Nat) v,κ j=some v->κ' j=some v:=by
  intro j v hj;have:j<N:=cq fun h=>by rw[hs.mT j (by omega)]at hj;cases hj
  simp only[κ'];rw[bM this];exact hj
 have rZ:Names κ' N L:=by
  intro i x hx;simp only[κ'];rw[b9 (by omega),ck,hx];rfl
 have SM:∀b∈L.flatMap Fs.ts,uS Γ b:=by
  intro b hb;rcases(kt b hb).2 with h|h
  ·exact .inl (cZ hs.base h)
  ·obtain⟨m,hm,hΘ⟩:=Fg b h;exact hs1.mine b (by omega)
 have k:gZ w w' Θ2 Θ' (N+2):=by
  refine⟨by omega,k1,k2,k3,k4,fun b hlt hne=>OB b hlt (fun e=>hne (Bt b e)),fun b hlt hne=>?_,fun b hb=>?_⟩
  ·rw[wI b (fun e=>?_),b9 hne];rcases(kt b e).2 with h|h
   ·omega
   ·exact hne (Bt b h)
  ·by_cases ht':b∈L.flatMap Fs.ts
   ·obtain⟨x,T,hx⟩:=(ku b (Ak ht')).2;exact(az.1 hx).1
   ·rw[wI b ht']at hb;split at hb
    ·exact absurd rfl hb
    ·exact dG (hs2.own b hb) k4
 have hm:∀b,2<=Θ' b->uS Γ b:=by
  intro b hb;by_cases ht':b∈L.flatMap Fs.ts
  ·exact SM b ht'
  ·rw[wI b ht']at hb;split at hb
   ·omega
   ·exact hs2.mine b hb
 have q9:=hs2.lG k hn UU;have EQ:(kill st.H (ms++qs)).length=N:=by simp[eX,N]
 have key:∀(j:Nat) y,(kill st.H (ms++qs)++L.map Fs.ob)[j]?=some y->(∃i x,j=N+i/\L[i]?=some x/\y=x.ob)\/(j<N/\(y=.gone\/(kill (kill st.H ms) qs)[j]?=some y)):=by
  intro j y hj;by_cases hlt:j<N
  ·rw[aj (by rw[EQ];exact hlt)]at hj;refine .inr ⟨hlt,?_⟩;rcases lF hj with h|⟨h3,h4⟩
   ·exact .inl h
   ·refine .inr ?_;simp only[aU,GF]at h3;rw[fB h3.2,fB h3.1];exact h4
  ·rw[av (by omega),EQ,bg]at hj;cases hx:L[j-N]? with
   |none=>simp[hx]at hj
   |some x=>simp[hx]at hj;exact .inl ⟨j-N,x,by omega,hx,hj.symm⟩
 have hs':cz Γ ⟨st.σ,kill st.H (ms++qs)++L.map Fs.ob⟩ κ' Θ' a w':=by
  have H7:∀(j:Nat) y,(kill (kill st.H ms) qs)[j]?=some y->y≠ .gone->∀b,ρ1 b=j+1->ρ' b=j+1:=by
   intro j y hy hyg b Xt;have hjk:j∉qs:=by
    rcases lF hy with h|h
    ·exact absurd h hyg
    ·exact h.1
   have hnb:qC L b=none:=by
    cases hi:qC L b with
    |none=>rfl
    |some i=>
     exfalso;obtain⟨x,hx,xD⟩:=qc hi;obtain⟨z0,_,a1S,T'',Xq⟩:=hu1.free b (by omega);rcases(ku b (oV hx xD)).1 with h|h
     ·have:=(az.1 Xq).1;omega
     ·rcases wH.mem b h with h|⟨m,hm',hρ⟩
      ·obtain⟨m,hm',hΘ⟩:=Fg b h;omega
      ·exact hjk (by
        have:j=m:=by omega
        rw[this];exact hm')
   simp only[ρ',hnb];exact Xt
  refine hs2.step k hm hn ?_ ?_ ?_ ⟨ρ',?_,?_,?_⟩
  ·intro i hi;simp only[aM,EQ,ai]at hi;simp only[κ'];rw[b9 (by omega),cD (by omega)];rfl
  ·intro i u sr;simp only[κ']at sr;split at sr
   ·exact hs.lM i u sr
   ·cases hx:L[i-N]? with
    |none=>simp[hx]at sr
    |some x=>simp[hx]at sr;subst sr;exact(Nr x (aB hx)).2.2.2.2
  ·intro j y hj;rcases key j y hj with⟨i,x,rfl,hx,rfl⟩|⟨hjl,hy|hy⟩
   ·obtain⟨q1,q2,q3,q4,_⟩:=Nr x (aB hx);exact .inr (.inr ⟨q1,q2,x.v,x.cs,x.ns,rZ i x hx,q3,q4,fun g' hg'=>Kp i x g' hx hg',fun b hb'=>SR i x b hx hb'⟩)
   ·exact .inl hy
   ·exact .inr (.inl ⟨by omega,hy⟩)
  ·intro b hb;cases Ja:qC L b with
   |some i=>
    obtain⟨x,hx,xD⟩:=qc Ja;have hmem:=oV hx xD;refine⟨SR i x b hx xD,?_,(ku b hmem).2⟩;rcases(ku b hmem).1 with h|h
    ·exact .inl (.inl (cZ hs.base h))
    ·rcases wH.mem b h with h|⟨m,hm',hρ⟩
     ·obtain⟨m,hm',hΘ⟩:=Fg b h;exact .inl (hs1.mine b (by omega))
     ·exact(hu1.free b (by omega)).2.1
   |none=>
    simp only[ρ',Ja]at hb;exact q9.1 b hb
  ·intro j e sz rows hj;rcases key j _ hj with⟨i,x,rfl,hx,hy⟩|⟨hjl,hy|hy⟩
   ·simp only[Fs.ob,Ob.row.injEq,nU]at hy;obtain⟨rfl,rfl,rfl⟩:=hy;obtain⟨q1,q2,q3,q4,_⟩:=Nr x (aB hx);exact⟨x.v,x.cs,x.ns,rZ i x hx,q3,q4,Ft UX hx,fun b hb'=>by simp only[ρ',ye UX hx hb']⟩
   ·cases hy
   ·obtain⟨v',c',bs',r1,r2,r3,r4,r5⟩:=q9.2.1 j e sz rows (by omega) hy;exact⟨v',c',bs',r1,r2,r3,r4,fun b hb'=>H7 j _ hy (by simp) b (r5 b hb')⟩
  ·intro j y hj;rcases key j _ hj with⟨i,x,rfl,hx,hy⟩|⟨hjl,hy|hy⟩
   ·subst hy;exact GJ.sZ rfl
   ·subst hy;trivial
   ·by_cases hg:y=.gone
    ·subst hg;trivial
    ·exact(q9.2.2 j y (by omega) hy).re (H7 j y hy hg)
 rw[<-c1]at h;refine hK _ _ (h _ _ _ _ (hs'.set (t:=t) ht (c5 κ' rZ) fun b hb=>VE b hb))
end
end Go.Cx
namespace Go.Cx
open Go.RowKit
def Ll(P:Program)(f:FuncId)(e:TypeId)(sz:Nat)(rows cm:List aK):Prop:=
 (∃fn,P.funcs[f]?=some fn/\fn.body.isSome=true/\(fn.name== "runtime.NumGoroutine")=false)/\
 ∀(w:World) (v:Value) (cs:bY),0<sz->(∀r∈rows,r.length=sz)->w.ownsRow 0 e sz v rows.length cs->jR w cs rows.flatten []->
  Calls P f #[v] w (fun x w'=>x=.returned (.tuple #[])/\w'.os=w.os/\w'.tape=w.tape/\w'.output=w.output/\w.heap.size<=w'.heap.size/\
   (∀b,b<w.heap.size->v.ownBlock≠some b->w'.heap[b]?=w.heap[b]?)/\(∀r∈cm,r.length=sz)/\∃cs',w'.ownsRow 0 e sz v cm.length cs'/\jR w' cs' cm.flatten [])
section
variable{P:Program}{Γ:pG}{Q:Exit->St->Prop}{st:St}{κ:Nat->Option Value}{Θ:Nat->Nat}{a:Act}{w:World}{all:Array Oper}{rest:List Oper}
theorem RX{o:Oper}{f id e sz:Nat}{x:Operand}{ts:Array TypeId}{k0:RK}{rows cm:List aK}(hop:o.op=.call {callee:=.value (.func f),args:= #[x],argTypes:=ts})(hd:∀t,o.dst=some t->t<Γ.nt)(hg:o.guard=none)
 (hx:st.ev x=.acc id) (hH:st.H[id]?=some (.row k0 e sz rows)) (hk0:k0.hand=true) (hfl:rows.flatten.all D.flat=true) (kV:Ll P f e sz rows cm)
 (h:AO P Γ all rest Q (St.put ⟨st.σ,st.H.set id (.row k0 e sz cm)⟩ o.dst (.iE []))):AO P Γ all (o::rest) Q st:=by
 intro κ Θ a w hs;obtain⟨b1,r1,_⟩:=hs.ev x;rw[hx]at r1;obtain⟨hkv,_⟩:=r1.rQ;obtain⟨hsz,hrl,v,cs,bs,hk1,hown,hrd,Bs,hz⟩:=hs.ob id _ hH;rw[hkv]at hk1;cases hk1;have Bq:=hrd.flat hfl;subst Bq;obtain⟨ρ,hu⟩:=hs.qA;refine wpList_plain hg fun K hK=>?_
 unfold Oper.wp;rw[si hop kV.1,Oper.upon_enter];have e1:(#[x]:Array Operand).map a.eval= #[a.eval x]:=by simp
 rw[e1];refine(kV.2 w _ cs hsz hrl hown hrd).mono ?_;rintro e' w' ⟨rfl,k1,k2,k3,k4,k5,HW,cs',Ff,Ia⟩;have kk:gZ w w' Θ Θ (id+2):=⟨by omega,k1,k2,k3,k4,fun b hb ht=>k5 b hb fun e=>ht (Bs b e),fun _ _ _=>rfl,fun b hb=>dG (hs.own b hb) k4⟩
 have hs':cz Γ ⟨st.σ,st.H.set id (.row k0 e sz cm)⟩ κ Θ a w':=by
  refine hs.put [] vQ (fun _ _ h=>h) (fun i hi=>hs.mT i (by simpa using hi)) hs.lM kk hs.mine ?_ hu (by simp) ?_ ?_
  ·refine⟨hsz,HW,_,cs',[],hkv,Ff,Ia,Bs,?_⟩;cases k0 with
   |cl=>simp[RK.hand]at hk0
   |mv n=>simp[RK.hand]at hk0
   |sh=>simp
   |uq=>simp
  ·intro e2 Oa eY he;cases he;exact⟨_,cs',[],hkv,Ff,Ia,by simp,by simp⟩
  ·cases k0 with
   |mv n=>simp[RK.hand]at hk0
   |_=>rfl
 show K (a.put o.dst (.tuple #[])) w';refine hK _ _ (h κ Θ _ w' ?_);cases Kk:o.dst with
 |none=>exact hs'
 |some t=>exact hs'.set (hd t Kk) (.iE [] [] [] .nil) (by simp)
end
end Go.Cx

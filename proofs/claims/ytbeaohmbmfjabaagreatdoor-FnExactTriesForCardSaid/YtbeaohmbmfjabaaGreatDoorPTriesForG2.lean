/- Regions whose order is drawn: where each operation of the head only computes or calls a function that leaves what was there as it was, every order gives the state of the text's order. No condition; plain lemmas. -/
import Derived.Test.YtbeaohmbmfjabaaGreatDoorPTriesForG1
import Derived.StillTail
import Derived.MapKept
import Derived.Laws.BytesArg
set_option linter.unusedVariables false
set_option linter.unusedSimpArgs false
namespace Go.Cx
open Go.RowKit
abbrev nJ:=List Fs
section
variable{P:Program}{Γ:vJ}{Q:Exit->St->Prop}{st:St}{κ:Nat->Option Value}{Θ:Nat->Nat}{a:Act}{w:World}{all:Array Oper}
def Ext(H H':bO):Prop:=∀(i:Nat) o,H[i]?=some o->H'[i]?=some o
theorem PV(σ:List (Nat×D))(H H':bO)(x:Operand):St.ev ⟨σ,H⟩ x=St.ev ⟨σ,H'⟩ x:=by cases x<;>rfl
theorem OQ{σ σ':List (Nat×D)}{H H':bO}{op:Op}{d:D}(hx:Ext H H')(he:∀x∈op.operands.toList,St.ev ⟨σ,H⟩ x=St.ev ⟨σ',H'⟩ x)(h:pv P ⟨σ,H⟩ op=some d):pv P ⟨σ',H'⟩ op=some d:=by
 have hm:∀(o:Option Operand),(∀x∈o.toArray.toList,St.ev ⟨σ,H⟩ x=St.ev ⟨σ',H'⟩ x)->o.map (St.ev ⟨σ,H⟩)=o.map (St.ev ⟨σ',H'⟩):=by
  intro o h;cases o with
  |none=>rfl
  |some x=>simp[h x (by simp)]
 cases op<;>simp only[pv]at h⊢ <;>(try cases h)
 case move x=>rw[he x (by simp[Op.operands])]at*
 case assign x=>rw[he x (by simp[Op.operands])]at*
 case nilCheck x=>rw[he x (by simp[Op.operands])]at h;exact h
 case pick c x y=>rw[he c (by simp[Op.operands]),he x (by simp[Op.operands]),he y (by simp[Op.operands])]at h;exact h
 case binOp op t x y t'=>rw[he x (by simp[Op.operands]),he y (by simp[Op.operands])]at h;exact h
 case unOp op t x=>cases op<;>simp only[pv]at h⊢ <;>(try cases h)<;>(rw[he x (by simp[Op.operands])]at h;exact h)
 case convert s d x=>rw[he x (by simp[Op.operands])]at h;exact h
 case field t x f=>rw[he x (by simp[Op.operands])]at h;exact h
 case fieldAddr t x f=>rw[he x (by simp[Op.operands])]at h;exact h
 case indexAddr t x i=>
  rw[he x (by simp[Op.operands]),he i (by simp[Op.operands])]at h;split at h
  ·rename_i e sz rows kk n h1 h2 h3
   (try simp only[h1,h2,h3]);exact h
  ·rename_i e sz id kk n h1 h2 h3
   (try simp only[h1,h2,h3])
   split at h
   ·rename_i k e' sz' rows hH;simp only[hx id _ hH];exact h
   ·cases h
  ·rename_i g o' kk n h1 h2
   (try simp only[h1,h2])
   generalize Ec P t=q at h⊢;cases q<;>exact h
  ·cases h
 case load t x=>
  rw[he x (by simp[Op.operands])]at h;split at h
  ·rename_i ag row off h1 h2
   (try simp only[h1,h2]);exact h
  ·rename_i ag id off h1 h2
   (try simp only[h1,h2])
   split at h
   ·rename_i cells hH;obtain⟨ob,hH,zg⟩:=mU.1 hH;simp only[hx id _ hH,aA,zg];exact h
   ·cases h
  ·rename_i ag id i sz off h1 h2
   (try simp only[h1,h2])
   split at h
   ·rename_i k e' sz' rows hH;simp only[hx id _ hH];exact h
   ·cases h
  ·rename_i ag g o' h1 h2
   (try simp only[h1,h2]);exact h
  ·cases h
 case lookup T x i ok=>
  rw[he x (by simp[Op.operands]),he i (by simp[Op.operands])]at h;split at h
  ·rename_i id h1
   (try simp only[h1])
   split at h
   ·rename_i kv hH;simp only[hx id _ hH];exact h
   ·cases h
  ·cases h
 case extract x i=>rw[he x (by simp[Op.operands])]at h;exact h
 case index t x i=>rw[he x (by simp[Op.operands]),he i (by simp[Op.operands])]at h;exact h
 case slice t x lo hi mx=>
  cases mx with
  |none=>
   simp only[pv]at h⊢;rw[he x (by simp[Op.operands]),hm lo (fun y hy=>he y (by simp only[Op.operands,kQ,af];exact .inl (.inl (.inr hy)))),
    hm hi (fun y hy=>he y (by simp only[Op.operands,kQ,af];exact .inl (.inr hy)))]at h
   exact h
  |some m=>simp only[pv]at h;cases h
 case build t parts=>
  have:(parts.toList.map fun p=>(p.1,St.ev ⟨σ,H⟩ p.2))=parts.toList.map fun p=>(p.1,St.ev ⟨σ',H'⟩ p.2):=by
   apply kT;intro p hp;rw[he p.2 (by simp only[Op.operands];simp;exact⟨p.1,by simpa using hp⟩)]
  rw[this]at h;exact h
 case call c=>
  split at h
  ·rename_i x t h1 h2 h3;have hxm:x∈(Op.call c).operands.toList:=by
    simp only[Op.operands,Call.operands,kQ,af,h2];exact .inr (by simp)
   (try simp only[h1,h2,h3])
   unfold ZL at h⊢;rw[he x hxm]at h;split at h
   ·rename_i s hs;(try simp only[hs]);exact h
   ·rename_i rows hs;(try simp only[hs]);exact h
   ·rename_i hs;(try simp only[hs]);exact h
   ·rename_i id hs
    (try simp only[hs])
    split at h
    ·rename_i kk k e sz rows h4 h5;simp only[h4,hx id _ h5];exact h
    ·cases h
   ·cases h
  ·rename_i x y t t' h1 h2 h3;have hxm:x∈(Op.call c).operands.toList:=by
    simp only[Op.operands,Call.operands,kQ,af,h2];exact .inr (by simp)
   have hym:y∈(Op.call c).operands.toList:=by
    simp only[Op.operands,Call.operands,kQ,af,h2];exact .inr (by simp)
   (try simp only[h1,h2,h3])
   rw[he x hxm,he y hym]at h;exact h
  ·cases h
theorem QY{H H':bO}(hx:Ext H H'){d e:D}{ms:aX}(h:Us H d=some (e,ms)):Us H' d=some (e,ms):=by
 cases d<;>simp only[Us]at h⊢ <;>(try exact h)
 split at h
 ·rename_i k e' sz rows hH;simp only[hx _ _ hH];exact h
 ·rename_i sz rows u hH;simp only[hx _ _ hH];exact h
 ·rename_i rows hH;simp only[hx _ _ hH];exact h
 ·cases h
theorem Ue{H H':bO}(hx:Ext H H'):∀ {ds es:aQ} {ms:aX},QZ H ds=some (es,ms)->QZ H' ds=some (es,ms):=by
 intro ds
 induction ds with
 |nil=>intro es ms h;exact h
 |cons d ds ih=>
  intro es ms h;simp only[QZ]at h⊢;split at h
  ·rename_i e m es' ms' h1 h2;rw[QY hx h1,ih h2];exact h
  ·cases h
theorem Xr{H H':bO}(hx:Ext H H'){d e:D}{ms:aX}(h:Xq H d=some (e,ms)):Xq H' d=some (e,ms):=by
 by_cases tD:∃ds,d=.agg ds
 ·obtain⟨ds,rfl⟩:=tD;simp only[Xq]at h⊢;split at h
  ·rename_i es ms' h1;rw[Ue hx h1];exact h
  ·cases h
 ·by_cases ht:∃vs,d=.hY vs
  ·obtain⟨vs,rfl⟩:=ht;simp[Xq]at h
  ·have e1:∀H,Xq H d=Us H d:=by intro H;cases d<;>first|rfl|exact absurd ⟨_,rfl⟩ tD|exact absurd ⟨_,rfl⟩ ht
   rw[e1]at h⊢;exact QY hx h
theorem Uf{H H':bO}(hx:Ext H H'):∀ {ds es:aQ} {ms:aX},HU H ds=some (es,ms)->HU H' ds=some (es,ms):=by
 intro ds
 induction ds with
 |nil=>intro es ms h;exact h
 |cons d ds ih=>
  intro es ms h;simp only[HU]at h⊢;split at h
  ·rename_i e m es' ms' h1 h2;rw[Xr hx h1,ih h2];exact h
  ·cases h
structure Cp where
 t:Option Nat
 d:D
 r:Nat
 obs:bO
 up:Option (Nat×Ob)
def Looks(H:bO)(vs ds:aQ)(ms:aX):Prop:=HU H vs=some (ds,ms)\/(vs.all K8=true/\ds=vs/\ms=[])
def JJ(P:Program)(H:bO)(σ:List (Nat×D))(o:Oper)(p:Cp):Prop:=
 (pv P ⟨σ,H⟩ o.op=some p.d/\p.obs=[])\/∃(f:FuncId) (xs:Array Operand) (ts:Array TypeId) (ds:aQ) (ms:aX) (d:D),o.op=.call {callee:=.value (.func f),args:=xs,argTypes:=ts}/\
  Looks H (xs.toList.map (St.ev ⟨σ,H⟩)) ds ms/\(ms=[]\/d.M5=true)/\Good P f ds d/\(pW p.r d=(p.d,p.obs)\/(d.a2K=true/\p.d=d.ZZ/\p.obs=[]))
def Nh(P:Program)(H:bO)(σ:List (Nat×D))(o:Oper)(p:Cp):Prop:=
 (∃T zs,o.op=.alloc T/\tz P T=some zs/\p.d=.ptr p.r 0/\p.obs=[.box zs])\/∃T x ds,o.op=.box T x/\(St.ev ⟨σ,H⟩ x).cellsOf=some ds/\p.d=.ptr p.r 0/\p.obs=[.box ds]
def Nj(P:Program)(H:bO)(σ:List (Nat×D))(o:Oper)(p:Cp):Prop:=
 ∃T e sz len parts zs ds es,o.op=.buildSlice T len parts/\Ec P T=some (e,sz)/\tz P e=some zs/\0<sz/\len*sz<=16777216/\
  xL (sU len sz) (List.replicate len zs).flatten (parts.toList.map fun q=>(q.1,St.ev ⟨σ,H⟩ q.2))=some ds/\JL H ds=some (es,[])/\p.d=.acc p.r/\p.obs=[.row (yO (ds.all (TL H))) e sz (chunk sz len es)]
def Ni(P:Program)(H:bO)(σ:List (Nat×D))(o:Oper)(p:Cp):Prop:=
 ∃T e sz len parts zs ds,o.op=.buildSlice T len parts/\Ec P T=some (e,sz)/\tz P e=some zs/\0<sz/\len*sz<=16777216/\
  xL (sU len sz) (List.replicate len zs).flatten (parts.toList.map fun q=>(q.1,St.ev ⟨σ,H⟩ q.2))=some ds/\ds.all D.Ow=true/\ds.all D.flat=true/\p.d=.sl (chunk sz len ds)/\p.obs=[]
def Hf(P:Program)(H:bO)(σ:List (Nat×D))(o:Oper)(p:Cp):Prop:=JJ P H σ o p\/Nh P H σ o p\/Nj P H σ o p\/Ni P H σ o p
def a3H(P:Program)(Γ:vJ)(all:Array Oper)(H:bO)(σ:List (Nat×D))(o:Oper)(p:Cp):Prop:=
 ∃t,p.t=some t/\p.up=none/\o.dst=some t/\t<Γ.nt/\((o.guard=none/\Hf P H σ o p)\/
  (∃(j s:Nat) (want b:Bool),o.guard=some (j,want)/\(all[j]?).bind (·.dst)=some s/\lk σ s=.bool b/\((b=want/\Hf P H σ o p)\/(b≠want/\p.d=.hY []/\p.obs=[])))\/
  ∃(j s:Nat) (want:Bool),o.guard=some (j,want)/\(all[j]?).bind (·.dst)=some s/\lk σ s=.hY []/\p.d=.hY []/\p.obs=[])
def a3G(P:Program)(H:bO)(σ:List (Nat×D))(o:Oper)(p:Cp):Prop:=
 p.t=none/\p.obs=[]/\o.dst=none/\o.guard=none/\∃T x y id ds,o.op=.store T x y/\St.ev ⟨σ,H⟩ x=.ptr id 0/\H.length<=id/\(St.ev ⟨σ,H⟩ y).cellsOf=some ds/\Og P T=true/\ds.length=yX P T/\p.up=some (id,.box ds)
def tG(P:Program)(Γ:vJ)(all:Array Oper)(H:bO)(σ:List (Nat×D))(o:Oper)(p:Cp):Prop:=a3H P Γ all H σ o p\/a3G P H σ o p
def Cp.slot(p:Cp)(σ:List (Nat×D)):List (Nat×D):=match p.t with|some t=>(t,p.d)::σ|none=>σ
def Cp.fill(n:Nat)(p:Cp)(acc:bO):bO:=match p.up with|some (id,ob)=>acc.set (id-n) ob|none=>acc++p.obs
def Cp.a5R(n:Nat)(p:Cp)(U:aX)(acc:bO):Prop:=match p.up with|some (id,ob)=>id∉U/\n<=id/\∃zs ds,acc[id-n]?=some (.box zs)/\ob=.box ds/\zs.length=ds.length|none=>True
def Cp.ups(p:Cp)(U:aX):aX:=match p.up with|some (id,_)=>id::U|none=>U
def Jz(P:Program)(Γ:vJ)(all:Array Oper)(H:bO)(K:List (Nat×D)->bO->Prop):List Oper->List (Nat×D)->bO->aX->Prop
 | [],σ,acc,_=>K σ acc
 |o::os,σ,acc,U=>∃p:Cp,p.r=H.length+acc.length/\tG P Γ all H σ o p/\p.a5R H.length U acc/\Jz P Γ all H K os (p.slot σ) (p.fill H.length acc) (p.ups U)
theorem zM{Q':Exit->Act->World->Prop}{ops:Array Oper}{i:Nat}{o:Oper}{K:Act->World->Prop}(hi:ops[i]?=some o)(hw:Region.wanted o (yielded ops a.tmps)=true)(h:o.wp P a w K Q'):wpOp P ops Q' i K a w:=by
 unfold wpOp;simp only[hi,hw,qM];exact .inl h
theorem dX.a30(hs:dX Γ st κ Θ a w){ops:Array Oper}{j s:Nat}{b:Bool}(hj:(ops[j]?).bind (·.dst)=some s)(hb:lk st.σ s=.bool b):yielded ops a.tmps j=some b:=by
 obtain⟨bs,r,_⟩:=hs.slot s;rw[hb]at r;have hv:=r.vc;have hlt:s<a.tmps.size:=by
  rcases dY s a.tmps.size with h|h
  ·exact h
  ·exfalso;rw[cE,rB h]at hv;simp[undef]at hv
 have h1:a.tmps[s]?=some (.bool b):=by
  rw[cE,cG hlt]at hv;rw[cG hlt];simpa using hv
 simp[yielded,hj,h1]
theorem LL{st ur:St}{ops:Array Oper}{o:Oper}(h:∀t∈o.looksAt ops,lk st.σ t=lk ur.σ t):∀x∈o.op.operands.toList,st.ev x=ur.ev x:=by
 intro x hx;cases x with
 |tmp t=>
  refine h t ?_;unfold Oper.looksAt;exact af.2 (.inl (bt.2 ⟨.tmp t,hx,rfl⟩))
 |const v=>rfl
 |global g=>rfl
 |func f=>rfl
theorem EC(l:List (Nat×D))(σ:List (Nat×D))(t:Nat):(∀p∈l,p.1≠t)->lk (l++σ) t=lk σ t:=by
 induction l with
 |nil=>intro _;rfl
 |cons q l ih=>
  intro h;obtain⟨u,d⟩:=q;simp only[qQ,lk];rw[b8 (fun e=>h (u,d) (by simp) e.symm)];exact ih (fun p hp=>h p (by simp[hp]))
theorem HM(l:List (Nat×D))(σ:List (Nat×D))(p:Nat×D)(hp:p∈l)(hd:∀q∈l,q.1=p.1->q=p):lk (l++σ) p.1=p.2:=by
 induction l with
 |nil=>cases hp
 |cons q l ih=>
  obtain⟨u,d⟩:=q;simp only[qQ,lk];by_cases e:p.1=u
  ·rw[bK e];have:=hd (u,d) (by simp) e.symm;rw[<-this]
  ·rw[b8 e];rcases bI.1 hp with rfl|hp
   ·exact absurd rfl e
   ·exact ih hp (fun q hq=>hd q (by simp[hq]))
def VQ(ops:Array Oper)(n:Nat):Bool:=
 decide (n<=ops.size)&&(decide (n=ops.size)||(decide (n<ops.size)&&(Region.sinkB .any ops n&&Region.chainB .any ops n)))&&
 Region.seqB .any ops (ops.size-n) n (Array.replicate n true++Array.replicate (ops.size-n) false)&&
 (List.range n).all fun i=>match ops[i]? with
  |none=>false
  |some o=>(o.after.all fun e=> !Region.binds .any e||decide (e.on<i))&&
   ((o.looksAt ops).all fun t=>(List.range n).all fun j=>match ops[j]? with|some oj=> !(oj.dst==some t)||(decide (j<i)&&Region.waitsFor .any ops i j)|none=>true)&&
   (List.range n).all fun j=>j==i||(match ops[j]? with|some oj=> !(oj.dst==o.dst)||o.dst.isNone|none=>true)
def place(H:bO)(r:Nat)(obs:bO):bO:=H.take r++(obs++H.drop (r+obs.length))
theorem tv{H:bO}{r:Nat}{obs:bO}(h:r+obs.length<=H.length)(j:Nat):(place H r obs)[j]?=if j<r then H[j]? else if j<r+obs.length then obs[j-r]? else H[j]?:=by
 unfold place;have hl:(H.take r).length=r:=by rw[cA];omega
 by_cases h1:j<r
 ·rw[bK h1,au (by omega),c8,bK h1]
 ·rw[b8 h1,b7 (by omega),hl];by_cases h2:j<r+obs.length
  ·rw[bK h2,au (by omega)]
  ·rw[b8 h2,b7 (by omega),dO]
   congr 1;omega
theorem u7{H:bO}{r:Nat}{obs:bO}(h:r+obs.length<=H.length):(place H r obs).length=H.length:=by
 unfold place;simp;omega
theorem JJ.wp{Q':Exit->Act->World->Prop}{σ:List (Nat×D)}{H H':bO}{o:Oper}{p:Cp}{K:Act->World->Prop}(hs:dX Γ ⟨σ,H'⟩ κ Θ a w)(hx:Ext H H'){t:Nat}(hd:o.dst=some t)(ht:t<Γ.nt)(h:JJ P H σ o p)
 (hr:p.r+p.obs.length<=H'.length) (hfree:∀i,i<p.obs.length->κ (p.r+i)=none)
 (hK:∀κ' Θ' a' w',dX Γ ⟨(t,p.d)::σ,place H' p.r p.obs⟩ κ' Θ' a' w'->(∀j,(j<p.r\/p.r+p.obs.length<=j)->κ' j=κ j)->K a' w'):o.wp P a w K Q':=by
 rcases h with⟨h,hno⟩|⟨f,xs,ts,ds,ms,d,hop,hds,hsh,nq,hi⟩
 ·have h':=OQ (σ:=σ) (σ':=σ) hx (fun x _=>PV σ H H' x) h;obtain⟨v,bs,hrun,hrd,hz⟩:=EG hs h';unfold Oper.wp;rw[hrun,Oper.upon_value,hd];have hp:place H' p.r p.obs=H':=by rw[hno];simp[place]
  exact hK κ Θ _ _ (by rw[hp];exact hs.set ht hrd hz) (fun _ _=>rfl)
 ·have hev:xs.toList.map (St.ev ⟨σ,H⟩)=xs.toList.map (St.ev ⟨σ,H'⟩):=kT (fun x _=>PV σ H H' x);have a1J:∃bs,SI w (xs.toList.map a.eval) ds bs/\∀b∈bs,Seen Θ ms b:=by
   rcases hds with hds|⟨hk,rfl,rfl⟩
   ·have:=Uf hx hds;rw[hev]at this;exact Kv hs this
   ·rw[hev]at hk⊢;exact NE hs hk
  obtain⟨bs,hargs,hz⟩:=a1J;let Θc:Nat->Nat:=fun b=>if Θ b=0\/ms.any (fun m=>Θ b==m+2)then 0 else 1
  have K6:∀b,Seen Θ ms b->Θc b=0:=by
   intro b h;simp only[Θc];rw[bK];rcases h with h|⟨m,h1,h2⟩
   ·exact .inl h
   ·exact .inr (cw.2 ⟨m,h1,by simp[h2]⟩)
  have hc:=nq.2 w Θc _ bs hs.vok hargs (fun b hb=>K6 b (hz b hb)) (fun b hb=>hs.own b (fun e=>hb (K6 b (.inl e)))) (fun b=>by simp only[Θc];split<;>omega);unfold Oper.wp;rw[xN hop nq.1,Oper.upon_enter];have e:xs.map a.eval=(xs.toList.map a.eval).toArray:=by rw[<-iE,jc]
  rw[e];refine hc.mono ?_;rintro e w' ⟨v,bs',tb,ub,rfl,hb,hr',MN,htb,hnd,hfr,hsub⟩;show K (a.put o.dst v) w';rw[hd];rcases hi with hi|⟨hown,RH,Ov⟩
  rotate_left
  ·cases hr' with
   |hY=>cases hown
   |v hv=>
    have E5:bs'=[]:=hv.own (by
     unfold D.a2K at hown;split at hown
     ·cases hown
     ·exact hown)
    obtain⟨b,q,s⟩:=hv.Bu;have hp:place H' p.r p.obs=H':=by rw[Ov];simp[place]
    refine hK κ Θ _ w' ?_ (fun _ _=>rfl);rw[hp,RH];refine(hs.grow hb).set ht (.v (.cell (.pure q))) fun x hx'=>?_
    rcases s x hx' with h|h
    ·rw[E5]at h;cases h
    ·by_cases h0:Θ x=0
     ·exact h0
     ·have:=hs.own x h0;have:=(hfr x h).1;omega
  obtain⟨L,q1,q2,q3,q4,q5⟩:=hr'.inst p.r;rw[hi]at q1 q5;simp only at q1 q5;have hLl:L.length=p.obs.length:=by have:=congrArg List.length q1;simpa using this
  obtain⟨κ',Θ',hs',hnm,_,hno,hsame⟩:=hs.ND hb L q2 (q3▸hnd) (fun b hb'=>hfr b (q3▸hb')) p.r (place H' p.r p.obs) (fun i hi'=>hfree i (by omega)) (by rw[u7 hr];exact bN _) (by rw[u7 hr];omega) (by
   intro j y hj;rw[tv hr]at hj;split at hj
   ·rename_i h1;exact .inr ⟨.inl h1,.inr hj⟩
   ·rename_i h1;split at hj
    ·rename_i h2;rw[<-q1,bg]at hj;cases hx':L[j-p.r]? with
     |none=>simp[hx']at hj
     |some x=>simp[hx']at hj;exact .inl ⟨j-p.r,x,by omega,hx',hj.symm⟩
    ·exact .inr ⟨.inr (by omega),.inr hj⟩)
  refine hK κ' Θ' _ w' (hs'.set (t:=t) ht (q5 κ' hnm) fun b hb'=>?_) (fun j hj=>hsame j (by omega));rw[hno b (q4▸htb b hb')];rcases hsh with O0|hown
  ·by_cases hlt:b<w.heap.size
   ·have h0:=MN b hb' hlt;simp only[Θc,O0,HZ]at h0;by_cases h1:Θ b=0
    ·exact h1
    ·simp[h1]at h0
   ·by_cases h0:Θ b=0
    ·exact h0
    ·exact absurd (hs.own b h0) hlt
  ·rw[hr'.own hown]at hb';cases hb'
theorem dX.Q5{σ:List (Nat×D)}{H':bO}(hs:dX Γ ⟨σ,H'⟩ κ Θ a w){r:Nat}(hr:r+1<=H'.length)(hfree:κ r=none){cs:Array Value}{ds:aQ}{bs:aX}(T:TypeId)(hrd:er w κ cs.toList ds bs)(hz:∀b∈bs,Θ b=0):
 dX Γ ⟨σ,place H' r [.box ds]⟩ (xT κ r (some (.pointer (some ⟨w.heap.size,0,none⟩)))) (fun b=>if b=w.heap.size then r+2 else Θ b) a (w.alloc (.cells cs T)):=by
 have k:=iV.alloc hs (.cells cs T) (tag:=r+2) (by omega);have hn:=wk hfree (some (Value.pointer (some ⟨w.heap.size,0,none⟩)));obtain⟨h1,h2⟩:=er.stay k hn hrd hz;obtain⟨ρ,hu⟩:=hs.td;refine hs.put (id:=r) (o:=.box ds) [] ?_ hn ?_ ?_ k (hs.yV (fun b hb=>by by_cases e:b=w.heap.size<;>simp_all)) ?_ hu (by simp) (by intro e sz rows h;cases h)
 ·intro j y hj;rw[tv (by simpa using hr)]at hj;split at hj
  ·exact .inr ⟨by omega,hj⟩
  ·split at hj
   ·rename_i h2;simp only[aY,bX]at h2;have e:j=r:=by omega
    subst e;simp at hj;exact .inl ⟨rfl,hj.symm⟩
   ·rename_i h2;simp only[aY,bX]at h2;exact .inr ⟨by omega,hj⟩
 ·intro i hi;rw[u7 (by simpa using hr)]at hi;unfold xT;rw[b8 (by omega)];exact hs.pX i hi
 ·intro i x hx;unfold xT at hx;split at hx
  ·cases hx;rfl
  ·exact hs.ol i x hx
 ·exact⟨w.heap.size,cs,T,by simp[xT],heap_alloc_new w _,by simp,bs,h1,h2⟩
theorem Nh.wp{Q':Exit->Act->World->Prop}{σ:List (Nat×D)}{H H':bO}{o:Oper}{p:Cp}{K:Act->World->Prop}(hs:dX Γ ⟨σ,H'⟩ κ Θ a w){t:Nat}(hd:o.dst=some t)(ht:t<Γ.nt)(h:Nh P H σ o p)
 (hr:p.r+p.obs.length<=H'.length) (hfree:∀i,i<p.obs.length->κ (p.r+i)=none)
 (hK:∀κ' Θ' a' w',dX Γ ⟨(t,p.d)::σ,place H' p.r p.obs⟩ κ' Θ' a' w'->(∀j,(j<p.r\/p.r+p.obs.length<=j)->κ' j=κ j)->K a' w'):o.wp P a w K Q':=by
 rcases h with⟨T,zs,hop,hz,RH,Ov⟩|⟨T,x,ds,hop,hc,RH,Ov⟩
 ·rw[Ov]at hr hfree hK;rw[RH]at hK;obtain⟨i,z,hi,xS,hsz,hlen,hone,rfl⟩:=we hz;have hs':=hs.Q5 (r:=p.r) hr (by simpa using hfree 0 (by simp)) T (cs:=z.cells) (B3 z.cells.toList hone) (by simp);unfold Oper.wp;have hrun:(execOp a.eval o).run P w=.ok (.value (.pointer (some ⟨w.heap.size,0,none⟩))) (w.alloc (.cells z.cells T)):=by
   simp[execOp,hop,Instr.alloc,zeroValue,typeInfo,hi,xS,newVar,newRow]
  rw[hrun,Oper.upon_value,hd];refine hK _ _ _ _ (hs'.set (t:=t) (d:=.ptr p.r 0) (bs:=[]) ht ?_ (by simp)) (fun j hj=>?_)
  ·exact(yT.ptr p.r 0 w.heap.size (by simp[xT])).Oi
  ·unfold xT;simp only[aY,bX]at hj;rw[b8 (by omega)]
 ·rw[Ov]at hr hfree hK;rw[RH]at hK;obtain⟨bs,rr,hz⟩:=hs.ev x;rw[PV σ H' H x]at rr;have hcs:=AT hs.ol rr hc;have hs':=hs.Q5 (r:=p.r) hr (by simpa using hfree 0 (by simp)) T hcs hz;unfold Oper.wp;have hrun:(execOp a.eval o).run P w=.ok (.value (.pointer (some ⟨w.heap.size,0,none⟩))) (w.alloc (.cells (a.eval x).cells T)):=by
   simp[execOp,hop,Instr.box,newVar,newRow]
  rw[hrun,Oper.upon_value,hd];refine hK _ _ _ _ (hs'.set (t:=t) (d:=.ptr p.r 0) (bs:=[]) ht ?_ (by simp)) (fun j hj=>?_)
  ·exact(yT.ptr p.r 0 w.heap.size (by simp[xT])).Oi
  ·unfold xT;simp only[aY,bX]at hj;rw[b8 (by omega)]
theorem dX.Wm{σ:List (Nat×D)}{H':bO}(hs:dX Γ ⟨σ,H'⟩ κ Θ a w){r:Nat}(hr:r+1<=H'.length)(hfree:κ r=none){u:Bool}{e sz cap:Nat}{rows:List aQ}{bs:aX}(cur:Array Value)(hsz:0<sz)(hrl:∀x∈rows,x.length=sz)
 (LW:cur.size=cap*sz) (hn:rows.length<=cap) (hcap:cap<=maxLen) (hrd:kz w (cur.toList.take (rows.length*sz)) rows.flatten bs) (hz:∀b∈bs,Θ b=0) (hq:u=true->bs=[]):
 dX Γ ⟨σ,place H' r [.row (yO u) e sz rows]⟩ (xT κ r (some (.slice (some ⟨w.heap.size,0,none⟩) rows.length cap))) (fun b=>if b=w.heap.size then r+2 else Θ b) a (w.alloc (.cells cur e)):=by
 have k:=iV.alloc hs (.cells cur e) (tag:=r+2) (by omega);have hkn:=wk hfree (some (Value.slice (some ⟨w.heap.size,0,none⟩) rows.length cap));obtain⟨h1,h2⟩:=kz.over k hrd hz;have hlen:(cur.toList.take (rows.length*sz)).length=rows.length*sz:=by
  have:rows.length*sz<=cap*sz:=dH _ hn;have h3:cur.toList.length=cap*sz:=by rw[<-LW];simp
  rw[cA,h3,eX this]
 have hown:(w.alloc (.cells cur e)).ownsRow 0 e sz (.slice (some ⟨w.heap.size,0,none⟩) rows.length cap) rows.length (cur.toList.take (rows.length*sz)):=
  ⟨hlen,.inr ⟨w.heap.size,cap,cur,rfl,by omega,heap_alloc_new w _,hn,hcap,LW,rfl⟩⟩
 obtain⟨ρ,hu⟩:=hs.td;refine hs.put (id:=r) (o:=.row (yO u) e sz rows) [] ?_ hkn ?_ ?_ k (hs.yV (fun b hb=>by by_cases e:b=w.heap.size<;>simp_all)) ?_ hu (by simp) ?_
 ·intro j y hj;rw[tv (by simpa using hr)]at hj;split at hj
  ·exact .inr ⟨by omega,hj⟩
  ·split at hj
   ·rename_i h2;simp only[aY,bX]at h2;have e:j=r:=by omega
    subst e;simp at hj;exact .inl ⟨rfl,hj.symm⟩
   ·rename_i h2;simp only[aY,bX]at h2;exact .inr ⟨by omega,hj⟩
 ·intro i hi;rw[u7 (by simpa using hr)]at hi;unfold xT;rw[b8 (by omega)];exact hs.pX i hi
 ·intro i x hx;unfold xT at hx;split at hx
  ·cases hx;rfl
  ·exact hs.ol i x hx
 ·refine⟨hsz,hrl,_,_,bs,by simp[xT],hown,h1,?_,?_⟩
  ·intro g hg;simp only[Value.ownBlock,ar]at hg;subst hg;simp
  ·cases u<;>exact h2
 ·intro e' sz' cv he;cases u with
  |false=>simp[yO]at he
  |true=>
   simp only[yO,Ob.row.injEq,ua]at he;obtain⟨rfl,rfl,rfl⟩:=he;have:=hq rfl;subst this;exact⟨_,_,[],by simp[xT],hown,h1,by simp,by simp⟩
theorem Nj.wp{Q':Exit->Act->World->Prop}{σ:List (Nat×D)}{H H':bO}{o:Oper}{p:Cp}{K:Act->World->Prop}(hs:dX Γ ⟨σ,H'⟩ κ Θ a w)(hx:Ext H H'){t:Nat}(hd:o.dst=some t)(ht:t<Γ.nt)(h:Nj P H σ o p)
 (hr:p.r+p.obs.length<=H'.length) (hfree:∀i,i<p.obs.length->κ (p.r+i)=none)
 (hK:∀κ' Θ' a' w',dX Γ ⟨(t,p.d)::σ,place H' p.r p.obs⟩ κ' Θ' a' w'->(∀j,(j<p.r\/p.r+p.obs.length<=j)->κ' j=κ j)->K a' w'):o.wp P a w K Q':=by
 obtain⟨T,e,sz,len,parts,zs,ds,es,hop,hT,hz,hsz,hsmall,hf,habs,RH,Ov⟩:=h;rw[Ov]at hr hfree hK;rw[RH]at hK;have hf':xL (sU len sz) (List.replicate len zs).flatten (parts.toList.map fun q=>(q.1,St.ev ⟨σ,H'⟩ q.2))=some ds:=by
  rw[<-hf];congr 1
 obtain⟨arr,b0,hrun,MV,hb0,hal,hdl⟩:=ye (st:=⟨σ,H'⟩) hop hT hz hsz hsmall hf' hs;obtain⟨ρ,hu⟩:=hs.td;obtain⟨bs,q1,q2,q3⟩:=Qn (H:=H) (ρ:=ρ) habs (by simp) MV hb0 (by simp);have hel:es.length=len*sz:=by rw[<-q1.length,MV.length,hdl]
 obtain⟨c1,c2,c3⟩:=D2 sz len es hel;have hs':=hs.Wm (r:=p.r) hr (by simpa using hfree 0 (by simp)) (u:=ds.all (TL H)) (e:=e) (sz:=sz) (cap:=len) (rows:=chunk sz len es) (bs:=bs) arr hsz c3 hal (by rw[c1];exact bN _)
  (by unfold maxLen;have:len*1<=len*sz:=kU _ hsz;omega) (by rw[c1,c2,nS (by simp[hal])];exact q1) q2
  (fun hq=>by
   obtain⟨_,h2⟩:=q3 hq;cases bs with
   |nil=>rfl
   |cons b bs=>obtain⟨m,hm,_⟩:=h2 b (by simp);cases hm)
 unfold Oper.wp;rw[hrun,Oper.upon_value,hd];rw[c1]at hs';refine hK _ _ _ _ (hs'.set (t:=t) (d:=.acc p.r) (bs:=[]) ht ?_ (by simp)) (fun j hj=>?_)
 ·exact(yT.acc p.r _ (by simp[xT])).Oi
 ·unfold xT;simp only[aY,bX]at hj;rw[b8 (by omega)]
theorem Ni.wp{Q':Exit->Act->World->Prop}{σ:List (Nat×D)}{H H':bO}{o:Oper}{p:Cp}{K:Act->World->Prop}(hs:dX Γ ⟨σ,H'⟩ κ Θ a w){t:Nat}(hd:o.dst=some t)(ht:t<Γ.nt)(h:Ni P H σ o p)
 (hK:∀κ' Θ' a' w',dX Γ ⟨(t,p.d)::σ,place H' p.r p.obs⟩ κ' Θ' a' w'->(∀j,(j<p.r\/p.r+p.obs.length<=j)->κ' j=κ j)->K a' w'):o.wp P a w K Q':=by
 obtain⟨T,e,sz,len,parts,zs,ds,hop,hT,hz,hsz,hsmall,hf,a6t,a3g,RH,Ov⟩:=h;rw[Ov]at hK;rw[RH]at hK;have hf':xL (sU len sz) (List.replicate len zs).flatten (parts.toList.map fun q=>(q.1,St.ev ⟨σ,H'⟩ q.2))=some ds:=by
  rw[<-hf];congr 1
 obtain⟨arr,b0,hrun,MV,hb0,hal,hdl⟩:=ye (st:=⟨σ,H'⟩) hop hT hz hsz hsmall hf' hs;have hrd:=MV.pure a6t;have a6Y:b0=[]:=hrd.flat a3g;subst a6Y;obtain⟨c1,c2,c3⟩:=D2 sz len ds hdl;have R8:Below w.heap.size w (w.alloc (.cells arr e)):=by
  have k:=iV.alloc hs (.cells arr e) (tag:=2) (by omega);refine⟨k.os,k.tape,k.output,k.size,fun b hlt=>?_⟩;simp only[World.alloc];rw[Array.getElem?_push,b8 (by omega)]
 have hs':=hs.grow R8;unfold Oper.wp;rw[hrun,Oper.upon_value,hd];have hpl:place H' p.r ([]:bO)=H':=by simp[place]
 rw[hpl]at hK;refine hK _ _ _ _ (hs'.set (t:=t) (d:=.sl (chunk sz len ds)) (bs:=[w.heap.size]) ht ?_ ?_) (fun j hj=>rfl)
 ·have hcell:∀j c,arr.toList[j]?=some c->(w.alloc (.cells arr e)).cell? ⟨w.heap.size,0+j,none⟩=some c:=by
   intro j c hj;simp only[cm,World.cell?,heap_alloc_new w _];simpa using hj
  have hlt:w.heap.size<(w.alloc (.cells arr e)).heap.size:=(bG.1 (heap_alloc_new w _)).1;have:=Rd.sl (w:=w.alloc (.cells arr e)) w.heap.size 0 len sz (chunk sz len ds) arr.toList [] hlt (by rw[c1];exact bN _) (by unfold maxLen;have:len*1<=len*sz:=kU _ hsz;omega) c3 hcell (by rw[c2];exact hrd.keep (by simp));rw[c1]at this;exact .of this
 ·intro b hb;simp only[cy]at hb;subst hb;cases h:Θ w.heap.size with
  |zero=>rfl
  |succ m=>exact absurd (hs.own w.heap.size (by omega)) (by omega)
theorem Hf.wp{Q':Exit->Act->World->Prop}{σ:List (Nat×D)}{H H':bO}{o:Oper}{p:Cp}{K:Act->World->Prop}(hs:dX Γ ⟨σ,H'⟩ κ Θ a w)(hx:Ext H H'){t:Nat}(hd:o.dst=some t)(ht:t<Γ.nt)(h:Hf P H σ o p)
 (hr:p.r+p.obs.length<=H'.length) (hfree:∀i,i<p.obs.length->κ (p.r+i)=none)
 (hK:∀κ' Θ' a' w',dX Γ ⟨(t,p.d)::σ,place H' p.r p.obs⟩ κ' Θ' a' w'->(∀j,(j<p.r\/p.r+p.obs.length<=j)->κ' j=κ j)->K a' w'):o.wp P a w K Q':=by
 rcases h with h|h|h|h
 ·exact h.wp hs hx hd ht hr hfree hK
 ·exact h.wp hs hd ht hr hfree hK
 ·exact h.wp hs hx hd ht hr hfree hK
 ·exact h.wp hs hd ht hK
theorem dX.Xk(hs:dX Γ st κ Θ a w){ops:Array Oper}{j s:Nat}(hj:(ops[j]?).bind (·.dst)=some s)(hb:lk st.σ s=.hY []):yielded ops a.tmps j=none:=by
 obtain⟨bs,r,_⟩:=hs.slot s;rw[hb]at r;have hv:=r.NU;rcases dY s a.tmps.size with hlt|hlt
 ·have h1:a.tmps[s]?=some (.tuple #[]):=by
   rw[cE,cG hlt]at hv;rw[cG hlt];simpa using hv
  simp[yielded,hj,h1]
 ·simp[yielded,hj,rB hlt]
def Cp.AB(p:Cp)(H':bO):bO:=match p.up with|some (id,ob)=>H'.set id ob|none=>place H' p.r p.obs
theorem tG.wp{Q':Exit->Act->World->Prop}{σ:List (Nat×D)}{H H':bO}{ops:Array Oper}{i:Nat}{o:Oper}{p:Cp}{K:Act->World->Prop}(hs:dX Γ ⟨σ,H'⟩ κ Θ a w)(hx:Ext H H')(hi:ops[i]?=some o)(h:tG P Γ ops H σ o p)
 (hr:p.r+p.obs.length<=H'.length) (hfree:∀i,i<p.obs.length->κ (p.r+i)=none) (Qh:∀id ob,p.up=some (id,ob)->∃zs ds,H'[id]?=some (.box zs)/\ob=.box ds/\zs.length=ds.length)
 (hK:∀κ' Θ' a' w',dX Γ ⟨p.slot σ,p.AB H'⟩ κ' Θ' a' w'->(∀j,(j<p.r\/p.r+p.obs.length<=j)->κ' j=κ j)->K a' w'):wpOp P ops Q' i K a w:=by
 rcases h with⟨t,hpt,Sn,hd,ht,h⟩|⟨hpt,Ov,hd,hg,T,x,y,id,ds,hop,hev,hlen,hc,hT,hl,Sn⟩
 ·have e1:p.slot σ=(t,p.d)::σ:=by simp[Cp.slot,hpt]
  have e2:p.AB H'=place H' p.r p.obs:=by simp[Cp.AB,Sn]
  rw[e1,e2]at hK;rcases h with⟨hg,hc⟩|⟨j,s,want,b,hg,hj,hb,hc⟩|⟨j,s,want,hg,hj,hb,a1I,hno⟩
  ·exact zM hi (by simp[Region.wanted,hg]) (hc.wp hs hx hd ht hr hfree hK)
  ·have hy:=hs.a30 hj hb;rcases hc with⟨rfl,hc⟩|⟨hne,a1I,hno⟩
   ·exact zM hi (by simp[Region.wanted,hg,hy]) (hc.wp hs hx hd ht hr hfree hK)
   ·unfold wpOp;have hw:Region.wanted o (yielded ops a.tmps)=false:=by simp[Region.wanted,hg,hy,hne]
    simp only[hi,hw,yZ,Cw,hd];have hp:place H' p.r p.obs=H':=by rw[hno];simp[place]
    exact hK κ Θ _ _ (by rw[hp,a1I];exact hs.set ht (.hY [] [] [] .nil) (by simp)) (fun _ _=>rfl)
  ·have hy:=hs.Xk hj hb;unfold wpOp;have hw:Region.wanted o (yielded ops a.tmps)=false:=by simp[Region.wanted,hg,hy]
   simp only[hi,hw,yZ,Cw,hd];have hp:place H' p.r p.obs=H':=by rw[hno];simp[place]
   exact hK κ Θ _ _ (by rw[hp,a1I];exact hs.set ht (.hY [] [] [] .nil) (by simp)) (fun _ _=>rfl)
 ·have e1:p.slot σ=σ:=by simp[Cp.slot,hpt]
  have e2:p.AB H'=H'.set id (.box ds):=by simp[Cp.AB,Sn]
  rw[e1,e2]at hK;obtain⟨zs,ds',hz,he,hzl⟩:=Qh id _ Sn;cases he;obtain⟨w',hrun,hs'⟩:=NR (st:=⟨σ,H'⟩) hop (by rw[PV σ H' H x];exact hev) hz rfl (by rw[PV σ H' H y];exact hc) hT hl (by omega) hs;refine zM hi (by simp[Region.wanted,hg]) ?_;unfold Oper.wp;rw[hrun,Oper.upon_skip,hd];have e3:zs.take 0++ds++zs.drop (0+ds.length)=ds:=by
   rw[BC (by omega)];simp
  rw[e3]at hs';exact hK κ Θ _ _ hs' (fun _ _=>rfl)
theorem JJ.congr{H:bO}{σ σ':List (Nat×D)}{o:Oper}{p:Cp}(he:∀x∈o.op.operands.toList,St.ev ⟨σ,H⟩ x=St.ev ⟨σ',H⟩ x)(h:JJ P H σ o p):JJ P H σ' o p:=by
 rcases h with⟨h,hno⟩|⟨f,xs,ts,ds,ms,d,hop,hds,hsh,nq,hi⟩
 ·exact .inl ⟨OQ (fun _ _ h=>h) he h,hno⟩
 ·have hm:xs.toList.map (St.ev ⟨σ,H⟩)=xs.toList.map (St.ev ⟨σ',H⟩):=by
   apply kT;intro x hx;refine he x ?_;rw[hop];simp only[Op.operands,Call.operands,kQ,af];exact .inr hx
  rw[hm]at hds;exact .inr ⟨f,xs,ts,ds,ms,d,hop,hds,hsh,nq,hi⟩
theorem Hf.congr{H:bO}{σ σ':List (Nat×D)}{o:Oper}{p:Cp}(he:∀x∈o.op.operands.toList,St.ev ⟨σ,H⟩ x=St.ev ⟨σ',H⟩ x)(h:Hf P H σ o p):Hf P H σ' o p:=by
 rcases h with h| (h|⟨T,x,ds,hop,hc,RH,Ov⟩)|⟨T,e,sz,len,parts,zs,ds,es,hop,hT,hz,hsz,hsmall,hf,habs,RH,Ov⟩|⟨T,e,sz,len,parts,zs,ds,hop,hT,hz,hsz,hsmall,hf,habs,hfl,RH,Ov⟩
 ·exact .inl (h.congr he)
 ·exact .inr (.inl (.inl h))
 ·exact .inr (.inl (.inr ⟨T,x,ds,hop,by rw[<-he x (by rw[hop];simp[Op.operands])];exact hc,RH,Ov⟩))
 ·refine .inr (.inr (.inl ⟨T,e,sz,len,parts,zs,ds,es,hop,hT,hz,hsz,hsmall,?_,habs,RH,Ov⟩));rw[<-hf]
  congr 1
  apply kT;intro q hq;rw[he q.2 ?_];rw[hop];simp only[Op.operands,iE];exact cB.2 ⟨q,hq,rfl⟩
 ·refine .inr (.inr (.inr ⟨T,e,sz,len,parts,zs,ds,hop,hT,hz,hsz,hsmall,?_,habs,hfl,RH,Ov⟩));rw[<-hf]
  congr 1
  apply kT;intro q hq;rw[he q.2 ?_];rw[hop];simp only[Op.operands,iE];exact cB.2 ⟨q,hq,rfl⟩
theorem tG.congr{H:bO}{σ σ':List (Nat×D)}{ops:Array Oper}{o:Oper}{p:Cp}(he:∀t∈o.looksAt ops,lk σ t=lk σ' t)(h:tG P Γ ops H σ o p):tG P Γ ops H σ' o p:=by
 have hev:=LL (st:=⟨σ,H⟩) (ur:=⟨σ',H⟩) he;have hgu:∀ {j s:Nat} {want:Bool},o.guard=some (j,want)->(ops[j]?).bind (·.dst)=some s->lk σ s=lk σ' s:=by
  intro j s want hg hj;refine he s ?_;unfold Oper.looksAt;refine af.2 (.inr ?_);simp[hg,hj]
 rcases h with⟨t,hpt,Sn,hd,ht,h⟩|⟨hpt,Ov,hd,hg,T,x,y,id,ds,hop,hx,hlen,hc,hT,hl,Sn⟩
 ·refine .inl ⟨t,hpt,Sn,hd,ht,?_⟩;rcases h with⟨hg,hc⟩|⟨j,s,want,b,hg,hj,hb,hc⟩|⟨j,s,want,hg,hj,hb,hc⟩
  ·exact .inl ⟨hg,hc.congr hev⟩
  ·refine .inr (.inl ⟨j,s,want,b,hg,hj,by rw[<-hgu hg hj];exact hb,?_⟩);rcases hc with⟨h1,hc⟩|hc
   ·exact .inl ⟨h1,hc.congr hev⟩
   ·exact .inr hc
  ·exact .inr (.inr ⟨j,s,want,hg,hj,by rw[<-hgu hg hj];exact hb,hc⟩)
 ·refine .inr ⟨hpt,Ov,hd,hg,T,x,y,id,ds,hop,?_,hlen,?_,hT,hl,Sn⟩
  ·rw[<-hev x (by rw[hop];simp[Op.operands])];exact hx
  ·rw[<-hev y (by rw[hop];simp[Op.operands])];exact hc
def Cp.sl(p:Cp):Option (Nat×D):=p.t.map fun t=>(t,p.d)
theorem Cp.Zc(p:Cp)(σ:List (Nat×D)):p.slot σ=p.sl.toList++σ:=by
 unfold Cp.slot Cp.sl;cases p.t<;>rfl
theorem Ko(p:Cp)(ps:List Cp)(σ:List (Nat×D)):((p::ps).filterMap Cp.sl).reverse++σ=(ps.filterMap Cp.sl).reverse++p.slot σ:=by
 rw[Cp.Zc,xe];cases p.sl<;>simp
theorem tG.Xm{H:bO}{σ:List (Nat×D)}{o:Oper}{p:Cp}(h:tG P Γ all H σ o p):p.up=none\/p.obs=[]:=by
 rcases h with⟨_,_,h,_⟩|⟨_,h,_⟩
 ·exact .inl h
 ·exact .inr h
theorem tG.slots{H:bO}{σ:List (Nat×D)}{o:Oper}{p:Cp}(h:tG P Γ all H σ o p):o.dst=p.t:=by
 rcases h with⟨t,h1,_,h2,_⟩|⟨h1,_,h2,_⟩
 ·rw[h1,h2]
 ·rw[h1,h2]
theorem Jz.unfold{H:bO}{K:List (Nat×D)->bO->Prop}:∀(l:List Oper) (σ:List (Nat×D)) (acc:bO) (U:aX),Jz P Γ all H K l σ acc U->
 ∃(ps:List Cp) (KN:bO),ps.length=l.length/\(∀(i:Nat) o p,l[i]?=some o->ps[i]?=some p->tG P Γ all H (((ps.take i).filterMap Cp.sl).reverse++σ) o p/\p.r=H.length+acc.length+((ps.take i).flatMap Cp.obs).length/\
  ∀id ob,p.up=some (id,ob)->id∉U/\H.length<=id/\(∃zs ds,ob=.box ds/\zs.length=ds.length/\(acc++(ps.take i).flatMap Cp.obs)[id-H.length]?=some (.box zs))/\∀(i2:Nat) q AH,i2<i->ps[i2]?=some q->q.up≠some (id,AH))/\
  K ((ps.filterMap Cp.sl).reverse++σ) KN/\KN.length=acc.length+(ps.flatMap Cp.obs).length/\
  (∀k,(∀(i:Nat) q ob,ps[i]?=some q->q.up≠some (H.length+k,ob))->KN[k]?=(acc++ps.flatMap Cp.obs)[k]?)/\
  ∀(i:Nat) q id ob,ps[i]?=some q->q.up=some (id,ob)->KN[id-H.length]?=some ob:=by
 intro l
 induction l with
 |nil=>
  intro σ acc U h;have h:K σ acc:=h;exact⟨[],acc,rfl,by simp,by simpa using h,by simp,by simp,by simp⟩
 |cons o l ih=>
  intro σ acc U h;obtain⟨p,hr,hc,hok,um⟩:=h;obtain⟨ps,KN,h1,h2,h3,h4,h5,h6⟩:=ih _ _ _ um;cases Qh:p.up with
  |none=>
   have ef:p.fill H.length acc=acc++p.obs:=by simp[Cp.fill,Qh]
   have eu:p.ups U=U:=by simp[Cp.ups,Qh]
   rw[ef]at h2 h4 h5;rw[eu]at h2;refine⟨p::ps,KN,by simp[h1],?_,by rw[Ko];exact h3,by rw[h4];simp;omega,?_,?_⟩
   ·intro i o' p' ho hp;cases i with
    |zero=>
     simp at ho hp;subst ho;subst hp;refine⟨by simpa using hc,by simpa using hr,?_⟩;intro id ob he;rw[Qh]at he;cases he
    |succ i=>
     simp at ho hp;obtain⟨q1,q2,q3⟩:=h2 i o' p' ho hp;refine⟨by rw[uM,Ko];exact q1,by rw[q2];simp;omega,?_⟩;intro id ob he;obtain⟨r1,r2,⟨zs,ds,r3,r4,r5⟩,r6⟩:=q3 id ob he;refine⟨r1,r2,⟨zs,ds,r3,r4,by rw[<-r5];simp⟩,?_⟩;intro i2 q AH hlt hq;cases i2 with
     |zero=>simp at hq;subst hq;rw[Qh];simp
     |succ i2=>exact r6 i2 q AH (by omega) (by simpa using hq)
   ·intro k hk;rw[h5 k (fun i q ob hq=>hk (i+1) q ob (by simpa using hq))];simp
   ·intro i q id ob hq he;cases i with
    |zero=>simp at hq;subst hq;rw[Qh]at he;cases he
    |succ i=>exact h6 i q id ob (by simpa using hq) he
  |some x=>
   obtain⟨Su,ob0⟩:=x;have ef:p.fill H.length acc=acc.set (Su-H.length) ob0:=by simp[Cp.fill,Qh]
   have eu:p.ups U=Su::U:=by simp[Cp.ups,Qh]
   have Y4:p.obs=[]:=by
    rcases hc.Xm with h|h
    ·rw[h]at Qh;cases Qh
    ·exact h
   rw[ef]at h2 h4 h5;rw[eu]at h2;simp only[Cp.a5R,Qh]at hok;obtain⟨u1,u2,zs0,Zz,u3,u4,u5⟩:=hok;have om:∀(X:bO) (k:Nat),k≠Su-H.length->(acc.set (Su-H.length) ob0++X)[k]?=(acc++X)[k]?:=by
    intro X k hk;by_cases hl:k<acc.length
    ·rw[au (by simpa using hl),au hl,bu (rC hk)]
    ·rw[b7 (by simpa using hl),b7 (by omega)];simp
   have hno:∀(i:Nat) q AH,ps[i]?=some q->q.up≠some (Su,AH):=by
    intro i q AH hq he;have hlt:i<l.length:=by have:=(aF.1 hq).1;omega
    have:=(h2 i l[i] q (aa hlt) hq).2.2 Su AH he;exact this.1 (by simp)
   refine⟨p::ps,KN,by simp[h1],?_,by rw[Ko];exact h3,by rw[h4];simp[Y4],?_,?_⟩
   ·intro i o' p' ho hp;cases i with
    |zero=>
     simp at ho hp;subst ho;subst hp;refine⟨by simpa using hc,by simpa using hr,?_⟩;intro id ob he;rw[Qh]at he;cases he;exact⟨u1,u2,⟨zs0,Zz,u4,u5,by simpa using u3⟩,by intro i2 q AH hlt;omega⟩
    |succ i=>
     simp at ho hp;obtain⟨q1,q2,q3⟩:=h2 i o' p' ho hp;refine⟨by rw[uM,Ko];exact q1,by rw[q2];simp[Y4],?_⟩;intro id ob he;obtain⟨r1,r2,⟨zs,ds,r3,r4,r5⟩,r6⟩:=q3 id ob he;have hne:id≠Su:=fun e=>r1 (by simp[e])
     refine⟨fun h=>r1 (by simp[h]),r2,⟨zs,ds,r3,r4,?_⟩,?_⟩
     ·rw[<-r5,om _ _ (by omega)];simp[Y4]
     ·intro i2 q AH hlt hq;cases i2 with
      |zero=>simp at hq;subst hq;rw[Qh];intro e;cases e;exact hne rfl
      |succ i2=>exact r6 i2 q AH (by omega) (by simpa using hq)
   ·intro k hk;rw[h5 k (fun i q ob hq=>hk (i+1) q ob (by simpa using hq))];have hne:k≠Su-H.length:=fun e=>hk 0 p ob0 rfl (by rw[Qh,e,show H.length+(Su-H.length)=Su from by omega])
    rw[om _ _ hne];simp[Y4]
   ·intro i q id ob hq he;cases i with
    |zero=>
     simp at hq;subst hq;rw[Qh]at he;cases he;rw[h5 (Su-H.length) (fun i q AH hq=>by rw[show H.length+(Su-H.length)=Su from by omega];exact hno i q AH hq)];have hl:Su-H.length<acc.length:=(aF.1 u3).1;rw[au (by simpa using hl),dF hl]
    |succ i=>exact h6 i q id ob (by simpa using hq) he
theorem dX.same{σ':List (Nat×D)}(h:∀t,lk st.σ t=lk σ' t)(hs:dX Γ st κ Θ a w):dX Γ ⟨σ',st.H⟩ κ Θ a w:=
 ⟨hs.defers,hs.size,hs.pX,hs.ol,fun t=>by show∃bs,rD w κ _ (lk σ' t) bs/\_;rw[<-h t];exact hs.slot t,hs.ob,hs.own,hs.old,hs.mine,hs.stays,hs.td⟩
theorem dX.room(hs:dX Γ st κ Θ a w)(m:Nat):dX Γ ⟨st.σ,st.H++List.replicate m .gone⟩ κ Θ a w:=by
 have key:∀(j:Nat) y,(st.H++List.replicate m .gone)[j]?=some y->y=.gone\/st.H[j]?=some y:=by
  intro j y hj;by_cases hlt:j<st.H.length
  ·rw[au hlt]at hj;exact .inr hj
  ·rw[b7 (by omega)]at hj;rw[List.getElem?_replicate]at hj;split at hj
   ·cases hj;exact .inl rfl
   ·cases hj
 obtain⟨ρ,hu⟩:=hs.td;refine⟨hs.defers,hs.size,fun i hi=>hs.pX i (by simp at hi;omega),hs.ol,hs.slot,?_,hs.own,hs.old,hs.mine,hs.stays,ρ,hu.free,?_,?_⟩
 ·intro j o hj;rcases key j o hj with rfl|h
  ·trivial
  ·exact hs.ob j o h
 ·intro id e sz rows hj;rcases key id _ hj with h|h
  ·cases h
  ·exact hu.rows id e sz rows h
 ·intro id o hj;rcases key id _ hj with h|h
  ·subst h;trivial
  ·exact hu.more id o h
theorem qI{ps:List Cp}{i:Nat}{p:Cp}(h:ps[i]?=some p):ps.flatMap Cp.obs=(ps.take i).flatMap Cp.obs++(p.obs++(ps.drop (i+1)).flatMap Cp.obs):=by
 have e:ps=ps.take i++(p::ps.drop (i+1)):=by
  obtain⟨hlt,rfl⟩:=aF.1 h;rw[BD,bp]
 conv=>lhs;rw[e]
 simp
theorem yK{ps:List Cp}:∀ {k:Nat},k<(ps.flatMap Cp.obs).length->∃(i:Nat) (p:Cp) (j:Nat),ps[i]?=some p/\j<p.obs.length/\k=((ps.take i).flatMap Cp.obs).length+j:=by
 induction ps with
 |nil=>intro k h;simp at h
 |cons p ps ih=>
  intro k h;by_cases hk:k<p.obs.length
  ·exact⟨0,p,k,rfl,hk,by simp⟩
  ·simp only[cr,bB]at h;obtain⟨i,q,j,h1,h2,h3⟩:=ih (k:=k-p.obs.length) (by omega);refine⟨i+1,q,j,by simpa using h1,h2,?_⟩;rw[uM,cr,bB];omega
theorem NN{ps:List Cp}{i j:Nat}{p:Cp}(hp:ps[i]?=some p)(hij:i<j):((ps.take i).flatMap Cp.obs).length+p.obs.length<=((ps.take j).flatMap Cp.obs).length:=by
 have h:(ps.take j)[i]?=some p:=by rw[c8,bK hij];exact hp
 have:=qI h;rw[this];have e:(ps.take j).take i=ps.take i:=by rw[tE,eX (by omega)]
 rw[e];simp only[bB];omega
theorem YJ{id:Nat}{l:List Oper}(n:Nat)(hm:P.follows .mixedOrders=true)(hB:VQ l.toArray n=true)
 (h:Jz P Γ l.toArray st.H (fun σ acc=>AO P Γ l.toArray (l.drop n) Q ⟨σ,st.H++acc⟩) (l.take n) st.σ [] []):AW P Γ (.region id l.toArray true) Q st:=by
 simp only[VQ,aW,nA,bC]at hB;obtain⟨⟨⟨hn,hsc⟩,Ym⟩,K4⟩:=hB;obtain⟨ps,KN,hlen,LV,hK,hFl,hFo,hFu⟩:=Jz.unfold _ _ _ _ h;simp only[cT,bX,yD,cm]at LV hK hFl hFo;have hn':n<=l.length:=by simpa using hn
 have hpl:ps.length=n:=by rw[hlen];simp;omega
 have hop:∀(i:Nat),i<n->∃o p,l.toArray[i]?=some o/\ps[i]?=some p/\o.dst=p.t/\tG P Γ l.toArray st.H (((ps.take i).filterMap Cp.sl).reverse++st.σ) o p/\p.r=st.H.length+((ps.take i).flatMap Cp.obs).length:=by
  intro i hi;have h1:l[i]?=some l[i]:=aa (by omega);have h2:ps[i]?=some ps[i]:=aa (by omega);have h3:=LV i l[i] ps[i] (by rw[c8,bK hi];exact h1) h2;exact⟨l[i],ps[i],by simp[lE,h1],h2,h3.1.slots,h3.1,h3.2.1⟩
 have RI:∀(i:Nat) p,ps[i]?=some p->p.r=st.H.length+((ps.take i).flatMap Cp.obs).length:=by
  intro i p hp;have hi:i<n:=by have:=(aF.1 hp).1;omega
  obtain⟨_,p',_,hp',_,_,hr⟩:=hop i hi;rw[hp]at hp';cases hp';exact hr
 have O1:∀(i:Nat) p id ob,ps[i]?=some p->p.up=some (id,ob)->st.H.length<=id/\(∃zs ds,ob=.box ds/\zs.length=ds.length/\((ps.take i).flatMap Cp.obs)[id-st.H.length]?=some (.box zs))/\∀(i2:Nat) q AH,i2<i->ps[i2]?=some q->q.up≠some (id,AH):=by
  intro i p id ob hp he;have hi:i<n:=by have:=(aF.1 hp).1;omega
  have h1:l[i]?=some l[i]:=aa (by omega);have h3:=(LV i l[i] p (by rw[c8,bK hi];exact h1) hp).2.2 id ob he;exact⟨h3.2.1,h3.2.2.1,h3.2.2.2⟩
 have Vq:∀(i j:Nat) p q id ob AH,ps[i]?=some p->ps[j]?=some q->p.up=some (id,ob)->q.up=some (id,AH)->i=j:=by
  intro i j p q id ob AH hp hq he HK;rcases vX i j with h|h|h
  ·exact absurd he ((O1 j q id AH hq HK).2.2 i p ob h hp)
  ·exact h
  ·exact absurd HK ((O1 i p id ob hp he).2.2 j q AH h hq)
 have Vr:∀(i:Nat) p id ob,ps[i]?=some p->p.up=some (id,ob)->p.obs=[]:=by
  intro i p id ob hp he;have hi:i<n:=by have:=(aF.1 hp).1;omega
  obtain⟨_,p',_,hp',_,hc,_⟩:=hop i hi;rw[hp]at hp';cases hp';rcases hc.Xm with h|h
  ·rw[h]at he;cases he
  ·exact h
 have hfit:∀(i:Nat) p,ps[i]?=some p->p.r+p.obs.length<=st.H.length+(ps.flatMap Cp.obs).length:=by
  intro i p hp;rw[RI i p hp,qI hp];simp only[bB];omega
 have Nw:∀(i j:Nat) p q,ps[i]?=some p->ps[j]?=some q->i<j->p.r+p.obs.length<=q.r:=by
  intro i j p q hp hq hij;rw[RI i p hp,RI j q hq];have:=NN hp hij;omega
 have hdist:∀(i j:Nat) p q t,ps[i]?=some p->ps[j]?=some q->p.t=some t->q.t=some t->i=j:=by
  intro i j p q t hp hq he1 HK;have hi:i<n:=by have:=(aF.1 hp).1;omega
  have hj:j<n:=by have:=(aF.1 hq).1;omega
  obtain⟨oi,p',ho,hp',hdi,_⟩:=hop i hi;obtain⟨oj,q',xH,MY,hdj,_⟩:=hop j hj;rw[hp]at hp';cases hp';rw[hq]at MY;cases MY;have:=ay.1 K4 i (bS.2 hi);simp only[ho,aW]at this;have:=ay.1 this.2 j (bS.2 hj);simp only[xH,hdi,hdj,he1,HK,jf,bP,sF,Option.isNone_some,sF,cO]at this;exact this.symm
 have E6:∀(i:Nat) p t,ps[i]?=some p->p.t=some t->∀q∈ps.filterMap Cp.sl,q.1=t->q=(t,p.d):=by
  intro i p t hp hpt q hq he;obtain⟨q',MY,LZ⟩:=bt.1 hq;obtain⟨j,hj,rfl⟩:=dh.1 MY;have HX:ps[j]?=some ps[j]:=aa hj;unfold Cp.sl at LZ;cases Yl:ps[j].t with
  |none=>rw[Yl]at LZ;cases LZ
  |some u=>
   rw[Yl]at LZ;simp only[cM,ar]at LZ;subst LZ;simp only at he;subst he;have:=hdist j i _ p u HX hp Yl hpt;subst this;rw[hp]at HX;cases HX;rfl
 intro κ Θ a w hs;have main:∀(f:Nat) (listed:Array Bool) (σ':List (Nat×D)) (H':bO) (κ:Nat->Option Value) (Θ:Nat->Nat) (a:Act) (w:World),HeadInv .any l.toArray n listed->
  ((List.range n).filter fun i=> !listed.getD i false).length=f->
  (∀(i:Nat) p t,ps[i]?=some p->p.t=some t->listed.getD i false=true->lk σ' t=p.d)->
  (∀t,(∀(i:Nat) p,ps[i]?=some p->listed.getD i false=true->p.t≠some t)->lk σ' t=lk st.σ t)->
  H'.length=st.H.length+(ps.flatMap Cp.obs).length->Ext st.H H'->
  (∀(i:Nat) p,ps[i]?=some p->listed.getD i false=true->∀(j:Nat) o,p.obs[j]?=some o->(∀(i2:Nat) q ob,ps[i2]?=some q->listed.getD i2 false=true->q.up≠some (p.r+j,ob))->H'[p.r+j]?=some o)->
  (∀(i:Nat) q id ob,ps[i]?=some q->listed.getD i false=true->q.up=some (id,ob)->H'[id]?=some ob/\∃v,κ id=some v)->
  (∀(i:Nat) p,ps[i]?=some p->listed.getD i false=false->∀j,j<p.obs.length->κ (p.r+j)=none)->
  dX Γ ⟨σ',H'⟩ κ Θ a w->
  wpAny P .any l.toArray (fun e a' w'=>∃ur κ' Θ',dX Γ ur κ' Θ' a' w'/\Q e ur) (f+(l.toArray.size-n)) listed a w:=by
  intro f
  induction f with
  |zero=>
   intro listed σ' H' κ Θ a w inv nW hA hB hHl Up Sj Y2 Si hs;have hall:∀i,i<n->listed.getD i false=true:=by
    intro i hi;have h0:=cN nW;cases hl:listed.getD i false with
    |true=>rfl
    |false=>
     have:i∈(List.range n).filter fun i=> !listed.getD i false:=fN.2 ⟨bS.2 hi,by simp[hl]⟩
     rw[h0]at this;cases this
   have Vg:listed=Array.replicate n true++Array.replicate (l.toArray.size-n) false:=by
    apply Array.ext
    ·rw[inv.size];simp;simp at hn;omega
    ·intro i h1 h2;by_cases hi:i<n
     ·have:=hall i hi;rw[zN (by simpa using hi)];simp[h1]at this;simp[this]
     ·have hi':i<l.toArray.size:=by rw[<-inv.size];exact h1
      have:=inv.tail i (by omega) hi';rw[yY (by simpa using hi)];simp[h1]at this;simp[this]
   rw[cm];have LX:∀t,lk σ' t=lk ((ps.filterMap Cp.sl).reverse++st.σ) t:=by
    intro t;by_cases hex:∃(i:Nat) (p:Cp),ps[i]?=some p/\p.t=some t
    ·obtain⟨i,p,hp,hpt⟩:=hex;have hi:i<n:=by have:=(aF.1 hp).1;omega
     rw[hA i p t hp hpt (hall i hi)];have:=HM (ps.filterMap Cp.sl).reverse st.σ (t,p.d) (by rw[dL];exact bt.2 ⟨p,aD hp,by simp[Cp.sl,hpt]⟩) (fun q hq he=>E6 i p t hp hpt q (by simpa using hq) he);exact this.symm
    ·rw[hB t (fun i p hp _ he=>hex ⟨i,p,hp,he⟩),EC];intro q hq he;obtain⟨p,hp,hps⟩:=bt.1 (dL.1 hq);obtain⟨i,hi,hpi⟩:=dh.1 hp;refine hex ⟨i,p,by rw[<-hpi];exact aa hi,?_⟩;unfold Cp.sl at hps;cases hpt:p.t with
     |none=>rw[hpt]at hps;cases hps
     |some u=>rw[hpt]at hps;simp only[cM,ar]at hps;subst hps;simp only at he;rw[he]
   have VV:H'=st.H++KN:=by
    apply mT;intro k;by_cases h1:k<st.H.length
    ·rw[au h1];exact Up k _ (aa h1)|>.trans (aa h1).symm
    ·rw[b7 (by omega)];by_cases hex:∃(i:Nat) (q:Cp) (ob:Ob),ps[i]?=some q/\q.up=some (k,ob)
     ·obtain⟨i,q,ob,hq,he⟩:=hex;have hi:i<n:=by have:=(aF.1 hq).1;omega
      rw[(Y2 i q k ob hq (hall i hi) he).1,hFu i q k ob hq he]
     ·have hno:∀(i:Nat) q ob,ps[i]?=some q->q.up≠some (k,ob):=fun i q ob hq he=>hex ⟨i,q,ob,hq,he⟩
      rw[hFo (k-st.H.length) (fun i q ob hq=>by rw[show st.H.length+(k-st.H.length)=k from by omega];exact hno i q ob hq)];by_cases h2:k-st.H.length<(ps.flatMap Cp.obs).length
      ·obtain⟨i,p,j,hp,hj,hk⟩:=yK h2;have hi:i<n:=by have:=(aF.1 hp).1;omega
       have e3:p.r+j=k:=by rw[RI i p hp];omega
       have h3:=Sj i p hp (hall i hi) j _ (aa hj) (fun i2 q ob hq _=>by rw[e3];exact hno i2 q ob hq);rw[e3]at h3;rw[h3,qI hp,hk,b7 (by omega),dM,au hj,aa hj]
      ·rw[cP (by omega),cP (by omega)]
   have hs2:=dX.same (st:=⟨σ',H'⟩) (σ':=(ps.filterMap Cp.sl).reverse++st.σ) LX hs;simp only[VV]at hs2;have hwp:=hK κ Θ a w hs2;have hdl:(l.drop n).length=l.toArray.size-n:=by simp
   have:=wpAny_of_seq (md:=.any) (l.drop n) n listed a w (fun j=>by simp[dO]) (by rw[hdl,Vg];exact Ym) hwp
   rwa[hdl]at this
  |succ f ih=>
   intro listed σ' H' κ Θ a w inv nW hA hB hHl Up Sj Y2 Si hs;have hun:∃i,i<n/\listed.getD i false=false:=by
    have hne:((List.range n).filter fun i=> !listed.getD i false)≠[]:=by
     intro h0;rw[h0]at nW;simp at nW
    obtain⟨i,hi⟩:=uE _ hne;obtain⟨h1,h2⟩:=fN.1 hi;exact⟨i,bS.1 h1,by simpa using h2⟩
   have hsz:=inv.size;rw[show f+1+(l.toArray.size-n)=(f+(l.toArray.size-n))+1 from by omega];refine⟨fun h0=>?_,fun i hi=>?_⟩
   ·exfalso;obtain⟨i,⟨hin,Qf⟩,hmin⟩:=exists_least (p:=fun i=>i<n/\listed.getD i false=false) hun;obtain⟨o,p,ho,_,_,_⟩:=hop i hin;have:i∈Region.ready .any l.toArray listed:=by
     refine mem_ready.2 ⟨getD_in (by rw[hsz];omega) Qf,o,ho,fun e he hb=>?_⟩;have:=ay.1 K4 i (bS.2 hin);simp only[ho,aW]at this;have:=uz.1 this.1.1 e he;simp only[hb,bP,nc,bC]at this;cases hl:listed.getD e.on false with
     |true=>rfl
     |false=>
      have:=hmin e.on ⟨by omega,hl⟩;omega
    rw[h0]at this;cases this
   ·obtain⟨i0,hi0,hl0⟩:=hun;have hin:i<n:=by
     rcases dY i n with h|h
     ·exact h
     ·rcases hsc with he|⟨hn2,a41,hchain⟩
      ·obtain⟨_,oi,hoi,_⟩:=mem_ready.1 hi;have:=(bG.1 hoi).1;omega
      ·exact absurd hi (tail_waits a41 hchain hn2 inv _ i0 rfl hi0 (getD_in (by rw[hsz];omega) hl0) i h)
    obtain⟨o,p,ho,hp,hd,hc,_⟩:=hop i hin;obtain⟨Qf,o',ho',hall⟩:=mem_ready.1 hi;rw[ho]at ho';cases ho';have A7:=getD_both Qf;have Yh:tG P Γ l.toArray st.H σ' o p:=by
     refine tG.congr (σ:=((ps.take i).filterMap Cp.sl).reverse++st.σ) (σ':=σ') ?_ hc;intro t ht;have Ia:=ay.1 K4 i (bS.2 hin);simp only[ho,aW]at Ia;have Ia:=ay.1 Ia.1.2 t ht;by_cases hex:∃(j:Nat) (q:Cp),ps[j]?=some q/\q.t=some t
     ·obtain⟨j,q,hq,KV⟩:=hex;have hj:j<n:=by have:=(aF.1 hq).1;omega
      obtain⟨oj,q',xH,MY,hdj,_⟩:=hop j hj;rw[hq]at MY;cases MY;have:=ay.1 Ia j (bS.2 hj);simp only[xH,hdj,KV,jf,bP,nc,aW,bC]at this;obtain⟨hji,Vt⟩:=this;obtain⟨oi',Vk,e,he,hb,hon⟩:=Region.waitsFor_spec Vt;rw[ho]at Vk;cases Vk;have hjl:=hall e he hb;rw[hon]at hjl;rw[hA j q t hq KV hjl];refine HM ((ps.take i).filterMap Cp.sl).reverse st.σ (t,q.d) ?_ (fun q2 HX HK=>E6 j q t hq KV q2 ?_ HK)
      ·rw[dL];exact bt.2 ⟨q,aD (i:=j) (by rw[c8,bK hji];exact hq),by simp[Cp.sl,KV]⟩
      ·obtain⟨q3,RJ,xI⟩:=bt.1 (dL.1 HX);exact bt.2 ⟨q3,bw RJ,xI⟩
     ·rw[hB t (fun j q hq _ he=>hex ⟨j,q,hq,he⟩),EC];intro q hq he;obtain⟨q3,RJ,xI⟩:=bt.1 (dL.1 hq);obtain⟨j,hj,hqj⟩:=dh.1 (bw RJ);refine hex ⟨j,q3,by rw[<-hqj];exact aa hj,?_⟩;unfold Cp.sl at xI;cases hpt:q3.t with
      |none=>rw[hpt]at xI;cases xI
      |some u=>rw[hpt]at xI;simp only[cM,ar]at xI;subst xI;simp only at he;rw[he]
    have hfp:=hfit i p hp;have Ve:∀id ob,p.up=some (id,ob)->∃v,κ id=some v:=by
     intro id ob he;rcases Yh with⟨_,_,h,_⟩|⟨_,_,_,_,T,x,y,id',ds,RF,hx',_,_,_,_,Sn⟩
     ·rw[h]at he;cases he
     ·rw[Sn]at he;cases he;obtain⟨b1,r1,_⟩:=hs.ev x;rw[PV σ' H' st.H x,hx']at r1;obtain⟨g,hk,_⟩:=r1.zi;exact⟨_,hk⟩
    have Vp:∀id ob,p.up=some (id,ob)->∃zs ds,H'[id]?=some (.box zs)/\ob=.box ds/\zs.length=ds.length:=by
     intro id ob he;obtain⟨u1,⟨zs,ds,u2,u3,u4⟩,_⟩:=O1 i p id ob hp he;refine⟨zs,ds,?_,u2,u3⟩;obtain⟨i1,p1,j1,hp1,Fz,hk1⟩:=yK (aF.1 u4).1;have RG:ps[i1]?=some p1:=by
      have:=(aF.1 hp1).1;rw[c8]at hp1;split at hp1
      ·exact hp1
      ·cases hp1
     have hi1:i1<i:=by have:=(aF.1 hp1).1;simp at this;omega
     have et:(ps.take i).take i1=ps.take i1:=by rw[tE,eX (by omega)]
     rw[et]at hk1;have e1:p1.r+j1=id:=by rw[RI i1 p1 RG];omega
     have zg:p1.obs[j1]?=some (.box zs):=by
      rw[qI hp1,et,hk1,b7 (by omega),dM,au Fz]at u4;exact u4
     have hl1:listed.getD i1 false=true:=by
      cases hl:listed.getD i1 false with
      |true=>rfl
      |false=>
       have h0:=Si i1 p1 RG hl j1 Fz;rw[e1]at h0;obtain⟨v,hv⟩:=Ve id ob he;rw[h0]at hv;cases hv
     have:=Sj i1 p1 RG hl1 j1 _ zg (fun i2 q AH hq hl HK=>by
      rw[e1]at HK;have:=Vq i i2 p q id ob AH hp hq he HK;subst this;rw[A7]at hl;cases hl)
     rw[e1]at this;exact this
    refine Yh.wp hs Up ho (by omega) (fun j hj=>Si i p hp A7 j hj) Vp fun κ' Θ' a' w' hs' hsame=>?_
    have om:∀(j:Nat),(listed.setIfInBounds i true).getD j false=true↔(j=i\/listed.getD j false=true):=by
     intro j;by_cases e:i=j
     ·subst e;have:i<listed.size:=by rw[hsz];omega
      simp[this]
     ·rw[getD_set_ne false e];constructor
      ·exact .inr
      ·rintro(rfl|h)
       ·exact absurd rfl e
       ·exact h
    have hput:(p.AB H').length=H'.length:=by
     unfold Cp.AB;split
     ·simp
     ·exact u7 (by omega)
    have a1R:∀(k:Nat),k<st.H.length->(p.AB H')[k]?=H'[k]?:=by
     intro k hk;unfold Cp.AB;split
     ·rename_i id ob he;have:=(O1 i p id ob hp he).1;rw[bu (by omega)]
     ·rw[tv (by omega),bK (by rw[RI i p hp];omega)]
    refine ih (listed.setIfInBounds i true) (p.slot σ') (p.AB H') κ' Θ' a' w' (inv.set hi hin) ?_ ?_ ?_ (by rw[hput];exact hHl) ?_ ?_ ?_ ?_ hs'
    ·have Tv:((List.range n).filter fun j=> !(listed.setIfInBounds i true).getD j false)=((List.range n).filter fun j=> !listed.getD j false).erase i:=by
      have hnd:((List.range n).filter fun j=> !listed.getD j false).Nodup:=wm _ AK;rw[hnd.erase_eq_filter,v7];apply vW;intro j _;by_cases e:j=i
      ·subst e;have:=(om j).2 (.inl rfl);rw[this];simp
      ·rw[getD_set_ne false (rC e)];simp[e]
     rw[Tv,pq (fN.2 ⟨bS.2 hin,by simp[A7]⟩),nW];rfl
    ·intro j q t hq KV hl;unfold Cp.slot;rcases(om j).1 hl with rfl|Bp
     ·rw[hp]at hq;cases hq;rw[KV];simp[lk]
     ·cases hpt:p.t with
      |none=>exact hA j q t hq KV Bp
      |some u=>
       simp only[lk];rw[b8,hA j q t hq KV Bp];intro e;have:=hdist j i q p t hq hp KV (by rw[hpt,e]);subst this;rw[A7]at Bp;cases Bp
    ·intro t ht;unfold Cp.slot;have um:=hB t (fun j q hq hl=>ht j q hq ((om j).2 (.inr hl)));cases hpt:p.t with
     |none=>exact um
     |some u=>
      simp only[lk];rw[b8 (fun e=>ht i p hp ((om i).2 (.inl rfl)) (by rw[hpt,e]))];exact um
    ·intro j y hj;rw[a1R j (aF.1 hj).1];exact Up j y hj
    ·intro j q hq hl k y hy hno;have hkl:=(aF.1 hy).1;unfold Cp.AB;split
     ·rename_i id ob he;have hne:q.r+k≠id:=fun e=>hno i p ob hp ((om i).2 (.inl rfl)) (by rw[e];exact he)
      rw[bu (rC hne)];rcases(om j).1 hl with rfl|Bp
      ·rw[hp]at hq;cases hq;rw[Vr j p id ob hp he]at hy;simp at hy
      ·exact Sj j q hq Bp k y hy (fun i2 q2 AH HX hl3=>hno i2 q2 AH HX ((om i2).2 (.inr hl3)))
     ·rw[tv (by omega)];rcases(om j).1 hl with rfl|Bp
      ·rw[hp]at hq;cases hq;rw[b8 (by omega),bK (by omega),dM];exact hy
      ·have hne:j≠i:=fun e=>by subst e;rw[A7]at Bp;cases Bp
       have h3:=Sj j q hq Bp k y hy (fun i2 q2 AH HX hl3=>hno i2 q2 AH HX ((om i2).2 (.inr hl3)));rcases v8 hne with h|h
       ·have:=Nw j i q p hq hp h;rw[bK (by omega)];exact h3
       ·have:=Nw i j p q hp hq h;rw[b8 (by omega),b8 (by omega)];exact h3
    ·intro j q id ob hq hl he;rcases(om j).1 hl with rfl|Bp
     ·rw[hp]at hq;cases hq;obtain⟨zs,ds,z1,_⟩:=Vp id ob he;have hlt:=(aF.1 z1).1;refine⟨by simp only[Cp.AB,he];rw[dF hlt],?_⟩;obtain⟨v,hv⟩:=Ve id ob he;refine⟨v,?_⟩;rw[hsame id (by rw[Vr j p id ob hp he];simp;omega)];exact hv
     ·obtain⟨h1,v,hv⟩:=Y2 j q id ob hq Bp he;have hout:id<p.r\/p.r+p.obs.length<=id:=by
       rcases dY id p.r with h|h
       ·exact .inl h
       ·rcases dY id (p.r+p.obs.length)with h2|h2
        ·have:=Si i p hp A7 (id-p.r) (by omega);rw[show p.r+(id-p.r)=id from by omega,hv]at this;cases this
        ·exact .inr h2
      refine⟨?_,v,by rw[hsame id hout];exact hv⟩;unfold Cp.AB;split
      ·rename_i id2 AH HK;have hne:id2≠id:=fun e=>by
        subst e;have:=Vq i j p q id2 AH ob hp hq HK he;subst this;rw[A7]at Bp;cases Bp
       rw[bu hne];exact h1
      ·rw[tv (by omega)];rcases hout with h|h
       ·rw[bK h];exact h1
       ·rw[b8 (by omega),b8 (by omega)];exact h1
    ·intro j q hq hl k hk;have hne:j≠i:=fun e=>by
      subst e;have:=(om j).2 (.inl rfl);rw[this]at hl;cases hl
     have Bp:listed.getD j false=false:=by
      cases h:listed.getD j false with
      |false=>rfl
      |true=>have:=(om j).2 (.inr h);rw[this]at hl;cases hl
     have h3:=Si j q hq Bp k hk;rw[hsame,h3];rcases v8 hne with h|h
     ·have:=Nw j i q p hq hp h;omega
     ·have:=Nw i j p q hp hq h;omega
 refine wp_region_any hm ?_;have a29:HeadInv .any l.toArray n (Array.replicate l.toArray.size false):=
  ⟨by simp,fun j oj _ hl=>(by rw[getD_replicate_false]at hl;cases hl),fun t _ ht=>getD_in (by simpa using ht) (getD_replicate_false _ _)⟩
 have nW:((List.range n).filter fun i=> !(Array.replicate l.toArray.size false).getD i false).length=n:=by
  rw[List.filter_eq_self.2]
  ·simp
  ·intro i _;rw[getD_replicate_false];rfl
 have:=main n (Array.replicate l.toArray.size false) st.σ (st.H++List.replicate (ps.flatMap Cp.obs).length .gone) κ Θ a w.drew a29 nW (fun i p t _ _ hl=>by rw[getD_replicate_false]at hl;cases hl) (fun t _=>rfl)
  (by simp) (fun i o h=>by rw[au (aF.1 h).1];exact h) (fun i p _ hl=>by rw[getD_replicate_false]at hl;cases hl)
  (fun i q id ob _ hl=>by rw[getD_replicate_false]at hl;cases hl)
  (fun i p hp _ j _=>hs.pX _ (by rw[RI i p hp];omega)) (hs.drew.room _)
 rw[show n+(l.toArray.size-n)=l.toArray.size from by omega]at this;exact this
end
end Go.Cx
namespace Go.Cx
open Go.RowKit
def pos(o:aX)(i:Nat):Option Nat:=ix (fun j=>j==i) o
def D.T3(o:aX)(d:D):D:=match d with
 | .acc i=>(match pos o i with|some j=>.acc j|none=>.any)
 | .ptr i off=>(match pos o i with|some j=>.ptr j off|none=>.any)
 | .op i a b c=>(match pos o i with|some j=>.op j a b c|none=>.any)
 |d=>d
def D.rnV(o:aX)(d:D):D:=match d with
 | .agg cs=>.agg (cs.map (D.T3 o))
 |d=>d.T3 o
def D.T4(o:aX)(d:D):D:=match d with
 | .hY vs=>.hY (vs.map (D.rnV o))
 |d=>d.rnV o
def Ob.rn(o:aX)(x:Ob):Ob:=match x with
 | .box cells=>.box (cells.map (D.T3 o))
 | .Ka cells v=>.Ka (cells.map (D.T3 o)) v
 | .hole _ _ _ _ _=>.gone
 |x=>x
def St.C4(st:St)(K o:aX):St:=⟨K.map fun t=>(t,(lk st.σ t).T4 o),o.map fun i=>((st.H[i]?).getD .gone).rn o⟩
section
variable{P:Program}{Γ:vJ}{Q:Exit->St->Prop}{st:St}{κ κ':Nat->Option Value}{Θ Θ':Nat->Nat}{a:Act}{w:World}{o:aX}
theorem NK:∀ {o:aX},o.Nodup->∀(i j x:Nat),o[i]?=some x->o[j]?=some x->i=j:=by
 intro o
 induction o with
 |nil=>intro _ i j x h;simp at h
 |cons y o ih=>
  intro hnd i j x hi hj;obtain⟨h1,h2⟩:=eW.1 hnd;cases i with
  |zero=>
   cases j with
   |zero=>rfl
   |succ j=>simp at hi hj;subst hi;exact absurd (aD hj) h1
  |succ i=>
   cases j with
   |zero=>simp at hi hj;subst hj;exact absurd (aD hi) h1
   |succ j=>simp at hi hj;rw[ih h2 i j x hi hj]
theorem OO{i j:Nat}(h:pos o i=some j):o[j]?=some i:=by
 obtain⟨x,h1,h2⟩:=yN h;simp only[cO]at h2;subst h2;exact h1
theorem Rh{i j:Nat}(hnd:o.Nodup)(h:o[j]?=some i):pos o i=some j:=
 E8 h (by simp) (fun k y hk hy=>by
  simp only[cO]at hy;subst hy;obtain⟨h1,h2⟩:=aF.1 h;obtain⟨h3,h4⟩:=aF.1 hk;exact NK hnd k j _ hk h)
section
variable(hk:∀(i j:Nat) v,pos o i=some j->κ i=some v->κ' j=some v)(xS:∀b,Θ b=0->Θ' b=0)
include hk xS
theorem yT.rn{v:Value}{d:D}{bs:aX}(h:yT w κ v d bs)(hz:∀b∈bs,Θ b=0):∃b',yT w κ' v (d.T3 o) b'/\∀b∈b',Θ' b=0:=by
 cases h with
 |pure h=>
  have e:d.T3 o=d:=by cases h<;>rfl
  rw[e];exact⟨bs,.pure h,fun b hb=>xS b (hz b hb)⟩
 |acc i v hi=>
  simp only[D.T3];cases hp:pos o i with
  |none=>exact⟨[],.pure (.any _),by simp⟩
  |some j=>exact⟨[],.acc j v (hk i j v hp hi),by simp⟩
 |ptr i off b hi=>
  simp only[D.T3];cases hp:pos o i with
  |none=>exact⟨[],.pure (.any _),by simp⟩
  |some j=>exact⟨[],.ptr j off b (hk i j _ hp hi),by simp⟩
 |op i x sz off b o0 len cap hi=>
  simp only[D.T3];cases hp:pos o i with
  |none=>exact⟨[],.pure (.any _),by simp⟩
  |some j=>exact⟨[],.op j x sz off b o0 len cap (hk i j _ hp hi),by simp⟩
theorem er.rn{vs:bZ}{ds:aQ}{bs:aX}(h:er w κ vs ds bs)(hz:∀b∈bs,Θ b=0):∃b',er w κ' vs (ds.map (D.T3 o)) b'/\∀b∈b',Θ' b=0:=by
 induction h with
 |nil=>exact⟨[],.nil,by simp⟩
 |cons v vs d ds b1 b2 h1 h2 _ ih=>
  obtain⟨c1,q1,q2⟩:=yT.rn hk xS h2 (fun b hb=>hz b (by simp[hb]));obtain⟨c2,p1,p2⟩:=ih (fun b hb=>hz b (by simp[hb]));refine⟨c1++c2,.cons _ _ _ _ _ _ h1 q1 p1,fun b hb=>?_⟩;rcases af.1 hb with hb|hb
  ·exact q2 b hb
  ·exact p2 b hb
theorem L3.rn{v:Value}{d:D}{bs:aX}(h:L3 w κ v d bs)(hz:∀b∈bs,Θ b=0):∃b',L3 w κ' v (d.rnV o) b'/\∀b∈b',Θ' b=0:=by
 cases h with
 |cell h=>
  by_cases tD:∃ds,d=.agg ds
  ·obtain⟨ds,rfl⟩:=tD;cases h with
   |pure h=>
    cases h with
    |agg cs _ _ h=>
     obtain⟨b',q1,q2⟩:=er.rn hk xS (er.C6 (κ:=κ) h) hz;exact⟨b',.agg _ _ _ q1,q2⟩
  ·have e:d.rnV o=d.T3 o:=by cases d<;>first|rfl|exact absurd ⟨_,rfl⟩ tD
   rw[e];obtain⟨b',q1,q2⟩:=yT.rn hk xS h hz;exact⟨b',.cell q1,q2⟩
 |agg cs ds bs h=>
  obtain⟨b',q1,q2⟩:=er.rn hk xS h hz;exact⟨b',.agg _ _ _ q1,q2⟩
theorem BJ.rn{vs:bZ}{ds:aQ}{bs:aX}(h:BJ w κ vs ds bs)(hz:∀b∈bs,Θ b=0):∃b',BJ w κ' vs (ds.map (D.rnV o)) b'/\∀b∈b',Θ' b=0:=by
 induction h with
 |nil=>exact⟨[],.nil,by simp⟩
 |cons v vs d ds b1 b2 h2 _ ih=>
  obtain⟨c1,q1,q2⟩:=L3.rn hk xS h2 (fun b hb=>hz b (by simp[hb]));obtain⟨c2,p1,p2⟩:=ih (fun b hb=>hz b (by simp[hb]));refine⟨c1++c2,.cons _ _ _ _ _ _ q1 p1,fun b hb=>?_⟩;rcases af.1 hb with hb|hb
  ·exact q2 b hb
  ·exact p2 b hb
theorem rD.rn{v:Value}{d:D}{bs:aX}(h:rD w κ v d bs)(hz:∀b∈bs,Θ b=0):∃b',rD w κ' v (d.T4 o) b'/\∀b∈b',Θ' b=0:=by
 cases h with
 |v h=>
  have hnt:∀vs,d≠ .hY vs:=by
   intro vs e;subst e;cases h with
   |cell h=>cases h with|pure h=>cases h
  have e:d.T4 o=d.rnV o:=by cases d<;>first|rfl|exact absurd rfl (hnt _)
  rw[e];obtain⟨b',q1,q2⟩:=L3.rn hk xS h hz;exact⟨b',.v q1,q2⟩
 |hY vs ds bs h=>
  obtain⟨b',q1,q2⟩:=BJ.rn hk xS h hz;exact⟨b',.hY _ _ _ q1,q2⟩
end
theorem Wd(σ:List (Nat×D))(K:aX)(f:D->D)(t:Nat):lk (K.map fun t=>(t,f (lk σ t))) t=if t∈K then f (lk σ t)else .any:=by
 induction K with
 |nil=>simp[lk]
 |cons u K ih=>
  simp only[bH,lk];by_cases e:t=u
  ·subst e;simp
  ·rw[b8 e,ih];simp[e]
theorem dX.C4(hs:dX Γ st κ Θ a w)(K o:aX)(hnd:o.Nodup):∃κ' Θ',dX Γ (st.C4 K o) κ' Θ' a w:=by
 let κ':Nat->Option Value:=fun j=>(o[j]?).bind κ
 let Θ':Nat->Nat:=fun b=>if Θ b<=1 then Θ b else match pos o (Θ b-2)with|some j=>j+2|none=>1
 have xS:∀b,Θ b=0->Θ' b=0:=fun b h=>by simp[Θ',h]
 have hk:∀(i j:Nat) v,pos o i=some j->κ i=some v->κ' j=some v:=fun i j v h1 h2=>by simp[κ',OO h1,h2]
 have hk2:∀(i j:Nat),o[j]?=some i->κ' j=κ i:=fun i j h=>by simp[κ',h]
 have MZ:∀b (i j:Nat),o[j]?=some i->Θ b=i+2->Θ' b=j+2:=by
  intro b i j hj h;simp only[Θ'];rw[b8 (by omega),h,ya,Rh hnd hj]
 have key:∀(j:Nat) x,(st.C4 K o).H[j]?=some x->∃i,o[j]?=some i/\((st.H[i]?=none/\x=.gone)\/∃y,st.H[i]?=some y/\x=y.rn o):=by
  intro j x hj;simp only[St.C4,bg]at hj;cases ho:o[j]? with
  |none=>simp[ho]at hj
  |some i=>
   simp only[ho,cM,ar]at hj;refine⟨i,rfl,?_⟩;cases hH:st.H[i]? with
   |none=>rw[hH]at hj;exact .inl ⟨rfl,hj.symm⟩
   |some y=>rw[hH]at hj;exact .inr ⟨y,rfl,hj.symm⟩
 obtain⟨ρ,hu⟩:=hs.td;let ρ':Nat->Nat:=fun b=>if ρ b=0 then 0 else match pos o (ρ b-1)with|some j=>j+1|none=>0
 refine⟨κ',Θ',hs.defers,hs.size,?_,?_,?_,?_,?_,?_,?_,hs.stays,ρ',?_,?_,?_⟩
 ·intro i hi;simp only[St.C4,ax]at hi;simp[κ',cP hi]
 ·intro i u yM;simp only[κ']at yM;cases ho:o[i]? with
  |none=>simp[ho]at yM
  |some j=>simp[ho]at yM;exact hs.ol j u yM
 ·intro t;show∃bs,rD w κ' _ (lk (K.map fun t=>(t,(lk st.σ t).T4 o)) t) bs/\_;rw[Wd st.σ K (fun d=>d.T4 o) t];split
  ·obtain⟨bs,hr,hz⟩:=hs.slot t;exact rD.rn hk xS hr hz
  ·exact⟨[],.of (.any _),by simp⟩
 ·intro j x hj;obtain⟨i,ho,⟨_,rfl⟩|⟨y,hH,rfl⟩⟩:=key j x hj
  ·trivial
  ·have zg:=hs.ob i y hH;cases y with
   |gone=>trivial
   |hole=>trivial
   |tk rows=>
    obtain⟨v,bs,q1,q2,q3⟩:=zg;exact⟨v,bs,by rw[hk2 i j ho];exact q1,q2,fun b hb=>xS b (q3 b hb)⟩
   |mp kv=>
    obtain⟨g,es,c,q1,q2,q3,q4⟩:=zg;exact⟨g,es,c,by rw[hk2 i j ho];exact q1,q2,MZ g i j ho q3,q4⟩
   |vp sz rows u=>
    obtain⟨q1,q0,v,bs,q2,q3,q4,q5⟩:=zg;exact⟨q1,fun x hx=>by rw[hk2 i j ho];exact q0 x hx,v,bs,by rw[hk2 i j ho];exact q2,q3,q4,fun b hb=>⟨MZ b i j ho (q5 b hb).1,(q5 b hb).2⟩⟩
   |box cells=>
    obtain⟨g,cs,T,q1,q2,q3,bs,q4,q5⟩:=zg;obtain⟨b',p1,p2⟩:=er.rn hk xS q4 q5;exact⟨g,cs,T,by rw[hk2 i j ho];exact q1,q2,MZ g i j ho q3,b',p1,p2⟩
   |Ka cells u=>
    obtain⟨q0,g,cs,T,q1,q2,q3,bs,q4,q5⟩:=zg;obtain⟨b',p1,p2⟩:=er.rn hk xS q4 q5;exact⟨by rw[hk2 i j ho];exact q0,g,cs,T,by rw[hk2 i j ho];exact q1,q2,MZ g i j ho q3,b',p1,p2⟩
   |row k e sz rows=>
    obtain⟨q1,q2,v,cs,bs,q3,q4,q5,q6,q7⟩:=zg;refine⟨q1,q2,v,cs,bs,by rw[hk2 i j ho];exact q3,q4,q5,fun g hg=>MZ g i j ho (q6 g hg),?_⟩;cases k with
    |cl=>exact⟨q7.1,fun b hb=>⟨MZ b i j ho (q7.2.1 b hb).1,(q7.2.1 b hb).2⟩,q7.2.2⟩
    |sh=>exact fun b hb=>xS b (q7 b hb)
    |uq=>exact fun b hb=>xS b (q7 b hb)
    |mv n=>exact fun b hb=>xS b (q7 b hb)
 ·intro b hb;exact hs.own b (fun h=>hb (xS b h))
 ·intro b hb hx;obtain⟨h1,h2⟩:=hs.old b hb hx;simp only[Θ'];rw[bK h2];exact⟨h1,h2⟩
 ·intro b hb;refine hs.mine b ?_;simp only[Θ']at hb;split at hb<;>omega
 ·intro b hb;have hb':ρ b≠0:=fun h=>hb (by simp[ρ',h])
  obtain⟨h1,h2⟩:=hu.free b hb';exact⟨xS b h1,h2⟩
 ·intro j e sz rows hj;obtain⟨i,ho,⟨_,h⟩|⟨y,hH,h⟩⟩:=key j _ hj
  ·cases h
  ·have hy:y=.row .uq e sz rows:=by cases y<;>first| (simp only[Ob.rn]at h;exact h.symm)|cases h
   subst hy;obtain⟨v,cs,bs,q1,q2,q3,q4,q5⟩:=hu.rows i e sz rows hH;refine⟨v,cs,bs,by rw[hk2 i j ho];exact q1,q2,q3,q4,fun b hb=>?_⟩;simp only[ρ'];rw[q5 b hb,b8 (by omega),ya,Rh hnd ho]
 ·intro j x hj;obtain⟨i,ho,⟨_,h⟩|⟨y,hH,h⟩⟩:=key j _ hj
  ·subst h;trivial
  ·have hm:=hu.more i y hH;have a4A:∀b,ρ b=i+1->ρ' b=j+1:=fun b hb=>by
    simp only[ρ'];rw[hb,b8 (by omega),ya,Rh hnd ho]
   subst h;cases y with
   |tk rows=>
    obtain⟨v,bs,q1,q2,q3,q4⟩:=hm;exact⟨v,bs,by rw[hk2 i j ho];exact q1,q2,q3,fun b hb=>a4A b (q4 b hb)⟩
   |row k e sz rows=>
    cases k with
    |mv n=>
     obtain⟨v,cs,bs,q1,q2,q3,q4,q5⟩:=hm;exact⟨v,cs,bs,by rw[hk2 i j ho];exact q1,q2,q3,q4,fun b hb=>a4A b (q5 b hb)⟩
    |_=>trivial
   |_=>trivial
end
end Go.Cx
namespace Go.Cx
open Go.RowKit
abbrev Rw:=Nat×List (List D)
def Rw.ob(x:Rw)(v:Option Value):Ob:=.vp x.1 x.2 v
def Ft(w:World)(κ:Nat->Option Value):Nat->List Rw->aX->Prop
 |_,[],us=>us=[]
 |n,x::xs,us=>∃v bs us',κ n=some v/\(∀r∈x.2,r.length=x.1)/\Rd w v (.sl x.2) bs/\us=bs++us'/\Ft w κ (n+1) xs us'
def Zq(P:Program)(f:FuncId)(ds:aQ)(ins outs:List Rw)(d:D):Prop:=
 (∃fn,P.funcs[f]?=some fn/\fn.body.isSome=true/\(fn.name== "runtime.NumGoroutine")=false)/\outs.length=ins.length/\d.flat=true/\
 ∀(w:World) (κ:Nat->Option Value) (args:bZ) (us:aX),Nk w (fun b=>b∈us)->args.length=ds.length->(∀(i:Nat) d,ds[i]?=some d->∃v,args[i]?=some v/\rD w κ v d [])->
  (∀i,ins.length<=i->κ i=none)->(∀(i:Nat) u,κ i=some u->u.oneCell'=true)->Ft w κ 0 ins us->us.Nodup->(∀b∈us,Wr w b)->
  Calls P f args.toArray w (fun e w'=>∃v us',e=.returned v/\Rd w' v d []/\Ft w' κ 0 outs us'/\us'.Nodup/\(∀b∈us',(b∈us\/w.heap.size<=b)/\Wr w' b)/\
   w'.os=w.os/\w'.tape=w.tape/\w'.output=w.output/\w.heap.size<=w'.heap.size/\∀b,b<w.heap.size->b∉us->w'.heap[b]?=w.heap[b]?)
section
variable{P:Program}{Γ:vJ}{Q:Exit->St->Prop}{st:St}{κ κ':Nat->Option Value}{Θ Θ':Nat->Nat}{a:Act}{w w':World}{all:Array Oper}{rest:List Oper}
theorem Ft.parts:∀ {xs:List Rw} {n:Nat} {us:aX},Ft w κ n xs us->∃L:List aX,L.length=xs.length/\us=L.flatten/\∀(i:Nat) x bs,xs[i]?=some x->L[i]?=some bs->∃v,κ (n+i)=some v/\(∀r∈x.2,r.length=x.1)/\Rd w v (.sl x.2) bs:=by
 intro xs
 induction xs with
 |nil=>intro n us h;exact⟨[],rfl,by simpa[Ft]using h,by simp⟩
 |cons y ys ih=>
  intro n us h;obtain⟨v,bs,us',h1,h2,h3,rfl,h5⟩:=h;obtain⟨L,q1,rfl,q3⟩:=ih h5;refine⟨bs::L,by simp[q1],by simp,?_⟩;intro i x b hx hb;cases i with
  |zero=>simp at hx hb;subst hx;subst hb;exact⟨v,h1,h2,h3⟩
  |succ i=>
   simp at hx hb;obtain⟨v',r1,r2,r3⟩:=q3 i x b hx hb;exact⟨v',by rw[<-r1];congr 1;omega,r2,r3⟩
theorem Ft.of:∀ {xs:List Rw} {n:Nat} {L:List aX},L.length=xs.length->(∀(i:Nat) x bs,xs[i]?=some x->L[i]?=some bs->∃v,κ (n+i)=some v/\(∀r∈x.2,r.length=x.1)/\Rd w v (.sl x.2) bs)->Ft w κ n xs L.flatten:=by
 intro xs
 induction xs with
 |nil=>
  intro n L hl _;have:L=[]:=cN (by simpa using hl);subst this;rfl
 |cons y ys ih=>
  intro n L hl h;cases L with
  |nil=>simp at hl
  |cons bs L=>
   obtain⟨v,h1,h2,h3⟩:=h 0 y bs rfl rfl;refine⟨v,bs,L.flatten,h1,h2,h3,by simp,ih (by simpa using hl) ?_⟩;intro i x b hx hb;obtain⟨v',r1,r2,r3⟩:=h (i+1) x b (by simpa using hx) (by simpa using hb);exact⟨v',by rw[<-r1];congr 1;omega,r2,r3⟩
theorem dX.forget(hs:dX Γ st κ Θ a w)(ms:aX):dX Γ ⟨st.σ,kill st.H ms⟩ κ (fun b=>if ms.any (fun m=>Θ b==m+2)then st.H.length+2 else Θ b) a w:=by
 have h0:∀b,Θ b=0->(if ms.any (fun m=>Θ b==m+2)then st.H.length+2 else Θ b)=0:=by
  intro b hb;rw[b8,hb];intro h;obtain⟨m,_,hm⟩:=cw.1 h;simp[hb]at hm
 have hk:∀(j:Nat) o,(kill st.H ms)[j]?=some o->o=.gone\/(j∉ms/\st.H[j]?=some o):=fun j o h=>sD h
 have hold:∀b j,j∉ms->Θ b=j+2->(if ms.any (fun m=>Θ b==m+2)then st.H.length+2 else Θ b)=j+2:=by
  intro b j hj hb;rw[b8,hb];intro h;obtain⟨m,hm,he⟩:=cw.1 h;simp only[hb,cO]at he;exact hj (by
   have:j=m:=by omega
   rw[this];exact hm)
 obtain⟨ρ,hu⟩:=hs.td;refine⟨hs.defers,hs.size,fun i hi=>hs.pX i (by simpa[gM]using hi),hs.ol,?_,?_,?_,?_,?_,hs.stays,ρ,?_,?_,?_⟩
 ·intro t;obtain⟨bs,hr,hz⟩:=hs.slot t;exact⟨bs,hr,fun b hb=>h0 b (hz b hb)⟩
 ·intro j o hj;rcases hk j o hj with rfl|⟨hn,hj'⟩
  ·trivial
  ·have zg:=hs.ob j o hj';cases o with
   |gone=>trivial
   |tk rows=>
    obtain⟨v,bs,q1,q2,q3⟩:=zg;exact⟨v,bs,q1,q2,fun b hb=>h0 b (q3 b hb)⟩
   |box cells=>
    obtain⟨g,cs,T,q1,q2,q3,bs,q4,q5⟩:=zg;exact⟨g,cs,T,q1,q2,hold g j hn q3,bs,q4,fun b hb=>h0 b (q5 b hb)⟩
   |Ka cells u=>
    obtain⟨q0,g,cs,T,q1,q2,q3,bs,q4,q5⟩:=zg;exact⟨q0,g,cs,T,q1,q2,hold g j hn q3,bs,q4,fun b hb=>h0 b (q5 b hb)⟩
   |row k e sz rows=>
    obtain⟨q1,q2,v,cs,bs,q3,q4,q5,q6,q7⟩:=zg;refine⟨q1,q2,v,cs,bs,q3,q4,q5,fun g hg=>hold g j hn (q6 g hg),?_⟩;cases k with
    |cl=>exact⟨q7.1,fun b hb=>⟨hold b j hn (q7.2.1 b hb).1,(q7.2.1 b hb).2⟩,q7.2.2⟩
    |sh=>exact fun b hb=>h0 b (q7 b hb)
    |uq=>exact fun b hb=>h0 b (q7 b hb)
    |mv n=>exact fun b hb=>h0 b (q7 b hb)
   |vp sz rows u=>
    obtain⟨q1,q0,v,bs,q2,q3,q4,q5⟩:=zg;exact⟨q1,q0,v,bs,q2,q3,q4,fun b hb=>⟨hold b j hn (q5 b hb).1,(q5 b hb).2⟩⟩
   |hole sz rows u p n=>
    obtain⟨q1,q0,v,bs,q2,q3,q4,q5⟩:=zg;exact⟨q1,q0,v,bs,q2,q3,q4,fun b hb=>⟨hold b j hn (q5 b hb).1,(q5 b hb).2⟩⟩
   |mp kv=>
    obtain⟨g,es,c,q1,q2,q3,q4⟩:=zg;exact⟨g,es,c,q1,q2,hold g j hn q3,q4⟩
 ·intro b hb;refine hs.own b fun h=>hb ?_
  exact h0 b h
 ·intro b hb hx;obtain⟨h1,h2⟩:=hs.old b hb hx;have:(if ms.any (fun m=>Θ b==m+2)then st.H.length+2 else Θ b)=Θ b:=by
   rw[b8];intro h;obtain⟨m,_,hm⟩:=cw.1 h;simp only[cO]at hm;omega
  show(if ms.any (fun m=>Θ b==m+2)then st.H.length+2 else Θ b)=_/\(if ms.any (fun m=>Θ b==m+2)then st.H.length+2 else Θ b)<=1;rw[this];exact⟨h1,h2⟩
 ·intro b hb;refine hs.mine b ?_;by_cases h:ms.any (fun m=>Θ b==m+2)=true
  ·obtain⟨m,_,hm⟩:=cw.1 h;simp only[cO]at hm;omega
  ·simp only[h]at hb;simpa using hb
 ·intro b hb;obtain⟨h1,h2⟩:=hu.free b hb;exact⟨h0 b h1,h2⟩
 ·intro id e sz rows hj;rcases hk id _ hj with h|⟨_,h⟩
  ·cases h
  ·exact hu.rows id e sz rows h
 ·intro id o hj;rcases hk id _ hj with h|⟨_,h⟩
  ·subst h;trivial
  ·exact hu.more id o h
def lv(H:bO)(m:Nat):Option Value:=match H[m]? with|some (.vp _ _ v)=>v|_=>none
def OP:bO->aX->List Rw->bO
 |H,m::ms,x::xs=>OP (H.set m (x.ob (lv H m))) ms xs
 |H,_,_=>H
theorem KG:∀(H:bO) (ms:aX) (xs:List Rw),(OP H ms xs).length=H.length:=by
 intro H ms
 induction ms generalizing H with
 |nil=>intro xs;cases xs<;>rfl
 |cons m ms ih=>intro xs;cases xs with|nil=>rfl|cons x xs=>simp[OP,ih]
theorem Wv:∀ {H:bO} {ms:aX} {xs:List Rw} {j:Nat} {y:Ob},ms.Nodup->xs.length=ms.length->(OP H ms xs)[j]?=some y->(∃(i:Nat) (x:Rw),ms[i]?=some j/\xs[i]?=some x/\y=x.ob (lv H j))\/(j∉ms/\H[j]?=some y):=by
 intro H ms
 induction ms generalizing H with
 |nil=>intro xs j y _ _ h;cases xs<;>exact .inr ⟨by simp,h⟩
 |cons m ms ih=>
  intro xs j y hnd hl h;cases xs with
  |nil=>simp at hl
  |cons x xs=>
   obtain⟨n1,n2⟩:=eW.1 hnd;rcases ih n2 (by simpa using hl) h with⟨i,z,h1,h2,h3⟩|⟨h1,h2⟩
   ·refine .inl ⟨i+1,z,by simpa using h1,by simpa using h2,?_⟩;rw[h3];have hne:m≠j:=fun e=>n1 (by rw[e];exact aD h1)
    simp only[lv,bu hne]
   ·rcases yP j y h2 with⟨rfl,rfl⟩|⟨h3,h4⟩
    ·exact .inl ⟨0,x,rfl,rfl,rfl⟩
    ·exact .inr ⟨by simp[h1,h3],h4⟩
def Lm(H:bO):aX->Option (List Rw)
 | []=>some []
 |m::ms=>match H[m]?,Lm H ms with|some (.vp sz rows _),some xs=>some ((sz,rows)::xs)|_,_=>none
theorem RV{H:bO}:∀ {ms:aX} {xs:List Rw},Lm H ms=some xs->xs.length=ms.length/\∀(i m:Nat) x,ms[i]?=some m->xs[i]?=some x->∃v,H[m]?=some (x.ob v):=by
 intro ms
 induction ms with
 |nil=>intro xs h;cases h;simp
 |cons m ms ih=>
  intro xs h;simp only[Lm]at h;split at h
  ·rename_i sz rows u ys h1 h2;cases h;obtain⟨q1,q2⟩:=ih h2;refine⟨by simp[q1],?_⟩;intro i m' x hm hx;cases i with
   |zero=>simp at hm hx;subst hm;subst hx;exact⟨u,h1⟩
   |succ i=>exact q2 i m' x (by simpa using hm) (by simpa using hx)
  ·cases h
def D.Fu(d:D):Bool:=match d with
 | .acc _=>true
 |d=>d.flat
def D.bare(d:D):Bool:=match d with
 | .agg cs=>cs.all D.Fu
 |d=>d.Fu
theorem yT.Km{v:Value}{d:D}{bs:aX}(h:yT w κ v d bs)(hf:d.Fu=true):bs=[]:=by
 cases h with
 |pure h=>
  refine h.flat ?_;cases h<;>exact hf
 |_=>rfl
theorem er.Km{vs:bZ}{ds:aQ}{bs:aX}(h:er w κ vs ds bs)(hf:ds.all D.Fu=true):bs=[]:=by
 induction h with
 |nil=>rfl
 |cons v vs d ds b1 b2 h1 h2 _ ih=>
  simp only[dD,aW]at hf;rw[h2.Km hf.1,ih hf.2];rfl
theorem rD.SP{v:Value}{d:D}{bs:aX}(h:rD w κ v d bs)(hf:d.bare=true):bs=[]:=by
 cases h with
 |v h=>
  cases h with
  |cell h=>
   cases h with
   |pure h=>
    cases h with
    |agg cs ds _ h=>exact er.Km (er.C6 (κ:=κ) h) hf
    |_=>first|rfl|exact absurd hf (by simp[D.bare,D.Fu,D.flat])
   |_=>rfl
  |agg cs ds bs h=>exact h.Km hf
 |hY=>simp[D.bare,D.Fu,D.flat]at hf
theorem D.VG(o:aX){c:D}(h:c.Fu=true):(c.T3 o).Fu=true:=by
 cases c with
 |acc m=>simp only[D.T3];cases pos o m<;>rfl
 |_=>first|exact h| (simp[D.Fu,D.flat]at h)
theorem D.SQ(o:aX){d:D}(h:d.bare=true):(d.T4 o).bare=true:=by
 cases d with
 |agg cs=>
  simp only[D.T4,D.rnV,D.bare,BB]at h⊢;rw[ay]at h⊢;intro c hcm;exact D.VG o (h c hcm)
 |acc m=>simp only[D.T4,D.rnV,D.T3];cases pos o m<;>rfl
 |_=>first|exact h| (simp[D.bare,D.Fu,D.flat]at h)
theorem PZ{L:List aX}(h:L.flatten.Nodup):∀(i j:Nat) x y b,L[i]?=some x->L[j]?=some y->b∈x->b∈y->i=j:=by
 intro i j x y b hi hj hx hy;have:=vR (f:=fun l:aX=>l) (l:=L) (by simpa[List.flatMap_id]using h);exact this i j x y b hi hj hx hy
theorem R6{L:List aX}(h:L.flatten.Nodup):∀x∈L,x.Nodup:=by
 induction L with
 |nil=>intro x hx;cases hx
 |cons y L ih=>
  intro x hx;simp only[dw]at h;obtain⟨h1,h2,_⟩:=bJ.1 h;rcases bI.1 hx with rfl|hx
  ·exact h1
  ·exact ih h2 x hx
theorem Mb:∀ {L:List aX},(∀x∈L,x.Nodup)->(∀(i j:Nat) x y b,L[i]?=some x->L[j]?=some y->b∈x->b∈y->i=j)->L.flatten.Nodup:=by
 intro L
 induction L with
 |nil=>intro _ _;simp
 |cons y L ih=>
  intro h1 h2;simp only[dw];refine bJ.2 ⟨h1 y (by simp),ih (fun x hx=>h1 x (by simp[hx])) (fun i j x z b hi hj hx hz=>?_),?_⟩
  ·have:=h2 (i+1) (j+1) x z b (by simpa using hi) (by simpa using hj) hx hz;omega
  ·intro b hb c hc e;subst e;obtain⟨x,hx,Fi⟩:=fP.1 hc;obtain⟨j,hj⟩:=dZ hx;have:=h2 0 (j+1) y x b rfl (by simpa using hj) hb Fi;omega
theorem V1{o:Oper}{f t:Nat}{xs:Array Operand}{ts:Array TypeId}{ms:aX}{ins outs:List Rw}{d:D}(hop:o.op=.call {callee:=.value (.func f),args:=xs,argTypes:=ts})(hd:o.dst=some t)(hg:o.guard=none)
 (ht:t<Γ.nt) (hnd:ms.Nodup) (hins:Lm st.H ms=some ins) (hb:((xs.toList.map st.ev).all D.bare)=true) (nq:Zq P f ((xs.toList.map st.ev).map (D.T4 ms)) ins outs d)
 (h:AO P Γ all rest Q ⟨(t,d)::st.σ,OP st.H ms outs⟩):AO P Γ all (o::rest) Q st:=by
 intro κ Θ a w hs;obtain⟨Qf,hig⟩:=RV hins;obtain⟨hfn,hol,hfl,a3X⟩:=nq;let κc:Nat->Option Value:=fun j=>(ms[j]?).bind κ
 have hkc:∀(i m:Nat),ms[i]?=some m->κc i=κ m:=fun i m h=>by simp[κc,h]
 have zg:∀(i m:Nat) x,ms[i]?=some m->ins[i]?=some x->∃v bs,κ m=some v/\(∀r∈x.2,r.length=x.1)/\Rd w v (.sl x.2) bs/\bs.Nodup/\∀b∈bs,Θ b=m+2/\Wr w b:=by
  intro i m x hm hx;obtain⟨u,hu⟩:=hig i m x hm hx;obtain⟨q1,_,v,bs,q2,q3,q4,q5⟩:=hs.ob m _ hu;exact⟨v,bs,q2,q1,q3,q4,q5⟩
 have hL:∃L:List aX,L.length=ins.length/\∀(i m:Nat) x bs,ms[i]?=some m->ins[i]?=some x->L[i]?=some bs->(∃v,κ m=some v/\(∀r∈x.2,r.length=x.1)/\Rd w v (.sl x.2) bs)/\bs.Nodup/\∀b∈bs,Θ b=m+2/\Wr w b:=by
  have key:∀(ms:aX) (ins:List Rw),ins.length=ms.length->(∀(i m:Nat) x,ms[i]?=some m->ins[i]?=some x->∃v bs,κ m=some v/\(∀r∈x.2,r.length=x.1)/\Rd w v (.sl x.2) bs/\bs.Nodup/\∀b∈bs,Θ b=m+2/\Wr w b)->
   ∃L:List aX,L.length=ins.length/\∀(i m:Nat) x bs,ms[i]?=some m->ins[i]?=some x->L[i]?=some bs->(∃v,κ m=some v/\(∀r∈x.2,r.length=x.1)/\Rd w v (.sl x.2) bs)/\bs.Nodup/\∀b∈bs,Θ b=m+2/\Wr w b:=by
   intro ms
   induction ms with
   |nil=>intro ins hl _;exact⟨[],by simpa using hl.symm,by simp⟩
   |cons m ms ih=>
    intro ins hl zg;cases ins with
    |nil=>simp at hl
    |cons x ins=>
     obtain⟨L,q1,q2⟩:=ih ins (by simpa using hl) (fun i m' x' hm hx=>zg (i+1) m' x' (by simpa using hm) (by simpa using hx));obtain⟨v,bs,r1,r2,r3,r4,r5⟩:=zg 0 m x rfl rfl;refine⟨bs::L,by simp[q1],?_⟩;intro i m' x' b hm hx hb;cases i with
     |zero=>simp at hm hx hb;subst hm;subst hx;subst hb;exact⟨⟨v,r1,r2,r3⟩,r4,r5⟩
     |succ i=>exact q2 i m' x' b (by simpa using hm) (by simpa using hx) (by simpa using hb)
  exact key ms ins Qf zg
 obtain⟨L,hLl,hLi⟩:=hL;have hmi:∀(i:Nat) bs,L[i]?=some bs->∃m x,ms[i]?=some m/\ins[i]?=some x:=by
  intro i bs hb';have hlt:=(aF.1 hb').1;exact⟨_,_,aa (by omega),aa (by omega)⟩
 have hmem:∀b∈L.flatten,∃m∈ms,Θ b=m+2:=by
  intro b hb';obtain⟨x,hx,Fi⟩:=fP.1 hb';obtain⟨i,hi⟩:=dZ hx;obtain⟨m,y,h1,h2⟩:=hmi i x hi;exact⟨m,aD h1,((hLi i m y x h1 h2 hi).2.2 b Fi).1⟩
 have uI:L.flatten.Nodup:=by
  refine Mb (fun x hx=>?_) (fun i j x y b hi hj hx hy=>?_)
  ·obtain⟨i,hi⟩:=dZ hx;obtain⟨m,y,h1,h2⟩:=hmi i x hi;exact(hLi i m y x h1 h2 hi).2.1
  ·obtain⟨m1,y1,h1,h2⟩:=hmi i x hi;obtain⟨m2,y2,h3,h4⟩:=hmi j y hj;have e1:=((hLi i m1 y1 x h1 h2 hi).2.2 b hx).1;have e2:=((hLi j m2 y2 y h3 h4 hj).2.2 b hy).1;have:m1=m2:=by omega
   subst this;exact NK hnd i j m1 h1 h3
 have a1Q:Ft w κc 0 ins L.flatten:=Ft.of hLl (fun i x bs hx hb'=>by
  obtain⟨m,y,h1,h2⟩:=hmi i bs hb';rw[hx]at h2;cases h2;obtain⟨⟨v,q1,q2,q3⟩,_⟩:=hLi i m x bs h1 hx hb';exact⟨v,by rw[cm,hkc i m h1];exact q1,q2,q3⟩)
 have hwr:∀b∈L.flatten,Wr w b:=by
  intro b hb';obtain⟨x,hx,Fi⟩:=fP.1 hb';obtain⟨i,hi⟩:=dZ hx;obtain⟨m,y,h1,h2⟩:=hmi i x hi;exact((hLi i m y x h1 h2 hi).2.2 b Fi).2
 have hargs:∀(i:Nat) d,((xs.toList.map st.ev).map (D.T4 ms))[i]?=some d->∃v,(xs.toList.map a.eval)[i]?=some v/\rD w κc v d []:=by
  intro i d HW;rw[bg,bg]at HW;cases hx:xs.toList[i]? with
  |none=>rw[hx]at HW;cases HW
  |some x=>
   rw[hx]at HW;simp only[cM,ar]at HW;subst HW;refine⟨a.eval x,by rw[bg,hx];rfl,?_⟩;obtain⟨bs,r,hz⟩:=hs.ev x;have VW:(st.ev x).bare=true:=ay.1 hb _ (cB.2 ⟨x,aD hx,rfl⟩);obtain⟨b',r',_⟩:=rD.rn (o:=ms) (κ':=κc) (Θ:=fun _=>0) (Θ':=fun _=>0) (fun i j v h1 h2=>by simp[κc,OO h1,h2]) (fun _ _=>rfl) r (fun _ _=>rfl);have:=r'.SP (D.SQ ms VW);subst this;exact r'
 have RO:Nk w fun b=>b∈L.flatten:=by
  obtain⟨B,v1,v2⟩:=hs.vsb;refine⟨B,v1,fun b hB=>⟨(v2 b hB).2.1,fun hb'=>?_⟩⟩;obtain⟨x,hx,Fi⟩:=fP.1 hb';obtain⟨i,hi⟩:=dZ hx;obtain⟨m,y,h1,h2⟩:=hmi i x hi;have e1:=((hLi i m y x h1 h2 hi).2.2 b Fi).1;rcases hs.mine b (by omega)with q|q
  ·have:=(v2 b hB).1;omega
  ·exact(v2 b hB).2.2 q
 have hc:=a3X w κc (xs.toList.map a.eval) L.flatten RO (by simp) hargs (fun i hi=>by simp[κc,cP (by omega:ms.length<=i)]) (fun i u hu=>by
  simp only[κc]at hu;cases hm:ms[i]? with
  |none=>rw[hm]at hu;cases hu
  |some m=>rw[hm]at hu;exact hs.ol m u hu) a1Q uI hwr
 refine wpList_plain hg fun K hK=>?_
 unfold Oper.wp;rw[xN hop hfn,Oper.upon_enter];have e:xs.map a.eval=(xs.toList.map a.eval).toArray:=by rw[<-iE,jc]
 rw[e];refine hc.mono ?_;rintro e w' ⟨v,us',rfl,hv,hl',Ib,R9,k1,k2,k3,k4,k5⟩;show K (a.put o.dst v) w';rw[hd];obtain⟨L',a97,rfl,a6U⟩:=hl'.parts;have a9Y:∀(i:Nat) bs,L'[i]?=some bs->∃m x,ms[i]?=some m/\outs[i]?=some x:=by
  intro i bs hb';have hlt:=(aF.1 hb').1;exact⟨_,_,aa (by omega),aa (by omega)⟩
 have hs1:=hs.forget ms;let Θ1:Nat->Nat:=fun b=>if ms.any (fun m=>Θ b==m+2)then st.H.length+2 else Θ b
 have a48:∀b,b∈L.flatten->Θ1 b=st.H.length+2:=by
  intro b hb';obtain⟨m,hm,he⟩:=hmem b hb';simp only[Θ1];rw[bK (cw.2 ⟨m,hm,by simp[he]⟩)]
 let Θ2:Nat->Nat:=fun b=>match ix (fun x:aX=>x.contains b) L' with|some i=>(match ms[i]? with|some m=>m+2|none=>1)|none=>if Θ1 b=st.H.length+2 then 1 else Θ1 b
 have a7Y:∀(i m:Nat) bs b,ms[i]?=some m->L'[i]?=some bs->b∈bs->Θ2 b=m+2:=by
  intro i m bs b hm hi hb';have:ix (fun x:aX=>x.contains b) L'=some i:=E8 hi (by simpa using hb') (fun j y hj hy=>PZ Ib j i y bs b hj hi (by simpa using hy) hb');simp only[Θ2,this,hm]
 have Vw:∀b,b∉L'.flatten->Θ2 b=if Θ1 b=st.H.length+2 then 1 else Θ1 b:=by
  intro b hb';simp only[Θ2];cases h:ix (fun x:aX=>x.contains b) L' with
  |none=>rfl
  |some i=>
   obtain⟨x,hx,hp⟩:=yN h;exact absurd (fP.2 ⟨x,aD hx,by simpa using hp⟩) hb'
 have hlt':∀b∈L'.flatten,b<w'.heap.size:=fun b hb'=>by
  obtain⟨cs,T,hx⟩:=(R9 b hb').2;exact(bG.1 hx).1
 have kk:iV w w' Θ1 Θ2 (st.H.length+2):=by
  refine⟨by omega,k1,k2,k3,k4,fun b hlt hne=>k5 b hlt fun hb'=>hne (a48 b hb'),fun b hlt hne=>?_,fun b hb'=>?_⟩
  ·by_cases hin:b∈L'.flatten
   ·rcases(R9 b hin).1 with h'|h'
    ·exact absurd (a48 b h') hne
    ·omega
   ·rw[Vw b hin,b8 hne]
  ·by_cases hin:b∈L'.flatten
   ·exact hlt' b hin
   ·rw[Vw b hin]at hb';refine dP (hs1.own b ?_) k4;intro h0;have h0':Θ1 b=0:=h0;rw[h0']at hb';rw[b8 (by omega)]at hb';exact hb' rfl
 have hm2:∀b,2<=Θ2 b->zo Γ b:=by
  intro b hb';by_cases hin:b∈L'.flatten
  ·rcases(R9 b hin).1 with h'|h'
   ·obtain⟨m,_,he⟩:=hmem b h';exact hs.mine b (by omega)
   ·exact .inl (cW hs.base h')
  ·rw[Vw b hin]at hb';split at hb'
   ·omega
   ·exact hs1.mine b hb'
 obtain⟨ρ,hu⟩:=hs1.td;have a1f:=hs1.oX kk (κ':=κ) (fun _ _ h=>h) hu;have hkl:(kill st.H ms).length=st.H.length:=gM _ _;have hpk:∀(j:Nat) y,(OP st.H ms outs)[j]?=some y->(∃(i:Nat) (x:Rw),ms[i]?=some j/\outs[i]?=some x/\y=x.ob (lv st.H j))\/(j∉ms/\(kill st.H ms)[j]?=some y):=by
  intro j y hj;rcases Wv hnd (by omega) hj with h'|⟨h1,h2⟩
  ·exact .inl h'
  ·exact .inr ⟨h1,by rw[j7 h1];exact h2⟩
 have LY:∀(j:Nat) y,(OP st.H ms outs)[j]?=some y->j+2≠st.H.length+2:=fun j y hj=>by
  have:=(aF.1 hj).1;rw[KG]at this;omega
 have hs2:dX Γ ⟨st.σ,OP st.H ms outs⟩ κ Θ2 a w':=by
  refine hs1.step kk hm2 (fun _ _ h=>h) (fun i hi=>hs.pX i (by rw[KG]at hi;exact hi)) hs.ol ?_ ⟨ρ,a1f.1,?_,?_⟩
  ·intro j y hj;have hjl:=LY j y hj;rcases hpk j y hj with⟨i,x,h1,h2,rfl⟩|⟨_,h2⟩
   ·right;right
    have hbi:∃bs,L'[i]?=some bs:=⟨_,aa (by have:=(aF.1 h2).1;omega)⟩
    obtain⟨bs,hbi⟩:=hbi;obtain⟨v',q1,q2,q3⟩:=a6U i x bs h2 hbi;rw[cm,hkc i j h1]at q1;refine⟨q2,fun x hx=>?_,v',bs,q1,q3,R6 Ib bs (aD hbi),fun b hb'=>⟨a7Y i j bs b h1 hbi hb',(R9 b (fP.2 ⟨bs,aD hbi,hb'⟩)).2⟩⟩;unfold lv at hx;split at hx
    ·rename_i sz0 a8Z u0 hH0;subst hx;obtain⟨_,q0,_⟩:=hs.ob j _ hH0;exact q0 x rfl
    ·cases hx
   ·exact .inr (.inl ⟨hjl,h2⟩)
  ·intro id e' sz' cv hj;have hjl:=LY id _ hj;rcases hpk id _ hj with⟨i,x,h1,h2,h3⟩|⟨_,h2⟩
   ·simp[Rw.ob]at h3
   ·exact a1f.2.1 id e' sz' cv hjl h2
  ·intro id y hj;have hjl:=LY id _ hj;rcases hpk id _ hj with⟨i,x,h1,h2,h3⟩|⟨_,h2⟩
   ·subst h3;exact Kj.zG rfl
   ·exact a1f.2.2 id y hjl h2
 have sC:rD w' κ v d []:=.of hv;exact hK _ _ (h κ Θ2 _ w' (hs2.set (t:=t) ht sC (by simp)))
def Ob.close:Ob->Ob
 | .row _ _ sz rows=>.vp sz rows none
 |o=>o
theorem dX.U1(hs:dX Γ st κ Θ a w)(hb:Below w.heap.size w w')(L:nJ)(hL:∀x∈L,x.ok w')(hnd:(L.flatMap Fs.bl).Nodup)(hfr:∀b∈L.flatMap Fs.bl,w.heap.size<=b/\Wr w' b):
 ∃κ' Θ',dX Γ ⟨st.σ,st.H++(L.map Fs.ob).map Ob.close⟩ κ' Θ' a w'/\Names κ' st.H.length L:=by
 let n:=st.H.length
 let κ':Nat->Option Value:=fun j=>if j<n\/n+L.length<=j then κ j else(L[j-n]?).map Fs.v
 let Θ':Nat->Nat:=fun b=>match ix (fun x:Fs=>x.bl.contains b) L with|some i=>n+i+2|none=>Θ b
 have hu1:∀(i j:Nat) x y b,L[i]?=some x->L[j]?=some y->b∈x.bl->b∈y.bl->i=j:=fun i j x y b=>vR hnd i j x y b
 have hts:∀(i:Nat) x b,L[i]?=some x->b∈x.bl->Θ' b=n+i+2:=by
  intro i x b hi Uq;have:ix (fun x:Fs=>x.bl.contains b) L=some i:=E8 hi (by simpa using Uq) (fun j y hj hy=>hu1 j i y x b hj hi (by simpa using hy) Uq);simp only[Θ',this]
 have hno:∀b,b∉L.flatMap Fs.bl->Θ' b=Θ b:=by
  intro b hb';simp only[Θ'];cases h:ix (fun x:Fs=>x.bl.contains b) L with
  |none=>rfl
  |some i=>
   obtain⟨x,hx,hp⟩:=yN h;exact absurd (bq.2 ⟨x,aD hx,by simpa using hp⟩) hb'
 have hold:∀b,b<w.heap.size->Θ' b=Θ b:=fun b hlt=>hno b (fun h=>by have:=(hfr b h).1;omega)
 have hn:∀(j:Nat) v,κ j=some v->κ' j=some v:=by
  intro j v hj;have:j<n:=by
   rcases dY j n with h|h
   ·exact h
   ·have:=hs.pX j h;rw[hj]at this;cases this
  simp only[κ'];rw[bK (.inl this)];exact hj
 have zD:Names κ' n L:=by
  intro i x hx;have hlt:=(aF.1 hx).1;simp only[κ'];rw[b8 (by omega),dM,hx];rfl
 have hlen:(st.H++(L.map Fs.ob).map Ob.close).length=n+L.length:=by simp[n]
 have k:iV w w' Θ Θ' (n+L.length+2):=by
  refine⟨by omega,hb.os,hb.tape,hb.output,hb.size,fun b hlt _=>hb.block b hlt,fun b hlt _=>hold b hlt,fun b h=>?_⟩;by_cases hin:b∈L.flatMap Fs.bl
  ·obtain⟨cs,T,hx⟩:=(hfr b hin).2;exact(bG.1 hx).1
  ·rw[hno b hin]at h;exact dP (hs.own b h) hb.size
 have hm:∀b,2<=Θ' b->zo Γ b:=by
  intro b h;by_cases hin:b∈L.flatMap Fs.bl
  ·exact .inl (cW hs.base (hfr b hin).1)
  ·rw[hno b hin]at h;exact hs.mine b h
 have key:∀(j:Nat) y,(st.H++(L.map Fs.ob).map Ob.close)[j]?=some y->(∃i x,j=n+i/\L[i]?=some x/\y=.vp x.sz x.rows none)\/(j<n/\st.H[j]?=some y):=by
  intro j y hj;by_cases hlt:j<st.H.length
  ·rw[au hlt]at hj;exact .inr ⟨hlt,hj⟩
  ·rw[b7 (by omega),bg,bg]at hj;cases hx:L[j-st.H.length]? with
   |none=>simp[hx]at hj
   |some x=>simp[hx]at hj;exact .inl ⟨j-st.H.length,x,by omega,hx,hj.symm⟩
 have LY:∀(j:Nat) y,(st.H++(L.map Fs.ob).map Ob.close)[j]?=some y->j+2≠n+L.length+2:=fun j y hj=>by
  have:=(aF.1 hj).1;omega
 obtain⟨ρ,hu⟩:=hs.td;have uI:=hs.oX k hn hu;refine⟨κ',Θ',hs.step k hm hn (fun i hi=>?_) (fun i u yM=>?_) (fun j y hj=>?_) ⟨ρ,uI.1,fun id e sz rows hj=>?_,fun id y hj=>?_⟩,zD⟩
 ·rw[hlen]at hi;simp only[κ'];rw[bK (by omega)];exact hs.pX i (by omega)
 ·simp only[κ']at yM;split at yM
  ·exact hs.ol i u yM
  ·cases hx:L[i-n]? with
   |none=>simp[hx]at yM
   |some x=>simp[hx]at yM;subst yM;exact(hL x (aD hx)).2.2.2.2
 ·have hjl:=LY j y hj;rcases key j y hj with⟨i,x,rfl,hx,rfl⟩|⟨hlt,hy⟩
  ·right;right
   obtain⟨q1,q2,q3,q4,_⟩:=hL x (aD hx);have Jl:x.bl.Nodup:=by
    have:∀(l:nJ),(l.flatMap Fs.bl).Nodup->∀x∈l,x.bl.Nodup:=by
     intro l
     induction l with
     |nil=>intro _ x hx;cases hx
     |cons z r ih=>
      intro hnd x hx;simp only[cr]at hnd;obtain⟨n1,n2,_⟩:=bJ.1 hnd;rcases bI.1 hx with rfl|hx
      ·exact n1
      ·exact ih n2 x hx
    exact this L hnd x (aD hx)
   exact⟨q2,by simp,x.v,x.bl,zD i x hx,vG q2 q3 q4,Jl,fun b hb'=>⟨hts i x b hx hb',(hfr b (bq.2 ⟨x,aD hx,hb'⟩)).2⟩⟩
  ·exact .inr (.inl ⟨hjl,hy⟩)
 ·have hjl:=LY id _ hj;rcases key id _ hj with⟨i,x,_,_,h⟩|⟨hlt,hy⟩
  ·cases h
  ·exact uI.2.1 id e sz rows hjl hy
 ·have hjl:=LY id _ hj;rcases key id _ hj with⟨i,x,_,_,h⟩|⟨hlt,hy⟩
  ·subst h;exact Kj.zG rfl
  ·exact uI.2.2 id y hjl hy
theorem Uv{o:Oper}{f t:Nat}{xs:Array Operand}{ts:Array TypeId}{ds:aQ}{ms:aX}{d:D}(hop:o.op=.call {callee:=.value (.func f),args:=xs,argTypes:=ts})(hd:o.dst=some t)(hg:o.guard=none)
 (ht:t<Γ.nt) (hds:HU st.H (xs.toList.map st.ev)=some (ds,ms)) (hown:d.M5=true) (nq:Good P f ds d)
 (h:AO P Γ all rest Q ⟨(t,(pW st.H.length d).1)::st.σ,st.H++(pW st.H.length d).2.map Ob.close⟩):AO P Γ all (o::rest) Q st:=by
 intro κ Θ a w hs;obtain⟨bs,hargs,hz⟩:=Kv hs hds;let Θc:Nat->Nat:=fun b=>if Θ b=0\/ms.any (fun m=>Θ b==m+2)then 0 else 1
 have K6:∀b,Seen Θ ms b->Θc b=0:=by
  intro b h;simp only[Θc];rw[bK];rcases h with h|⟨m,h1,h2⟩
  ·exact .inl h
  ·exact .inr (cw.2 ⟨m,h1,by simp[h2]⟩)
 have hc:=nq.2 w Θc _ bs hs.vok hargs (fun b hb=>K6 b (hz b hb)) (fun b hb=>hs.own b (fun e=>hb (K6 b (.inl e)))) (fun b=>by simp only[Θc];split<;>omega);refine wpList_plain hg fun K hK=>?_
 unfold Oper.wp;rw[xN hop nq.1,Oper.upon_enter];have e:xs.map a.eval=(xs.toList.map a.eval).toArray:=by rw[<-iE,jc]
 rw[e];refine hc.mono ?_;rintro e w' ⟨v,bs',tb,ub,rfl,hb,hr,MN,htb,hnd,hfr,hsub⟩;show K (a.put o.dst v) w';rw[hd];obtain⟨L,q1,q2,q3,q4,q5⟩:=hr.inst st.H.length;obtain⟨κ',Θ',hs',hnm⟩:=hs.U1 hb L q2 (q3▸hnd) (fun b hb'=>hfr b (q3▸hb'));rw[q1]at hs';refine hK _ _ (h κ' Θ' _ w' (hs'.set (t:=t) ht (q5 κ' hnm) fun b hb'=>?_));rw[hr.own hown]at hb';cases hb'
end
end Go.Cx
namespace Go.Cx
open Go.RowKit
section
variable{P:Program}{Γ:vJ}{Q:Exit->St->Prop}{st:St}{κ κ':Nat->Option Value}{Θ Θ':Nat->Nat}{a:Act}{w w':World}{all:Array Oper}{rest:List Oper}
theorem dX.Rk(hs:dX Γ st κ Θ a w)(ms:aX){H':bO}(h1:w'.os=w.os)(h2:w'.tape=w.tape)(h3:w'.output=w.output)(h4:w.heap.size<=w'.heap.size)
 (LU:∀b,b<w.heap.size->(∀m∈ms,Θ b≠m+2)->w'.heap[b]?=w.heap[b]?) (a1X:∀b,b<w.heap.size->(∀m∈ms,Θ b≠m+2)->Θ' b=Θ b) (hown:∀b,Θ' b≠0->b<w'.heap.size)
 (hm:∀b,2<=Θ' b->zo Γ b) (hn:∀(j:Nat) v,κ j=some v->κ' j=some v) (hko:∀i,H'.length<=i->κ' i=none) (hk1:∀(i:Nat) u,κ' i=some u->u.oneCell'=true)
 (zg:∀(j:Nat) y,H'[j]?=some y->y=.gone\/(j∉ms/\st.H[j]?=some y)\/(vZ w' κ' Θ' j y/\y.Ud=false)):dX Γ ⟨st.σ,H'⟩ κ' Θ' a w':=by
 have hs1:=hs.forget ms;have hin:∀b,(ms.any (fun m=>Θ b==m+2))=false->∀m∈ms,Θ b≠m+2:=by
  intro b h m hm' he;have:ms.any (fun m=>Θ b==m+2)=true:=cw.2 ⟨m,hm',by simp[he]⟩;rw[h]at this;cases this
 have hlt2:∀b,(if ms.any (fun m=>Θ b==m+2)then st.H.length+2 else Θ b)≠st.H.length+2->(ms.any (fun m=>Θ b==m+2))=false:=by
  intro b h;cases hc:ms.any (fun m=>Θ b==m+2)with
  |false=>rfl
  |true=>simp[hc]at h
 have kk:iV w w' (fun b=>if ms.any (fun m=>Θ b==m+2)then st.H.length+2 else Θ b) Θ' (st.H.length+2):=by
  refine⟨by omega,h1,h2,h3,h4,fun b hb hne=>LU b hb (hin b (hlt2 b hne)),fun b hb hne=>?_,hown⟩;have hc:=hlt2 b hne;rw[a1X b hb (hin b hc)];simp[hc]
 obtain⟨ρ,hu⟩:=hs1.td;have uI:=hs1.oX kk hn hu;refine hs1.step kk hm hn hko hk1 (fun j y hj=>?_) ⟨ρ,uI.1,fun id e sz rows hj=>?_,fun id y hj=>?_⟩
 ·rcases zg j y hj with h|⟨h,hy⟩|⟨h,_⟩
  ·exact .inl h
  ·have:=(aF.1 hy).1;exact .inr (.inl ⟨by omega,by rw[j7 h];exact hy⟩)
  ·exact .inr (.inr h)
 ·rcases zg id _ hj with h|⟨h,hy⟩|⟨_,h⟩
  ·cases h
  ·have:=(aF.1 hy).1;exact uI.2.1 id e sz rows (by omega) (by rw[j7 h];exact hy)
  ·simp[Ob.Ud]at h
 ·rcases zg id _ hj with h|⟨h,hy⟩|⟨_,h⟩
  ·subst h;trivial
  ·have:=(aF.1 hy).1;exact uI.2.2 id y (by omega) (by rw[j7 h];exact hy)
  ·exact Kj.plain h
theorem Rd.a2p{v:Value}{rows:List aQ}{bs:aX}(h:Rd w v (.sl rows) bs):(∃q c,v=.slice q rows.length c)/\rows.length<=maxLen:=by
 cases h with
 |yC=>exact⟨⟨_,_,rfl⟩,by simp⟩
 |nY=>exact⟨⟨_,_,rfl⟩,by simp⟩
 |sl b off cap sz _ cs bs hb h1 h2=>exact⟨⟨_,_,rfl⟩,by omega⟩
theorem YG{o:Oper}{t T id sz:Nat}{x:Operand}{rows:List aQ}{u:Option Value}(hop:o.op=.call {callee:=.builtin .len,args:= #[x],argTypes:= #[T]})(hd:o.dst=some t)(hg:o.guard=none)(ht:t<Γ.nt)
 (hT:(Ec P T).isSome=true) (hx:st.ev x=.acc id) (hH:st.H[id]?=some (.vp sz rows u)) (h:AO P Γ all rest Q ⟨(t,.int .i64 rows.length)::st.σ,st.H⟩):AO P Γ all (o::rest) Q st:=by
 intro κ Θ a w hs;obtain⟨b1,r1,_⟩:=hs.ev x;rw[hx]at r1;obtain⟨hk,_⟩:=r1.uw;obtain⟨_,_,v,bs,hk2,hrd,_⟩:=hs.ob id _ hH;rw[hk]at hk2;cases hk2;obtain⟨⟨q,c,hv⟩,Bq⟩:=hrd.a2p;obtain⟨⟨e,sz'⟩,hT⟩:=di.1 hT;obtain⟨hu,_,_⟩:=oH hT;refine wpList_plain hg fun K hK=>?_
 unfold Oper.wp;have hrun:(execOp a.eval o).run P w=.ok (.value (.int .i64 rows.length)) w:=by
  simp only[execOp,hop,resolve,invoke,builtin,nr,bH,cD,hv];simp[Builtin.len_,run_underlying hu,goInt]
 rw[hrun,Oper.upon_value,hd];exact hK _ _ (h κ Θ _ w (hs.set (d:=.int .i64 rows.length) (bs:=[]) ht (.of (.int _ _ (OI Bq))) (by simp)))
theorem a0w{o:Oper}{t T id sz e m:Nat}{x i:Operand}{rows:List aQ}{u:Option Value}{k:IntKind}{n:Int}(hop:o.op=.indexAddr T x i)(hd:o.dst=some t)(hg:o.guard=none)(ht:t<Γ.nt)
 (hT:Ec P T=some (e,sz)) (hx:st.ev x=.acc id) (hi:st.ev i=.int k n) (hH:st.H[id]?=some (.vp sz rows u)) (hn:n=(m:Int)) (hm:m<rows.length) (h:AO P Γ all rest Q ⟨(t,.op id m sz 0)::st.σ,st.H⟩):AO P Γ all (o::rest) Q st:=by
 intro κ Θ a w hs;obtain⟨b1,r1,_⟩:=hs.ev x;obtain⟨b2,r2,_⟩:=hs.ev i;rw[hx]at r1;rw[hi]at r2;have hiv:=r2.qP;obtain⟨hk,_⟩:=r1.uw;obtain⟨_,_,v,bs,hk2,hrd,_⟩:=hs.ob id _ hH;rw[hk]at hk2;cases hk2;obtain⟨hu,Jj,Ig⟩:=oH hT;have hsz:=uo (P:=P) Jj w;subst hn;generalize Sq:a.eval x=vx at hrd hk;cases hrd with
 |yC=>simp at hm
 |nY=>simp at hm
 |sl b off cap sz' _ cs bs hb hcap Bq hrl hc sC=>
  have hn':0<=(m:Int)/\(m:Int)<(rows.length:Int):=⟨by omega,by omega⟩
  refine wpList_plain hg fun K hK=>?_
  unfold Oper.wp;have hrun:(execOp a.eval o).run P w=.ok (.value (.pointer (some ⟨b,off+(m*sz+0),none⟩))) w:=by
   simp only[execOp,hop,Sq,hiv];simp[Instr.indexAt,asIntOf,run_underlying hu,hn',hm,hsz,Ig,Addr.add_lit]
  rw[hrun,Oper.upon_value,hd];exact hK _ _ (h κ Θ _ w (hs.set (d:=.op id m sz 0) (bs:=[]) ht (yT.op id m sz 0 b off _ _ hk).Oi (by simp)))
theorem Kn{rows:List aQ}{sz i off:Nat}{r:aQ}{d:D}(hrl:∀r∈rows,r.length=sz)(hr:rows[i]?=some r)(hd:r[off]?=some d):rows.flatten[i*sz+off]?=some d/\off<sz/\i*sz+off<rows.length*sz:=by
 have h1:=hrl r (aD hr);have h2:=(aF.1 hd).1;have hmid:=E0 hrl hr;have hlt:=(aF.1 hr).1;have hle:(i+1)*sz<=rows.length*sz:=dH _ hlt;rw[jd,mI]at hle;refine⟨?_,by omega,by omega⟩;rw[<-hmid,c8,bK (by omega),dO]at hd;exact hd
theorem V2{o:Oper}{t T id i sz off:Nat}{x:Operand}{rows:List aQ}{r:aQ}{d:D}{u:Option Value}(hop:o.op=.load T x)(hd:o.dst=some t)(hg:o.guard=none)(ht:t<Γ.nt)
 (hT:zL P T=some false) (hx:st.ev x=.op id i sz off) (hH:st.H[id]?=some (.vp sz rows u)) (hr:rows[i]?=some r) (hc:r[off]?=some d) (hfl:d.flat=true) (h:AO P Γ all rest Q ⟨(t,d)::st.σ,st.H⟩):AO P Γ all (o::rest) Q st:=by
 intro κ Θ a w hs;obtain⟨b1,r1,_⟩:=hs.ev x;rw[hx]at r1;obtain⟨g,o0,len,YT,hk,hv⟩:=r1.EE;obtain⟨hrl,_,v,bs,hk2,hrd,_⟩:=hs.ob id _ hH;rw[hk]at hk2;cases hk2;obtain⟨hf,_,_⟩:=Kn hrl hr hc;cases hrd with
 |nY=>simp at hr
 |sl _ _ _ sz' _ cs ns hb hcap Bq KX hcs sC=>
  obtain⟨c,b',h1,h2,h3,h4⟩:=sC.at hf;have L:=oV (P:=P) (w:=w) hT (o:=i*sz+off) hcs;have hb':=h3.flat hfl;subst hb';refine wpList_plain hg fun K hK=>?_
  unfold Oper.wp;have hrun:(execOp a.eval o).run P w=.ok (.value c) w:=by
   simp only[execOp,hop,hv];simp[L.2 rfl c h1]
  rw[hrun,Oper.upon_value,hd];exact hK _ _ (h κ Θ _ w (hs.set (d:=d) (bs:=[]) ht (.of h3) (by simp)))
theorem kz.a4f{vs:bZ}{ds:aQ}{bs:aX}(h:kz w vs ds bs){p:Nat}{d:D}(hd:ds[p]?=some d):
 ∃c b1 b2 b3,vs[p]?=some c/\c.oneCell'=true/\Rd w c d b2/\bs=b1++(b2++b3)/\∀(e:D) (b4:aX),Rd w c e b4->kz w vs (ds.set p e) (b1++(b4++b3)):=by
 obtain⟨l,r,rfl,hl⟩:=NI hd;obtain⟨v1,v2,c1,c2,rfl,rfl,k1,k2⟩:=h.split;cases k2 with
 |cons c vs _ _ b2 b3 h1 h2 h3=>
  have hl1:v1.length=p:=by rw[k1.length];exact hl
  refine⟨c,c1,b2,b3,by rw[b7 (by omega),hl1];simp,h1,h2,rfl,fun e b4 he=>?_⟩;have e1:(l++d::r).set p e=l++e::r:=by rw[oa _ _ (by omega),hl];simp
  rw[e1];exact k1.app (.cons _ _ _ _ _ _ h1 he h3)
theorem IY{rows:List aQ}{sz i off:Nat}{r:aQ}{d e:D}(hrl:∀r∈rows,r.length=sz)(hr:rows[i]?=some r)(hd:r[off]?=some d):(rows.set i (r.set off e)).flatten=rows.flatten.set (i*sz+off) e:=by
 have hlt:=(aF.1 hd).1;have h1:=hrl r (aD hr);have:=E1 (rows:=rows) (sz:=sz) (i:=i) (off:=off) (row:=r) (ds:=[e]) hrl hr (by simp;omega);have e1:r.set off e=r.take off++[e]++r.drop (off+[e].length):=by
  apply mT;intro j;rw[fX];simp only[cq,CC,aY,bX,cm];by_cases hj:j<off
  ·rw[b8 (by omega),au (by simp;omega),c8,bK hj]
  ·rw[b7 (by simp;omega),cA,eX (by omega)];by_cases he:off=j
   ·subst he;simp[hlt]
   ·rw[b8 he];obtain⟨m,hm⟩:∃m,j-off=m+1:=⟨j-off-1,by omega⟩
    rw[hm,fO,dO]
    congr 1;omega
 rw[e1,this];have hfl:=nk hrl;obtain⟨hf,_,hlt2⟩:=Kn hrl hr hd;apply mT;intro j;rw[fX];simp only[cq,CC,aY,bX,cm];by_cases hj:j<i*sz+off
 ·rw[b8 (by omega),au (by rw[cA];omega),c8,bK hj]
 ·rw[b7 (by rw[cA];omega),cA,eX (by omega)];by_cases he:i*sz+off=j
  ·subst he;rw[bK rfl,bK (by omega),nT];rfl
  ·rw[b8 he];obtain⟨m,hm⟩:∃m,j-(i*sz+off)=m+1:=⟨j-(i*sz+off)-1,by omega⟩
   rw[hm,fO,dO]
   congr 1;omega
theorem Kt{rows:List aQ}{sz i:Nat}{r:aQ}(hrl:∀r∈rows,r.length=sz)(hr:r.length=sz):∀x∈rows.set i r,x.length=sz:=by
 intro x hx;rcases zO hx with hx|rfl
 ·exact hrl x hx
 ·exact hr
theorem V4{o:Oper}{t T id i sz off Rr:Nat}{x:Operand}{rows fI:List aQ}{r:aQ}{u:Option Value}(hop:o.op=.load T x)(hd:o.dst=some t)(hg:o.guard=none)(ht:t<Γ.nt)
 (hT:zL P T=some false) (hx:st.ev x=.op id i sz off) (hH:st.H[id]?=some (.vp sz rows u)) (hr:rows[i]?=some r) (hc:r[off]?=some (.sl fI)) (h2:∀q∈fI,q.length=Rr)
 (h:AO P Γ all rest Q ⟨(t,.acc st.H.length)::st.σ,st.H.set id (.hole sz (rows.set i (r.set off .any)) u (i*sz+off) st.H.length)++[.vp Rr fI none]⟩):AO P Γ all (o::rest) Q st:=by
 intro κ Θ a w hs;obtain⟨b1,r1,_⟩:=hs.ev x;rw[hx]at r1;obtain⟨g,o0,len,YT,hk,hv⟩:=r1.EE;obtain⟨hrl,Yn,v,bs,hk2,hrd,hnd,E5⟩:=hs.ob id _ hH;rw[hk]at hk2;cases hk2;obtain⟨hf,hoff,_⟩:=Kn hrl hr hc;cases hrd with
 |nY=>simp at hr
 |sl _ _ _ sz' _ cs ns hb hcap Bq KX hcs sC=>
  obtain⟨c,c1,c2,c3,h1,h1c,h3,rfl,om⟩:=sC.a4f hf;have L:=oV (P:=P) (w:=w) hT (o:=i*sz+off) hcs;have a3j:id<st.H.length:=(aF.1 hH).1;have hnew:=om .any [] (.any c);have Ib:=hnd;simp only[eW,af,GD]at Ib;obtain⟨⟨hg1,hg2,hg3⟩,Jl⟩:=Ib;obtain⟨n1,n2,n3⟩:=bJ.1 Jl;obtain⟨n4,n5,n6⟩:=bJ.1 n2;let Θ':Nat->Nat:=fun b=>if b∈c2 then st.H.length+2 else Θ b
  have hs':dX Γ ⟨st.σ,st.H.set id (.hole sz (rows.set i (r.set off .any)) u (i*sz+off) st.H.length)++[.vp Rr fI none]⟩ (xT κ st.H.length (some c)) Θ' a w:=by
   have hn:=wk (hs.pX _ (bN _)) (some c);have MZ:∀b∈c2,Θ b=id+2:=fun b hb'=>(E5 b (by simp[hb'])).1
   refine hs.Rk [id] rfl rfl rfl (bN _) (fun _ _ _=>rfl) (fun b _ hne=>?_) (fun b hb'=>?_) (fun b hb'=>?_) hn (fun j hj=>?_) (fun j y hy=>?_) (fun j y hj=>?_)
   ·simp only[Θ'];rw[b8];intro hin;exact hne id (by simp) (MZ b hin)
   ·simp only[Θ']at hb';split at hb'
    ·rename_i hin;exact hs.own b (by rw[MZ b hin];omega)
    ·exact hs.own b hb'
   ·simp only[Θ']at hb';split at hb'
    ·rename_i hin;exact hs.mine b (by rw[MZ b hin];omega)
    ·exact hs.mine b hb'
   ·simp only[bB,oo,aY,bX]at hj;unfold xT;rw[b8 (by omega)];exact hs.pX j (by omega)
   ·unfold xT at hy;split at hy
    ·cases hy;exact h1c
    ·exact hs.ol j y hy
   ·rcases B4 j y hj with⟨hjl,rfl⟩|⟨hjl,hy⟩
    ·right;right
     have hjn:j=st.H.length:=by rw[hjl];simp
     subst hjn;refine⟨⟨h2,by simp,c,c2,kO _ _ _,h3,n4,fun b hb'=>⟨by simp[Θ',hb'],(E5 b (by simp[hb'])).2⟩⟩,rfl⟩
    ·rcases yP j y hy with⟨rfl,rfl⟩|⟨hne,hy'⟩
     ·right;right
      refine⟨⟨Kt hrl (by rw[oo];exact hrl r (aD hr)),fun z hz=>hn _ _ (Yn z hz),_,g::(c1++([]++c3)),hn _ _ hk,⟨g,o0,YT,cs,c1++([]++c3),by simp,hb,by simpa using hcap,Bq,hcs,?_,rfl,c,h1,kO _ _ _⟩,?_,fun b hb'=>?_⟩,rfl⟩
      ·rw[IY hrl hr hc];exact hnew
      ·simp only[cT,eW,af,GD];exact⟨⟨hg1,hg3⟩,bJ.2 ⟨n1,n5,fun x hx y hy e=>n3 x hx y (by simp[hy]) e⟩⟩
      ·have hbm:b∈g::(c1++(c2++c3)):=by
        simp only[cT,bI,af]at hb'⊢;rcases hb' with h|h|h<;>simp[h]
       refine⟨?_,(E5 b hbm).2⟩;simp only[Θ'];rw[b8,(E5 b hbm).1];intro hin;simp only[cT,bI,af]at hb';rcases hb' with h|h|h
       ·subst h;exact hg2 hin
       ·exact n3 b h b (by simp[hin]) rfl
       ·exact n6 b hin b h rfl
     ·exact .inr (.inl ⟨by simpa using hne,hy'⟩)
  refine wpList_plain hg fun K hK=>?_
  unfold Oper.wp;have hrun:(execOp a.eval o).run P w=.ok (.value c) w:=by
   simp only[execOp,hop,hv];simp[L.2 rfl c h1]
  rw[hrun,Oper.upon_value,hd];exact hK _ _ (h _ _ _ w (hs'.set (d:=.acc st.H.length) (bs:=[]) ht (yT.acc st.H.length c (kO _ _ _)).Oi (by simp)))
theorem V3{id n i sz off Rr:Nat}{rows fI:List aQ}{r:aQ}{d:D}{u u2:Option Value}(hH:st.H[id]?=some (.hole sz rows u (i*sz+off) n))(hN:st.H[n]?=some (.vp Rr fI u2))(hr:rows[i]?=some r)(hc:r[off]?=some d)
 (h:AO P Γ all rest Q ⟨st.σ,(st.H.set n .gone).set id (.vp sz (rows.set i (r.set off (.sl fI))) u)⟩):AO P Γ all rest Q st:=by
 intro κ Θ a w hs;obtain⟨hrl,Yn,v,bs,hk,⟨b,o0,cap,cs,ns,rfl,h1,h2,h3,h4,h5,rfl,c,h6,h7⟩,hnd,E5⟩:=hs.ob id _ hH;obtain⟨a9e,_,v2,Y1,hk2,a7E,a73,VX⟩:=hs.ob n _ hN;rw[h7]at hk2;cases hk2;obtain⟨hf,hoff,_⟩:=Kn hrl hr hc;obtain⟨c',c1,c2,c3,q1,q1c,q3,rfl,om⟩:=h5.a4f hf;rw[h6]at q1;cases q1;have hnew:=om (.sl fI) Y1 a7E;have hne:n≠id:=fun e=>by subst e;rw[hH]at hN;cases hN
 have a3j:id<st.H.length:=(aF.1 hH).1;have Ib:=hnd;simp only[eW,af,GD]at Ib;obtain⟨⟨hg1,hg2,hg3⟩,Jl⟩:=Ib;obtain⟨n1,n2,n3⟩:=bJ.1 Jl;obtain⟨n4,n5,n6⟩:=bJ.1 n2;have a1N:∀x∈Y1,∀y∈b::(c1++(c2++c3)),x≠y:=by
  intro x hx y hy e;subst e;have e1:=(VX x hx).1;have e2:=(E5 x hy).1;omega
 let Θ':Nat->Nat:=fun x=>if x∈Y1 then id+2 else if Θ x=n+2 then 1 else Θ x
 refine h κ Θ' a w (hs.Rk [id,n] rfl rfl rfl (bN _) (fun _ _ _=>rfl) (fun x _ hnx=>?_) (fun x hx=>?_) (fun x hx=>?_) (fun _ _ h=>h) (fun j hj=>hs.pX j (by simpa using hj)) hs.ol (fun j y hj=>?_))
 ·simp only[Θ'];rw[b8 (fun hin=>hnx n (by simp) (VX x hin).1),b8 (hnx n (by simp))]
 ·simp only[Θ']at hx;split at hx
  ·rename_i hin;exact hs.own x (by rw[(VX x hin).1];omega)
  ·split at hx
   ·rename_i he;exact hs.own x (by rw[he];omega)
   ·exact hs.own x hx
 ·simp only[Θ']at hx;split at hx
  ·rename_i hin;exact hs.mine x (by rw[(VX x hin).1];omega)
  ·split at hx
   ·omega
   ·exact hs.mine x hx
 ·rcases yP j y hj with⟨rfl,rfl⟩|⟨Fz,hy⟩
  ·right;right
   refine⟨⟨Kt hrl (by rw[oo];exact hrl r (aD hr)),Yn,_,b::(c1++(Y1++c3)),hk,?_,?_,fun x hx=>?_⟩,rfl⟩
   ·have hl:(rows.set i (r.set off (.sl fI))).length=rows.length:=by simp
    have:=Rd.sl (w:=w) b o0 cap sz (rows.set i (r.set off (.sl fI))) cs (c1++(Y1++c3)) h1 (by rw[hl];exact h2) h3 (Kt hrl (by rw[oo];exact hrl r (aD hr))) h4 (by rw[IY hrl hr hc];exact hnew);rw[hl]at this;exact this
   ·simp only[eW,af,GD];refine⟨⟨hg1,fun hin=>a1N b hin b (by simp) rfl,hg3⟩,bJ.2 ⟨n1,bJ.2 ⟨a73,n5,fun x hx y hy e=>a1N x hx y (by simp[hy]) e⟩,fun x hx y hy e=>?_⟩⟩;rcases af.1 hy with hy|hy
    ·exact a1N y hy x (by simp[hx]) e.symm
    ·exact n3 x hx y (by simp[hy]) e
   ·by_cases hin:x∈Y1
    ·exact⟨by simp[Θ',hin],(VX x hin).2⟩
    ·have hbm:x∈b::(c1++(c2++c3)):=by
      simp only[bI,af]at hx⊢;rcases hx with h|h|h|h
      ·simp[h]
      ·simp[h]
      ·exact absurd h hin
      ·simp[h]
     refine⟨?_,(E5 x hbm).2⟩;have e1:=(E5 x hbm).1;simp only[Θ'];rw[b8 hin,b8 (by omega),e1]
  ·rcases yP j y hy with⟨rfl,rfl⟩|⟨hj2,hy'⟩
   ·exact .inl rfl
   ·exact .inr (.inl ⟨by simp[Fz,hj2],hy'⟩)
theorem kz.setCells{vs:bZ}{ds es:aQ}{us:bZ}{bs:aX}(h:kz w vs ds bs)(p:Nat)(hp:p+es.length<=ds.length)(hu:kz w us es []):
 ∃b',kz w (vs.take p++us++vs.drop (p+us.length)) (ds.take p++es++ds.drop (p+es.length)) b'/\(∀b∈b',b∈bs)/\(bs.Nodup->b'.Nodup):=by
 have e:ds=ds.take p++((ds.drop p).take es.length++(ds.drop p).drop es.length):=by rw[bp,bp]
 rw[e]at h;obtain⟨v1,v2,b1,b2,rfl,rfl,k1,k2⟩:=h.split;obtain⟨v3,v4,b3,b4,rfl,rfl,k3,k4⟩:=k2.split;have l1:v1.length=p:=by rw[k1.length];simp;omega
 have l3:v3.length=es.length:=by rw[k3.length];simp;omega
 have lu:=hu.length;have t1:(v1++(v3++v4)).take p=v1:=iA l1;have t2:(v1++(v3++v4)).drop (p+us.length)=v4:=by
  rw[<-gH,fM l1,lu,fM l3]
 rw[t1,t2];rw[gH]at k4;refine⟨b1++[]++b4,(k1.app hu).app k4,fun b hb=>?_,fun hnd=>?_⟩
 ·simp only[dA,af]at hb⊢;rcases hb with h|h<;>simp[h]
 ·obtain⟨n1,n2,n3⟩:=bJ.1 hnd;obtain⟨_,n5,_⟩:=bJ.1 n2;simp only[dA];exact bJ.2 ⟨n1,n5,fun x hx y hy e=>n3 x hx y (by simp[hy]) e⟩
theorem TT{o:Oper}{T id i sz off:Nat}{x y:Operand}{rows:List aQ}{r ds:aQ}{u:Option Value}(hop:o.op=.store T x y)(hd:o.dst=none)(hg:o.guard=none)
 (hx:st.ev x=.op id i sz off) (hH:st.H[id]?=some (.vp sz rows u)) (hr:rows[i]?=some r) (hc:(st.ev y).cellsOf=some ds) (hfl:ds.all D.flat=true) (hT:Og P T=true) (hl:ds.length=yX P T) (hpos:0<ds.length) (hfit:off+ds.length<=sz)
 (h:AO P Γ all rest Q ⟨st.σ,st.H.set id (.vp sz (rows.set i (r.take off++ds++r.drop (off+ds.length))) u)⟩):AO P Γ all (o::rest) Q st:=by
 intro κ Θ a w hs;obtain⟨b1,r1,_⟩:=hs.ev x;obtain⟨b2,r2,_⟩:=hs.ev y;rw[hx]at r1;obtain⟨g,o0,len,YT,hk,hv⟩:=r1.EE;obtain⟨hrl,Yn,v,bs,hk2,hrd,hnd,E5⟩:=hs.ob id _ hH;rw[hk]at hk2;cases hk2;have VZ:=AT hs.ol r2 hc;have hl1:=VZ.length;have a6m:ds.all D.Ow=true:=by
  rw[ay]at hfl⊢;intro d HW;have:=hfl d HW;cases d<;>first|rfl| (simp[D.flat]at this)
 have hcp:=VZ.pure a6m;have Sl:=hcp.flat hfl;subst Sl;have hrow:=hrl r (aD hr);have hilt:=(aF.1 hr).1;have a1O:(i+1)*sz<=rows.length*sz:=dH _ hilt;rw[jd,mI]at a1O;cases hrd with
 |nY=>simp at hr
 |sl _ _ _ sz' _ cs ns hb hcap Bq KX hcs sC=>
  obtain⟨hgT,hgw⟩:=E5 g (by simp);obtain⟨cur,Tb,Y3⟩:=hgw;have a3f:=nk hrl;have hcl:cs.length=rows.length*sz:=by rw[sC.length,a3f]
  have LW:∀j c,cs[j]?=some c->cur[o0+j]?=some c:=by
   intro j c hj;have:=hcs j c hj;simpa[World.cell?,Y3]using this
  have a3e:o0+(i*sz+off)+(a.eval y).cells.size<=cur.size:=by
   have e1:(a.eval y).cells.size=ds.length:=by rw[<-hl1];simp
   rw[e1];have:=LW (i*sz+off+ds.length-1) cs[i*sz+off+ds.length-1] (aa (by omega));have:=(bG.1 this).1;omega
  have a1d:(a.eval y).cells.size=yX P T:=by rw[<-hl,<-hl1];simp
  have hst:=EI (P:=P) (T:=T) (off:=o0+(i*sz+off)) Y3 a1d (di.1 hT) a3e VZ.one;have hne:(a.eval y).cells.toList.length=ds.length:=hl1;let KR:Array Value:=(cur.toList.take (o0+(i*sz+off))++(a.eval y).cells.toList++cur.toList.drop (o0+(i*sz+off)+(a.eval y).cells.toList.length)).toArray
  have hw':∀x,x≠g->(w.setRow g KR).heap[x]?=w.heap[x]?:=fun x hx=>setRow_other w g x _ hx
  have hsame:∀x,x<w.heap.size->(∀m∈[id],Θ x≠m+2)->(w.setRow g KR).heap[x]?=w.heap[x]?:=fun x _ hx=>hw' x (fun e=>hx id (by simp) (by rw[e];exact hgT))
  simp only[eW]at hnd;have a7H:kz (w.setRow g KR) cs rows.flatten ns:=sC.keep fun b hb'=>hw' b (fun e=>hnd.1 (e▸hb'))
  have a6c:kz (w.setRow g KR) (a.eval y).cells.toList ds []:=hcp.keep (by simp);obtain⟨ns',q1,q2,q3⟩:=a7H.setCells (i*sz+off) (by rw[a3f];omega) a6c;have hfs:=E1 (ds:=ds) (off:=off) hrl hr hfit;have hl4:(rows.set i (r.take off++ds++r.drop (off+ds.length))).length=rows.length:=by simp
  have a3y:∀z∈rows.set i (r.take off++ds++r.drop (off+ds.length)),z.length=sz:=Kt hrl (by simp;omega);have hcell:∀j c,(cs.take (i*sz+off)++(a.eval y).cells.toList++cs.drop (i*sz+off+(a.eval y).cells.toList.length))[j]?=some c->(w.setRow g KR).cell? ⟨g,o0+j,none⟩=some c:=by
   intro j c hj;have hgh:(w.setRow g KR).heap[g]?=some (.cells KR Tb (0,0)):=setRow_heap w g cur _ Tb _ Y3;simp only[World.cell?,hgh];show KR[o0+j]?=some c;simp only[KR,lE,cq]at hj⊢;have hcz:o0+(i*sz+off)<=cur.toList.length:=by simp;omega
   by_cases Fz:j<i*sz+off
   ·rw[au (by simp;omega),c8,bK Fz]at hj;rw[au (by rw[cA];omega),c8,bK (by omega)];have:=LW j c hj;simpa using this
   ·rw[b7 (by rw[cA];omega),cA,eX (by omega)]at hj;rw[b7 (by rw[cA];omega),cA,eX hcz];rw[show o0+j-(o0+(i*sz+off))=j-(i*sz+off)from by omega];by_cases hj2:j-(i*sz+off)<(a.eval y).cells.toList.length
    ·rw[au hj2]at hj⊢;exact hj
    ·rw[b7 (by omega),dO]at hj⊢;have:=LW _ c hj;rw[<-sV]at this;rw[<-this];congr 1;omega
  refine wpList_plain hg fun K hK=>?_
  unfold Oper.wp;have hrun:(execOp a.eval o).run P w=.ok .skip (w.setRow g KR):=by
   simp only[execOp,hop,hv];simp[hst,KR]
  rw[hrun,Oper.upon_skip,hd];refine hK _ _ (h κ Θ _ _ (hs.Rk [id] rfl rfl rfl (by simp) hsame (fun _ _ _=>rfl) (fun b hb'=>by simpa using hs.own b hb') hs.mine (fun _ _ h=>h) (fun j hj=>hs.pX j (by simpa using hj)) hs.ol (fun j z hj=>?_)));rcases yP j z hj with⟨rfl,rfl⟩|⟨Fz,hz⟩
  ·right;right
   refine⟨⟨a3y,Yn,_,g::ns',hk,?_,?_,fun b hb'=>?_⟩,rfl⟩
   ·have:=Rd.sl (w:=w.setRow g KR) g o0 YT sz (rows.set i (r.take off++ds++r.drop (off+ds.length))) _ ns' (by simpa using hb) (by rw[hl4];exact hcap) Bq a3y hcell (by rw[hfs];exact q1);rw[hl4]at this;exact this
   ·simp only[eW];exact⟨fun hin=>hnd.1 (q2 g hin),q3 hnd.2⟩
   ·rcases bI.1 hb' with rfl|hin
    ·exact⟨hgT,⟨_,Tb,setRow_heap w b cur _ Tb _ Y3⟩⟩
    ·have hm:=E5 b (by simp[q2 b hin]);refine⟨hm.1,?_⟩;obtain⟨xs,T',hxs⟩:=hm.2;exact⟨xs,T',(hw' b (fun e=>hnd.1 (e▸q2 b hin))).trans hxs⟩
  ·exact .inr (.inl ⟨by simpa using Fz,hz⟩)
end
end Go.Cx
namespace Go.Cx
open Go.RowKit
def Fq(P:Program)(f:FuncId)(ds:aQ)(e sz:Nat)(rows cv:List aQ):Prop:=
 (∃fn,P.funcs[f]?=some fn/\fn.body.isSome=true/\(fn.name== "runtime.NumGoroutine")=false)/\
 ∀(w:World) (κ:Nat->Option Value) (args:bZ) (v:Value) (cs:bZ),Nk w (fun b=>v.ownBlock=some b)->args.length=ds.length->(∀(i:Nat) d,ds[i]?=some d->∃u,args[i]?=some u/\rD w κ u d [])->
  κ 0=some v->(∀i,1<=i->κ i=none)->v.oneCell'=true->0<sz->(∀r∈rows,r.length=sz)->w.ownsRow 0 e sz v rows.length cs->kz w cs rows.flatten []->
  Calls P f args.toArray w (fun x w'=>∃v' cs',x=.returned v'/\v'.oneCell'=true/\(∀r∈cv,r.length=sz)/\w'.ownsRow 0 e sz v' cv.length cs'/\kz w' cs' cv.flatten []/\(∀g,v'.ownBlock=some g->w.heap.size<=g\/v.ownBlock=some g)/\
   w'.os=w.os/\w'.tape=w.tape/\w'.output=w.output/\w.heap.size<=w'.heap.size/\∀b,b<w.heap.size->v.ownBlock≠some b->w'.heap[b]?=w.heap[b]?)
section
variable{P:Program}{Γ:vJ}{Q:Exit->St->Prop}{st:St}{κ κ':Nat->Option Value}{Θ Θ':Nat->Nat}{a:Act}{w w':World}{all:Array Oper}{rest:List Oper}
theorem Qm.out{fn:Func}{d:D}{e:Exit}{a':Act}{w':World}{Rp:St}{κ0:Nat->Option Value}{Θ0:Nat->Nat}(hs0:dX Γ Rp κ0 Θ0 a' w')(hrq:Qm P fn d e Rp):
 (e=.ret\/e=.normal)/\a'.defers=[]/\SK Γ w'/\∃v bs ts us,(results fn a'.tmps).run P w'=.ok v w'/\BL w' v d bs ts us/\∀b∈ts,zo Γ b:=by
 obtain⟨KW,nz,Zz,es,ms,qs,hres,hrv,O0,LZ,rfl⟩:=hrq;obtain⟨ρ0,hu0⟩:=hs0.td;have Fj:=zj hrv;obtain⟨Θ1,ρ1,hs1,hu1,hm1,Pn,Vl⟩:=dX.Kr ms hs0 hu0 O0 (fun m hm=>by
  obtain⟨e,sz,rows,hH⟩:=Fj.1 m hm;exact⟨_,e,sz,rows,hH,rfl⟩)
 obtain⟨vs,bs',m1,m2,m3,m4,m5⟩:=Jp hs0 hres;have hq:∀m e sz rows,Rp.H[m]?=some (.row .uq e sz rows)->∃v cs ns,κ0 m=some v/\0<sz/\(∀r∈rows,r.length=sz)/\w'.ownsRow 0 e sz v rows.length cs/\kz w' cs rows.flatten ns/\ns.Nodup/\(∀b∈ns,ρ1 b=m+1)/\∀g,v.ownBlock=some g->Θ1 g=m+2:=by
  intro m e sz rows hH;have hnm:m∉ms:=fun hm=>by
   obtain⟨e',sz',cv,HJ⟩:=Fj.1 m hm;rw[hH]at HJ;cases HJ
  have Qe:(kill Rp.H ms)[m]?=some (.row .uq e sz rows):=by rw[j7 hnm];exact hH
  obtain⟨v,cs,ns,r1,r2,r3,r4,r5⟩:=hu1.rows m e sz rows Qe;obtain⟨p1,p2,v2,_,_,p3,_,_,p4,_⟩:=hs1.ob m _ Qe;rw[r1]at p3;cases p3;exact⟨v,cs,ns,r1,p1,p2,r2,r3,r4,r5,p4⟩
 obtain⟨c,ts,us,K5,Ie⟩:=EY (w:=w') (vs:=vs) (fun b hb=>(hu1.free b hb).1) hq hs0.ol hrv LZ (by omega) (fun i d hd=>by
  obtain⟨v,b,k1,k2,k3⟩:=m4 i d hd;exact⟨v,b,k1,k2,fun x hx=>Pn x (m5 x (k3 x hx))⟩) hm1
 have LX:∃v,(results fn a'.tmps).run P w'=.ok v w'/\BL w' v (KC es) c ts us:=by
  have hrun:(results fn a'.tmps).run P w'=.ok (if h:vs.toArray.size=1 then vs.toArray[0]else .tuple vs.toArray) w':=by
   rw[results_eq,uD];simp[m1]
  cases K5 with
  |nil=>exact⟨.tuple #[],by simpa using hrun,.hY [] [] [] [] [] .nil⟩
  |cons v vs d es b1 b2 t1 t2 u1 u2 hv um=>
   cases um with
   |nil=>
    simp only[dA];exact⟨v,by simpa using hrun,.v hv⟩
   |cons v2 vs d2 es b3 b4 t3 t4 u3 u4 Pm um=>exact⟨.tuple (v::v2::vs).toArray,by simpa using hrun,.hY _ _ _ _ _ (.cons _ _ _ _ _ _ _ _ _ _ hv (.cons _ _ _ _ _ _ _ _ _ _ Pm um))⟩
 obtain⟨v,Vm,RM⟩:=LX;refine⟨KW,hs0.defers,hs0.stays,v,c,ts,us,Vm,RM,fun b hb'=>?_⟩;obtain⟨⟨m,hm,hΘ⟩,_⟩:=Ie.top b hb';exact hs1.mine b (by omega)
theorem Fq.of{f:FuncId}{fn:Func}{c:Code}{ds:aQ}{e sz:Nat}{rows cv:List aQ}(hf:P.funcs[f]?=some fn)(hb:fn.body=some c)(hn:(fn.name== "runtime.NumGoroutine")=false)
 (hl:ds.length<=fn.ntmps) (hfl:cv.flatten.all D.flat=true) (h:rows.length<=maxLen->∀Γ:vJ,Γ.nt=fn.ntmps->AW P Γ c (Qm P fn (.fr e sz cv)) ⟨C3 0 ds,[.row .uq e sz rows]⟩):Fq P f ds e sz rows cv:=by
 refine⟨⟨fn,hf,by simp[hb],hn⟩,?_⟩;intro w κ args v cs RO hlen hargs hk0 hk1 hone hsz hrl hown hrd;refine calls_of_wp hf hb ?_;let Θ:Nat->Nat:=fun b=>if v.ownBlock=some b then 2 else if b<w.heap.size then 1 else 0
 let Γ:vJ:=⟨w,Θ,fun b=>v.ownBlock=some b,fn.ntmps,fun _=>False,RO⟩
 have hlt:∀b,v.ownBlock=some b->b<w.heap.size:=fun b hb'=>(hown.lt b hb').2
 have Bq:rows.length<=maxLen:=(eN.sl ⟨w,v,_,vG hrl hown hrd⟩).1;have hs:dX Γ ⟨C3 0 ds,[.row .uq e sz rows]⟩ κ Θ {tmps:=args.toArray++Array.replicate (fn.ntmps-args.toArray.size) undef,defers:=[]} w:=by
  refine⟨rfl,?_,fun i hi=>hk1 i (by simpa using hi),?_,?_,?_,?_,?_,?_,⟨rfl,rfl,rfl,bN _,fun _ _ _=>rfl⟩,⟨fun _=>0,by simp,?_,?_⟩⟩
  ·simp[Γ];omega
  ·intro id u hu;rcases Nat.eq_zero_or_pos id with rfl|hp
   ·rw[hk0]at hu;cases hu;exact hone
   ·rw[hk1 id hp]at hu;cases hu
  ·intro t;rw[Lp];simp only[C0,Cw,BG];cases hd:ds[t]? with
   |none=>exact⟨[],.of (.any _),by simp⟩
   |some x=>
    obtain⟨u,k1,k2⟩:=hargs t x hd;refine⟨[],?_,by simp⟩;have hlt:t<args.length:=(aF.1 k1).1;have:(args.toArray++Array.replicate (fn.ntmps-args.toArray.size) undef).getD t undef=u:=by
     rw[cE,gZ (by simpa using hlt)];simp[k1]
    rw[this];exact k2
  ·intro j o hj;cases j with
   |zero=>
    simp at hj;subst hj;exact⟨hsz,hrl,v,cs,[],hk0,hown,hrd,fun g hg=>by simp only[Θ];rw[bK hg],by simp⟩
   |succ j=>simp at hj
  ·intro b hb';simp only[Θ]at hb';split at hb'
   ·rename_i hv;exact hlt b hv
   ·split at hb'
    ·assumption
    ·exact absurd rfl hb'
  ·intro b hb' hx;refine⟨rfl,?_⟩;have hx':¬v.ownBlock=some b:=hx;simp only[Θ];rw[b8 hx'];split<;>omega
  ·intro b hb';simp only[Θ]at hb';split at hb'
   ·rename_i hv;exact .inr hv
   ·split at hb'<;>omega
  ·intro id e' sz' fI hj;cases id with
   |zero=>
    simp at hj;obtain⟨rfl,rfl,rfl⟩:=hj;exact⟨v,cs,[],hk0,hown,hrd,by simp,by simp⟩
   |succ j=>simp at hj
  ·intro id o hj;cases id with
   |zero=>simp at hj;subst hj;exact Kj.zG rfl
   |succ j=>simp at hj
 refine wp_mono (h Bq Γ rfl _ _ _ _ hs) ?_;rintro x a' w' ⟨Rp,κ0,Θ0,hs0,hrq⟩;obtain⟨KW,hdf,hst,u,bs,ts,us,hrun,hres,NB⟩:=Qm.out hs0 hrq;have LX:∃u cs',(results fn a'.tmps).run P w'=.ok u w'/\u.oneCell'=true/\(∀r∈cv,r.length=sz)/\w'.ownsRow 0 e sz u cv.length cs'/\kz w' cs' cv.flatten []/\(∀g,u.ownBlock=some g->w.heap.size<=g\/v.ownBlock=some g)/\
  w'.os=w.os/\w'.tape=w.tape/\w'.output=w.output/\w.heap.size<=w'.heap.size/\∀b,b<w.heap.size->v.ownBlock≠some b->w'.heap[b]?=w.heap[b]?:=by
  cases hres with
  |v hv=>
   cases hv with
   |cell hc=>
    cases hc with
    |pure hc=>cases hc
    |fr _ _ _ cs' ns h1 h2 h3 h4 h5=>
     have:=h4.flat hfl;subst this;exact⟨u,cs',hrun,h5,h2,h3,h4,fun g hg=>NB g (by simp[hg]),hst.os,hst.tape,hst.output,hst.size,fun b hb' hx=>hst.block b hb' hx⟩
 obtain⟨u,cs',q1,q2⟩:=LX;have post:a'.defers=[]/\∃v',(results fn a'.tmps).run P w'=.ok v' w'/\∃v2 cs2,Ending.returned v'=.returned v2/\v2.oneCell'=true/\(∀r∈cv,r.length=sz)/\w'.ownsRow 0 e sz v2 cv.length cs2/\kz w' cs2 cv.flatten []/\(∀g,v2.ownBlock=some g->w.heap.size<=g\/v.ownBlock=some g)/\
  w'.os=w.os/\w'.tape=w.tape/\w'.output=w.output/\w.heap.size<=w'.heap.size/\∀b,b<w.heap.size->v.ownBlock≠some b->w'.heap[b]?=w.heap[b]?:=⟨hdf,u,q1,u,cs',rfl,q2⟩
 rcases KW with rfl|rfl
 ·exact post
 ·exact post
theorem Uz{o:Oper}{f t id:Nat}{xs:Array Operand}{ts:Array TypeId}{e sz:Nat}{rows cv:List aQ}(hop:o.op=.call {callee:=.value (.func f),args:=xs,argTypes:=ts})(hd:o.dst=some t)(hg:o.guard=none)
 (ht:t<Γ.nt) (hH:st.H[id]?=some (.row .uq e sz rows)) (hfl:rows.flatten.all D.flat=true) (hb:((xs.toList.map st.ev).all D.bare)=true) (nq:Fq P f ((xs.toList.map st.ev).map (D.T4 [id])) e sz rows cv)
 (h:AO P Γ all rest Q ⟨(t,.acc st.H.length)::st.σ,kill st.H [id]++[.row .uq e sz cv]⟩):AO P Γ all (o::rest) Q st:=by
 intro κ Θ a w hs;obtain⟨hsz,hrl,v,cs,bs,hk,hown,hrd,E7,_⟩:=hs.ob id _ hH;have E5:=hrd.flat hfl;subst E5;have Tx:id<st.H.length:=(aF.1 hH).1;let κc:Nat->Option Value:=fun j=>if j=0 then some v else none
 have RO:Nk w fun b=>v.ownBlock=some b:=by
  obtain⟨B,v1,v2⟩:=hs.vsb;refine⟨B,v1,fun b hB=>⟨(v2 b hB).2.1,fun hb'=>?_⟩⟩;have e1:=E7 b hb';rcases hs.mine b (by omega)with q|q
  ·have:=(v2 b hB).1;omega
  ·exact(v2 b hB).2.2 q
 have hargs:∀(i:Nat) d,((xs.toList.map st.ev).map (D.T4 [id]))[i]?=some d->∃u,(xs.toList.map a.eval)[i]?=some u/\rD w κc u d []:=by
  intro i d HW;rw[bg,bg]at HW;cases hx:xs.toList[i]? with
  |none=>rw[hx]at HW;cases HW
  |some x=>
   rw[hx]at HW;simp only[cM,ar]at HW;subst HW;refine⟨a.eval x,by rw[bg,hx];rfl,?_⟩;obtain⟨bs,r,hz⟩:=hs.ev x;have VW:(st.ev x).bare=true:=ay.1 hb _ (cB.2 ⟨x,aD hx,rfl⟩);obtain⟨b',r',_⟩:=rD.rn (o:=[id]) (κ':=κc) (Θ:=fun _=>0) (Θ':=fun _=>0) (fun i j u h1 h2=>by
    have h3:=OO h1;cases j with
    |zero=>simp at h3;subst h3;rw[hk]at h2;simpa[κc]using h2
    |succ j=>simp at h3) (fun _ _=>rfl) r (fun _ _=>rfl)
   have:=r'.SP (D.SQ [id] VW);subst this;exact r'
 have hc:=nq.2 w κc (xs.toList.map a.eval) v cs RO (by simp) hargs (by simp[κc]) (fun i hi=>by simp only[κc];rw[b8 (by omega)]) (hs.ol id v hk) hsz hrl hown hrd;refine wpList_plain hg fun K hK=>?_
 unfold Oper.wp;rw[xN hop nq.1,Oper.upon_enter];have e0:xs.map a.eval=(xs.toList.map a.eval).toArray:=by rw[<-iE,jc]
 rw[e0];refine hc.mono ?_;rintro x w' ⟨v',cs',rfl,hone,KX,Ic,La,Ye,h1,h2,h3,h4,LU⟩;show K (a.put o.dst v') w';rw[hd];let n:=st.H.length
 let Θ':Nat->Nat:=fun b=>if some b=v'.ownBlock then n+2 else Θ b
 have Y7:∀g,v'.ownBlock=some g->Θ g=id+2\/w.heap.size<=g:=by
  intro g Tw;rcases Ye g Tw with h|h
  ·exact .inr h
  ·exact .inl (E7 g h)
 have k:iV w w' Θ Θ' (id+2):=by
  refine⟨by omega,h1,h2,h3,h4,fun b hb hne=>LU b hb (fun e=>hne (E7 b e)),fun b hb hne=>?_,fun b hb=>?_⟩
  ·simp only[Θ'];rw[b8];intro e;rcases Y7 b e.symm with h|h
   ·exact hne h
   ·omega
  ·simp only[Θ']at hb;split at hb
   ·rename_i e;exact(Ic.lt b e.symm).2
   ·exact dP (hs.own b hb) h4
 have hm:∀b,2<=Θ' b->zo Γ b:=by
  intro b hb;simp only[Θ']at hb;split at hb
  ·rename_i e;rcases Y7 b e.symm with h|h
   ·exact hs.mine b (by omega)
   ·exact .inl (cW hs.base h)
  ·exact hs.mine b hb
 have hn:=wk (hs.pX n (bN _)) (some v');obtain⟨ρ,hu⟩:=hs.td;have uI:=hs.oX k hn hu;have key:∀(j:Nat) y,(kill st.H [id]++[.row .uq e sz cv])[j]?=some y->(j=n/\y=.row .uq e sz cv)\/(j≠n/\(y=.gone\/(j∉[id]/\st.H[j]?=some y))):=by
  intro j y hj;rcases B4 j y hj with⟨h1,h2⟩|⟨h1,h2⟩
  ·rw[gM]at h1;exact .inl ⟨h1,h2⟩
  ·rw[gM]at h1;exact .inr ⟨h1,sD h2⟩
 have hs':dX Γ ⟨st.σ,kill st.H [id]++[.row .uq e sz cv]⟩ (xT κ n (some v')) Θ' a w':=by
  refine hs.step k hm hn ?_ ?_ ?_ ⟨ρ,uI.1,fun j e' sz' fI hj=>?_,fun j y hj=>?_⟩
  ·intro i hi;simp only[bB,aY,bX,gM]at hi;unfold xT;rw[b8 (by omega)];exact hs.pX i (by omega)
  ·intro i y hy;unfold xT at hy;split at hy
   ·cases hy;exact hone
   ·exact hs.ol i y hy
  ·intro j y hj;rcases key j y hj with⟨rfl,rfl⟩|⟨_,hy|⟨hjk,hy⟩⟩
   ·exact .inr (.inr ⟨hsz,KX,v',cs',[],kO _ _ _,Ic,La,fun g Tw=>by simp only[Θ'];rw[bK Tw.symm],by simp⟩)
   ·exact .inl hy
   ·exact .inr (.inl ⟨fun e=>hjk (by simp;omega),hy⟩)
  ·rcases key j _ hj with⟨rfl,hy⟩|⟨_,hy|⟨hjk,hy⟩⟩
   ·simp only[Ob.row.injEq,ua]at hy;obtain⟨rfl,rfl,rfl⟩:=hy;exact⟨v',cs',[],kO _ _ _,Ic,La,by simp,by simp⟩
   ·cases hy
   ·exact uI.2.1 j e' sz' fI (fun e=>hjk (by simp;omega)) hy
  ·rcases key j _ hj with⟨rfl,hy⟩|⟨_,hy|⟨hjk,hy⟩⟩
   ·subst hy;exact Kj.zG rfl
   ·subst hy;trivial
   ·exact uI.2.2 j y (fun e=>hjk (by simp;omega)) hy
 refine hK _ _ (h _ _ _ _ (hs'.set (t:=t) (d:=.acc n) (bs:=[]) ht ?_ (by simp)));exact(yT.acc n _ (kO _ _ _)).Oi
end
end Go.Cx
namespace Go.Cx
open Go.RowKit
def yc(P:Program)(f:FuncId)(cells cells':aQ)(ds:aQ)(d:D):Prop:=
 (∃fn,P.funcs[f]?=some fn/\fn.body.isSome=true/\(fn.name== "runtime.NumGoroutine")=false)/\
 ∀(w:World) (Θ:Nat->Nat) (g:Nat) (cs:Array Value) (T:TypeId) (args:bZ) (bs ts us:aX),
  Nk w (fun b=>b=g\/b∈ts)->w.heap[g]?=some (.cells cs T (0,0))->AN w (.agg cs::args) (.agg cells::ds) bs ts us->
  (∀b∈bs,Θ b=0)->(∀b,Θ b≠0->b<w.heap.size)->(∀b,Θ b<=1)->Θ g=1->(∀b∈ts,Θ b=1/\b∈us/\b≠g)->us.Nodup->(∀b∈us,(b∉ts->Θ b=0)/\Wr w b)->
  Calls P f (.pointer (some ⟨g,0,none⟩)::args).toArray w (fun e w'=>∃v cs' T' b2 t2 u2 b3 t3 u3,e=.returned v/\w'.os=w.os/\w'.tape=w.tape/\w'.output=w.output/\w.heap.size<=w'.heap.size/\
   (∀b,b<w.heap.size->b≠g->b∉ts->w'.heap[b]?=w.heap[b]?)/\w'.heap[g]?=some (.cells cs' T' (0,0))/\
   BL w' v d b2 t2 u2/\tH w' cs'.toList cells' b3 t3 u3/\(∀b∈b3++b2,(b<w.heap.size->Θ b=0\/b∈ts)/\b≠g/\b∉t3++t2)/\(u3++u2).Nodup/\
   (∀b∈u3++u2,(w.heap.size<=b\/b∈us)/\b≠g/\Wr w' b)/\∀b∈t3++t2,b∈u3++u2/\(w.heap.size<=b\/b∈ts))
section
variable{P:Program}{Γ:vJ}{Q:Exit->St->Prop}{st:St}{κ κ':Nat->Option Value}{Θ Θ':Nat->Nat}{a:Act}{w w':World}{all:Array Oper}{rest:List Oper}
theorem Ee.VC{cs:Array Value}{ds:aQ}{bs ts us:aX}(h:Ee w (.agg cs) (.agg ds) bs ts us):tH w cs.toList ds bs ts us:=by
 generalize hv:Value.agg cs=v at h;cases h with
 |cell h=>
  cases h with
  |pure h=>
   cases h with
   |agg l _ _ h=>cases hv;simpa using tH.C6 h
 |agg l _ _ _ _ h=>cases hv;simpa using h
theorem L3.VC{cs:Array Value}{ds:aQ}{bs:aX}(h:L3 w κ (.agg cs) (.agg ds) bs):er w κ cs.toList ds bs:=by
 generalize hv:Value.agg cs=v at h;cases h with
 |cell h=>
  cases h with
  |pure h=>
   cases h with
   |agg l _ _ h=>cases hv;simpa using er.C6 h
 |agg l _ _ h=>cases hv;simpa using h
theorem Ed.shown{v:Value}{d:D}{bs ts us:aX}(h:Ed w v d bs ts us):∃b,Rd w v d.YA b:=by
 cases h with
 |pure h=>
  have e:d.YA=d:=by cases h<;>rfl
  exact⟨_,e.symm▸h⟩
 |fr e sz rows cs ns h1 h2 h3 h4 h5=>exact⟨_,vG h2 h3 h4⟩
theorem tH.shown{vs:bZ}{ds:aQ}{bs ts us:aX}(h:tH w vs ds bs ts us):∃b,kz w vs (ds.map D.YA) b:=by
 induction h with
 |nil=>exact⟨_,.nil⟩
 |cons v vs d ds b1 b2 t1 t2 u1 u2 h1 h2 _ ih=>
  obtain⟨b,q⟩:=h2.shown;obtain⟨b',q'⟩:=ih;exact⟨_,.cons _ _ _ _ _ _ h1 q q'⟩
theorem Ee.shown{v:Value}{d:D}{bs ts us:aX}(h:Ee w v d bs ts us):eN d.ZZ:=by
 cases h with
 |cell h=>
  by_cases tD:∃ds,d=.agg ds
  ·obtain⟨ds,rfl⟩:=tD;cases h with
   |pure h=>cases h with
    |agg cs _ _ h=>
     obtain⟨b,q⟩:=(tH.C6 h).shown;exact⟨w,_,_,.agg _ _ _ q⟩
  ·have e:d.ZZ=d.YA:=by cases d<;>first|rfl|exact absurd ⟨_,rfl⟩ tD
   rw[e];obtain⟨b,q⟩:=h.shown;exact⟨w,_,_,q⟩
 |agg cs ds bs ts us h=>
  obtain⟨b,q⟩:=h.shown;exact⟨w,_,_,.agg _ _ _ q⟩
theorem AN.shown{vs:bZ}{ds:aQ}{bs ts us:aX}(h:AN w vs ds bs ts us):∀d∈ds.map D.ZZ,eN d:=by
 induction h with
 |nil=>intro d hd;cases hd
 |cons v vs d ds b1 b2 t1 t2 u1 u2 h2 _ ih=>
  intro x hx;rcases bI.1 hx with rfl|hx
  ·exact h2.shown
  ·exact ih x hx
def NT(L:nJ)(b:Nat):Option Nat:=ix (fun x:Fs=>x.v.ownBlock==some b) L
def zb(L:nJ)(b:Nat):Option Nat:=ix (fun x:Fs=>x.ns.contains b) L
theorem QV{L:nJ}(hnd:(L.flatMap Fs.bl).Nodup){i:Nat}{x:Fs}{b:Nat}(hi:L[i]?=some x)(hb:x.v.ownBlock=some b):NT L b=some i:=
 E8 hi (by simp[hb]) (fun j y hj hy=>by
  simp only[cO]at hy;exact vR hnd j i y x b hj hi (by simp[Fs.bl,hy]) (by simp[Fs.bl,hb]))
theorem S3{L:nJ}{b i:Nat}(h:NT L b=some i):b∈L.flatMap Fs.ts:=by
 obtain⟨x,hx,hp⟩:=yN h;exact bq.2 ⟨x,aD hx,by simp only[cO]at hp;simp[Fs.ts,hp]⟩
theorem HT{L:nJ}{b:Nat}(h:b∉L.flatMap Fs.ts):NT L b=none:=by
 cases hb:NT L b with
 |none=>rfl
 |some i=>exact absurd (S3 hb) h
theorem L8{L:nJ}(hnd:(L.flatMap Fs.bl).Nodup){i:Nat}{x:Fs}{b:Nat}(hi:L[i]?=some x)(hb:b∈x.ns):zb L b=some i:=
 E8 hi (by simpa using hb) (fun j y hj hy=>vR hnd j i y x b hj hi (by simp only[Fs.bl];exact af.2 (.inr (by simpa using hy))) (by simp only[Fs.bl];exact af.2 (.inr hb)))
theorem BM{L:nJ}{b i:Nat}(h:zb L b=some i):∃x,L[i]?=some x/\b∈x.ns:=by
 obtain⟨x,hx,hp⟩:=yN h;exact⟨x,hx,by simpa using hp⟩
theorem L9{L:nJ}{b:Nat}(h:b∈L.flatMap Fs.ts):b∈L.flatMap Fs.bl:=by
 obtain⟨x,hx,Fi⟩:=bq.1 h;exact bq.2 ⟨x,hx,by simp only[Fs.bl,Fs.ts]at Fi⊢;exact af.2 (.inl Fi)⟩
theorem AQ{L:nJ}{i b:Nat}{x:Fs}(h:L[i]?=some x)(hb:b∈x.ns):b∈L.flatMap Fs.bl:=
 bq.2 ⟨x,aD h,by simp only[Fs.bl];exact af.2 (.inr hb)⟩
theorem PJ{L:nJ}(hnd:(L.flatMap Fs.bl).Nodup):∀x∈L,x.bl.Nodup:=by
 induction L with
 |nil=>intro x hx;cases hx
 |cons z r ih=>
  intro x hx;simp only[cr]at hnd;obtain⟨n1,n2,_⟩:=bJ.1 hnd;rcases bI.1 hx with rfl|hx
  ·exact n1
  ·exact ih n2 x hx
theorem M1{L:nJ}(hnd:(L.flatMap Fs.bl).Nodup){i b:Nat}{x:Fs}(h:L[i]?=some x)(hb:b∈x.ns):b∉L.flatMap Fs.ts:=by
 intro ht;obtain⟨y,hy,hby⟩:=bq.1 ht;obtain⟨j,hj⟩:=dZ hy;have:=vR hnd j i y x b hj h (by simp only[Fs.bl,Fs.ts]at hby⊢;exact af.2 (.inl hby)) (by simp only[Fs.bl];exact af.2 (.inr hb));subst this;rw[hj]at h;cases h;have Jl:=PJ hnd x hy;simp only[Fs.bl]at Jl;exact(bJ.1 Jl).2.2 b hby b hb rfl
theorem Q7{L:nJ}(hnd:(L.flatMap Fs.bl).Nodup){i:Nat}{x:Fs}(h:L[i]?=some x):x.ns.Nodup:=by
 have:=PJ hnd x (aD h);simp only[Fs.bl]at this;exact(bJ.1 this).2.1
def VA(P:Program)(fn:Func)(v0:Value)(cells':aQ)(d:D)(e:Exit)(st:St):Prop:=
 (e=.ret\/e=.normal)/\∃nz Zz Np es ms qs,G3 P st fn.results.toList=some Zz/\st.H[0]?=some (.Ka Np v0)/\
  B6 st.H nz (.agg Np::Zz)=some (.agg cells'::es,ms,qs)/\ms.Nodup/\qs.Nodup/\KC es=d
theorem VA.out{fn:Func}{v0:Value}{cells':aQ}{d:D}{e:Exit}{a':Act}{w':World}{Rp:St}{κ0:Nat->Option Value}{Θ0:Nat->Nat}(hs0:dX Γ Rp κ0 Θ0 a' w')(hrq:VA P fn v0 cells' d e Rp):
 (e=.ret\/e=.normal)/\a'.defers=[]/\SK Γ w'/\∃v g cs' T b2 t2 u2 b3 t3 u3,(results fn a'.tmps).run P w'=.ok v w'/\v0=.pointer (some ⟨g,0,none⟩)/\w'.heap[g]?=some (.cells cs' T (0,0))/\
  BL w' v d b2 t2 u2/\tH w' cs'.toList cells' b3 t3 u3/\(∀b∈b3++b2,(b<Γ.W0.heap.size->¬Γ.X b->Γ.Θ0 b=0)/\b≠g/\b∉t3++t2)/\(u3++u2).Nodup/\
  (∀b∈u3++u2,V9 Γ b/\b≠g/\Wr w' b)/\∀b∈t3++t2,b∈u3++u2/\zo Γ b:=by
 obtain⟨KW,nz,Zz,Np,es,ms,qs,hres,hH0,hrv,O0,LZ,rfl⟩:=hrq;obtain⟨ρ0,hu0⟩:=hs0.td;have Fj:=zj hrv;obtain⟨Θ1,ρ1,hs1,hu1,hm1,Pn,Vl⟩:=dX.Kr ms hs0 hu0 O0 (fun m hm=>by
  obtain⟨e,sz,rows,hH⟩:=Fj.1 m hm;exact⟨_,e,sz,rows,hH,rfl⟩)
 obtain⟨vs,bs',m1,m2,m3,m4,m5⟩:=Jp hs0 hres;have hq:∀m e sz rows,Rp.H[m]?=some (.row .uq e sz rows)->∃v cs ns,κ0 m=some v/\0<sz/\(∀r∈rows,r.length=sz)/\w'.ownsRow 0 e sz v rows.length cs/\kz w' cs rows.flatten ns/\ns.Nodup/\(∀b∈ns,ρ1 b=m+1)/\∀g,v.ownBlock=some g->Θ1 g=m+2:=by
  intro m e sz rows hH;have hnm:m∉ms:=fun hm=>by
   obtain⟨e',sz',cv,HJ⟩:=Fj.1 m hm;rw[hH]at HJ;cases HJ
  have Qe:(kill Rp.H ms)[m]?=some (.row .uq e sz rows):=by rw[j7 hnm];exact hH
  obtain⟨v,cs,ns,r1,r2,r3,r4,r5⟩:=hu1.rows m e sz rows Qe;obtain⟨p1,p2,v2,_,_,p3,_,_,p4,_⟩:=hs1.ob m _ Qe;rw[r1]at p3;cases p3;exact⟨v,cs,ns,r1,p1,p2,r2,r3,r4,r5,p4⟩
 have h0m:0∉ms:=fun hm=>by
  obtain⟨e',sz',cv,HJ⟩:=Fj.1 0 hm;rw[hH0]at HJ;cases HJ
 have h0q:0∉qs:=fun hm=>by
  obtain⟨e',sz',cv,HJ⟩:=Fj.2 0 hm;rw[hH0]at HJ;cases HJ
 obtain⟨hv0,g,cs',T,hk0,hg,O3,bb,hbb,hbz⟩:=hs1.ob 0 _ (show(kill Rp.H ms)[0]?=_ by rw[j7 h0m];exact hH0);have e0:v0=.pointer (some ⟨g,0,none⟩):=by rw[hv0]at hk0;cases hk0;rfl
 have O3:Θ1 g=2:=O3;obtain⟨c,tt,uu,K5,Ie⟩:=EY (w:=w') (vs:=.agg cs'::vs) (fun b hb=>(hu1.free b hb).1) hq hs0.ol hrv LZ (by simp;omega) (fun i d hd=>by
  cases i with
  |zero=>
   simp at hd;subst hd;have:=L3.agg _ _ _ hbb;exact⟨_,bb,rfl,.v (by simpa using this),hbz⟩
  |succ i=>
   obtain⟨v,b,k1,k2,k3⟩:=m4 i d (by simpa using hd);exact⟨v,b,by simpa using k1,k2,fun x hx=>Pn x (m5 x (k3 x hx))⟩) hm1
 cases K5 with
 |cons _ _ _ _ b3 b2 t3 t2 u3 u2 Yg um=>
 have LX:∃v,(results fn a'.tmps).run P w'=.ok v w'/\BL w' v (KC es) b2 t2 u2:=by
  have hrun:(results fn a'.tmps).run P w'=.ok (if h:vs.toArray.size=1 then vs.toArray[0]else .tuple vs.toArray) w':=by
   rw[results_eq,uD];simp[m1]
  cases um with
  |nil=>exact⟨.tuple #[],by simpa using hrun,.hY [] [] [] [] [] .nil⟩
  |cons v vs d es b1 b2 t1 t2 u1 u2 hv um=>
   cases um with
   |nil=>
    simp only[dA];exact⟨v,by simpa using hrun,.v hv⟩
   |cons v2 vs d2 es b3 b4 t3 t4 u3 u4 Pm um=>exact⟨.tuple (v::v2::vs).toArray,by simpa using hrun,.hY _ _ _ _ _ (.cons _ _ _ _ _ _ _ _ _ _ hv (.cons _ _ _ _ _ _ _ _ _ _ Pm um))⟩
 obtain⟨v,Vm,RM⟩:=LX;have E7:∀b∈t3++t2,Wr w' b:=by
  intro b hb;rcases af.1 hb with hb|hb
  ·exact L4 Yg b hb
  ·exact P4 RM b hb
 refine⟨KW,hs0.defers,hs0.stays,v,g,cs',T,b2,t2,u2,b3,t3,u3,Vm,e0,hg,RM,Yg.VC,fun b hb=>⟨fun hlt hx=>?_,fun e=>?_,fun ht=>?_⟩,Ie.nd,fun b hb=>?_,fun b hb=>?_⟩
 ·have:=Ie.zero b hb;rw[<-(hs1.old b hlt hx).1];exact this
 ·have:=Ie.zero b hb;subst e;omega
 ·obtain⟨⟨m,_,hΘ⟩,_⟩:=Ie.top b ht;have:=Ie.zero b hb;omega
 ·rcases Ie.mem b hb with h|⟨m,hm,hρ⟩
  ·obtain⟨⟨m,hm,hΘ⟩,_⟩:=Ie.top b h;refine⟨.inl (hs1.mine b (by omega)),fun e=>?_,E7 b h⟩;subst e;rw[O3]at hΘ;have:m=0:=by omega
   subst this;exact h0q hm
  ·have:=hu1.free b (by omega);refine⟨this.2.1,fun e=>?_,this.2.2⟩;have h0:=this.1;subst e;omega
 ·obtain⟨⟨m,hm,hΘ⟩,h2⟩:=Ie.top b hb;exact⟨h2,hs1.mine b (by omega)⟩
theorem BJ.len{vs:bZ}{ds:aQ}{bs:aX}(h:BJ w κ vs ds bs):vs.length=ds.length:=by
 induction h with
 |nil=>rfl
 |cons v vs d ds b1 b2 h1 _ ih=>simp[ih]
theorem yc.of{f:FuncId}{fn:Func}{c:Code}{cells cells' D0 ds VS:aQ}{obs:bO}{d:D}(hf:P.funcs[f]?=some fn)(hb:fn.body=some c)(hn:(fn.name== "runtime.NumGoroutine")=false)
 (hI:Br 1 (.agg cells::ds)=(.agg D0::VS,obs)) (hl:VS.length+1<=fn.ntmps)
 (h:(∀x∈(D.agg cells::ds).map D.ZZ,eN x)->∀(v0:Value) (Γ:vJ),Γ.nt=fn.ntmps->AW P Γ c (VA P fn v0 cells' d) ⟨C3 0 (.ptr 0 0::VS),.Ka D0 v0::obs⟩):yc P f cells cells' ds d:=by
 refine⟨⟨fn,hf,by simp[hb],hn⟩,?_⟩;intro w Θ g cs T args bs ts us hvs hg hargs hz hown h1 hg1 hts hnd uI;have a1b:=hargs.shown;obtain⟨L,q1,q2,rfl,rfl,q5⟩:=hargs.inst 1;rw[hI]at q1 q5;have q1:L.map Fs.ob=obs:=q1;refine calls_of_wp hf hb ?_;let v0:Value:=.pointer (some ⟨g,0,none⟩)
 let κ0:Nat->Option Value:=fun i=>if i=0 then some v0 else(L[i-1]?).map Fs.v
 let Θ0:Nat->Nat:=fun b=>if b=g then 2 else match NT L b with|some i=>i+3|none=>Θ b
 let ρ0:Nat->Nat:=fun b=>match zb L b with|some i=>i+2|none=>0
 let Γ:vJ:=⟨w,Θ0,fun b=>b=g\/b∈L.flatMap Fs.ts,fn.ntmps,fun b=>b∈L.flatMap Fs.bl,hvs⟩
 have hgl:g<w.heap.size:=(bG.1 hg).1;have hk0:κ0 0=some v0:=rfl;have hkS:∀i x,L[i]?=some x->κ0 (i+1)=some x.v:=fun i x hx=>by simp[κ0,hx]
 have hnm:Names κ0 1 L:=fun i x hx=>by rw[Nat.add_comm];exact hkS i x hx
 have hrd:=q5 κ0 hnm;have hlen:=hrd.len;have a44:∀(i:Nat) x b,L[i]?=some x->x.v.ownBlock=some b->b∈L.flatMap Fs.ts:=fun i x b hx hb'=>bq.2 ⟨x,aD hx,by simp[Fs.ts,hb']⟩
 have a1i:∀(i:Nat) x b,L[i]?=some x->x.v.ownBlock=some b->Θ0 b=i+3:=by
  intro i x b hx hb';have:=(hts b (a44 i x b hx hb')).2.2;simp only[Θ0,QV hnd hx hb'];rw[b8 this]
 have a1j:∀b,Θ b=0->Θ0 b=0:=by
  intro b h0;have e1:b≠g:=fun e=>by subst e;omega
  have e2:b∉L.flatMap Fs.ts:=fun e=>by have:=(hts b e).1;omega
  simp only[Θ0,HT e2];rw[b8 e1,h0]
 have a3p:∀(i:Nat) x b,L[i]?=some x->b∈x.ns->Θ0 b=0:=fun i x b hx hb'=>a1j b ((uI b (AQ hx hb')).1 (M1 hnd hx hb'))
 have Jm:∀b,Θ0 b≠Θ b->b=g\/b∈L.flatMap Fs.ts:=by
  intro b hne;by_cases e:b=g
  ·exact .inl e
  ·refine .inr (iU fun ht=>hne ?_);simp only[Θ0,HT ht];rw[b8 e]
 have a1U:∀(j:Nat) o,obs[j]?=some o->∃x,L[j]?=some x/\o=x.ob:=by
  intro j o hj;rw[<-q1,bg]at hj;cases hx:L[j]? with
  |none=>simp[hx]at hj
  |some x=>simp[hx]at hj;exact⟨x,rfl,hj.symm⟩
 have a74:obs.length=L.length:=by rw[<-q1];simp
 have Yg:∃b',er w κ0 cs.toList D0 b'/\∀b∈b',Θ0 b=0:=by
  obtain⟨v,b',k1,k2,k3⟩:=hrd.at (i:=0) (d:=.agg D0) rfl;simp at k1;subst k1;exact⟨b',k2.VC,fun b hb'=>a1j b (hz b (k3 b hb'))⟩
 have hs:dX Γ ⟨C3 0 (.ptr 0 0::VS),.Ka D0 v0::obs⟩ κ0 Θ0 {tmps:=(v0::args).toArray++Array.replicate (fn.ntmps-(v0::args).toArray.size) undef,defers:=[]} w:=by
  refine⟨rfl,?_,fun i hi=>?_,?_,?_,?_,?_,?_,?_,⟨rfl,rfl,rfl,bN _,fun _ _ _=>rfl⟩,⟨ρ0,?_,?_,?_⟩⟩
  ·simp only[aY]at hlen;simp[Γ];omega
  ·simp only[aY]at hi;simp only[κ0];rw[b8 (by omega),cP (by omega)];rfl
  ·intro id u hu;simp only[κ0]at hu;split at hu
   ·cases hu;rfl
   ·cases hx:L[id-1]? with
    |none=>simp[hx]at hu
    |some x=>simp[hx]at hu;subst hu;exact(q2 x (aD hx)).2.2.2.2
  ·intro t;rw[Lp];simp only[C0,Cw,BG];have a03:∀v,(v0::args)[t]?=some v->((v0::args).toArray++Array.replicate (fn.ntmps-(v0::args).toArray.size) undef).getD t undef=v:=by
    intro v hv;have hlt:=(aF.1 hv).1;rw[cE,gZ (by simpa using hlt)];simp only[lE,hv,wS]
   cases t with
   |zero=>
    refine⟨[],?_,by simp⟩;rw[a03 v0 rfl];exact .v (.cell (.ptr 0 0 g hk0))
   |succ s=>
    rw[fO];cases hd:VS[s]? with
    |none=>exact⟨[],.of (.any _),by simp⟩
    |some x=>
     obtain⟨v,b',k1,k2,k3⟩:=hrd.at (i:=s+1) (d:=x) (by simpa using hd);rw[a03 v (by simpa using k1)];exact⟨b',.v k2,fun b hb'=>a1j b (hz b (k3 b hb'))⟩
  ·intro j o hj;cases j with
   |zero=>
    simp at hj;subst hj;obtain⟨b',k1,k2⟩:=Yg;exact⟨hk0,g,cs,T,hk0,hg,by simp[Θ0],b',k1,k2⟩
   |succ j=>
    obtain⟨x,hx,rfl⟩:=a1U j o (by simpa using hj);obtain⟨p1,p2,p3,p4,_⟩:=q2 x (aD hx);exact⟨p1,p2,x.v,x.cs,x.ns,hkS j x hx,p3,p4,fun b hb'=>a1i j x b hx hb',fun b hb'=>a3p j x b hx hb'⟩
  ·intro b hb';by_cases e:Θ0 b=Θ b
   ·exact hown b (by rw[<-e];exact hb')
   ·rcases Jm b e with rfl|ht
    ·exact hgl
    ·exact hown b (by have:=(hts b ht).1;omega)
  ·intro b hlt hx;refine⟨rfl,?_⟩;have e:Θ0 b=Θ b:=iU fun e=>hx (Jm b e)
   rw[e];exact h1 b
  ·intro b hb';refine .inr (Jm b fun e=>?_);have:=h1 b;omega
  ·intro b hb';cases Yf:zb L b with
   |none=>simp[ρ0,Yf]at hb'
   |some i=>
    obtain⟨x,hx,Fi⟩:=BM Yf;exact⟨a3p i x b hx Fi,.inr (AQ hx Fi),(uI b (AQ hx Fi)).2⟩
  ·intro id e sz rows hj;cases id with
   |zero=>simp at hj
   |succ j=>
    obtain⟨x,hx,Y5⟩:=a1U j _ (by simpa using hj);simp only[Fs.ob,Ob.row.injEq,ua]at Y5;obtain⟨rfl,rfl,rfl⟩:=Y5;obtain⟨p1,p2,p3,p4,_⟩:=q2 x (aD hx);exact⟨x.v,x.cs,x.ns,hkS j x hx,p3,p4,Q7 hnd hx,fun b hb'=>by simp[ρ0,L8 hnd hx hb']⟩
  ·intro id o hj;cases id with
   |zero=>simp at hj;subst hj;trivial
   |succ j=>
    obtain⟨x,hx,Y5⟩:=a1U j _ (by simpa using hj);subst Y5;exact Kj.zG rfl
 refine wp_mono (h a1b v0 Γ rfl _ _ _ _ hs) ?_;rintro x a' w' ⟨Rp,κ1,Θ1,hs0,hrq⟩;obtain⟨KW,hdf,hst,v,g',cs',T',b2,t2,u2,b3,t3,u3,hrun,e0,hg',hres,a6d,a6Z,Ib,yM,ht'⟩:=VA.out hs0 hrq;obtain rfl:g=g':=by
  have e1:Value.pointer (some ⟨g,0,none⟩)=.pointer (some ⟨g',0,none⟩):=e0;cases e1;rfl
 have post:a'.defers=[]/\∃v',(results fn a'.tmps).run P w'=.ok v' w'/\∃v cs' T' b2 t2 u2 b3 t3 u3,Ending.returned v'=.returned v/\w'.os=w.os/\w'.tape=w.tape/\w'.output=w.output/\w.heap.size<=w'.heap.size/\
  (∀b,b<w.heap.size->b≠g->b∉L.flatMap Fs.ts->w'.heap[b]?=w.heap[b]?)/\w'.heap[g]?=some (.cells cs' T' (0,0))/\
  BL w' v d b2 t2 u2/\tH w' cs'.toList cells' b3 t3 u3/\(∀b∈b3++b2,(b<w.heap.size->Θ b=0\/b∈L.flatMap Fs.ts)/\b≠g/\b∉t3++t2)/\(u3++u2).Nodup/\
  (∀b∈u3++u2,(w.heap.size<=b\/b∈L.flatMap Fs.bl)/\b≠g/\Wr w' b)/\∀b∈t3++t2,b∈u3++u2/\(w.heap.size<=b\/b∈L.flatMap Fs.ts):=by
  refine⟨hdf,v,hrun,v,cs',T',b2,t2,u2,b3,t3,u3,rfl,hst.os,hst.tape,hst.output,hst.size,fun b hlt hne hnt=>hst.block b hlt (fun hx=>hx.elim hne hnt),hg',hres,a6d,fun b hb'=>?_,Ib,fun b hb'=>?_,fun b hb'=>?_⟩
  ·obtain⟨k1,k2,k3⟩:=a6Z b hb';refine⟨fun hlt=>?_,k2,k3⟩;by_cases ht:b∈L.flatMap Fs.ts
   ·exact .inr ht
   ·refine .inl ?_;have:=k1 hlt (fun hx=>hx.elim k2 ht);have e:Θ0 b=Θ b:=iU fun e=>(Jm b e).elim k2 ht
    rw[<-e];exact this
  ·obtain⟨k1,k2,k3⟩:=yM b hb';refine⟨?_,k2,k3⟩;rcases k1 with(k1|k1|k1)|k1
   ·exact .inl k1
   ·exact absurd k1 k2
   ·exact .inr (L9 k1)
   ·exact .inr k1
  ·obtain⟨k1,k2⟩:=ht' b hb';refine⟨k1,?_⟩;have:=(yM b k1).2.1;rcases k2 with k2|k2|k2
   ·exact .inl k2
   ·exact absurd k2 this
   ·exact .inr k2
 rcases KW with rfl|rfl
 ·exact post
 ·exact post
theorem V0{o:Oper}{f t id:Nat}{xs:Array Operand}{ty:Array TypeId}{x0:Operand}{xr:List Operand}{ob:Ob}{JN cells cells' ds:aQ}{d:D}{nz:List (List (Option (Nat×Nat)))}{ms qs:aX}
 (hop:o.op=.call {callee:=.value (.func f),args:=xs,argTypes:=ty}) (hd:o.dst=some t) (hg:o.guard=none) (ht:t<Γ.nt)
 (hxs:xs.toList=x0::xr) (hx0:st.ev x0=.ptr id 0) (hH:st.H[id]?=some ob) (zg:ob.Tk=some JN)
 (KW:B6 st.H nz (.agg JN::xr.map st.ev)=some (.agg cells::ds,ms,qs)) (O0:ms.Nodup) (LZ:qs.Nodup) (nq:yc P f cells cells' ds d)
 (h:AO P Γ all rest Q ⟨(t,(pW (st.H.length+(mO st.H.length cells').2.length) d).1)::st.σ,
  (kill st.H (ms++qs)).set id (ob.re (mO st.H.length cells').1)++((mO st.H.length cells').2++(pW (st.H.length+(mO st.H.length cells').2.length) d).2)⟩):AO P Γ all (o::rest) Q st:=by
 intro κ Θ a w hs;have Fj:=zj KW;obtain⟨ρ,hu⟩:=hs.td;obtain⟨Θ1,ρ1,hs1,hu1,hm1,Pn,Vl⟩:=dX.Kr ms hs hu O0 (fun m hm=>by
  obtain⟨e,sz,rows,hH⟩:=Fj.1 m hm;exact⟨_,e,sz,rows,hH,rfl⟩)
 have Tx:id<st.H.length:=(aF.1 hH).1;have hnr:∀k e sz rows,st.H[id]?≠some (.row k e sz rows):=fun k e sz rows e1=>by rw[hH]at e1;cases e1;cases zg
 have a6r:id∉ms:=fun hm=>by obtain⟨e',sz',cv,HJ⟩:=Fj.1 id hm;exact hnr _ _ _ _ HJ
 have a6s:id∉qs:=fun hm=>by obtain⟨e',sz',cv,HJ⟩:=Fj.2 id hm;exact hnr _ _ _ _ HJ
 have Qe:(kill st.H ms)[id]?=some ob:=by rw[j7 a6r];exact hH
 have a3r:=hs1.ob id _ Qe;obtain⟨g,cs,T,hk0,Y3,O3,bb,hbb,hbz⟩:=a3r.cs zg;have hgl:g<w.heap.size:=(bG.1 Y3).1;have hq:∀m e sz rows,st.H[m]?=some (.row .uq e sz rows)->∃v cs ns,κ m=some v/\0<sz/\(∀r∈rows,r.length=sz)/\w.ownsRow 0 e sz v rows.length cs/\kz w cs rows.flatten ns/\ns.Nodup/\(∀b∈ns,ρ1 b=m+1)/\∀g,v.ownBlock=some g->Θ1 g=m+2:=by
  intro m e sz rows hH;have hnm:m∉ms:=fun hm=>by
   obtain⟨e',sz',cv,HJ⟩:=Fj.1 m hm;rw[hH]at HJ;cases HJ
  have Qe:(kill st.H ms)[m]?=some (.row .uq e sz rows):=by rw[j7 hnm];exact hH
  obtain⟨v,cs,ns,r1,r2,r3,r4,r5⟩:=hu1.rows m e sz rows Qe;obtain⟨p1,p2,v2,_,_,p3,_,_,p4,_⟩:=hs1.ob m _ Qe;rw[r1]at p3;cases p3;exact⟨v,cs,ns,r1,p1,p2,r2,r3,r4,r5,p4⟩
 obtain⟨bs,ts,us,K5,Ie⟩:=EY (w:=w) (vs:=.agg cs::xr.map a.eval) (fun b hb=>(hu1.free b hb).1) hq hs.ol KW LZ (by simp) (fun i d hd=>by
  cases i with
  |zero=>
   simp at hd;subst hd;have:=L3.agg _ _ _ hbb;exact⟨_,bb,rfl,.v (by simpa using this),hbz⟩
  |succ i=>
   rw[fO,bg]at hd;cases hx:xr[i]? with
   |none=>rw[hx]at hd;cases hd
   |some x=>
    rw[hx]at hd;simp only[cM,ar]at hd;subst hd;obtain⟨b,r,z⟩:=hs.ev x;exact⟨a.eval x,b,by simp[hx],r,fun y hy=>Pn y (z y hy)⟩) hm1
 let Θc:Nat->Nat:=fun b=>if Θ1 b=0 then 0 else 1
 have Jm:∀b,Θc b=0↔Θ1 b=0:=fun b=>by simp only[Θc];split<;>simp_all
 have RN:∀b∈ts,∃m∈qs,Θ1 b=m+2:=fun b hb=>(Ie.top b hb).1
 have a7Q:∀b∈ts,b≠g:=fun b hb e=>by
  obtain⟨m,hm,hΘ⟩:=RN b hb;subst e;rw[O3]at hΘ;exact a6s (by
   have:id=m:=by omega
   rw[this];exact hm)
 have RO:Nk w fun b=>b=g\/b∈ts:=by
  obtain⟨B,v1,v2⟩:=hs1.vsb;refine⟨B,v1,fun b hB=>⟨(v2 b hB).2.1,fun hb'=>?_⟩⟩;have hm:zo Γ b:=by
   rcases hb' with rfl|hb'
   ·exact hs1.mine b (by omega)
   ·obtain⟨m,hm,hΘ⟩:=RN b hb';exact hs1.mine b (by omega)
  rcases hm with q|q
  ·have:=(v2 b hB).1;omega
  ·exact(v2 b hB).2.2 q
 have hwr:∀b∈us,Wr w b:=by
  intro b hb;rcases Ie.mem b hb with h|⟨m,hm,hρ⟩
  ·exact Ml K5 b h
  ·exact(hu1.free b (by omega)).2.2
 have hc:=nq.2 w Θc g cs T (xr.map a.eval) bs ts us RO Y3 K5 (fun b hb=>(Jm b).2 (Ie.zero b hb)) (fun b hb=>hs1.own b (fun e=>hb ((Jm b).2 e))) (fun b=>by simp only[Θc];split<;>omega)
  (by simp only[Θc];rw[b8 (by omega)]) (fun b hb=>by
   obtain⟨m,hm,hΘ⟩:=RN b hb;exact⟨by simp only[Θc];rw[b8 (by omega)],(Ie.top b hb).2,a7Q b hb⟩) Ie.nd (fun b hb=>⟨fun hnt=>by
   rcases Ie.mem b hb with h|⟨m,hm,hρ⟩
   ·exact absurd h hnt
   ·exact(Jm b).2 (hu1.free b (by omega)).1,hwr b hb⟩)
 refine wpList_plain hg fun K hK=>?_
 unfold Oper.wp;rw[xN hop nq.1,Oper.upon_enter];have e0:xs.map a.eval=(.pointer (some ⟨g,0,none⟩)::xr.map a.eval).toArray:=by
  obtain⟨b0,r0,_⟩:=hs.ev x0;rw[hx0]at r0;obtain⟨g',hk',hv⟩:=r0.zi;rw[hk0]at hk';cases hk';rw[<-tg,iE,hxs];simp[hv]
 rw[e0];refine hc.mono ?_;rintro x w' ⟨v,cs',T',b2,t2,u2,b3,t3,u3,rfl,k1,k2,k3,k4,a2A,kg,a7p,kcs,kb,knd,ku,kt⟩;show K (a.put o.dst v) w';rw[hd];let N:=st.H.length
 have hs2:=hs1.forget (id::qs);have hNl:(kill st.H ms).length=N:=gM _ _;simp only[hNl]at hs2;let Θ2:Nat->Nat:=fun b=>if(id::qs).any (fun m=>Θ1 b==m+2)then N+2 else Θ1 b
 have hs2:dX Γ ⟨st.σ,kill (kill st.H ms) (id::qs)⟩ κ Θ2 a w:=hs2;have Vx:∀b,Θ1 b=0->Θ2 b=0:=fun b hb=>by
  simp only[Θ2];rw[b8,hb];intro h;obtain⟨m,_,hm⟩:=cw.1 h;simp[hb]at hm
 have NC:∀b,b=g\/b∈ts->Θ2 b=N+2:=by
  intro b hb;simp only[Θ2];rw[bK];rcases hb with rfl|hb
  ·exact cw.2 ⟨id,by simp,by simp[O3]⟩
  ·obtain⟨m,hm,hΘ⟩:=RN b hb;exact cw.2 ⟨m,by simp[hm],by simp[hΘ]⟩
 have hu2:zP Γ (kill (kill st.H ms) (id::qs)) κ Θ2 w ρ1:=by
  refine⟨fun b hb=>?_,fun j e sz rows hj=>?_,fun j o hj=>?_⟩
  ·obtain⟨q1,q2⟩:=hu1.free b hb;exact⟨Vx b q1,q2⟩
  ·rcases sD hj with h|⟨_,h⟩
   ·cases h
   ·exact hu1.rows j e sz rows h
  ·rcases sD hj with h|⟨_,h⟩
   ·subst h;trivial
   ·exact hu1.more j o h
 obtain⟨Lb,a1,a2,a3,a4,a5⟩:=kcs.inst N;obtain⟨Ld,c1,c2,c3,c4,c5⟩:=a7p.inst (N+(mO N cells').2.length);have a6T:Lb.length=(mO N cells').2.length:=by rw[<-a1];simp
 let L:=Lb++Ld
 have Yf:u3++u2=L.flatMap Fs.bl:=by simp[L,a3,c3]
 have a7P:t3++t2=L.flatMap Fs.ts:=by simp[L,a4,c4]
 rw[Yf]at knd ku kt;rw[a7P]at kt kb;have a1G:∀x∈L,x.ok w':=fun x hx=>by
  rcases af.1 hx with hx|hx
  ·exact a2 x hx
  ·exact c2 x hx
 let κ':Nat->Option Value:=fun j=>if j<N then κ j else(L[j-N]?).map Fs.v
 let Θ':Nat->Nat:=fun b=>if b=g then id+2 else match NT L b with|some i=>N+i+2|none=>if Θ2 b=N+2 then 0 else Θ2 b
 let ρ':Nat->Nat:=fun b=>match zb L b with|some i=>N+i+1|none=>ρ1 b
 have hgt:g∉L.flatMap Fs.bl:=fun h=>(ku g h).2.1 rfl
 have a47:Θ' g=id+2:=by simp[Θ']
 have Yp:∀(i:Nat) x b,L[i]?=some x->x.v.ownBlock=some b->Θ' b=N+i+2:=by
  intro i x b hx hb;have hb':b∈L.flatMap Fs.ts:=bq.2 ⟨x,aD hx,by simp[Fs.ts,hb]⟩;have hne:b≠g:=fun e=>hgt (e▸L9 hb')
  simp only[Θ',QV knd hx hb];rw[b8 hne]
 have Le:∀b,b≠g->b∉L.flatMap Fs.ts->Θ' b=if Θ2 b=N+2 then 0 else Θ2 b:=by
  intro b h1 h2;simp only[Θ',HT h2];rw[b8 h1]
 have hzero:∀b,w.heap.size<=b->Θ2 b=0:=fun b hge=>by
  cases h:Θ2 b with
  |zero=>rfl
  |succ m=>exact absurd (hs2.own b (by omega)) (by omega)
 have a3z:∀b∈b3++b2,Θ' b=0:=by
  intro b hb;obtain⟨p1,p2,p3⟩:=kb b hb;rw[Le b p2 p3];by_cases hlt:b<w.heap.size
  ·rcases p1 hlt with h|h
   ·rw[Vx b ((Jm b).1 h)];simp
   ·rw[bK (NC b (.inr h))]
  ·rw[hzero b (by omega)];simp
 have a3q:∀(i:Nat) x b,L[i]?=some x->b∈x.ns->Θ' b=0:=by
  intro i x b hx hb;have hmem:=AQ hx hb;rw[Le b (ku b hmem).2.1 (M1 knd hx hb)];rcases(ku b hmem).1 with h|h
  ·rw[hzero b h];simp
  ·rcases Ie.mem b h with h|⟨m,hm,hρ⟩
   ·rw[bK (NC b (.inr h))]
   ·rw[Vx b (hu1.free b (by omega)).1];simp
 have hn:∀(j:Nat) v,κ j=some v->κ' j=some v:=by
  intro j v hj;have:j<N:=iU fun h=>by rw[hs.pX j (by omega)]at hj;cases hj
  simp only[κ'];rw[bK this];exact hj
 have zD:Names κ' N L:=by
  intro i x hx;simp only[κ'];rw[b8 (by omega),dM,hx];rfl
 have a3o:∀b∈L.flatMap Fs.ts,zo Γ b:=by
  intro b hb;rcases(kt b hb).2 with h|h
  ·exact .inl (cW hs.base h)
  ·obtain⟨m,hm,hΘ⟩:=RN b h;exact hs1.mine b (by omega)
 have k:iV w w' Θ2 Θ' (N+2):=by
  refine⟨by omega,k1,k2,k3,k4,fun b hlt hne=>a2A b hlt (fun e=>hne (NC b (.inl e))) (fun e=>hne (NC b (.inr e))),fun b hlt hne=>?_,fun b hb=>?_⟩
  ·rw[Le b (fun e=>hne (NC b (.inl e))) (fun e=>?_),b8 hne];rcases(kt b e).2 with h|h
   ·omega
   ·exact hne (NC b (.inr h))
  ·by_cases e:b=g
   ·subst e;omega
   ·by_cases ht':b∈L.flatMap Fs.ts
    ·obtain⟨x,T,hx⟩:=(ku b (L9 ht')).2.2;exact(bG.1 hx).1
    ·rw[Le b e ht']at hb;split at hb
     ·exact absurd rfl hb
     ·exact dP (hs2.own b hb) k4
 have hm:∀b,2<=Θ' b->zo Γ b:=by
  intro b hb;by_cases e:b=g
  ·subst e;exact hs1.mine b (by omega)
  ·by_cases ht':b∈L.flatMap Fs.ts
   ·exact a3o b ht'
   ·rw[Le b e ht']at hb;split at hb
    ·omega
    ·exact hs2.mine b hb
 have uI:=hs2.oX k hn hu2;have R7:((kill st.H (ms++qs)).set id (ob.re (mO N cells').1)).length=N:=by simp[gM,N]
 have a4a:∀(a_ bs:aX) (H:bO),kill H (a_++bs)=kill (kill H a_) bs:=by
  intro a_
  induction a_ with
  |nil=>intro bs H;rfl
  |cons x a_ ih=>intro bs H;simp only[qQ,kill,ih]
 have a77:(mO N cells').2++(pW (N+(mO N cells').2.length) d).2=L.map Fs.ob:=by simp[L,a1,c1]
 have key:∀(j:Nat) y,((kill st.H (ms++qs)).set id (ob.re (mO N cells').1)++L.map Fs.ob)[j]?=some y->(∃i x,j=N+i/\L[i]?=some x/\y=x.ob)\/(j=id/\y=ob.re (mO N cells').1)\/(j≠id/\j<N/\(y=.gone\/(kill (kill st.H ms) (id::qs))[j]?=some y)):=by
  intro j y hj;by_cases hlt:j<N
  ·rw[au (by rw[R7];exact hlt)]at hj;rcases yP j y hj with⟨rfl,rfl⟩|⟨h1,h2⟩
   ·exact .inr (.inl ⟨rfl,rfl⟩)
   ·refine .inr (.inr ⟨h1,hlt,?_⟩);rcases sD h2 with h|⟨h3,h4⟩
    ·exact .inl h
    ·refine .inr ?_;simp only[af,GD]at h3;rw[j7 (by simp[h1,h3.2]),j7 h3.1];exact h4
  ·rw[b7 (by omega),R7,bg]at hj;cases hx:L[j-N]? with
   |none=>simp[hx]at hj
   |some x=>simp[hx]at hj;exact .inl ⟨j-N,x,by omega,hx,hj.symm⟩
 have hs':dX Γ ⟨st.σ,(kill st.H (ms++qs)).set id (ob.re (mO N cells').1)++L.map Fs.ob⟩ κ' Θ' a w':=by
  have Pj:∀(j:Nat) y,(kill (kill st.H ms) (id::qs))[j]?=some y->y≠ .gone->∀b,ρ1 b=j+1->ρ' b=j+1:=by
   intro j y hy hyg b a7a;have hjk:j∉id::qs:=by
    rcases sD hy with h|h
    ·exact absurd h hyg
    ·exact h.1
   have hnb:zb L b=none:=by
    cases hi:zb L b with
    |none=>rfl
    |some i=>
     exfalso;obtain⟨x,hx,Fi⟩:=BM hi;obtain⟨z0,_,a8w,T'',a7U⟩:=hu1.free b (by omega);rcases(ku b (AQ hx Fi)).1 with h|h
     ·have:=(bG.1 a7U).1;omega
     ·rcases Ie.mem b h with h|⟨m,hm',hρ⟩
      ·obtain⟨m,hm',hΘ⟩:=RN b h;omega
      ·exact hjk (by
        have:j=m:=by omega
        rw[this];simp[hm'])
   simp only[ρ',hnb];exact a7a
  refine hs2.step k hm hn ?_ ?_ ?_ ⟨ρ',?_,?_,?_⟩
  ·intro i hi;simp only[bB,R7,ax]at hi;simp only[κ'];rw[b8 (by omega),cP (by omega)];rfl
  ·intro i u yM;simp only[κ']at yM;split at yM
   ·exact hs.ol i u yM
   ·cases hx:L[i-N]? with
    |none=>simp[hx]at yM
    |some x=>simp[hx]at yM;subst yM;exact(a1G x (aD hx)).2.2.2.2
  ·intro j y hj;rcases key j y hj with⟨i,x,rfl,hx,rfl⟩|⟨rfl,rfl⟩|⟨hji,hjl,hy|hy⟩
   ·obtain⟨q1,q2,q3,q4,_⟩:=a1G x (aD hx);exact .inr (.inr ⟨q1,q2,x.v,x.cs,x.ns,zD i x hx,q3,q4,fun g' hg'=>Yp i x g' hx hg',fun b hb'=>a3q i x b hx hb'⟩)
   ·refine .inr (.inr (vZ.a4s zg a3r (hn _) ⟨g,cs',T',hn _ _ hk0,kg,a47,b3,a5 κ' zD.left,fun b hb=>a3z b (by simp[hb])⟩))
   ·exact .inl hy
   ·exact .inr (.inl ⟨by omega,hy⟩)
  ·intro b hb;cases R9:zb L b with
   |some i=>
    obtain⟨x,hx,Fi⟩:=BM R9;have hmem:=AQ hx Fi;refine⟨a3q i x b hx Fi,?_,(ku b hmem).2.2⟩;rcases(ku b hmem).1 with h|h
    ·exact .inl (.inl (cW hs.base h))
    ·rcases Ie.mem b h with h|⟨m,hm',hρ⟩
     ·obtain⟨m,hm',hΘ⟩:=RN b h;exact .inl (hs1.mine b (by omega))
     ·exact(hu1.free b (by omega)).2.1
   |none=>
    simp only[ρ',R9]at hb;exact uI.1 b hb
  ·intro j e sz rows hj;rcases key j _ hj with⟨i,x,rfl,hx,hy⟩|⟨rfl,hy⟩|⟨hji,hjl,hy|hy⟩
   ·simp only[Fs.ob,Ob.row.injEq,ua]at hy;obtain⟨rfl,rfl,rfl⟩:=hy;obtain⟨q1,q2,q3,q4,_⟩:=a1G x (aD hx);exact⟨x.v,x.cs,x.ns,zD i x hx,q3,q4,Q7 knd hx,fun b hb'=>by simp only[ρ',L8 knd hx hb']⟩
   ·cases ob<;>simp[Ob.re]at hy
   ·cases hy
   ·obtain⟨v',c',bs',r1,r2,r3,r4,r5⟩:=uI.2.1 j e sz rows (by omega) hy;exact⟨v',c',bs',r1,r2,r3,r4,fun b hb'=>Pj j _ hy (by simp) b (r5 b hb')⟩
  ·intro j y hj;rcases key j _ hj with⟨i,x,rfl,hx,hy⟩|⟨rfl,hy⟩|⟨hji,hjl,hy|hy⟩
   ·subst hy;exact Kj.zG rfl
   ·subst hy;cases ob<;>exact Kj.zG rfl
   ·subst hy;trivial
   ·by_cases hg:y=.gone
    ·subst hg;trivial
    ·exact(uI.2.2 j y (by omega) hy).re (Pj j y hy hg)
 rw[a77]at h;refine hK _ _ (h _ _ _ _ (hs'.set (t:=t) ht (c5 κ' ?_) fun b hb=>a3z b (by simp[hb])));rw[<-a6T];exact zD.right
def Zp(P:Program)(f:FuncId)(ds cells:aQ):Prop:=
 (∃fn,P.funcs[f]?=some fn/\fn.body.isSome=true/\(fn.name== "runtime.NumGoroutine")=false)/\
 ∀(w:World) (Θ:Nat->Nat) (args:bZ) (bs:aX),Nk w (fun _=>False)->SI w args ds bs->(∀b∈bs,Θ b=0)->(∀b,Θ b≠0->b<w.heap.size)->(∀b,Θ b<=1)->
  Calls P f args.toArray w (fun e w'=>∃g cs T bs',e=.returned (.pointer (some ⟨g,0,none⟩))/\Below w.heap.size w w'/\w.heap.size<=g/\w'.heap[g]?=some (.cells cs T (0,0))/\kz w' cs.toList cells bs'/\
   ∀b∈bs',(b<w.heap.size->Θ b=0)/\b≠g)
def a6C(P:Program)(fn:Func)(cells:aQ)(e:Exit)(st:St):Prop:=
 (e=.ret\/e=.normal)/\∃j,G3 P st fn.results.toList=some [.ptr j 0]/\st.H[j]?=some (.box cells)/\cells.all D.Ow=true
theorem Uy{o:Oper}{f t:Nat}{xs:Array Operand}{ts:Array TypeId}{ds cells:aQ}(hop:o.op=.call {callee:=.value (.func f),args:=xs,argTypes:=ts})(hd:o.dst=some t)(hg:o.guard=none)
 (ht:t<Γ.nt) (hds:HU st.H (xs.toList.map st.ev)=some (ds,[])) (nq:Zp P f ds cells)
 (h:AO P Γ all rest Q ⟨(t,.ptr st.H.length 0)::st.σ,st.H++[.box cells]⟩):AO P Γ all (o::rest) Q st:=by
 intro κ Θ a w hs;obtain⟨bs,hargs,hz⟩:=Kv hs hds;have xS:∀b∈bs,Θ b=0:=fun b hb=>(hz b hb).elim id (fun⟨m,h1,_⟩=>by cases h1)
 let Θc:Nat->Nat:=fun b=>if Θ b=0 then 0 else 1
 have Jm:∀b,Θc b=0↔Θ b=0:=fun b=>by simp only[Θc];split<;>simp_all
 have hc:=nq.2 w Θc _ bs hs.vok hargs (fun b hb=>(Jm b).2 (xS b hb)) (fun b hb=>hs.own b (fun e=>hb ((Jm b).2 e))) (fun b=>by simp only[Θc];split<;>omega);refine wpList_plain hg fun K hK=>?_
 unfold Oper.wp;rw[xN hop nq.1,Oper.upon_enter];have e:xs.map a.eval=(xs.toList.map a.eval).toArray:=by rw[<-iE,jc]
 rw[e];refine hc.mono ?_;rintro e w' ⟨g,cs,T,bs',rfl,hb,hge,hg',hrd,hbb⟩;show K (a.put o.dst (.pointer (some ⟨g,0,none⟩))) w';rw[hd];let Θ':Nat->Nat:=fun b=>if b=g then st.H.length+2 else Θ b
 have k:iV w w' Θ Θ' (st.H.length+2):=by
  refine⟨by omega,hb.os,hb.tape,hb.output,hb.size,fun b hlt _=>hb.block b hlt,fun b hlt _=>?_,fun b hb'=>?_⟩
  ·simp only[Θ'];rw[b8 (by omega)]
  ·simp only[Θ']at hb';split at hb'
   ·rename_i e;subst e;exact(bG.1 hg').1
   ·exact dP (hs.own b hb') hb.size
 have hbz:∀b∈bs',Θ' b=0:=by
  intro b hb';obtain⟨h1,h2⟩:=hbb b hb';simp only[Θ'];rw[b8 h2];by_cases hlt:b<w.heap.size
  ·exact(Jm b).1 (h1 hlt)
  ·cases h:Θ b with
   |zero=>rfl
   |succ m=>exact absurd (hs.own b (by omega)) hlt
 have hs':=hs.push (o:=.box cells) (v:=.pointer (some ⟨g,0,none⟩)) rfl k (hs.yV (fun b hb'=>by
  simp only[Θ']at hb';split at hb'
  ·rename_i e;subst e;exact .inr hge
  ·exact .inl hb')) ⟨g,cs,T,kO _ _ _,hg',by simp[Θ'],bs',er.C6 hrd,hbz⟩ rfl
 refine hK _ _ (h _ _ _ _ (hs'.set (t:=t) (d:=.ptr st.H.length 0) (bs:=[]) ht ?_ (by simp)));exact(yT.ptr st.H.length 0 g (kO _ _ _)).Oi
theorem YF{o:Oper}{T t id e e' sz h:Nat}{kk:IntKind}{x hi:Operand}{rows:List aQ}(hop:o.op=.slice T x none (some hi) none)(hd:o.dst=some t)(hg:o.guard=none)(ht:t<Γ.nt)
 (hT:Ec P T=some (e',sz)) (hx:st.ev x=.acc id) (hH:st.H[id]?=some (.row .uq e sz rows)) (hhi:st.ev hi=.int kk (h:Int)) (hle:h<=rows.length)
 (hn:AO P Γ all rest Q ⟨(t,.acc st.H.length)::st.σ,kill st.H [id]++[.row .uq e sz (rows.take h)]⟩):AO P Γ all (o::rest) Q st:=by
 intro κ Θ a w hs;obtain⟨hsz,hrl,v,cs0,bs0,hk,a07,a9c,E7,xS⟩:=hs.ob id _ hH;obtain⟨ρ,hu⟩:=hs.td;obtain⟨v2,cs,bs,hk2,hown,hrd,hnd,hρ⟩:=hu.rows id e sz rows hH;rw[hk]at hk2;cases hk2;obtain⟨bx,rx,_⟩:=hs.ev x;rw[hx]at rx;obtain⟨hkx,_⟩:=rx.uw;have Sq:a.eval x=v:=by rw[hk]at hkx;cases hkx;rfl
 let v':Value:=match v with| .slice q _ cap=>.slice q h cap|u=>u
 have hc:Kb rows.length ((none:Option Operand).map st.ev) ((some hi).map st.ev)=some (0,h):=by
  simp[Kb,hhi,hle]
 have hrun:∃q cap,v=.slice q rows.length cap/\v'=.slice q h cap/\(execOp a.eval o).run P w=.ok (.value v') w:=by
  obtain⟨yM,Jj,Ig⟩:=oH hT;have main:∀(q:Option Addr) (cap:Nat),(∀b off sp,q=some ⟨b,off,sp⟩->off=0/\sp=none)->v=.slice q rows.length cap->rows.length<=cap->(execOp a.eval o).run P w=.ok (.value (.slice q h cap)) w:=by
   intro q cap hq0 hq hcap;obtain⟨hr,hl,hh⟩:=OT (P:=P) (isSlice:=true) (cap:=cap) hs hcap hc;have a9C:(if cap=0 then q else q.map (·.add (0*sz)))=q:=by
    split
    ·rfl
    ·cases q with
     |none=>rfl
     |some ad=>simp[Addr.add]
   simp only[xU,cM]at hr;simp only[execOp,hop,Sq,hq];simp[Instr.sliceAt,Instr.slice,run_underlying yM,hr,uo (P:=P) Jj w];intro hc0;cases q with
   |none=>rfl
   |some ad=>simp[Addr.add]
  rcases hown.2 with⟨rfl,h0⟩|⟨g,cap,cur,rfl,_,Nz,hnc,hcm,hcs,htk⟩
  ·exact⟨none,0,by rw[h0],rfl,main none 0 (by simp) (by rw[h0]) (by omega)⟩
  ·exact⟨some ⟨g,0,none⟩,cap,rfl,rfl,main _ _ (by simp) rfl hnc⟩
 obtain⟨q,cap,hvq,Yo,hrun⟩:=hrun;have zg:v'.ownBlock=v.ownBlock:=by rw[Yo,hvq];cases q<;>rfl
 have hone:v'.oneCell'=true:=by
  have:=hs.ol id v hk;rw[hvq]at this;rw[Yo];exact this
 have hsplit:∃cs' bs',w.ownsRow 0 e sz v' (rows.take h).length cs'/\kz w cs' (rows.take h).flatten bs'/\bs'.Nodup/\∀b∈bs',b∈bs:=by
  have e1:rows.flatten=(rows.take h).flatten++(rows.drop h).flatten:=by rw[<-kR,bp]
  have La:=hrd;rw[e1]at La;obtain⟨c1,c2,b1,b2,rfl,rfl,k1,k2⟩:=La.split;have htl:(rows.take h).length=h:=by rw[cA];omega
  have hc1:c1.length=h*sz:=by rw[k1.length,nk (fun r hr=>hrl r (bw hr)),htl]
  refine⟨c1,b1,?_,k1,(bJ.1 hnd).1,fun b hb=>by simp[hb]⟩;rw[htl];refine⟨hc1,?_⟩;rcases hown.2 with⟨hv0,h0⟩|⟨g,cap',cur,hvs,hbg,Nz,hnc,hcm,hcs,htk⟩
  ·left
   have:h=0:=by omega
   subst this;have e3:=hv0.symm.trans hvq;simp only[Value.slice.injEq]at e3;exact⟨by rw[Yo,<-e3.1,<-e3.2.2],rfl⟩
  ·right
   have e3:=hvs.symm.trans hvq;simp only[Value.slice.injEq]at e3;refine⟨g,cap',cur,by rw[Yo,<-e3.1,<-e3.2.2],hbg,Nz,by omega,hcm,hcs,?_⟩;have h3:(cur.toList.take (rows.length*sz)).take (h*sz)=(c1++c2).take (h*sz):=by rw[htk]
   rw[tE,eX (dH _ hle)]at h3;rw[h3];exact iA hc1
 obtain⟨cs',bs',p1,p2,p3,p4⟩:=hsplit;refine wpList_plain hg fun K hK=>?_
 unfold Oper.wp;rw[hrun,Oper.upon_value,hd];let n:=st.H.length
 have Tx:id<n:=(aF.1 hH).1;let Θ':Nat->Nat:=fun b=>if some b=v'.ownBlock then n+2 else Θ b
 let ρ':Nat->Nat:=fun b=>if ρ b=id+1 then n+1 else ρ b
 have Y7:∀g,v'.ownBlock=some g->Θ g=id+2:=fun g Tw=>E7 g (zg▸Tw)
 have k:iV w w Θ Θ' (id+2):=by
  refine⟨by omega,rfl,rfl,rfl,bN _,fun _ _ _=>rfl,fun b hb hne=>?_,fun b hb=>?_⟩
  ·simp only[Θ'];rw[b8 fun e=>hne (Y7 b e.symm)]
  ·simp only[Θ']at hb;split at hb
   ·rename_i e;exact hs.own b (by rw[Y7 b e.symm];omega)
   ·exact hs.own b hb
 have hm:∀b,2<=Θ' b->zo Γ b:=by
  intro b hb;simp only[Θ']at hb;split at hb
  ·rename_i e;exact hs.mine b (by rw[Y7 b e.symm];omega)
  ·exact hs.mine b hb
 have hnn:=wk (hs.pX n (bN _)) (some v');have uI:=hs.oX k hnn hu;have MN:∀b∈bs',Θ' b=0:=by
  intro b hb;have h1:=(hu.free b (by rw[hρ b (p4 b hb)];omega)).1;simp only[Θ'];rw[b8 fun e=>by have:=Y7 b e.symm;omega];exact h1
 have key:∀(j:Nat) y,(kill st.H [id]++[.row .uq e sz (rows.take h)])[j]?=some y->(j=n/\y=.row .uq e sz (rows.take h))\/(j≠n/\(y=.gone\/(j∉[id]/\st.H[j]?=some y))):=by
  intro j y hj;rcases B4 j y hj with⟨h1,h2⟩|⟨h1,h2⟩
  ·rw[gM]at h1;exact .inl ⟨h1,h2⟩
  ·rw[gM]at h1;exact .inr ⟨h1,sD h2⟩
 have hs':dX Γ ⟨st.σ,kill st.H [id]++[.row .uq e sz (rows.take h)]⟩ (xT κ n (some v')) Θ' a w:=by
  refine hs.step k hm hnn ?_ ?_ ?_ ⟨ρ',fun b hb=>?_,fun j e2 Rr fI hj=>?_,fun j y hj=>?_⟩
  ·intro i hi;simp only[bB,aY,bX,gM]at hi;unfold xT;rw[b8 (by omega)];exact hs.pX i (by omega)
  ·intro i y hy;unfold xT at hy;split at hy
   ·cases hy;exact hone
   ·exact hs.ol i y hy
  ·intro j y hj;rcases key j y hj with⟨rfl,rfl⟩|⟨_,hy|⟨hjk,hy⟩⟩
   ·exact .inr (.inr ⟨hsz,fun r hr=>hrl r (bw hr),v',cs',bs',kO _ _ _,p1,p2,fun g Tw=>by simp only[Θ'];rw[bK Tw.symm],MN⟩)
   ·exact .inl hy
   ·exact .inr (.inl ⟨fun e=>hjk (by simp;omega),hy⟩)
  ·refine uI.1 b fun h0=>hb ?_
   simp only[ρ'];rw[b8 (by omega)];exact h0
  ·rcases key j _ hj with⟨rfl,hy⟩|⟨_,hy|⟨hjk,hy⟩⟩
   ·simp only[Ob.row.injEq,ua]at hy;obtain⟨rfl,rfl,rfl⟩:=hy;exact⟨v',cs',bs',kO _ _ _,p1,p2,p3,fun b hb=>by simp only[ρ'];rw[bK (hρ b (p4 b hb))]⟩
   ·cases hy
   ·obtain⟨v3,c3,b3,q1,q2,q3,q4,q5⟩:=uI.2.1 j e2 Rr fI (fun e=>hjk (by simp;omega)) hy;refine⟨v3,c3,b3,q1,q2,q3,q4,fun b hb=>?_⟩;have hne:j≠id:=fun e=>hjk (by simp[e])
    simp only[ρ'];rw[b8 (by rw[q5 b hb];omega)];exact q5 b hb
  ·rcases key j _ hj with⟨rfl,hy⟩|⟨_,hy|⟨hjk,hy⟩⟩
   ·subst hy;exact Kj.zG rfl
   ·subst hy;trivial
   ·refine(uI.2.2 j y (fun e=>hjk (by simp;omega)) hy).re fun b hb=>?_
    have hne:j≠id:=fun e=>hjk (by simp[e])
    simp only[ρ'];rw[b8 (by omega)];exact hb
 refine hK _ _ (hn _ _ _ _ (hs'.set (t:=t) (d:=.acc n) (bs:=[]) ht ?_ (by simp)));exact(yT.acc n _ (kO _ _ _)).Oi
end
end Go.Cx
namespace Go.Cx
open Go.RowKit
section
variable{P:Program}{Γ:vJ}{Q:Exit->St->Prop}{st:St}{κ κ':Nat->Option Value}{Θ Θ':Nat->Nat}{a:Act}{w w':World}{all:Array Oper}{rest:List Oper}
theorem dX.a2H(hs:dX Γ st κ Θ a w):
 dX Γ ⟨st.σ,st.H++[.mp []]⟩ (xT κ st.H.length (some (.map (some w.heap.size)))) (fun b=>if b=w.heap.size then st.H.length+2 else Θ b) a (w.alloc (.map #[] 0)):=by
 have k:=iV.alloc hs (.map #[] 0) (tag:=st.H.length+2) (by omega);refine hs.push rfl k (hs.yV (fun b hb=>by by_cases e:b=w.heap.size<;>simp_all)) ?_ rfl;exact⟨w.heap.size,#[],0,by simp[xT],heap_alloc_new w _,by simp,rfl,by simp⟩
theorem Qk{o:Oper}{T t:Nat}(hop:o.op=.makeMap T none)(hd:o.dst=some t)(hg:o.guard=none)(ht:t<Γ.nt)
 (h:AO P Γ all rest Q ⟨(t,.acc st.H.length)::st.σ,st.H++[.mp []]⟩):AO P Γ all (o::rest) Q st:=by
 intro κ Θ a w hs;have hs':=hs.a2H;refine wpList_plain hg fun K hK=>?_
 unfold Oper.wp;have hrun:(execOp a.eval o).run P w=.ok (.value (.map (some w.heap.size))) (w.alloc (.map #[] 0)):=by
  simp[execOp,hop,Instr.makeMap,newObj];rfl
 rw[hrun,Oper.upon_value,hd];refine hK _ _ (h _ _ _ _ (hs'.set (t:=t) (d:=.acc st.H.length) (bs:=[]) ht ?_ (by simp)));exact(yT.acc st.H.length _ (kO _ _ _)).Oi
theorem xg.push{es:List MapEntry}{kv:List (D×D)}{k v:D}{u x:Value}(h:xg w es kv)(hk:Rd w u k [])(hv:Rd w x v [])(c:Nat):xg w (es++[{key:=u,val:=x,born:=c}]) (kv++[(k,v)]):=by
 refine⟨by simp[h.1],fun j e p h1 h2=>?_⟩;by_cases hj:j<es.length
 ·rw[au hj]at h1;rw[au (by rw[<-h.1];exact hj)]at h2;exact h.2 j e p h1 h2
 ·rw[b7 (by omega)]at h1;rw[b7 (by rw[<-h.1];omega),<-h.1]at h2;have e0:j-es.length=0:=by
   have:=(aF.1 h1).1;simp at this;omega
  rw[e0]at h1 h2;simp at h1 h2;subst h1;subst h2;exact⟨hk,hv⟩
theorem xg.put{es:List MapEntry}{kv:List (D×D)}{k v:D}{u x:Value}(h:xg w es kv)(hk:Rd w u k [])(hv:Rd w x v [])(i:Nat){es':List MapEntry}(hl:es'.length=es.length)
 (he:∀(j:Nat) e,es'[j]?=some e->(j=i/\e.key=u/\e.val=x)\/(j≠i/\es[j]?=some e)):xg w es' (kv.set i (k,v)):=by
 refine⟨by simp[hl,h.1],fun j e p h1 h2=>?_⟩;rcases he j e h1 with⟨rfl,h3,h4⟩|⟨hne,h3⟩
 ·have hlt:j<kv.length:=by
   have:=(aF.1 h2).1;simpa using this
  rw[dF hlt]at h2;cases h2;rw[h3,h4];exact⟨hk,hv⟩
 ·rw[bu (rC hne)]at h2;exact h.2 j e p h3 h2
theorem a2C{kd:TypeDesc}{k v:D}{u:Value}(MX:HL kd k=true)(hu:Rd w u k []):∀ {es:List MapEntry} {kv kv':List (D×D)} (i:Nat),xg w es kv->Ik k v kv=some kv'->
 (Instr.findNow kd u es i=some none/\kv'=kv++[(k,v)])\/∃j x e,Instr.findNow kd u es i=some (some (i+j,x))/\es[j]?=some e/\e.key=u/\kv'=kv.set j (k,v):=by
 intro es
 induction es with
 |nil=>
  intro kv kv' i hr h;cases kv with
  |nil=>cases h;exact .inl ⟨rfl,rfl⟩
  |cons p kv=>exact absurd hr.1 (by simp)
 |cons e es ih=>
  intro kv kv' i hr h;cases kv with
  |nil=>exact absurd hr.1 (by simp)
  |cons p kv=>
   obtain⟨r1,r2,r3⟩:=hr.cons;simp only[Ik]at h;split at h
   ·rename_i hq;cases h;have:=Kq MX hu r1 hq;exact .inr ⟨0,e.val,e,by simp[Instr.findNow,this.1],rfl,this.2 rfl,rfl⟩
   ·rename_i hq;have MY:=(Kq MX hu r1 hq).1;cases hk:Ik k v kv with
    |none=>rw[hk]at h;cases h
    |some kv1=>
     rw[hk]at h;cases h;rcases ih (i+1) r3 hk with⟨h1,h2⟩|⟨j,x,e',h1,h2,h3,h4⟩
     ·exact .inl ⟨by simpa[Instr.findNow,MY]using h1,by rw[h2];rfl⟩
     ·exact .inr ⟨j+1,x,e',by simp only[Instr.findNow,MY];rw[h1];congr 3;omega,by simpa using h2,h3,by rw[h4];rfl⟩
   ·cases h
theorem Oa{kd:TypeDesc}{u:Value}(h:MapKept.IsKey kd u)(n:Nat):Instr.sameBits n u u=true:=by
 cases kd<;>cases u<;>simp[MapKept.IsKey]at h<;>simp[Instr.sameBits]
 all_goals first
  |exact(MapKept.bytes_beq _ _).2 rfl
  |rfl
def D.scalar:D->Bool
 | .str _=>true
 | .int _ _=>true
 | .bool _=>true
 |_=>false
theorem QK{v:Value}{d:D}{bs:aX}(hd:d.scalar=true)(hu:rD w κ v d bs):Rd w v d []:=by
 cases d<;>simp[D.scalar]at hd
 all_goals cases hu with|v h=>cases h with|cell h=>cases h with|pure h=>cases h<;>(constructor<;>assumption)
theorem Nf{o:Oper}{T id:Nat}{x i y:Operand}{kd:TypeDesc}{dz:D}{kv kv':List (D×D)}(hop:o.op=.mapUpdate T x i y)(hd:o.dst=none)(hg:o.guard=none)
 (hT:UX P T=some (kd,dz)) (hx:st.ev x=.acc id) (hH:st.H[id]?=some (.mp kv)) (MX:HL kd (st.ev i)=true) (hsc:(st.ev y).scalar=true) (hput:Ik (st.ev i) (st.ev y) kv=some kv')
 (h:AO P Γ all rest Q ⟨st.σ,st.H.set id (.mp kv')⟩):AO P Γ all (o::rest) Q st:=by
 intro κ Θ a w hs;obtain⟨g,es,c,q1,q2,q3,q4⟩:=hs.ob id _ hH;obtain⟨bs,r,_⟩:=hs.ev x;rw[hx]at r;obtain⟨hk,_⟩:=r.uw;rw[q1]at hk;have hxv:a.eval x=.map (some g):=(oq hk).symm;obtain⟨bi,ri,_⟩:=hs.ev i;obtain⟨by',ry,_⟩:=hs.ev y;have hu:=NG MX ri;have hv:=QK hsc ry;obtain⟨kt,et,z,t1,t2,t3,t4⟩:=MH hT;have hik:=Pr MX hu;have hck:=MapKept.run_checkKey (P:=P) (w:=w) t2 hik false 9999;have a6p:g<w.heap.size:=(bG.1 q2).1;have Tx:id<st.H.length:=(aF.1 hH).1;have hrun:∃es' c',(execOp a.eval o).run P w=.ok .skip {w with heap:=w.heap.setIfInBounds g (.map es' c')}/\xg w es'.toList kv':=by
  rcases a2C MX hu 0 q4 hput with⟨hn,rfl⟩|⟨j,x',e,hn,he,hek,rfl⟩
  ·have Yk:=MapKept.run_findKey (P:=P) (w:=w) t2 hn;refine⟨es.push {key:=a.eval i,val:=a.eval y,born:=c},c+1,?_,?_⟩
   ·simp[execOp,hop,hxv,Instr.mapUpdate,run_underlying t1,MapKept.run_getObj_map q2,hck,Yk,MapKept.run_setObj_map _ q2]
   ·rw[Array.toList_push];exact q4.push hu hv c
  ·rw[cm]at hn;have Yk:=MapKept.run_findKey (P:=P) (w:=w) t2 hn;have hej:es[j]?=some e:=by simpa using he
   have hst:(Instr.keyThatStays (((es[j]?).map (·.key)).getD (a.eval i)) (a.eval i)).run P w=.ok (a.eval i) w:=by
    rw[hej];simp[Instr.keyThatStays,hek,Oa hik]
   refine⟨es.modify j fun e=> {e with key:=a.eval i,val:=a.eval y},c,?_,?_⟩
   ·simp[execOp,hop,hxv,Instr.mapUpdate,run_underlying t1,MapKept.run_getObj_map q2,hck,Yk,hst,MapKept.run_setObj_map _ q2]
   ·refine q4.put hu hv j (by simp) fun m e' hm=>?_
    rw[sV,vv]at hm;by_cases hmj:j=m
    ·subst hmj;rw[bK rfl,hej]at hm;cases hm;exact .inl ⟨rfl,rfl,rfl⟩
    ·rw[b8 hmj]at hm;exact .inr ⟨rC hmj,by simpa using hm⟩
 obtain⟨es',c',hr,a7F⟩:=hrun;have a1W:∀b,b≠g->(w.heap.setIfInBounds g (.map es' c'))[b]?=w.heap[b]?:=fun b hb=>by simp[rC hb]
 have k:iV w {w with heap:=w.heap.setIfInBounds g (.map es' c')} Θ Θ (id+2):=by
  refine⟨by omega,rfl,rfl,rfl,by simp,fun b hb hne=>a1W b fun e=>hne (e▸q3),fun _ _ _=>rfl,fun b hb=>?_⟩;simpa using hs.own b hb
 have hs':dX Γ ⟨st.σ,st.H.set id (.mp kv')⟩ κ Θ a {w with heap:=w.heap.setIfInBounds g (.map es' c')}:=by
  obtain⟨ρ,yM⟩:=hs.td;have uI:=hs.oX k (fun _ _ h=>h) yM;refine hs.step k hs.mine (fun _ _ h=>h) (fun i hi=>hs.pX i (by simpa using hi)) hs.ol ?_ ⟨ρ,uI.1,fun j e sz rows hj=>?_,fun j y hj=>?_⟩
  ·intro j y' hj;by_cases e:j=id
   ·subst e;rw[dF Tx]at hj;cases hj;exact .inr (.inr ⟨g,es',c',q1,by simp[a6p],q3,a7F.stay⟩)
   ·rw[bu (rC e)]at hj;exact .inr (.inl ⟨by omega,hj⟩)
  ·by_cases e':j=id
   ·subst e';rw[dF Tx]at hj;cases hj
   ·rw[bu (rC e')]at hj;exact uI.2.1 j e sz rows (by omega) hj
  ·by_cases e':j=id
   ·subst e';rw[dF Tx]at hj;cases hj;trivial
   ·rw[bu (rC e')]at hj;exact uI.2.2 j y (by omega) hj
 refine wpList_plain hg fun K hK=>?_
 unfold Oper.wp;rw[hr,Oper.upon_skip,hd];exact hK _ _ (h _ _ _ _ hs')
end
end Go.Cx
namespace Go.Cx
open Go.RowKit
def Oz(P:Program)(f:FuncId)(e:TypeId)(sz:Nat)(rows cv:List aQ):Prop:=
 (∃fn,P.funcs[f]?=some fn/\fn.body.isSome=true/\(fn.name== "runtime.NumGoroutine")=false)/\
 ∀(w:World) (v:Value) (cs:bZ),0<sz->(∀r∈rows,r.length=sz)->w.ownsRow 0 e sz v rows.length cs->kz w cs rows.flatten []->
  Calls P f #[v] w (fun x w'=>x=.returned (.tuple #[])/\w'.os=w.os/\w'.tape=w.tape/\w'.output=w.output/\w.heap.size<=w'.heap.size/\
   (∀b,b<w.heap.size->v.ownBlock≠some b->w'.heap[b]?=w.heap[b]?)/\(∀r∈cv,r.length=sz)/\∃cs',w'.ownsRow 0 e sz v cv.length cs'/\kz w' cs' cv.flatten [])
section
variable{P:Program}{Γ:vJ}{Q:Exit->St->Prop}{st:St}{κ:Nat->Option Value}{Θ:Nat->Nat}{a:Act}{w:World}{all:Array Oper}{rest:List Oper}
theorem Ux{o:Oper}{f id e sz:Nat}{x:Operand}{ts:Array TypeId}{k0:RK}{rows cv:List aQ}(hop:o.op=.call {callee:=.value (.func f),args:= #[x],argTypes:=ts})(hd:∀t,o.dst=some t->t<Γ.nt)(hg:o.guard=none)
 (hx:st.ev x=.acc id) (hH:st.H[id]?=some (.row k0 e sz rows)) (hk0:k0.hand=true) (hfl:rows.flatten.all D.flat=true) (nq:Oz P f e sz rows cv)
 (h:AO P Γ all rest Q (St.put ⟨st.σ,st.H.set id (.row k0 e sz cv)⟩ o.dst (.hY []))):AO P Γ all (o::rest) Q st:=by
 intro κ Θ a w hs;obtain⟨b1,r1,_⟩:=hs.ev x;rw[hx]at r1;obtain⟨hkv,_⟩:=r1.uw;obtain⟨hsz,hrl,v,cs,bs,hk1,hown,hrd,E7,hz⟩:=hs.ob id _ hH;rw[hkv]at hk1;cases hk1;have E5:=hrd.flat hfl;subst E5;obtain⟨ρ,hu⟩:=hs.td;refine wpList_plain hg fun K hK=>?_
 unfold Oper.wp;rw[xN hop nq.1,Oper.upon_enter];have e1:(#[x]:Array Operand).map a.eval= #[a.eval x]:=by simp
 rw[e1];refine(nq.2 w _ cs hsz hrl hown hrd).mono ?_;rintro e' w' ⟨rfl,k1,k2,k3,k4,k5,KX,cs',Ic,La⟩;have kk:iV w w' Θ Θ (id+2):=⟨by omega,k1,k2,k3,k4,fun b hb ht=>k5 b hb fun e=>ht (E7 b e),fun _ _ _=>rfl,fun b hb=>dP (hs.own b hb) k4⟩
 have hs':dX Γ ⟨st.σ,st.H.set id (.row k0 e sz cv)⟩ κ Θ a w':=by
  refine hs.put [] yP (fun _ _ h=>h) (fun i hi=>hs.pX i (by simpa using hi)) hs.ol kk hs.mine ?_ hu (by simp) ?_ ?_
  ·refine⟨hsz,KX,_,cs',[],hkv,Ic,La,E7,?_⟩;cases k0 with
   |cl=>simp[RK.hand]at hk0
   |mv n=>simp[RK.hand]at hk0
   |sh=>simp
   |uq=>simp
  ·intro e2 Rr fI he;cases he;exact⟨_,cs',[],hkv,Ic,La,by simp,by simp⟩
  ·cases k0 with
   |mv n=>simp[RK.hand]at hk0
   |_=>rfl
 show K (a.put o.dst (.tuple #[])) w';refine hK _ _ (h κ Θ _ w' ?_);cases Nx:o.dst with
 |none=>exact hs'
 |some t=>exact hs'.set (hd t Nx) (.hY [] [] [] .nil) (by simp)
end
end Go.Cx
namespace Go.Cx
open Go.RowKit
inductive An where
 |b (v:Bool)
 |row (r:aQ)
 |ix (i:Nat)
 |ch (x:UInt8)
 |cut (l h:Nat)
 |d (x:D)
 |fl (v:Bool)
 |n (k:Nat)
 |n2 (π ρ:aX) (k m:Nat) (L X:aX)
 |sk (id:Nat)
 |Kc (t:Nat)
 |pb (id off e sz:Nat)
 |vw (t:Nat)
 |cn (K o:aX)
 |hl (m:Nat) (K o:aX)
 |mu (id:Nat) (rows:List aQ)
 |dc (x:D)
 |gv (ms:aX) (outs:List Rw) (d:D)
 |mg (id i off:Nat) (r:aQ)
 |ov (id:Nat) (rows:List aQ)
 |kv (m:List (D×D))
 |gp (nz:List (List (Option (Nat×Nat)))) (cells:aQ) (d:D)
 |dn (cells:aQ)
 |fz
 |nl (x:D)
 |ds (x:D)
 |mz (id:Nat)
 |tk (r:aQ)
abbrev C1:=List Prop
def xV:C1->Prop
 | []=>True
 |p::ps=>p/\xV ps
theorem xV.app{p q:C1}(h:xV (p++q)):xV p/\xV q:=by
 induction p with
 |nil=>exact⟨trivial,h⟩
 |cons x p ih=>exact⟨⟨h.1,(ih h.2).1⟩,(ih h.2).2⟩
def Fl(P:Program)(st:St)(op:Op)(A:List An):Option (D×List An×C1):=match op with
 | .indexAddr t x i=>(match Ec P t,st.ev x,st.ev i,A with
  |some (_,sz),.sl rows,.int _ n,.row r::A=>some (.ep r 0,A,[0<=n/\rows[n.toNat]?=some r/\r.length=sz])
  |some (_,sz),.acc id,.int _ n,.ix k::A=>(match st.H[id]? with|some (.row _ _ sz' rows)=>some (.op id k sz 0,A,[sz=sz'/\n=(k:Int)/\k<rows.length])|_=>none)
  |_,.val (.pointer (some ⟨g,o,none⟩)),.int _ n,.ix k::A=>(match a2q P t with|some (sz,len)=>some (.val (.pointer (some ⟨g,o+k*sz,none⟩)),A,[n=(k:Int)/\k<len])|none=>none)
  |_,_,_,_=>none)
 | .index t x i=>(match Ju P t,st.ev x,st.ev i,A with
  |true,.str s,.int _ n,.ch c::A=>some (.int .u8 c.toNat,A,[0<=n/\s[n.toNat]?=some c])
  |_,_,_,_=>none)
 | .load t x=>(match st.ev x with
  | .op id i sz off=>(match zL P t,st.H[id]?,A with
   |some ag,some (.row k _ sz' rows),.row r::A=>(match G2 ag (yX P t) r off with
    |some d=>some (d,A,[sz'=sz/\k.OM=true/\rows[i]?=some r/\off+(bif ag then yX P t else 1)<=sz])
    |none=>none)
   |_,_,_=>none)
  | .val (.pointer (some ⟨g,o,none⟩))=>(match zL P t,A with
   |some false,.d d::A=>some (d,A,[TO g o=some d])
   |_,_=>none)
  |_=>(match pv P st op with|some d=>some (d,A,[])|none=>none))
 | .slice t x lo hi none=>(match st.ev x,A with
  | .str s,.cut l h::A=>(match Ju P t with
   |true=>some (.str ((s.take h).drop l),A,[Kb s.length (lo.map st.ev) (hi.map st.ev)=some (l,h)])
   |false=>none)
  | .sl rows,.cut l h::A=>(match Ec P t with
   |some (_,sz)=>some (.sl ((rows.take h).drop l),A,[Kb rows.length (lo.map st.ev) (hi.map st.ev)=some (l,h)/\(rows.all fun r=>r.length==sz)=true])
   |none=>none)
  |_,_=>none)
 | .binOp op' t x y t'=>(match op',st.ev x,st.ev y with
  | .add,.str a,.str b=>some (.str (a++b),A,[a.length+b.length<=maxLen])
  | .quo,.int k a,.int k' b=>some (.int k (a/b),A,[k=k'/\0<=a/\0<b])
  | .rem,.int k a,.int k' b=>some (.int k (a%b),A,[k=k'/\0<=a/\0<b])
  |_,_,_=>(match pv P st op with|some d=>some (d,A,[])|none=>none))
 | .lookup T x i ok=>(match st.ev x,A with
  | .acc id,.d d::A=>(match st.H[id]? with
   |some (.mp kv)=>some (d,A,[plk P T kv (st.ev i) ok=some d])
   |_=>none)
  |_,_=>none)
 | .pick c a b=>(match st.ev c,A with
  | .bool t,.b v::A=>(match v with|true=>some (st.ev a,A,[t=true])|false=>some (st.ev b,A,[t=false]))
  |_,_=>none)
 |_=>(match pv P st op with|some d=>some (d,A,[])|none=>none)
theorem TM{P:Program}{st:St}{op:Op}{A A':List An}{d:D}{p:C1}(h:Fl P st op A=some (d,A',p))(hp:xV p):pv P st op=some d:=by
 have plain:∀ {op},(match pv P st op with|some d=>some (d,A,([]:C1))|none=>none)=some (d,A',p)->pv P st op=some d:=by
  intro op h;split at h
  ·cases h;assumption
  ·cases h
 unfold Fl at h;split at h
 ·rename_i t x i;split at h
  ·rename_i e sz rows kk n r A1 h1 h2 h3;cases h;obtain⟨⟨q1,q2,q3⟩,_⟩:=hp;simp only[pv,h1,h2,h3,q1,q2,qM,q3]
  ·rename_i e sz id kk n k A1 h1 h2 h3;split at h
   ·rename_i k' e' sz' rows hH;cases h;obtain⟨⟨rfl,rfl,q3⟩,_⟩:=hp;simp[pv,h1,h2,h3,hH,q3]
   ·cases h
  ·rename_i g o' kk n k A1 h2 h3;split at h
   ·rename_i sz len hT;cases h;obtain⟨⟨rfl,q3⟩,_⟩:=hp;simp[pv,h2,h3,hT,q3]
   ·cases h
  ·cases h
 ·rename_i t x i;split at h
  ·rename_i s kk n c A1 h1 h2 h3;cases h;obtain⟨⟨q1,q2⟩,_⟩:=hp;simp only[pv,h1,h2,h3,q1,q2,qM]
  ·cases h
 ·rename_i t x;split at h
  ·rename_i id i sz off h1;split at h
   ·rename_i ag k e sz' rows r A1 h2 h3;split at h
    ·rename_i d' hd;cases h;obtain⟨⟨rfl,q2,q3,q4⟩,_⟩:=hp;simp only[pv,h2,h1,h3,q3,q2,q4,ua,and_self,qM,hd]
    ·cases h
   ·cases h
  ·rename_i g o' h1;split at h
   ·rename_i d' A1 h2;cases h;simp only[pv,h2,h1];exact hp.1
   ·cases h
  ·exact plain h
 ·rename_i t x lo hi;split at h
  ·rename_i s l hh A1 h1;split at h
   ·rename_i h2;cases h;obtain⟨q1,_⟩:=hp;simp only[pv,h1,h2,q1,qM]
   ·cases h
  ·rename_i rows l hh A1 h1;split at h
   ·rename_i e sz h2;cases h;obtain⟨⟨q1,q2⟩,_⟩:=hp;simp only[pv,h1,h2,q1,q2,qM]
   ·cases h
  ·cases h
 ·rename_i op' t x y t';split at h
  ·rename_i a b h1 h2;cases h;obtain⟨q1,_⟩:=hp;simp only[pv,h1,h2,UH,q1,qM]
  ·rename_i k a k' b h1 h2;cases h;obtain⟨⟨rfl,q1,q2⟩,_⟩:=hp;simp only[pv,h1,h2,UH,q1,q2,qM,and_self]
  ·rename_i k a k' b h1 h2;cases h;obtain⟨⟨rfl,q1,q2⟩,_⟩:=hp;simp only[pv,h1,h2,UH,q1,q2,qM,and_self]
  ·exact plain h
 ·rename_i T x i ok;split at h
  ·rename_i id d' A1 h1;split at h
   ·rename_i kv hH;cases h;simp only[pv,h1,hH];exact hp.1
   ·cases h
  ·cases h
 ·split at h
  ·rename_i t v A1 h1;split at h
   ·cases h;obtain⟨rfl,_⟩:=hp;simp[pv,h1]
   ·cases h;obtain⟨rfl,_⟩:=hp;simp[pv,h1]
  ·cases h
 ·exact plain h
def bytesOf:List aQ->Option Bytes
 | []=>some []
 |r::rs=>match r,bytesOf rs with
  | [.int .u8 n],some bs=>some (UInt8.ofNat n.toNat::bs)
  |_,_=>none
theorem PL:∀ {rows:List aQ} {bs:Bytes},bytesOf rows=some bs->∃xs:bR,rows=xs.map (fun n=>[D.int .u8 n])/\bs=xs.map (fun n=>UInt8.ofNat n.toNat):=by
 intro rows
 induction rows with
 |nil=>intro bs h;cases h;exact⟨[],rfl,rfl⟩
 |cons r rs ih=>
  intro bs h;simp only[bytesOf]at h;split at h
  ·rename_i n bs' h1;cases h;obtain⟨xs,rfl,rfl⟩:=ih h1;exact⟨n::xs,rfl,rfl⟩
  ·cases h
theorem LR:∀(xs:bR),(xs.map (fun n=>[D.int .u8 n])).flatten=xs.map (fun n=>D.int .u8 n)
 | []=>rfl
 |n::xs=>by simp only[bH,dw,LR xs];rfl
def a4t(A:List An)(t:Nat):Option (List An):=match A with
 | .Kc u::A=>if u=t then some A else none
 |_=>none
def apS(H:bO)(d:D)(e sz:Nat):Option (List aQ×Bool×aX):=match d with
 | .nil=>some ([],true,[])
 | .acc m=>(match H[m]? with
  |some (.row k e' sz' rows)=>(match k with| .cl=>none| .uq=>(if e'=e/\sz'=sz then some (rows,true,[m])else none)| .sh=>(if e'=e/\sz'=sz then some (rows,false,[m])else none)| .mv _=>none)
  |_=>none)
 |_=>none
def apX(H:bO)(d:D)(sz:Nat)(A:List An):Option (List aQ×Bool×aX×List An×C1):=match d,A with
 | .nil,A=>some ([],true,[],A,[])
 | .acc m,A=>(match H[m]? with
  |some (.row k _ sz' rows)=>(match k with| .cl=>none| .uq=>(if sz'=sz then some (rows,true,[m],A,[])else none)| .sh=>(if sz'=sz then some (rows,false,[m],A,[])else none)| .mv _=>none)
  |_=>none)
 | .sl rows,.fl f::A=>some (rows,f,[],A,[(∀r∈rows,r.length=sz)/\(f=true->D.mN rows=true)])
 |_,_=>none
def Ln(st:St)(d:D):Option (Nat×Nat×List aQ×Option Value):=match d with
 | .acc id=>(match st.H[id]? with|some (.vp sz rows u)=>some (id,sz,rows,u)|_=>none)
 |_=>none
theorem Lo{st:St}{d:D}{id sz:Nat}{rows:List aQ}{u:Option Value}(h:Ln st d=some (id,sz,rows,u)):d=.acc id/\st.H[id]?=some (.vp sz rows u):=by
 unfold Ln at h;split at h
 ·split at h
  ·rename_i hH;cases h;exact⟨rfl,hH⟩
  ·cases h
 ·cases h
def OD(st:St)(d:D):Option (Nat×Nat×Nat×Nat×List aQ×Option Value):=match d with
 | .op id i sz off=>(match st.H[id]? with|some (.vp sz' rows u)=>if sz'=sz then some (id,i,off,sz,rows,u)else none|_=>none)
 |_=>none
theorem RW{st:St}{d:D}{id i off sz:Nat}{rows:List aQ}{u:Option Value}(h:OD st d=some (id,i,off,sz,rows,u)):d=.op id i sz off/\st.H[id]?=some (.vp sz rows u):=by
 unfold OD at h;split at h
 ·split at h
  ·split at h
   ·rename_i hH he;subst he;cases h;exact⟨rfl,hH⟩
   ·cases h
  ·cases h
 ·cases h
def RY(H:bO)(A:List An):Option (bO×List An×C1):=match A with
 | .mg id i off r::A=>(match H[id]? with
  |some (.hole sz rows u p n)=>(match H[n]?,r[off]? with
   |some (.vp _ fI _),some _=>some ((H.set n .gone).set id (.vp sz (rows.set i (r.set off (.sl fI))) u),A,[rows[i]?=some r,p=i*sz+off])
   |_,_=>none)
  |_=>none)
 |A=>some (H,A,[])
def tZ(n:Nat):aQ->aQ×bO
 | []=>([],[])
 |d::ds=>match d with
  | .sl rows=>(.acc n::(tZ (n+1) ds).1,.tk rows::(tZ (n+1) ds).2)
  |d=>(d::(tZ n ds).1,(tZ n ds).2)
def Of(r:aQ):Bool:=r.all fun d=>match d with| .sl _=>true|d=>d.flat
def G8(P:Program)(nt:Nat)(o:Oper)(st:St)(A:List An):Option (St×List An×C1):=match o.op,o.dst with
 | .box _ x,some t=>(if t<nt then match(st.ev x).cellsOf with|some ds=>some (⟨(t,.ptr st.H.length 0)::st.σ,st.H++[.box ds]⟩,A,[])|none=>none else none)
 | .alloc T,some t=>(if t<nt then match tz P T with|some ds=>some (⟨(t,.ptr st.H.length 0)::st.σ,st.H++[.box ds]⟩,A,[])|none=>none else none)
 | .store T x y,none=>(match st.ev x,(st.ev y).cellsOf with
  | .ptr id off,some ds=>(match st.H[id]? with
   |some ob=>(match ob.Tk with
    |some cells=>(if Og P T=true/\ds.length=yX P T/\off+ds.length<=cells.length then some (⟨st.σ,st.H.set id (ob.re (cells.take off++ds++cells.drop (off+ds.length)))⟩,A,[])else none)
    |none=>none)
   |none=>none)
  | .op id i sz off,some ds=>(match st.H[id]?,JL st.H ds,A with
   |some (.vp sz' rows u),_,.row r::A=>(if Og P T=true/\ds.length=yX P T/\0<ds.length/\sz'=sz/\off+ds.length<=sz/\ds.all D.flat=true then
    some (⟨st.σ,st.H.set id (.vp sz (rows.set i (r.take off++ds++r.drop (off+ds.length))) u)⟩,A,[rows[i]?=some r])else none)
   |some (.row k e sz' rows),some (es,ms),.row r::A=>(if Og P T=true/\ds.length=yX P T/\sz'=sz/\k.OM=true/\off+ds.length<=sz/\ms.Nodup/\id∉ms then
    some (⟨st.σ,(kill st.H ms).set id (.row (k.after (ds.all (TL st.H))) e sz (rows.set i (r.take off++es++r.drop (off+ds.length))))⟩,A,[rows[i]?=some r])else none)
   |_,_,_=>none)
  |_,_=>none)
 | .makeMap _ none,some t=>(if t<nt then some (⟨(t,.acc st.H.length)::st.σ,st.H++[.mp []]⟩,A,[])else none)
 | .mapUpdate T x i y,none=>(match UX P T,st.ev x,A with
  |some (kd,_),.acc id,.kv m::A=>(match st.H[id]? with
   |some (.mp kv)=>(if HL kd (st.ev i)=true/\(st.ev y).scalar=true then some (⟨st.σ,st.H.set id (.mp m)⟩,A,[Ik (st.ev i) (st.ev y) kv=some m])else none)
   |_=>none)
  |_,_,_=>none)
 | .makeSlice T x y,some t=>(match Ec P T,st.ev x,st.ev y with
  |some (e,sz),.int _ n,.int _ n'=>(match tz P e with
   |some zs=>(if t<nt/\0<sz then some (⟨(t,.acc st.H.length)::st.σ,st.H++[.row .uq e sz (List.replicate n.toNat (zs.map D.G6))]⟩,A,[n'=n/\0<=n/\Xg P e*n.toNat<=281474976710656/\n.toNat<=4611686018427387904])else none)
   |none=>none)
  |_,_,_=>none)
 | .buildSlice T len parts,some t=>(match Ec P T with
  |some (e,sz)=>(match tz P e with
   |some zs=>(match xL (sU len sz) (List.replicate len zs).flatten (parts.toList.map fun p=>(p.1,st.ev p.2))with
    |some ds=>(match JL st.H ds with
     |some (es,ms)=>(if t<nt/\0<sz/\len*sz<=16777216/\ms.Nodup then some (⟨(t,.acc st.H.length)::st.σ,kill st.H ms++[.row (yO (ds.all (TL st.H))) e sz (chunk sz len es)]⟩,A,[])else none)
     |none=>none)
    |none=>none)
   |none=>none)
  |none=>none)
 | .call c,some t=>(match c.callee,c.args.toList,c.argTypes.toList with
  | .builtin .append,[s,x],[T,T']=>(match Ec P T with
   |some (e,sz)=>(match tz P e,apS st.H (st.ev s) e sz,apX st.H (st.ev x) sz A with
    |some _,some (rows,u1,k1),some (fI,u2,k2,A,ow)=>(if t<nt/\0<sz/\T'=T/\(k1++k2).Nodup then
     some (⟨(t,.acc st.H.length)::st.σ,kill st.H (k1++k2)++[.row (yO (u1&&u2)) e sz (rows++fI)]⟩,A,(rows.length+fI.length<=maxLen/\(rows.length+fI.length)*Xg P e<=140737488355328)::ow)else none)
    |_,_,_=>none)
   |none=>none)
  | .builtin .len,[x],[T]=>(match Ln st (st.ev x)with
   |some (_,_,rows,_)=>(if t<nt/\(Ec P T).isSome=true then some (⟨(t,.int .i64 rows.length)::st.σ,st.H⟩,A,[])else none)
   |none=>(if t<nt then match Fl P st o.op A with|some (d,A,ow)=>some (⟨(t,d)::st.σ,st.H⟩,A,ow)|none=>none else none))
  | .value (.func f),xs,_=>(match HU st.H (xs.map st.ev),A with
   |_,.gv ms outs d::A=>(match Lm st.H ms with
    |some ins=>(if t<nt/\ms.Nodup/\((xs.map st.ev).all D.bare)=true then
     (match RY (OP st.H ms outs) A with
     |some (H',A',ow)=>some (⟨(t,d)::st.σ,H'⟩,A',Zq P f ((xs.map st.ev).map (D.T4 ms)) ins outs d::ow)
     |none=>none)else none)
    |none=>none)
   |_,.gp nz cells' d::A=>(match xs with
    |x0::xr=>(match st.ev x0 with
     | .ptr id 0=>(match st.H[id]? with
      |some ob=>(match ob.Tk with
       |some JN=>(match B6 st.H nz (.agg JN::xr.map st.ev)with
        |some (.agg cells::ds,ms,qs)=>(if t<nt/\ms.Nodup/\qs.Nodup then
         some (⟨(t,(pW (st.H.length+(mO st.H.length cells').2.length) d).1)::st.σ,(kill st.H (ms++qs)).set id (ob.re (mO st.H.length cells').1)++((mO st.H.length cells').2++(pW (st.H.length+(mO st.H.length cells').2.length) d).2)⟩,A,[yc P f cells cells' ds d])else none)
        |_=>none)
       |none=>none)
      |none=>none)
     |_=>none)
    | []=>none)
   |some (ds,ms),.dn cells::A=>(if t<nt/\ms=[]then some (⟨(t,.ptr st.H.length 0)::st.σ,st.H++[.box cells]⟩,A,[Zp P f ds cells])else none)
   |some (ds,_),.dc d::A=>(if t<nt/\d.M5=true then some (⟨(t,(pW st.H.length d).1)::st.σ,st.H++(pW st.H.length d).2.map Ob.close⟩,A,[Good P f ds d])else none)
   |_,.ov id cv::A=>(match st.H[id]? with
    |some (.row .uq e sz rows)=>(if t<nt/\((xs.map st.ev).all D.bare)=true then some (⟨(t,.acc st.H.length)::st.σ,kill st.H [id]++[.row .uq e sz cv]⟩,A,[rows.flatten.all D.flat=true,Fq P f ((xs.map st.ev).map (D.T4 [id])) e sz rows cv])else none)
    |_=>none)
   |_,.mu id cv::A=>(match xs,st.H[id]? with
    | [x],some (.row k e sz rows)=>(match st.ev x with
     | .acc id'=>(if t<nt/\id'=id/\k.hand=true then some (⟨(t,.hY [])::st.σ,st.H.set id (.row k e sz cv)⟩,A,[rows.flatten.all D.flat=true,Oz P f e sz rows cv])else none)
     |_=>none)
    |_,_=>none)
   |some (ds,ms),.d d::A=>(if t<nt/\(ms=[]\/d.M5=true)then some (⟨(t,(pW st.H.length d).1)::st.σ,st.H++(pW st.H.length d).2⟩,A,[Good P f ds d])else none)
   |_,.nl d::A=>(if t<nt/\(xs.map st.ev).all K8=true then some (⟨(t,(pW st.H.length d).1)::st.σ,st.H++(pW st.H.length d).2⟩,A,[Good P f (xs.map st.ev) d])else none)
   |_,_=>none)
  |_,_,_=>(if t<nt then match Fl P st o.op A with|some (d,A,ow)=>some (⟨(t,d)::st.σ,st.H⟩,A,ow)|none=>none else none))
 | .convert s d x,some t=>(match st.ev x with
  | .acc id=>(match st.H[id]?,Ec P s with
   |some (.row _ _ _ rows),some (e,sz)=>(match bytesOf rows with
    |some bs=>(if t<nt/\sz=1/\Ry P e=some .u8/\Ju P d=true then some (⟨(t,.str bs)::st.σ,st.H⟩,A,[])else none)
    |none=>none)
   |_,_=>none)
  |_=>(if t<nt then match Fl P st o.op A with|some (d,A,ow)=>some (⟨(t,d)::st.σ,st.H⟩,A,ow)|none=>none else none))
 | .assign x,some t=>(match a4t A t with
  |some A=>(match st.ev x,Ec P o.type with
   | .nil,some (e,sz)=>(if t<nt/\0<sz then some (⟨(t,.acc st.H.length)::st.σ,st.H++[.row .uq e sz []]⟩,A,[])else none)
   |_,_=>none)
  |none=>(if t<nt then some (⟨(t,st.ev x)::st.σ,st.H⟩,A,[])else none))
 | .slice T x none (some hi) none,some t=>(match st.ev x with
  | .acc id=>(match st.H[id]?,Ec P T,st.ev hi,A with
   |some (.row .uq e sz rows),some (_,sz'),.int _ n,.cut 0 h::A=>(if t<nt/\sz'=sz then some (⟨(t,.acc st.H.length)::st.σ,kill st.H [id]++[.row .uq e sz (rows.take h)]⟩,A,[n=((h:Nat):Int)/\h<=rows.length])else none)
   |_,_,_,_=>none)
  |_=>(if t<nt then match Fl P st o.op A with|some (d,A,ow)=>some (⟨(t,d)::st.σ,st.H⟩,A,ow)|none=>none else none))
 | .slice T (.tmp s) (some lo) none none,some t=>(match A,lk st.σ s with
  | .fz::A,.acc id=>(match st.H[id]? with
   |some (.row k e sz rows)=>(if t<nt/\k.OM=true then match Fl P ⟨(s,.sl rows)::st.σ,st.H.set id .gone⟩ o.op A with|some (d,A,ow)=>some (⟨(t,d)::(s,.sl rows)::st.σ,st.H.set id .gone⟩,A,ow)|none=>none else none)
   |_=>none)
  |_,_=>(if t<nt then match Fl P st o.op A with|some (d,A,ow)=>some (⟨(t,d)::st.σ,st.H⟩,A,ow)|none=>none else none))
 | .indexAddr T x i,some t=>(match Ln st (st.ev x)with
  |some (id,sz,rows,_)=>(match Ec P T,st.ev i,A with
   |some (_,sz'),.int _ n,.ix m::A=>(if t<nt/\sz'=sz then some (⟨(t,.op id m sz 0)::st.σ,st.H⟩,A,[n=(m:Int)/\m<rows.length])else none)
   |_,_,_=>none)
  |none=>(if t<nt then match Fl P st o.op A with|some (d,A,ow)=>some (⟨(t,d)::st.σ,st.H⟩,A,ow)|none=>none else none))
 | .load T x,some t=>(match OD st (st.ev x)with
  |some (id,i,off,sz,rows,u)=>(match zL P T,A with
   |some false,.row r::A=>(match r[off]? with
    |some (.sl fI)=>(match Ec P T with
     |some (_,Rr)=>(if t<nt then some (⟨(t,.acc st.H.length)::st.σ,st.H.set id (.hole sz (rows.set i (r.set off .any)) u (i*sz+off) st.H.length)++[.vp Rr fI none]⟩,A,[rows[i]?=some r,∀q∈fI,q.length=Rr])else none)
     |none=>none)
    |some d=>(if t<nt/\d.flat=true then some (⟨(t,d)::st.σ,st.H⟩,A,[rows[i]?=some r])else none)
    |none=>none)
   |_,_=>none)
  |none=>(match A,st.ev x with
   | .tk r::A,.op id i sz 0=>(match st.H[id]? with
    |some (.row (.mv n) e sz' rows)=>(if t<nt/\sz'=sz/\zL P T=some true/\yX P T=sz then
     some (⟨(t,.agg (tZ st.H.length r).1)::st.σ,st.H.set id (.row (.mv (n+1)) e sz rows)++(tZ st.H.length r).2⟩,A,[i=n/\rows[n]?=some r/\Of r=true])else none)
    |_=>none)
   |A,_=>(if t<nt then match Fl P st o.op A with|some (d,A,ow)=>some (⟨(t,d)::st.σ,st.H⟩,A,ow)|none=>none else none)))
 |op,some t=>(if t<nt then match Fl P st op A with|some (d,A,ow)=>some (⟨(t,d)::st.σ,st.H⟩,A,ow)|none=>none else none)
 |_,none=>none
section
variable{P:Program}{Γ:vJ}{Q:Exit->St->Prop}{st:St}{all:Array Oper}{rest:List Oper}
theorem dX.Wl{κ:Nat->Option Value}{Θ:Nat->Nat}{a:Act}{w:World}(hs:dX Γ st κ Θ a w)(e sz:Nat)(hsz:0<sz):dX Γ ⟨st.σ,st.H++[.row .uq e sz []]⟩ (xT κ st.H.length (some (.slice none 0 0))) Θ a w:=by
 obtain⟨ρ,hu⟩:=hs.td;refine hs.put [] B4 (wk (hs.pX _ (bN _)) _) ?_ ?_ (iV.refl hs.own (by omega)) hs.mine ?_ hu (by simp) ?_
 ·intro i hi;simp only[bB,aY,bX]at hi;unfold xT;rw[b8 (by omega)];exact hs.pX i (by omega)
 ·intro i x hx;unfold xT at hx;split at hx
  ·cases hx;rfl
  ·exact hs.ol i x hx
 ·exact⟨hsz,by simp,_,[],[],kO _ _ _,World.ownsRow_nil w 0 e sz,.nil,by simp[Value.ownBlock],by simp⟩
 ·intro e' sz' cv he;simp only[Ob.row.injEq,ua]at he;obtain⟨rfl,rfl,rfl⟩:=he;exact⟨_,[],[],kO _ _ _,World.ownsRow_nil w 0 e sz,.nil,by simp,by simp⟩
theorem a0y{o:Oper}{x:Operand}{t e sz:Nat}(hop:o.op=.assign x)(hd:o.dst=some t)(hg:o.guard=none)(ht:t<Γ.nt)(hx:st.ev x=.nil)(hsz:0<sz)
 (h:AO P Γ all rest Q ⟨(t,.acc st.H.length)::st.σ,st.H++[.row .uq e sz []]⟩):AO P Γ all (o::rest) Q st:=by
 intro κ Θ a w hs;obtain⟨bs,r,_⟩:=hs.ev x;rw[hx]at r;have hv:=r.Is;have hp:pv P st o.op=some .nil:=by rw[hop];simp[pv,hx]
 obtain⟨v,b2,hrun,hrd,hz⟩:=EG hs hp;have Pm:=hrd.Is;subst Pm;refine wpList_plain hg fun K hK=>?_
 unfold Oper.wp;rw[hrun,Oper.upon_value,hd];refine hK _ _ (h _ _ _ _ ((hs.Wl e sz hsz).set (t:=t) (d:=.acc st.H.length) (bs:=[]) ht ?_ (by simp)));exact(yT.acc st.H.length _ (kO _ _ _)).Oi
theorem er.a2m{κ:Nat->Option Value}{w:World}{n:Nat}(hk:κ n=some (.slice none 0 0)):∀ {vs:bZ} {ds:aQ} {bs:aX},er w κ vs ds bs->∀ {off:Nat},ds[off]?=some .nil->∃bs',er w κ vs (ds.set off (.acc n)) bs'/\∀b∈bs',b∈bs:=by
 intro vs ds bs h
 induction h with
 |nil=>intro off h;simp at h
 |cons v vs d ds b1 b2 h1 h2 h3 ih=>
  intro off h;cases off with
  |zero=>
   simp only[AI,ar]at h;subst h;have hv:v=.slice none 0 0:=by
    cases h2 with
    |pure h2=>cases h2;rfl
   subst hv;exact⟨[]++b2,.cons _ _ _ _ _ _ h1 (.acc n _ hk) h3,fun b hb=>by simp at hb;simp[hb]⟩
  |succ off=>
   obtain⟨bs',q1,q2⟩:=ih (off:=off) (by simpa using h);exact⟨b1++bs',.cons _ _ _ _ _ _ h1 h2 q1,fun b hb=>by
    rcases af.1 hb with hb|hb
    ·exact af.2 (.inl hb)
    ·exact af.2 (.inr (q2 b hb))⟩
def St.prom(st:St)(id off e sz:Nat):Option St:=match st.H[id]? with
 |some (.box cells)=>(match cells[off]? with
  |some .nil=>(if 0<sz then some ⟨st.σ,(st.H++[Ob.row .uq e sz []]).set id (Ob.box (cells.set off (.acc st.H.length)))⟩else none)
  |_=>none)
 |_=>none
theorem dX.prom{κ:Nat->Option Value}{Θ:Nat->Nat}{a:Act}{w:World}{ur:St}{id off e sz:Nat}(hs:dX Γ st κ Θ a w)(h:st.prom id off e sz=some ur):∃κ',dX Γ ur κ' Θ a w:=by
 unfold St.prom at h;split at h
 ·rename_i cells hH;split at h
  ·rename_i hc;split at h
   ·rename_i hsz;cases h;have hlt:id<st.H.length:=(aF.1 hH).1;have hs1:=hs.Wl e sz hsz;refine⟨_,hs1.defers,hs1.size,fun i hi=>hs1.pX i (by simpa using hi),hs1.ol,hs1.slot,?_,hs1.own,hs1.old,hs1.mine,hs1.stays,?_⟩
    ·intro j y hj;simp only[fX]at hj;split at hj
     ·rename_i e1;subst e1;split at hj
      ·cases hj;obtain⟨g,cs,T,q1,q2,q3,bs,q4,q5⟩:=hs1.ob id (.box cells) (by simpa[au hlt]using hH);obtain⟨bs',p1,p2⟩:=er.a2m (n:=st.H.length) (kO _ _ _) q4 hc;exact⟨g,cs,T,q1,q2,q3,bs',p1,fun b hb=>q5 b (p2 b hb)⟩
      ·cases hj
     ·exact hs1.ob j y hj
    ·obtain⟨ρ,hu⟩:=hs1.td;refine⟨ρ,hu.free,fun i e' sz' rows hi=>hu.rows i e' sz' rows ?_,fun i o hi=>?_⟩
     ·simp only[fX]at hi;split at hi
      ·split at hi<;>cases hi
      ·exact hi
     ·simp only[fX]at hi;split at hi
      ·split at hi
       ·cases hi;trivial
       ·cases hi
      ·exact hu.more i o hi
   ·cases h
  ·cases h
 ·cases h
theorem dX.a5M{κ:Nat->Option Value}{Θ:Nat->Nat}{a:Act}{w:World}{id e sz:Nat}{rows:List aQ}(hs:dX Γ st κ Θ a w)(hH:st.H[id]?=some (.row .uq e sz rows)):dX Γ ⟨st.σ,st.H.set id (.row .sh e sz rows)⟩ κ Θ a w:=by
 have hlt:id<st.H.length:=(aF.1 hH).1;refine⟨hs.defers,hs.size,fun i hi=>hs.pX i (by simpa using hi),hs.ol,hs.slot,?_,hs.own,hs.old,hs.mine,hs.stays,?_⟩
 ·intro j y hj;simp only[fX,hlt,qM]at hj;split at hj
  ·rename_i e1;subst e1;cases hj;exact(show vZ w κ Θ id (.row .uq e sz rows)from hs.ob id _ hH)
  ·exact hs.ob j y hj
 ·obtain⟨ρ,hu⟩:=hs.td;refine⟨ρ,hu.free,fun i e' sz' cv hi=>hu.rows i e' sz' cv ?_,fun i o hi=>?_⟩
  ·simp only[fX,hlt,qM]at hi;split at hi
   ·cases hi
   ·exact hi
  ·simp only[fX,hlt,qM]at hi;split at hi
   ·cases hi;trivial
   ·exact hu.more i o hi
theorem dX.mvz{κ:Nat->Option Value}{Θ:Nat->Nat}{a:Act}{w:World}{id e sz:Nat}{rows:List aQ}(hs:dX Γ st κ Θ a w)(hH:st.H[id]?=some (.row .uq e sz rows)):dX Γ ⟨st.σ,st.H.set id (.row (.mv 0) e sz rows)⟩ κ Θ a w:=by
 have hlt:id<st.H.length:=(aF.1 hH).1;refine⟨hs.defers,hs.size,fun i hi=>hs.pX i (by simpa using hi),hs.ol,hs.slot,?_,hs.own,hs.old,hs.mine,hs.stays,?_⟩
 ·intro j y hj;simp only[fX,hlt,qM]at hj;split at hj
  ·rename_i e1;subst e1;cases hj;exact(show vZ w κ Θ id (.row .uq e sz rows)from hs.ob id _ hH)
  ·exact hs.ob j y hj
 ·obtain⟨ρ,hu⟩:=hs.td;refine⟨ρ,hu.free,fun i e' sz' cv hi=>hu.rows i e' sz' cv ?_,fun i o hi=>?_⟩
  ·simp only[fX,hlt,qM]at hi;split at hi
   ·cases hi
   ·exact hi
  ·simp only[fX,hlt,qM]at hi;split at hi
   ·rename_i e1;subst e1;cases hi;obtain⟨v,cs,bs,q1,q2,q3,q4,q5⟩:=hu.rows id e sz rows hH;exact⟨v,cs,bs,q1,q2,by simpa using q3,q4,q5⟩
   ·exact hu.more i o hi
def shares:List An->St->St×List An
 | .sk id::A,st=>(match st.H[id]? with
  |some (.row .uq e sz rows)=>shares A ⟨st.σ,st.H.set id (.row .sh e sz rows)⟩
  |_=>(st,.sk id::A))
 | .mz id::A,st=>(match st.H[id]? with
  |some (.row .uq e sz rows)=>shares A ⟨st.σ,st.H.set id (.row (.mv 0) e sz rows)⟩
  |_=>(st,.mz id::A))
 |A,st=>(st,A)
theorem dX.shares{κ:Nat->Option Value}{Θ:Nat->Nat}{a:Act}{w:World}:∀ {A A1:List An} {st xO:St},dX Γ st κ Θ a w->shares A st=(xO,A1)->dX Γ xO κ Θ a w:=by
 intro A
 induction A with
 |nil=>intro A1 st xO hs h;simp only[Cx.shares,cJ]at h;obtain⟨rfl,_⟩:=h;exact hs
 |cons x A ih=>
  intro A1 st xO hs h;cases x
  case sk id=>
   simp only[Cx.shares]at h;split at h
   ·rename_i e sz rows hH;exact ih (hs.a5M hH) h
   ·simp only[cJ]at h;obtain⟨rfl,_⟩:=h;exact hs
  case mz id=>
   simp only[Cx.shares]at h;split at h
   ·rename_i e sz rows hH;exact ih (hs.mvz hH) h
   ·simp only[cJ]at h;obtain⟨rfl,_⟩:=h;exact hs
  all_goals(simp only[Cx.shares,cJ]at h;obtain⟨rfl,_⟩:=h;exact hs)
theorem YE{o:Oper}{s d:TypeId}{x:Operand}{t id e e' sz':Nat}{k:RK}{rows:List aQ}{bs:Bytes}(hop:o.op=.convert s d x)(hd:o.dst=some t)(hg:o.guard=none)(ht:t<Γ.nt)(hx:st.ev x=.acc id)
 (hH:st.H[id]?=some (.row k e' sz' rows)) (hT:Ec P s=some (e,1)) (he:Ry P e=some .u8) (hs':Ju P d=true) (hb:bytesOf rows=some bs) (h:AO P Γ all rest Q ⟨(t,.str bs)::st.σ,st.H⟩):AO P Γ all (o::rest) Q st:=by
 intro κ Θ a w hs;obtain⟨b0,r,_⟩:=hs.ev x;rw[hx]at r;obtain⟨hk,_⟩:=r.uw;obtain⟨hsz,hrl,v,cs,b1,hk2,hown,sC,_,_⟩:=hs.ob id _ hH;rw[hk]at hk2;cases hk2;obtain⟨xs,rfl,rfl⟩:=PL hb;obtain⟨hu,_,_⟩:=oH hT;have hue:P.underlying e=some (.int .u8):=by
  unfold Ry at he;split at he
  ·rename_i k' hk';cases he;exact hk'
  ·cases he
 have hud:=wW hs';have hfl:(xs.map (fun n=>[D.int .u8 n])).flatten=xs.map (fun n=>D.int .u8 n):=LR xs;rw[hfl]at sC;have hcs:∀(xs:bR) (cs:bZ) (b:aX),kz w cs (xs.map (fun n=>D.int .u8 n)) b->cs=xs.map (Value.int .u8):=by
  intro xs
  induction xs with
  |nil=>intro cs b h;cases h;rfl
  |cons n xs ih=>
   intro cs b h;cases h with
   |cons v vs _ _ b1 b2 _ h2 h3=>
    cases h2;rw[ih _ _ h3];rfl
 have hce:=hcs xs cs b1 sC;have hlen:xs.length<=maxLen:=by
  rcases hown.2 with⟨_,hn⟩|⟨g,cap,cur,_,_,_,hnc,hcm,_⟩
  ·simp at hn;rw[hn];simp
  ·simp at hnc;omega
 have hrun:(convert s d (a.eval x)).run P w=.ok (.string (strOfNums xs)) w:=by
  rcases hown.2 with⟨hv,hn⟩|⟨g,cap,cur,hv,_,hg,hnc,hcm,_,_⟩
  ·have hx0:xs=[]:=by simpa using hn
   subst hx0;rw[hv,run_convert_bytes_nil w s e hu hue 0 0 d hud];rfl
  ·rw[hv];have hcell:=hown.cells (g:=g) (by rw[hv];simp[Value.ownBlock]);refine run_convert_bytes_arg w s e hu hue g 0 _ cap xs (by simp) (fun i hi=>?_) d hud;have hi':i<xs.length:=by simpa using hi
   have:=hcell i (.int .u8 (xs.getD i 0)) (by rw[hce];simp[List.getD,aa hi']);simpa[Addr.add_lit]using this
 refine wpList_plain hg fun K hK=>?_
 unfold Oper.wp;have Ph:(execOp a.eval o).run P w=.ok (.value (.string (strOfNums xs))) w:=by
  simp only[execOp,hop];simp[hrun]
 rw[Ph,Oper.upon_value,hd];refine hK _ _ (h _ _ _ _ (hs.set (t:=t) (bs:=[]) ht ?_ (by simp)));have hsl:(strOfNums xs).data.toList=xs.map (fun n=>UInt8.ofNat n.toNat):=by simp[strOfNums]
 have hss:(strOfNums xs).size<=maxLen:=by
  have:(strOfNums xs).size=xs.length:=by
   have:=congrArg List.length hsl;simpa using this
  omega
 have:=Rd.str (w:=w) (strOfNums xs) hss;rw[hsl]at this;exact .of this
theorem a0u{o:Oper}{t:Nat}{s x:Operand}{T e sz:Nat}{zs:aQ}{rows fI:List aQ}{u1 u2:Bool}{k1 k2:aX}{A A':List An}{ow:C1}
 (hop:o.op=.call {callee:=.builtin .append,args:= #[s,x],argTypes:= #[T,T]}) (hd:o.dst=some t) (hg:o.guard=none) (ht:t<Γ.nt) (hT:Ec P T=some (e,sz)) (hz:tz P e=some zs) (hsz:0<sz)
 (hS:apS st.H (st.ev s) e sz=some (rows,u1,k1)) (hX:apX st.H (st.ev x) sz A=some (fI,u2,k2,A',ow)) (how:xV ow) (hnd:(k1++k2).Nodup)
 (h63:rows.length+fI.length<=maxLen) (hby:(rows.length+fI.length)*Xg P e<=140737488355328)
 (h:AO P Γ all rest Q ⟨(t,.acc st.H.length)::st.σ,kill st.H (k1++k2)++[.row (yO (u1&&u2)) e sz (rows++fI)]⟩):AO P Γ all (o::rest) Q st:=by
 refine TR hop hd hg ht hT hz hsz h63 hby ?_ h;intro κ Θ a w ρ hs hu;have one:∃i1 b1 c1,V7 w Θ ρ e sz (a.eval s) rows u1 i1 b1 c1/\((k1=[]/\i1=st.H.length)\/k1=[i1]):=by
  obtain⟨bs,r,_⟩:=hs.ev s;unfold apS at hS;split at hS
  ·rename_i HW;cases hS;rw[HW]at r;have:=r.Is;rw[this];exact⟨st.H.length,[],[],VD,.inl ⟨rfl,rfl⟩⟩
  ·rename_i m HW;rw[HW]at r;obtain⟨hk,_⟩:=r.uw;split at hS
   ·rename_i k e' sz' cv hH;split at hS
    ·cases hS
    ·split at hS
     ·rename_i hc;obtain⟨rfl,rfl⟩:=hc;cases hS;obtain⟨b1,c1,hA⟩:=Hh hs hu hk hH rfl;exact⟨m,b1,c1,hA,.inr rfl⟩
     ·cases hS
    ·split at hS
     ·rename_i hc;obtain⟨rfl,rfl⟩:=hc;cases hS;obtain⟨b1,c1,hA⟩:=Hh hs hu hk hH rfl;exact⟨m,b1,c1,hA,.inr rfl⟩
     ·cases hS
    ·cases hS
   ·cases hS
  ·cases hS
 have two:∃i2 b2 c2,TV w Θ ρ sz (a.eval x) fI u2 i2 b2 c2/\(u2=true->b2=[]\/i2∈k2):=by
  obtain⟨bs,r,hz⟩:=hs.ev x;unfold apX at hX;split at hX
  ·rename_i A1 HW;cases hX;rw[HW]at r;have:=r.Is;rw[this];exact⟨0,[],[],VE,fun _=>.inl rfl⟩
  ·rename_i A1 m HW;rw[HW]at r;obtain⟨hk,_⟩:=r.uw;split at hX
   ·rename_i k e' sz' cv hH;split at hX
    ·cases hX
    ·split at hX
     ·rename_i hc;subst hc;cases hX;obtain⟨b1,c1,hA⟩:=P9 hs hu hk hH rfl;exact⟨m,b1,c1,hA,fun _=>.inr (by simp)⟩
     ·cases hX
    ·split at hX
     ·rename_i hc;subst hc;cases hX;obtain⟨b1,c1,hA⟩:=P9 hs hu hk hH rfl;exact⟨m,b1,c1,hA,fun _=>.inr (by simp)⟩
     ·cases hX
    ·cases hX
   ·cases hX
  ·rename_i cv f A1 HW;cases hX;rw[HW]at r;obtain⟨⟨q1,q2⟩,_⟩:=how;obtain⟨b2,c2,hA,hb⟩:=YP (ρ:=ρ) r.Oc hz q1 0 u2 q2;exact⟨0,b2,c2,hA,fun e=>.inl (hb e)⟩
  ·cases hX
 obtain⟨i1,b1,c1,hA,hk1⟩:=one;obtain⟨i2,b2,c2,hB,hk2⟩:=two;refine⟨u1,u2,i1,i2,b1,b2,c1,c2,hA,hB,?_,fun yM=>?_⟩
 ·rcases hk1 with⟨_,h⟩|h
  ·exact .inr h
  ·exact .inl (by simp[h])
 ·simp only[aW]at yM;refine⟨yM.1,yM.2,?_⟩;rcases hk2 yM.2 with h|hmem
  ·exact .inl h
  ·refine .inr ⟨by simp[hmem],fun e=>?_⟩;rcases hk1 with⟨h1,h2⟩|h1
   ·
    have hlt:i2<st.H.length:=by
     unfold apX at hX;split at hX
     ·cases hX;cases hmem
     ·rename_i A1 m HW;split at hX
      ·rename_i k e' sz' cv hH;have:=(aF.1 hH).1;split at hX
       ·cases hX
       ·split at hX
        ·cases hX;simp at hmem;omega
        ·cases hX
       ·split at hX
        ·cases hX;simp at hmem;omega
        ·cases hX
       ·cases hX
      ·cases hX
     ·cases hX;cases hmem
     ·cases hX
    omega
   ·subst e;have:=(bJ.1 hnd).2.2 i1 (by simp[h1]) i1 hmem;exact this rfl
theorem Xf{κ:Nat->Option Value}{w:World}:∀ {ds:aQ} {n:Nat} {vs:bZ} {bs:aX},kz w vs ds bs->(∀d∈ds,d.flat=true\/∃rows,d=.sl rows)->bs.Nodup->
 ∃(us:bZ) (L:List aX),us.length=(tZ n ds).2.length/\L.length=us.length/\L.flatten=bs/\
  (∀(j:Nat) o,(tZ n ds).2[j]?=some o->∃rows u b,o=.tk rows/\us[j]?=some u/\u.oneCell'=true/\L[j]?=some b/\Rd w u (.sl rows) b)/\
  (∀κ':Nat->Option Value,(∀(j:Nat) u,us[j]?=some u->κ' (n+j)=some u)->er w κ' vs (tZ n ds).1 []):=by
 intro ds
 induction ds with
 |nil=>intro n vs bs h _ _;cases h;exact⟨[],[],rfl,rfl,rfl,by simp[tZ],fun _ _=>.nil⟩
 |cons d ds ih=>
  intro n vs bs h hd hnd;cases h with
  |cons v vs _ _ b1 b2 h1 h2 h3=>
   obtain⟨n1,n2,n3⟩:=bJ.1 hnd;rcases hd d (by simp)with hf|⟨rows,rfl⟩
   ·have hb:=h2.flat hf;subst hb;obtain⟨us,L,q1,q2,q3,q4,q5⟩:=ih (n:=n) h3 (fun x hx=>hd x (by simp[hx])) n2;have e:tZ n (d::ds)=(d::(tZ n ds).1,(tZ n ds).2):=by cases d<;>first|rfl| (simp[D.flat]at hf)
    rw[e];exact⟨us,L,q1,q2,q3,q4,fun κ' hk=>by simpa using er.cons v vs d _ [] [] h1 (.pure h2) (q5 κ' hk)⟩
   ·obtain⟨us,L,q1,q2,q3,q4,q5⟩:=ih (n:=n+1) h3 (fun x hx=>hd x (by simp[hx])) n2;refine⟨v::us,b1::L,by simp[tZ,q1],by simp[q2],by simp[q3],fun j o hj=>?_,fun κ' hk=>?_⟩
    ·cases j with
     |zero=>simp[tZ]at hj;subst hj;exact⟨rows,v,b1,rfl,rfl,h1,rfl,h2⟩
     |succ j=>
      obtain⟨cv,u,b,r1,r2,r3,r4,r5⟩:=q4 j o (by simpa[tZ]using hj);exact⟨cv,u,b,r1,by simpa using r2,r3,by simpa using r4,r5⟩
    ·have:=er.cons v vs (.acc n) _ [] [] h1 (.acc n v (by have:=hk 0 v rfl;simpa using this)) (q5 κ' (fun j u hj=>by have:=hk (j+1) u (by simpa using hj);rw[<-this];congr 1;omega));simpa[tZ]using this
theorem Rv{r:aQ}(h:Of r=true):∀d∈r,d.flat=true\/∃rows,d=.sl rows:=by
 intro d hd;have:=ay.1 h d hd;cases d<;>first|exact .inr ⟨_,rfl⟩|exact .inl this
theorem YH{o:Oper}{T id i sz e t:Nat}{x:Operand}{rows:List aQ}{r:aQ}(hop:o.op=.load T x)(hd:o.dst=some t)(hg:o.guard=none)(ht:t<Γ.nt)
 (hx:st.ev x=.op id i sz 0) (hH:st.H[id]?=some (.row (.mv i) e sz rows)) (hrow:rows[i]?=some r) (hT:zL P T=some true) (hsz:yX P T=sz) (hok:Of r=true)
 (h:AO P Γ all rest Q ⟨(t,.agg (tZ st.H.length r).1)::st.σ,st.H.set id (.row (.mv (i+1)) e sz rows)++(tZ st.H.length r).2⟩):AO P Γ all (o::rest) Q st:=by
 intro κ Θ a w hs;obtain⟨b1,r1,_⟩:=hs.ev x;rw[hx]at r1;obtain⟨g,o0,len,cap,hk,hv⟩:=r1.EE;obtain⟨ρ,hu⟩:=hs.td;obtain⟨a1c,hrl,vk0,cs0,bs0,a45,a07,a7I,hΘ,xS⟩:=hs.ob id _ hH;obtain⟨vk,cs,bs,Vs,hown,sC,hnd,hρ⟩:=hu.more id _ hH;rw[hk]at Vs a45;cases Vs;cases a45;have Y4:=Bt hown;subst Y4;rw[cm]at hv;have Sp:r.length=sz:=hrl r (aD hrow);have hlt:i<rows.length:=(aF.1 hrow).1;have Pd:rows.drop i=r::rows.drop (i+1):=by
  rw[lC hlt]
  congr 1
  rw[aa hlt]at hrow;exact oq hrow
 rw[Pd,dw]at sC;obtain⟨v1,v2,c1,c2,Lc,E5,k1,k2⟩:=sC.split;have l1:v1.length=sz:=by rw[k1.length,Sp]
 have hcells:∀j c,cs[j]?=some c->w.cell? ⟨g,0+j,none⟩=some c:=by
  intro j c hj;have:=hown.cells (g:=g) (by simp[Value.ownBlock]) j c hj;simpa[Addr.add_lit]using this
 have L0:=oV (P:=P) (w:=w) hT (o:=i*sz+0) hcells;simp only[cm,yD]at L0 hv;have hle:(i+1)*sz<=rows.length*sz:=dH _ hlt;rw[jd,mI]at hle;have VY:=hown.1;have hval:(cs.drop (i*sz)).take sz=v1:=by rw[Lc];exact iA l1
 have hrun:(execOp a.eval o).run P w=.ok (.value (.agg v1.toArray)) w:=by
  simp only[execOp,hop,hv];have:=L0.1 trivial (by rw[hsz,VY];omega);rw[hsz,hval]at this;simp[this]
 refine wpList_plain hg fun K hK=>?_
 unfold Oper.wp;rw[hrun,Oper.upon_value,hd];rw[E5]at hnd hρ;obtain⟨n1,n2,n3⟩:=bJ.1 hnd;obtain⟨us,L,q1,q2,q3,q4,q5⟩:=Xf (κ:=κ) (n:=st.H.length) k1 (Rv hok) n1;let N:=st.H.length
 let κ':Nat->Option Value:=fun j=>if j<N then κ j else us[j-N]?
 let ρ':Nat->Nat:=fun b=>match ix (fun x:aX=>x.contains b) L with|some j=>N+j+1|none=>ρ b
 have hn:∀(j:Nat) v,κ j=some v->κ' j=some v:=by
  intro j v hj;have:j<N:=by
   rcases dY j N with h|h
   ·exact h
   ·rw[hs.pX j h]at hj;cases hj
  simp only[κ'];rw[bK this];exact hj
 have hk':∀(j:Nat) u,us[j]?=some u->κ' (N+j)=some u:=fun j u hj=>by
  simp only[κ'];rw[b8 (by omega),dM];exact hj
 have a3Q:L.flatten.Nodup:=by rw[q3];exact n1
 have a4B:∀(j:Nat) x b,L[j]?=some x->b∈x->ρ' b=N+j+1:=by
  intro j x b hj hb;have:ix (fun x:aX=>x.contains b) L=some j:=E8 hj (by simpa using hb) (fun m y hm hy=>by
   have hy':b∈y:=by simpa using hy
   exact iU fun hne=>by
    have key:∀(L:List aX),L.flatten.Nodup->∀(p q:Nat) x y,L[p]?=some x->L[q]?=some y->b∈x->b∈y->p=q:=by
     intro L
     induction L with
     |nil=>intro _ p q x y hp;simp at hp
     |cons z L ih=>
      intro hnd p q x y hp hq Fi hby;simp only[dw]at hnd;obtain⟨m1,m2,m3⟩:=bJ.1 hnd;cases p with
      |zero=>
       cases q with
       |zero=>rfl
       |succ q=>
        simp at hp hq;subst hp;exact absurd rfl (m3 b Fi b (fP.2 ⟨y,aD hq,hby⟩))
      |succ p=>
       cases q with
       |zero=>
        simp at hp hq;subst hq;exact absurd rfl (m3 b hby b (fP.2 ⟨x,aD hp,Fi⟩))
       |succ q=>simp at hp hq;rw[ih m2 p q x y hp hq Fi hby]
    exact hne (key L a3Q m j y x hm hj hy' hb))
  simp only[ρ',this]
 have O4:∀b,b∉c1->ρ' b=ρ b:=by
  intro b hb;simp only[ρ'];cases hi:ix (fun x:aX=>x.contains b) L with
  |none=>rfl
  |some j=>
   obtain⟨x,hx',hp⟩:=yN hi;exact absurd (by rw[<-q3];exact fP.2 ⟨x,aD hx',by simpa using hp⟩) hb
 have a9R:id<N:=(aF.1 hH).1;have key:∀(j:Nat) y,(st.H.set id (.row (.mv (i+1)) e sz rows)++(tZ st.H.length r).2)[j]?=some y->(j=id/\y=.row (.mv (i+1)) e sz rows)\/(j≠id/\j<N/\st.H[j]?=some y)\/∃m,j=N+m/\(tZ st.H.length r).2[m]?=some y:=by
  intro j y hj;by_cases hlt:j<N
  ·rw[au (by simpa using hlt)]at hj;rcases yP j y hj with h|⟨h1,h2⟩
   ·exact .inl h
   ·exact .inr (.inl ⟨h1,hlt,h2⟩)
  ·rw[b7 (by simpa using hlt)]at hj;exact .inr (.inr ⟨j-N,by omega,by simpa using hj⟩)
 have kk:iV w w Θ Θ (id+2):=iV.refl hs.own (by omega);have uI:=hs.oX kk hn hu;have hone:∀(j:Nat) u,κ' j=some u->u.oneCell'=true:=by
  intro j u hj;simp only[κ']at hj;split at hj
  ·exact hs.ol j u hj
  ·have hjl:j-N<(tZ st.H.length r).2.length:=by rw[<-q1];exact(aF.1 hj).1
   obtain⟨_,u',_,_,r2,r3,_⟩:=q4 (j-N) _ (aa hjl);rw[hj]at r2;cases r2;exact r3
 have Pn:∀b∈c1,Θ b=0:=fun b hb=>(hu.free b (by rw[hρ b (by simp[hb])];omega)).1
 have hs':dX Γ ⟨st.σ,st.H.set id (.row (.mv (i+1)) e sz rows)++(tZ st.H.length r).2⟩ κ' Θ a w:=by
  refine hs.step kk hs.mine hn (fun j hj=>?_) hone (fun j y hj=>?_) ⟨ρ',fun b hb=>?_,fun j e2 Rr fI hj=>?_,fun j y hj=>?_⟩
  ·simp only[bB,oo]at hj;simp only[κ'];rw[b8 (by omega)];exact cP (by rw[q1];exact Nat.le_sub_of_add_le' hj)
  ·rcases key j y hj with⟨rfl,rfl⟩|⟨h1,h2,h3⟩|⟨m,rfl,hm⟩
   ·exact .inr (.inr ⟨a1c,hrl,_,cs0,bs0,hn _ _ hk,a07,a7I,hΘ,xS⟩)
   ·exact .inr (.inl ⟨by omega,h3⟩)
   ·obtain⟨cv,u,b,rfl,r2,r3,r4,r5⟩:=q4 m y hm;exact .inr (.inr ⟨u,b,hk' m u r2,r5,fun x hx'=>Pn x (by rw[<-q3];exact fP.2 ⟨b,aD r4,hx'⟩)⟩)
  ·by_cases hb':b∈c1
   ·exact uI.1 b (by rw[hρ b (by simp[hb'])];omega)
   ·rw[O4 b hb']at hb;exact uI.1 b hb
  ·rcases key j _ hj with⟨_,h⟩|⟨h1,h2,h3⟩|⟨m,rfl,hm⟩
   ·cases h
   ·obtain⟨v',cs',bs',p1,p2,p3,p4,p5⟩:=uI.2.1 j e2 Rr fI (by omega) h3;refine⟨v',cs',bs',p1,p2,p3,p4,fun b hb=>?_⟩;rw[O4 b (fun hb'=>by have:=hρ b (by simp[hb']);have:=p5 b hb;omega)];exact p5 b hb
   ·obtain⟨_,_,_,h,_⟩:=q4 m _ hm;cases h
  ·rcases key j _ hj with⟨rfl,rfl⟩|⟨h1,h2,h3⟩|⟨m,rfl,hm⟩
   ·refine⟨_,cs,c2,hn _ _ hk,hown,?_,n2,fun b hb=>?_⟩
    ·have e1:cs.drop ((i+1)*sz)=v2:=by
      rw[jd,mI,<-gH,Lc];exact fM l1
     rw[e1];exact k2
    ·rw[O4 b (fun hb'=>n3 b hb' b hb rfl)];exact hρ b (by simp[hb])
   ·refine(uI.2.2 j y (by omega) h3).re fun b hb=>?_
    rw[O4 b (fun hb'=>by have:=hρ b (by simp[hb']);omega)];exact hb
   ·obtain⟨cv,u,b,rfl,r2,r3,r4,r5⟩:=q4 m y hm;have hsub:∀x∈b,ρ' x=N+m+1:=fun x hx'=>a4B m b x r4 hx'
    have a6a:b.Nodup:=by
     have a2B:∀(L:List aX),L.flatten.Nodup->∀x∈L,x.Nodup:=by
      intro L
      induction L with
      |nil=>intro _ x hx';cases hx'
      |cons z L ih=>
       intro hnd x hx';simp only[dw]at hnd;obtain⟨m1,m2,_⟩:=bJ.1 hnd;rcases bI.1 hx' with rfl|hx'
       ·exact m1
       ·exact ih m2 x hx'
     exact a2B L a3Q b (aD r4)
    exact⟨u,b,hk' m u r2,r5,a6a,hsub⟩
 refine hK _ _ (h κ' Θ _ w (hs'.set (t:=t) ht (.v (.agg v1 _ [] (q5 κ' hk'))) (by simp)))
theorem BI{o:Oper}{t:Nat}{d:D}{A A':List An}{p:C1}(hd:o.dst=some t)(hg:o.guard=none)(ht:t<Γ.nt)(hv:Fl P st o.op A=some (d,A',p))(hp:xV p)(h:AO P Γ all rest Q ⟨(t,d)::st.σ,st.H⟩):
 AO P Γ all (o::rest) Q st:=Zo hd hg ht (TM hv hp) h
theorem TS{o:Oper}{s id e sz:Nat}{k:RK}{rows:List aQ}(hx:lk st.σ s=.acc id)(hH:st.H[id]?=some (.row k e sz rows))(hk:k.OM=true)
 (h:AO P Γ all (o::rest) Q ⟨(s,.sl rows)::st.σ,st.H.set id .gone⟩):AO P Γ all (o::rest) Q st:=by
 intro κ Θ a w hs;obtain⟨ρ,hu⟩:=hs.td;obtain⟨Θ',ρ',hs',_,⟨v,bs,hkm,hrd,hz,_⟩,_⟩:=hs.a2G hu hH hk;obtain⟨bx,rx,_⟩:=hs.slot s;rw[hx]at rx;obtain⟨hkx,_⟩:=rx.uw;have hv:a.tmps.getD s undef=v:=by rw[hkm]at hkx;cases hkx;rfl
 refine h κ Θ' a w ⟨hs'.defers,hs'.size,hs'.pX,hs'.ol,fun u=>?_,hs'.ob,hs'.own,hs'.old,hs'.mine,hs'.stays,hs'.td⟩;show∃bs,rD w κ (a.tmps.getD u undef) (if u=s then .sl rows else lk st.σ u) bs/\_;by_cases uI:u=s
 ·subst uI;rw[bK rfl,hv];exact⟨bs,.of hrd,hz⟩
 ·rw[b8 uI];exact hs'.slot u
theorem qU(c:Call){callee:Callee}{xs:List Operand}{ts:List TypeId}(h1:c.callee=callee)(h2:c.args.toList=xs)(h3:c.argTypes.toList=ts):c= {callee:=callee,args:=xs.toArray,argTypes:=ts.toArray}:=by
 cases c;simp only at h1 h2 h3;subst h1;subst h2;subst h3;simp
theorem OG{H H':bO}{A A':List An}{p:C1}{σ:List (Nat×D)}(h:RY H A=some (H',A',p))(hp:xV p)(hn:AO P Γ all rest Q ⟨σ,H'⟩):AO P Γ all rest Q ⟨σ,H⟩:=by
 unfold RY at h;split at h
 ·split at h
  ·rename_i sz rows u p' n hH;split at h
   ·rename_i Rr fI u2 d hN hc;cases h;have he:=hp.2.1;subst he;exact V3 (st:=⟨σ,H⟩) hH hN hp.1 hc hn
   ·cases h
  ·cases h
 ·cases h;exact hn
theorem Ng{o:Oper}{A A':List An}{ur:St}{p:C1}{nt:Nat}(hnt:Γ.nt=nt)(hg:o.guard=none)(h:G8 P nt o st A=some (ur,A',p))(hp:xV p)(hn:AO P Γ all rest Q ur):AO P Γ all (o::rest) Q st:=by
 subst hnt;unfold G8 at h;split at h
 ·rename_i T x t hop hd;split at h
  ·split at h
   ·cases h;exact a0v hop hd hg (by assumption) (by assumption) hn
   ·cases h
  ·cases h
 ·rename_i T t hop hd;split at h
  ·split at h
   ·cases h;exact Uu hop hd hg (by assumption) (by assumption) hn
   ·cases h
  ·cases h
 ·rename_i T x y hop hd;split at h
  ·rename_i id off ds h1 h2;split at h
   ·rename_i ob h3;split at h
    ·rename_i cells h4;split at h
     ·rename_i hc;cases h;exact V5 hop hd hg h1 h3 h4 h2 hc.1 hc.2.1 hc.2.2 hn
     ·cases h
    ·cases h
   ·cases h
  ·rename_i id i sz off ds h1 h2;split at h
   ·rename_i sz' rows u _ r A1 h3;split at h
    ·rename_i hc;obtain⟨c1,c2,c3,rfl,c5,c6⟩:=hc;cases h;exact TT hop hd hg h1 h3 hp.1 h2 c6 c1 c2 c3 c5 hn
    ·cases h
   ·rename_i k e sz' rows es ms r A1 h3 h4;split at h
    ·rename_i hc;obtain⟨c1,c2,rfl,c4,c5,c6,c7⟩:=hc;cases h;exact Ox hop hd hg h1 h3 c4 hp.1 h2 h4 c6 c7 c1 c2 c5 hn
    ·cases h
   ·cases h
  ·cases h
 ·rename_i T t hop hd;split at h
  ·cases h;exact Qk hop hd hg (by assumption) hn
  ·cases h
 ·rename_i T x i y hop hd;split at h
  ·rename_i kd dz id m A1 h1 h2;split at h
   ·rename_i kv h3;split at h
    ·rename_i hc;cases h;exact Nf hop hd hg h1 h2 h3 hc.1 hc.2 hp.1 hn
    ·cases h
   ·cases h
  ·cases h
 ·rename_i T x y t hop hd;split at h
  ·rename_i e sz k n k' n' h1 h2 h3;split at h
   ·rename_i zs h4;split at h
    ·rename_i hc;cases h;obtain⟨⟨rfl,q2,q3,q4⟩,_⟩:=hp;exact Nd hop hd hg hc.1 h1 h4 hc.2 h2 h3 q2 q3 q4 hn
    ·cases h
   ·cases h
  ·cases h
 ·rename_i T len parts t hop hd;split at h
  ·rename_i e sz h1;split at h
   ·rename_i zs h2;split at h
    ·rename_i ds h3;split at h
     ·rename_i es ms h4;split at h
      ·rename_i hc;cases h;exact MQ hop hd hg hc.1 h1 h2 hc.2.1 hc.2.2.1 h3 h4 hc.2.2.2 hn
      ·cases h
     ·cases h
    ·cases h
   ·cases h
  ·cases h
 ·rename_i c t hop hd;split at h
  ·rename_i s x T T' h1 h2 h3;split at h
   ·rename_i e sz h4;split at h
    ·rename_i zs rows u1 k1 fI u2 k2 A1 ow h5 h6 h7;split at h
     ·rename_i hc;obtain⟨c1,c2,rfl,c4⟩:=hc;cases h;obtain⟨⟨q1,q2⟩,q3⟩:=hp;exact a0u (hop.trans (congrArg Op.call (qU c h1 h2 h3))) hd hg c1 h4 h5 c2 h6 h7 q3 c4 q1 q2 hn
     ·cases h
    ·cases h
   ·cases h
  ·rename_i x T h1 h2 h3;split at h
   ·rename_i id sz rows u h4;obtain⟨h5,h6⟩:=Lo h4;split at h
    ·rename_i hc;cases h;exact YG (hop.trans (congrArg Op.call (qU c h1 h2 h3))) hd hg hc.1 hc.2 h5 h6 hn
    ·cases h
   ·split at h
    ·split at h
     ·rename_i d A1 ow h4;cases h;exact BI hd hg (by assumption) h4 hp hn
     ·cases h
    ·cases h
  ·rename_i f xs ts h1;split at h
   ·rename_i ms outs d A1 h4;split at h
    ·rename_i ins h5;split at h
     ·rename_i hc;obtain⟨c1,c2,c3⟩:=hc;split at h
      ·rename_i H' A2 ow h6;cases h;exact V1 (hop.trans (congrArg Op.call (qU c h1 rfl rfl))) hd hg c1 c2 h5 (by simpa using c3) (by simpa using hp.1) (OG h6 hp.2 hn)
      ·cases h
     ·cases h
    ·cases h
   ·rename_i nz cells' d A1 h4;split at h
    ·rename_i x0 xr h5;split at h
     ·rename_i id h6;split at h
      ·rename_i ob h7;split at h
       ·rename_i JN h8;split at h
        ·rename_i cells ds ms qs h9;split at h
         ·rename_i hc;obtain⟨c1,c2,c3⟩:=hc;cases h;exact V0 (hop.trans (congrArg Op.call (qU c h1 rfl rfl))) hd hg c1 (by simpa using h5) h6 h7 h8 h9 c2 c3 hp.1 hn
         ·cases h
        ·cases h
       ·cases h
      ·cases h
     ·cases h
    ·cases h
   ·rename_i ds ms cells A1 h4;split at h
    ·rename_i hc;obtain⟨c1,rfl⟩:=hc;cases h;exact Uy (hop.trans (congrArg Op.call (qU c h1 rfl rfl))) hd hg c1 (by simpa using h4) hp.1 hn
    ·cases h
   ·rename_i ds ms d A1 h4;split at h
    ·rename_i hc;cases h;exact Uv (hop.trans (congrArg Op.call (qU c h1 rfl rfl))) hd hg hc.1 (by simpa using h4) hc.2 hp.1 hn
    ·cases h
   ·rename_i id cv A1 h4;split at h
    ·rename_i e sz rows h5;split at h
     ·rename_i hc;obtain⟨c1,c3⟩:=hc;cases h;exact Uz (hop.trans (congrArg Op.call (qU c h1 rfl rfl))) hd hg c1 h5 hp.1 (by simpa using c3) (by simpa using hp.2.1) hn
     ·cases h
    ·cases h
   ·rename_i id cv A1 h4;split at h
    ·rename_i x k e sz rows h5 h6;split at h
     ·rename_i id' h7;split at h
      ·rename_i hc;obtain⟨c1,rfl,c3⟩:=hc;cases h;have e1:c.args= #[x]:=by rw[<-tg];simpa using h5
       refine Ux (ts:=c.argTypes) (hop.trans (congrArg Op.call ?_)) (fun t' ht'=>?_) hg h7 h6 c3 hp.1 hp.2.1 ?_
       ·rw[<-e1];exact qU c h1 rfl rfl
       ·rw[hd]at ht';cases ht';exact c1
       ·rw[hd];exact hn
      ·cases h
     ·cases h
    ·cases h
   ·rename_i ds ms d A1 h4;split at h
    ·rename_i hc;cases h;exact YD (hop.trans (congrArg Op.call (qU c h1 rfl rfl))) hd hg hc.1 (by simpa using h4) hc.2 hp.1 hn
    ·cases h
   ·rename_i d A1;split at h
    ·rename_i hc;cases h;exact Uw (hop.trans (congrArg Op.call (qU c h1 rfl rfl))) hd hg hc.1 (by simpa using hc.2) (by simpa using hp.1) hn
    ·cases h
   ·cases h
  ·split at h
   ·split at h
    ·rename_i d A1 ow h4;cases h;exact BI hd hg (by assumption) h4 hp hn
    ·cases h
   ·cases h
 ·rename_i s d x t hop hd;split at h
  ·rename_i id h1;split at h
   ·rename_i k e' sz' rows e sz h2 h3;split at h
    ·rename_i bs h4;split at h
     ·rename_i hc;obtain⟨c1,rfl,c3,c4⟩:=hc;cases h;exact YE hop hd hg c1 h1 h2 h3 c3 c4 h4 hn
     ·cases h
    ·cases h
   ·cases h
  ·split at h
   ·split at h
    ·rename_i d A1 ow h4;cases h;exact BI hd hg (by assumption) h4 hp hn
    ·cases h
   ·cases h
 ·rename_i x t hop hd;split at h
  ·rename_i A1;split at h
   ·rename_i e sz h1 h2;split at h
    ·rename_i hc;cases h;exact a0y hop hd hg hc.1 h1 hc.2 hn
    ·cases h
   ·cases h
  ·split at h
   ·cases h;exact Zo hd hg (by assumption) (by rw[hop];rfl) hn
   ·cases h
 ·rename_i T x hi t hop hd;split at h
  ·rename_i id h1;split at h
   ·rename_i e sz rows e' sz' kk n hh A1 h2 h3 h4;split at h
    ·rename_i hc;obtain⟨c1,rfl⟩:=hc;cases h;exact YF hop hd hg c1 h3 h1 h2 (by rw[h4,hp.1.1]) hp.1.2 hn
    ·cases h
   ·cases h
  ·split at h
   ·split at h
    ·rename_i d A1 ow h4;cases h;exact BI hd hg (by assumption) h4 hp hn
    ·cases h
   ·cases h
 ·rename_i T s lo t hop hd;split at h
  ·rename_i A0 id h1;split at h
   ·rename_i k e sz rows h2;split at h
    ·rename_i hc;split at h
     ·rename_i d A1 ow h4;cases h;exact TS h1 h2 hc.2 (BI hd hg hc.1 h4 hp hn)
     ·cases h
    ·cases h
   ·cases h
  ·split at h
   ·split at h
    ·rename_i d A1 ow h4;cases h;exact BI hd hg (by assumption) h4 hp hn
    ·cases h
   ·cases h
 ·rename_i T x i t hop hd;split at h
  ·rename_i id sz rows u h1;obtain⟨h2,h3⟩:=Lo h1;split at h
   ·rename_i e sz' k n m A1 h4 h5;split at h
    ·rename_i hc;obtain⟨c1,rfl⟩:=hc;cases h;exact a0w hop hd hg c1 h4 h2 h5 h3 hp.1.1 hp.1.2 hn
    ·cases h
   ·cases h
  ·split at h
   ·split at h
    ·rename_i d A1 ow h4;cases h;exact BI hd hg (by assumption) h4 hp hn
    ·cases h
   ·cases h
 ·rename_i T x t hop hd;split at h
  ·rename_i id i off sz rows u h1;obtain⟨h2,h3⟩:=RW h1;split at h
   ·rename_i r A1 h4;split at h
    ·rename_i fI h5;split at h
     ·rename_i e Rr h6;split at h
      ·rename_i hc;cases h;exact V4 hop hd hg hc h4 h2 h3 hp.1 h5 hp.2.1 hn
      ·cases h
     ·cases h
    ·rename_i d _ h5;split at h
     ·rename_i hc;cases h;exact V2 hop hd hg hc.1 h4 h2 h3 hp.1 h5 hc.2 hn
     ·cases h
    ·cases h
   ·cases h
  ·split at h
   ·rename_i r A1 id i sz h1;split at h
    ·rename_i n e sz' rows h2;split at h
     ·rename_i hc;obtain⟨c1,rfl,c3,c4⟩:=hc;cases h;obtain⟨⟨rfl,q2,q3⟩,_⟩:=hp;exact YH hop hd hg c1 h1 h2 q2 c3 c4 q3 hn
     ·cases h
    ·cases h
   ·split at h
    ·split at h
     ·rename_i d A1 ow h4;cases h;exact BI hd hg (by assumption) h4 hp hn
     ·cases h
    ·cases h
 ·split at h
  ·split at h
   ·rename_i d A1 ow h4;cases h;exact BI (by assumption) hg (by assumption) h4 hp hn
   ·cases h
  ·cases h
 ·cases h
theorem Xa{o:Oper}{A A':List An}{ur:St}{p:C1}{nt:Nat}(hnt:Γ.nt=nt)(h:G8 P nt o st A=some (ur,A',p)):∀ {t:Nat},o.dst=some t->t<Γ.nt:=by
 intro t ht;subst hnt;unfold G8 at h;split at h
 all_goals first
  | (rename_i hd;rw[ht]at hd;cases hd;done)
  |skip
 all_goals(try(rename_i hd;rw[ht]at hd;cases hd))
 all_goals(repeat' split at h)
 all_goals(try cases h)
 all_goals first
  |assumption
  | (
   have hc:_/\_:=by assumption
   exact hc.1)
  | (simp_all;done)
end
end Go.Cx

/- Regions whose order is drawn: where each operation of the head only computes or calls a function that leaves what was there as it was, every order gives the state of the text's order. No condition; plain lemmas. -/
import Derived.Test.YtnbmhfbejojjiaaGreatDoorPFnAnyOrderG1
import Derived.StillTail
import Derived.MapKept
set_option linter.unusedVariables false
set_option linter.unusedSimpArgs false
namespace Go.Cx
open Go.RowKit
abbrev lR:=List Fs
section
variable{P:Program}{Γ:sQ}{Q:Exit->St->Prop}{st:St}{κ:Nat->Option Value}{Θ:Nat->Nat}{a:Act}{w:World}{all:Array Oper}
def Ext(H H':bL):Prop:=∀(i:Nat) o,H[i]?=some o->H'[i]?=some o
theorem Ln(σ:List (Nat×D))(H H':bL)(x:Operand):St.ev ⟨σ,H⟩ x=St.ev ⟨σ,H'⟩ x:=by cases x<;>rfl
theorem Kn{σ σ':List (Nat×D)}{H H':bL}{op:Op}{d:D}(hx:Ext H H')(he:∀x∈op.operands.toList,St.ev ⟨σ,H⟩ x=St.ev ⟨σ',H'⟩ x)(h:pv P ⟨σ,H⟩ op=some d):pv P ⟨σ',H'⟩ op=some d:=by
 have hm:∀(o:Option Operand),(∀x∈o.toArray.toList,St.ev ⟨σ,H⟩ x=St.ev ⟨σ',H'⟩ x)->o.map (St.ev ⟨σ,H⟩)=o.map (St.ev ⟨σ',H'⟩):=by
  intro o h;cases o with
  |none=>rfl
  |some x=>simp[h x (by simp)]
 cases op<;>simp only[pv]at h⊢ <;>(try cases h)
 case move x=>rw[he x (by simp[Op.operands])]at*
 case assign x=>rw[he x (by simp[Op.operands])]at*
 case nilCheck x=>rw[he x (by simp[Op.operands])]at h;exact h
 case pick c x y=>rw[he c (by simp[Op.operands]),he x (by simp[Op.operands]),he y (by simp[Op.operands])]at h;exact h
 case binOp op t x y t'=>rw[he x (by simp[Op.operands]),he y (by simp[Op.operands])]at h;exact h
 case unOp op t x=>cases op<;>simp only[pv]at h⊢ <;>(try cases h)<;>(rw[he x (by simp[Op.operands])]at h;exact h)
 case convert s d x=>rw[he x (by simp[Op.operands])]at h;exact h
 case field t x f=>rw[he x (by simp[Op.operands])]at h;exact h
 case fieldAddr t x f=>rw[he x (by simp[Op.operands])]at h;exact h
 case indexAddr t x i=>
  rw[he x (by simp[Op.operands]),he i (by simp[Op.operands])]at h;split at h
  ·rename_i e sz rows kk n h1 h2 h3
   (try simp only[h1,h2,h3]);exact h
  ·rename_i e sz id kk n h1 h2 h3
   (try simp only[h1,h2,h3])
   split at h
   ·rename_i k e' sz' rows hH;simp only[hx id _ hH];exact h
   ·cases h
  ·rename_i g o' kk n h1 h2
   (try simp only[h1,h2])
   generalize CP P t=q at h⊢;cases q<;>exact h
  ·cases h
 case load t x=>
  rw[he x (by simp[Op.operands])]at h;split at h
  ·rename_i ag row off h1 h2
   (try simp only[h1,h2]);exact h
  ·rename_i ag id off h1 h2
   (try simp only[h1,h2])
   split at h
   ·rename_i cells hH;obtain⟨ob,hH,yA⟩:=l6.1 hH;simp only[hx id _ hH,aA,yA];exact h
   ·cases h
  ·rename_i ag id i sz off h1 h2
   (try simp only[h1,h2])
   split at h
   ·rename_i k e' sz' rows hH;simp only[hx id _ hH];exact h
   ·cases h
  ·rename_i ag g o' h1 h2
   (try simp only[h1,h2]);exact h
  ·cases h
 case lookup T x i ok=>
  rw[he x (by simp[Op.operands]),he i (by simp[Op.operands])]at h;split at h
  ·rename_i id h1
   (try simp only[h1])
   split at h
   ·rename_i kv hH;simp only[hx id _ hH];exact h
   ·cases h
  ·cases h
 case extract x i=>rw[he x (by simp[Op.operands])]at h;exact h
 case index t x i=>rw[he x (by simp[Op.operands]),he i (by simp[Op.operands])]at h;exact h
 case slice t x lo hi mx=>
  cases mx with
  |none=>
   simp only[pv]at h⊢;rw[he x (by simp[Op.operands]),hm lo (fun y hy=>he y (by simp only[Op.operands,jj,aV];exact .inl (.inl (.inr hy)))),
    hm hi (fun y hy=>he y (by simp only[Op.operands,jj,aV];exact .inl (.inr hy)))]at h
   exact h
  |some m=>simp only[pv]at h;cases h
 case build t parts=>
  have:(parts.toList.map fun p=>(p.1,St.ev ⟨σ,H⟩ p.2))=parts.toList.map fun p=>(p.1,St.ev ⟨σ',H'⟩ p.2):=by
   apply lT;intro p hp;rw[he p.2 (by simp only[Op.operands];simp;exact⟨p.1,by simpa using hp⟩)]
  rw[this]at h;exact h
 case call c=>
  split at h
  ·rename_i x t h1 h2 h3;have V5:x∈(Op.call c).operands.toList:=by
    simp only[Op.operands,Call.operands,jj,aV,h2];exact .inr (by simp)
   (try simp only[h1,h2,h3])
   unfold VZ at h⊢;rw[he x V5]at h;split at h
   ·rename_i s hs;(try simp only[hs]);exact h
   ·rename_i rows hs;(try simp only[hs]);exact h
   ·rename_i hs;(try simp only[hs]);exact h
   ·rename_i id hs
    (try simp only[hs])
    split at h
    ·rename_i kk k e sz rows h4 h5;simp only[h4,hx id _ h5];exact h
    ·cases h
   ·cases h
  ·rename_i x y t t' h1 h2 h3;have V5:x∈(Op.call c).operands.toList:=by
    simp only[Op.operands,Call.operands,jj,aV,h2];exact .inr (by simp)
   have hym:y∈(Op.call c).operands.toList:=by
    simp only[Op.operands,Call.operands,jj,aV,h2];exact .inr (by simp)
   (try simp only[h1,h2,h3])
   rw[he x V5,he y hym]at h;exact h
  ·cases h
theorem Me{H H':bL}(hx:Ext H H'){d e:D}{ms:aP}(h:Qo H d=some (e,ms)):Qo H' d=some (e,ms):=by
 cases d<;>simp only[Qo]at h⊢ <;>(try exact h)
 split at h
 ·rename_i k e' sz rows hH;simp only[hx _ _ hH];exact h
 ·rename_i sz rows u hH;simp only[hx _ _ hH];exact h
 ·rename_i rows hH;simp only[hx _ _ hH];exact h
 ·cases h
theorem QX{H H':bL}(hx:Ext H H'):∀ {ds es:aK} {ms:aP},Mf H ds=some (es,ms)->Mf H' ds=some (es,ms):=by
 intro ds
 induction ds with
 |nil=>intro es ms h;exact h
 |cons d ds ih=>
  intro es ms h;simp only[Mf]at h⊢;split at h
  ·rename_i e m es' ms' h1 h2;rw[Me hx h1,ih h2];exact h
  ·cases h
theorem U3{H H':bL}(hx:Ext H H'){d e:D}{ms:aP}(h:U2 H d=some (e,ms)):U2 H' d=some (e,ms):=by
 by_cases qe:∃ds,d=.agg ds
 ·obtain⟨ds,rfl⟩:=qe;simp only[U2]at h⊢;split at h
  ·rename_i es ms' h1;rw[QX hx h1];exact h
  ·cases h
 ·by_cases ht:∃vs,d=.iQ vs
  ·obtain⟨vs,rfl⟩:=ht;simp[U2]at h
  ·have e1:∀H,U2 H d=Qo H d:=by intro H;cases d<;>first|rfl|exact absurd ⟨_,rfl⟩ qe|exact absurd ⟨_,rfl⟩ ht
   rw[e1]at h⊢;exact Me hx h
theorem QY{H H':bL}(hx:Ext H H'):∀ {ds es:aK} {ms:aP},DD H ds=some (es,ms)->DD H' ds=some (es,ms):=by
 intro ds
 induction ds with
 |nil=>intro es ms h;exact h
 |cons d ds ih=>
  intro es ms h;simp only[DD]at h⊢;split at h
  ·rename_i e m es' ms' h1 h2;rw[U3 hx h1,ih h2];exact h
  ·cases h
structure Cp where
 t:Option Nat
 d:D
 r:Nat
 obs:bL
 up:Option (Nat×Ob)
def Looks(H:bL)(vs ds:aK)(ms:aP):Prop:=DD H vs=some (ds,ms)\/(vs.all GU=true/\ds=vs/\ms=[])
def FY(P:Program)(H:bL)(σ:List (Nat×D))(o:Oper)(p:Cp):Prop:=
 (pv P ⟨σ,H⟩ o.op=some p.d/\p.obs=[])\/∃(f:FuncId) (xs:Array Operand) (ts:Array TypeId) (ds:aK) (ms:aP) (d:D),o.op=.call {callee:=.value (.func f),args:=xs,argTypes:=ts}/\
  Looks H (xs.toList.map (St.ev ⟨σ,H⟩)) ds ms/\(ms=[]\/d.IQ=true)/\Good P f ds d/\(lY p.r d=(p.d,p.obs)\/(d.Yf=true/\p.d=d.UO/\p.obs=[]))
def Jr(P:Program)(H:bL)(σ:List (Nat×D))(o:Oper)(p:Cp):Prop:=
 (∃T zs,o.op=.alloc T/\tz P T=some zs/\p.d=.ptr p.r 0/\p.obs=[.box zs])\/∃T x ds,o.op=.box T x/\(St.ev ⟨σ,H⟩ x).cellsOf=some ds/\p.d=.ptr p.r 0/\p.obs=[.box ds]
def Jt(P:Program)(H:bL)(σ:List (Nat×D))(o:Oper)(p:Cp):Prop:=
 ∃T e sz len parts zs ds es,o.op=.buildSlice T len parts/\CP P T=some (e,sz)/\tz P e=some zs/\0<sz/\len*sz<=16777216/\
  vD (qC len sz) (List.replicate len zs).flatten (parts.toList.map fun q=>(q.1,St.ev ⟨σ,H⟩ q.2))=some ds/\Fb H ds=some (es,[])/\p.d=.acc p.r/\p.obs=[.row (wK (ds.all (PM H))) e sz (chunk sz len es)]
def Js(P:Program)(H:bL)(σ:List (Nat×D))(o:Oper)(p:Cp):Prop:=
 ∃T e sz len parts zs ds,o.op=.buildSlice T len parts/\CP P T=some (e,sz)/\tz P e=some zs/\0<sz/\len*sz<=16777216/\
  vD (qC len sz) (List.replicate len zs).flatten (parts.toList.map fun q=>(q.1,St.ev ⟨σ,H⟩ q.2))=some ds/\ds.all D.LK=true/\ds.all D.flat=true/\p.d=.sl (chunk sz len ds)/\p.obs=[]
def EH(P:Program)(H:bL)(σ:List (Nat×D))(o:Oper)(p:Cp):Prop:=FY P H σ o p\/Jr P H σ o p\/Jt P H σ o p\/Js P H σ o p
def Zk(P:Program)(Γ:sQ)(all:Array Oper)(H:bL)(σ:List (Nat×D))(o:Oper)(p:Cp):Prop:=
 ∃t,p.t=some t/\p.up=none/\o.dst=some t/\t<Γ.nt/\((o.guard=none/\EH P H σ o p)\/
  (∃(j s:Nat) (want b:Bool),o.guard=some (j,want)/\(all[j]?).bind (·.dst)=some s/\lk σ s=.bool b/\((b=want/\EH P H σ o p)\/(b≠want/\p.d=.iQ []/\p.obs=[])))\/
  ∃(j s:Nat) (want:Bool),o.guard=some (j,want)/\(all[j]?).bind (·.dst)=some s/\lk σ s=.iQ []/\p.d=.iQ []/\p.obs=[])
def Zj(P:Program)(H:bL)(σ:List (Nat×D))(o:Oper)(p:Cp):Prop:=
 p.t=none/\p.obs=[]/\o.dst=none/\o.guard=none/\∃T x y id ds,o.op=.store T x y/\St.ev ⟨σ,H⟩ x=.ptr id 0/\H.length<=id/\(St.ev ⟨σ,H⟩ y).cellsOf=some ds/\L9 P T=true/\ds.length=wS P T/\p.up=some (id,.box ds)
def qj(P:Program)(Γ:sQ)(all:Array Oper)(H:bL)(σ:List (Nat×D))(o:Oper)(p:Cp):Prop:=Zk P Γ all H σ o p\/Zj P H σ o p
def Cp.slot(p:Cp)(σ:List (Nat×D)):List (Nat×D):=match p.t with|some t=>(t,p.d)::σ|none=>σ
def Cp.fill(n:Nat)(p:Cp)(acc:bL):bL:=match p.up with|some (id,ob)=>acc.set (id-n) ob|none=>acc++p.obs
def Cp.a1f(n:Nat)(p:Cp)(U:aP)(acc:bL):Prop:=match p.up with|some (id,ob)=>id∉U/\n<=id/\∃zs ds,acc[id-n]?=some (.box zs)/\ob=.box ds/\zs.length=ds.length|none=>True
def Cp.ups(p:Cp)(U:aP):aP:=match p.up with|some (id,_)=>id::U|none=>U
def GJ(P:Program)(Γ:sQ)(all:Array Oper)(H:bL)(K:List (Nat×D)->bL->Prop):List Oper->List (Nat×D)->bL->aP->Prop
 | [],σ,acc,_=>K σ acc
 |o::os,σ,acc,U=>∃p:Cp,p.r=H.length+acc.length/\qj P Γ all H σ o p/\p.a1f H.length U acc/\GJ P Γ all H K os (p.slot σ) (p.fill H.length acc) (p.ups U)
theorem xW{Q':Exit->Act->World->Prop}{ops:Array Oper}{i:Nat}{o:Oper}{K:Act->World->Prop}(hi:ops[i]?=some o)(hw:Region.wanted o (yielded ops a.tmps)=true)(h:o.wp P a w K Q'):wpOp P ops Q' i K a w:=by
 unfold wpOp;simp only[hi,hw,o6];exact .inl h
theorem dM.ZR(hs:dM Γ st κ Θ a w){ops:Array Oper}{j s:Nat}{b:Bool}(hj:(ops[j]?).bind (·.dst)=some s)(hb:lk st.σ s=.bool b):yielded ops a.tmps j=some b:=by
 obtain⟨bs,r,_⟩:=hs.slot s;rw[hb]at r;have hv:=r.tN;have hlt:s<a.tmps.size:=by
  rcases dU s a.tmps.size with h|h
  ·exact h
  ·exfalso;rw[bu,ol h]at hv;simp[undef]at hv
 have h1:a.tmps[s]?=some (.bool b):=by
  rw[bu,cC hlt]at hv;rw[cC hlt];simpa using hv
 simp[yielded,hj,h1]
theorem Hp{st sK:St}{ops:Array Oper}{o:Oper}(h:∀t∈o.looksAt ops,lk st.σ t=lk sK.σ t):∀x∈o.op.operands.toList,st.ev x=sK.ev x:=by
 intro x hx;cases x with
 |tmp t=>
  refine h t ?_;unfold Oper.looksAt;exact aV.2 (.inl (bn.2 ⟨.tmp t,hx,rfl⟩))
 |const v=>rfl
 |global g=>rfl
 |func f=>rfl
theorem C1(l:List (Nat×D))(σ:List (Nat×D))(t:Nat):(∀p∈l,p.1≠t)->lk (l++σ) t=lk σ t:=by
 induction l with
 |nil=>intro _;rfl
 |cons q l ih=>
  intro h;obtain⟨u,d⟩:=q;simp only[oG,lk];rw[av (fun e=>h (u,d) (by simp) e.symm)];exact ih (fun p hp=>h p (by simp[hp]))
theorem E7(l:List (Nat×D))(σ:List (Nat×D))(p:Nat×D)(hp:p∈l)(hd:∀q∈l,q.1=p.1->q=p):lk (l++σ) p.1=p.2:=by
 induction l with
 |nil=>cases hp
 |cons q l ih=>
  obtain⟨u,d⟩:=q;simp only[oG,lk];by_cases e:p.1=u
  ·rw[bE e];have:=hd (u,d) (by simp) e.symm;rw[<-this]
  ·rw[av e];rcases bA.1 hp with rfl|hp
   ·exact absurd rfl e
   ·exact ih hp (fun q hq=>hd q (by simp[hq]))
def RX(ops:Array Oper)(n:Nat):Bool:=
 decide (n<=ops.size)&&(decide (n=ops.size)||(decide (n<ops.size)&&(Region.sinkB .any ops n&&Region.chainB .any ops n)))&&
 Region.seqB .any ops (ops.size-n) n (Array.replicate n true++Array.replicate (ops.size-n) false)&&
 (List.range n).all fun i=>match ops[i]? with
  |none=>false
  |some o=>(o.after.all fun e=> !Region.binds .any e||decide (e.on<i))&&
   ((o.looksAt ops).all fun t=>(List.range n).all fun j=>match ops[j]? with|some oj=> !(oj.dst==some t)||(decide (j<i)&&Region.waitsFor .any ops i j)|none=>true)&&
   (List.range n).all fun j=>j==i||(match ops[j]? with|some oj=> !(oj.dst==o.dst)||o.dst.isNone|none=>true)
def place(H:bL)(r:Nat)(obs:bL):bL:=H.take r++(obs++H.drop (r+obs.length))
theorem rQ{H:bL}{r:Nat}{obs:bL}(h:r+obs.length<=H.length)(j:Nat):(place H r obs)[j]?=if j<r then H[j]? else if j<r+obs.length then obs[j-r]? else H[j]?:=by
 unfold place;have hl:(H.take r).length=r:=by rw[cD];omega
 by_cases h1:j<r
 ·rw[bE h1,ai (by omega),cE,bE h1]
 ·rw[av h1,au (by omega),hl];by_cases h2:j<r+obs.length
  ·rw[bE h2,ai (by omega)]
  ·rw[av h2,au (by omega),dw]
   congr 1;omega
theorem rR{H:bL}{r:Nat}{obs:bL}(h:r+obs.length<=H.length):(place H r obs).length=H.length:=by
 unfold place;simp;omega
theorem FY.wp{Q':Exit->Act->World->Prop}{σ:List (Nat×D)}{H H':bL}{o:Oper}{p:Cp}{K:Act->World->Prop}(hs:dM Γ ⟨σ,H'⟩ κ Θ a w)(hx:Ext H H'){t:Nat}(hd:o.dst=some t)(ht:t<Γ.nt)(h:FY P H σ o p)
 (hr:p.r+p.obs.length<=H'.length) (hfree:∀i,i<p.obs.length->κ (p.r+i)=none)
 (hK:∀κ' Θ' a' w',dM Γ ⟨(t,p.d)::σ,place H' p.r p.obs⟩ κ' Θ' a' w'->(∀j,(j<p.r\/p.r+p.obs.length<=j)->κ' j=κ j)->K a' w'):o.wp P a w K Q':=by
 rcases h with⟨h,hno⟩|⟨f,xs,ts,ds,ms,d,hop,hds,hsh,kq,hi⟩
 ·have h':=Kn (σ:=σ) (σ':=σ) hx (fun x _=>Ln σ H H' x) h;obtain⟨v,bs,hrun,hrd,hz⟩:=C4 hs h';unfold Oper.wp;rw[hrun,Oper.upon_value,hd];have hp:place H' p.r p.obs=H':=by rw[hno];simp[place]
  exact hK κ Θ _ _ (by rw[hp];exact hs.set ht hrd hz) (fun _ _=>rfl)
 ·have hev:xs.toList.map (St.ev ⟨σ,H⟩)=xs.toList.map (St.ev ⟨σ,H'⟩):=lT (fun x _=>Ln σ H H' x);have Xi:∃bs,OH w (xs.toList.map a.eval) ds bs/\∀b∈bs,Seen Θ ms b:=by
   rcases hds with hds|⟨hk,rfl,rfl⟩
   ·have:=QY hx hds;rw[hev]at this;exact HN hs this
   ·rw[hev]at hk⊢;exact JP hs hk
  obtain⟨bs,hargs,hz⟩:=Xi;let Θc:Nat->Nat:=fun b=>if Θ b=0\/ms.any (fun m=>Θ b==m+2)then 0 else 1
  have GP:∀b,Seen Θ ms b->Θc b=0:=by
   intro b h;simp only[Θc];rw[bE];rcases h with h|⟨m,h1,h2⟩
   ·exact .inl h
   ·exact .inr (cT.2 ⟨m,h1,by simp[h2]⟩)
  have hc:=kq.2 w Θc _ bs hs.Zd hargs (fun b hb=>GP b (hz b hb)) (fun b hb=>hs.own b (fun e=>hb (GP b (.inl e)))) (fun b=>by simp only[Θc];split<;>omega);unfold Oper.wp;rw[tg hop kq.1,Oper.upon_enter];have e:xs.map a.eval=(xs.toList.map a.eval).toArray:=by rw[<-fy,j8]
  rw[e];refine hc.mono ?_;rintro e w' ⟨v,bs',tb,ub,rfl,hb,hr',Ii,htb,hnd,hfr,hsub⟩;show K (a.put o.dst v) w';rw[hd];rcases hi with hi|⟨hown,NN,LJ⟩
  rotate_left
  ·cases hr' with
   |iQ=>cases hown
   |v hv=>
    have Br:bs'=[]:=hv.own (by
     unfold D.Yf at hown;split at hown
     ·cases hown
     ·exact hown)
    obtain⟨b,q,s⟩:=hv.A7;have hp:place H' p.r p.obs=H':=by rw[LJ];simp[place]
    refine hK κ Θ _ w' ?_ (fun _ _=>rfl);rw[hp,NN];refine(hs.grow hb).set ht (.v (.cell (.pure q))) fun x hx'=>?_
    rcases s x hx' with h|h
    ·rw[Br]at h;cases h
    ·by_cases h0:Θ x=0
     ·exact h0
     ·have:=hs.own x h0;have:=(hfr x h).1;omega
  obtain⟨L,q1,q2,q3,q4,q5⟩:=hr'.inst p.r;rw[hi]at q1 q5;simp only at q1 q5;have hLl:L.length=p.obs.length:=by have:=congrArg List.length q1;simpa using this
  obtain⟨κ',Θ',hs',hnm,_,hno,hsame⟩:=hs.JO hb L q2 (q3▸hnd) (fun b hb'=>hfr b (q3▸hb')) p.r (place H' p.r p.obs) (fun i hi'=>hfree i (by omega)) (by rw[rR hr];exact bJ _) (by rw[rR hr];omega) (by
   intro j y hj;rw[rQ hr]at hj;split at hj
   ·rename_i h1;exact .inr ⟨.inl h1,.inr hj⟩
   ·rename_i h1;split at hj
    ·rename_i h2;rw[<-q1,bU]at hj;cases hx':L[j-p.r]? with
     |none=>simp[hx']at hj
     |some x=>simp[hx']at hj;exact .inl ⟨j-p.r,x,by omega,hx',hj.symm⟩
    ·exact .inr ⟨.inr (by omega),.inr hj⟩)
  refine hK κ' Θ' _ w' (hs'.set (t:=t) ht (q5 κ' hnm) fun b hb'=>?_) (fun j hj=>hsame j (by omega));rw[hno b (q4▸htb b hb')];rcases hsh with Iu|hown
  ·by_cases hlt:b<w.heap.size
   ·have h0:=Ii b hb' hlt;simp only[Θc,Iu,EF]at h0;by_cases h1:Θ b=0
    ·exact h1
    ·simp[h1]at h0
   ·by_cases h0:Θ b=0
    ·exact h0
    ·exact absurd (hs.own b h0) hlt
  ·rw[hr'.own hown]at hb';cases hb'
theorem dM.MK{σ:List (Nat×D)}{H':bL}(hs:dM Γ ⟨σ,H'⟩ κ Θ a w){r:Nat}(hr:r+1<=H'.length)(hfree:κ r=none){cs:Array Value}{ds:aK}{bs:aP}(T:TypeId)(hrd:eZ w κ cs.toList ds bs)(hz:∀b∈bs,Θ b=0):
 dM Γ ⟨σ,place H' r [.box ds]⟩ (vL κ r (some (.pointer (some ⟨w.heap.size,0,none⟩)))) (fun b=>if b=w.heap.size then r+2 else Θ b) a (w.alloc (.cells cs T)):=by
 have k:=gi.alloc hs (.cells cs T) (tag:=r+2) (by omega);have hn:=ug hfree (some (Value.pointer (some ⟨w.heap.size,0,none⟩)));obtain⟨h1,h2⟩:=eZ.stay k hn hrd hz;obtain⟨ρ,hu⟩:=hs.qf;refine hs.put (id:=r) (o:=.box ds) [] ?_ hn ?_ ?_ k (hs.wQ (fun b hb=>by by_cases e:b=w.heap.size<;>simp_all)) ?_ hu (by simp) (by intro e sz rows h;cases h)
 ·intro j y hj;rw[rQ (by simpa using hr)]at hj;split at hj
  ·exact .inr ⟨by omega,hj⟩
  ·split at hj
   ·rename_i h2;simp only[aQ,bS]at h2;have e:j=r:=by omega
    subst e;simp at hj;exact .inl ⟨rfl,hj.symm⟩
   ·rename_i h2;simp only[aQ,bS]at h2;exact .inr ⟨by omega,hj⟩
 ·intro i hi;rw[rR (by simpa using hr)]at hi;unfold vL;rw[av (by omega)];exact hs.nB i hi
 ·intro i x hx;unfold vL at hx;split at hx
  ·cases hx;rfl
  ·exact hs.mY i x hx
 ·exact⟨w.heap.size,cs,T,by simp[vL],heap_alloc_new w _,by simp,bs,h1,h2⟩
theorem Jr.wp{Q':Exit->Act->World->Prop}{σ:List (Nat×D)}{H H':bL}{o:Oper}{p:Cp}{K:Act->World->Prop}(hs:dM Γ ⟨σ,H'⟩ κ Θ a w){t:Nat}(hd:o.dst=some t)(ht:t<Γ.nt)(h:Jr P H σ o p)
 (hr:p.r+p.obs.length<=H'.length) (hfree:∀i,i<p.obs.length->κ (p.r+i)=none)
 (hK:∀κ' Θ' a' w',dM Γ ⟨(t,p.d)::σ,place H' p.r p.obs⟩ κ' Θ' a' w'->(∀j,(j<p.r\/p.r+p.obs.length<=j)->κ' j=κ j)->K a' w'):o.wp P a w K Q':=by
 rcases h with⟨T,zs,hop,hz,NN,LJ⟩|⟨T,x,ds,hop,hc,NN,LJ⟩
 ·rw[LJ]at hr hfree hK;rw[NN]at hK;obtain⟨i,z,hi,vK,hsz,hlen,hone,rfl⟩:=uY hz;have hs':=hs.MK (r:=p.r) hr (by simpa using hfree 0 (by simp)) T (cs:=z.cells) (zC z.cells.toList hone) (by simp);unfold Oper.wp;have hrun:(execOp a.eval o).run P w=.ok (.value (.pointer (some ⟨w.heap.size,0,none⟩))) (w.alloc (.cells z.cells T)):=by
   simp[execOp,hop,Instr.alloc,zeroValue,typeInfo,hi,vK,newVar,newRow]
  rw[hrun,Oper.upon_value,hd];refine hK _ _ _ _ (hs'.set (t:=t) (d:=.ptr p.r 0) (bs:=[]) ht ?_ (by simp)) (fun j hj=>?_)
  ·exact(wO.ptr p.r 0 w.heap.size (by simp[vL])).LA
  ·unfold vL;simp only[aQ,bS]at hj;rw[av (by omega)]
 ·rw[LJ]at hr hfree hK;rw[NN]at hK;obtain⟨bs,rr,hz⟩:=hs.ev x;rw[Ln σ H' H x]at rr;have hcs:=yj hs.mY rr hc;have hs':=hs.MK (r:=p.r) hr (by simpa using hfree 0 (by simp)) T hcs hz;unfold Oper.wp;have hrun:(execOp a.eval o).run P w=.ok (.value (.pointer (some ⟨w.heap.size,0,none⟩))) (w.alloc (.cells (a.eval x).cells T)):=by
   simp[execOp,hop,Instr.box,newVar,newRow]
  rw[hrun,Oper.upon_value,hd];refine hK _ _ _ _ (hs'.set (t:=t) (d:=.ptr p.r 0) (bs:=[]) ht ?_ (by simp)) (fun j hj=>?_)
  ·exact(wO.ptr p.r 0 w.heap.size (by simp[vL])).LA
  ·unfold vL;simp only[aQ,bS]at hj;rw[av (by omega)]
theorem dM.Su{σ:List (Nat×D)}{H':bL}(hs:dM Γ ⟨σ,H'⟩ κ Θ a w){r:Nat}(hr:r+1<=H'.length)(hfree:κ r=none){u:Bool}{e sz cap:Nat}{rows:List aK}{bs:aP}(cur:Array Value)(hsz:0<sz)(hrl:∀x∈rows,x.length=sz)
 (Hw:cur.size=cap*sz) (hn:rows.length<=cap) (hcap:cap<=maxLen) (hrd:jx w (cur.toList.take (rows.length*sz)) rows.flatten bs) (hz:∀b∈bs,Θ b=0) (hq:u=true->bs=[]):
 dM Γ ⟨σ,place H' r [.row (wK u) e sz rows]⟩ (vL κ r (some (.slice (some ⟨w.heap.size,0,none⟩) rows.length cap))) (fun b=>if b=w.heap.size then r+2 else Θ b) a (w.alloc (.cells cur e)):=by
 have k:=gi.alloc hs (.cells cur e) (tag:=r+2) (by omega);have hkn:=ug hfree (some (Value.slice (some ⟨w.heap.size,0,none⟩) rows.length cap));obtain⟨h1,h2⟩:=jx.over k hrd hz;have hlen:(cur.toList.take (rows.length*sz)).length=rows.length*sz:=by
  have:rows.length*sz<=cap*sz:=dD _ hn;have h3:cur.toList.length=cap*sz:=by rw[<-Hw];simp
  rw[cD,h3,eS this]
 have hown:(w.alloc (.cells cur e)).ownsRow 0 e sz (.slice (some ⟨w.heap.size,0,none⟩) rows.length cap) rows.length (cur.toList.take (rows.length*sz)):=
  ⟨hlen,.inr ⟨w.heap.size,cap,cur,rfl,by omega,heap_alloc_new w _,hn,hcap,Hw,rfl⟩⟩
 obtain⟨ρ,hu⟩:=hs.qf;refine hs.put (id:=r) (o:=.row (wK u) e sz rows) [] ?_ hkn ?_ ?_ k (hs.wQ (fun b hb=>by by_cases e:b=w.heap.size<;>simp_all)) ?_ hu (by simp) ?_
 ·intro j y hj;rw[rQ (by simpa using hr)]at hj;split at hj
  ·exact .inr ⟨by omega,hj⟩
  ·split at hj
   ·rename_i h2;simp only[aQ,bS]at h2;have e:j=r:=by omega
    subst e;simp at hj;exact .inl ⟨rfl,hj.symm⟩
   ·rename_i h2;simp only[aQ,bS]at h2;exact .inr ⟨by omega,hj⟩
 ·intro i hi;rw[rR (by simpa using hr)]at hi;unfold vL;rw[av (by omega)];exact hs.nB i hi
 ·intro i x hx;unfold vL at hx;split at hx
  ·cases hx;rfl
  ·exact hs.mY i x hx
 ·refine⟨hsz,hrl,_,_,bs,by simp[vL],hown,h1,?_,?_⟩
  ·intro g hg;simp only[Value.ownBlock,af]at hg;subst hg;simp
  ·cases u<;>exact h2
 ·intro e' sz' dh he;cases u with
  |false=>simp[wK]at he
  |true=>
   simp only[wK,Ob.row.injEq,pN]at he;obtain⟨rfl,rfl,rfl⟩:=he;have:=hq rfl;subst this;exact⟨_,_,[],by simp[vL],hown,h1,by simp,by simp⟩
theorem Jt.wp{Q':Exit->Act->World->Prop}{σ:List (Nat×D)}{H H':bL}{o:Oper}{p:Cp}{K:Act->World->Prop}(hs:dM Γ ⟨σ,H'⟩ κ Θ a w)(hx:Ext H H'){t:Nat}(hd:o.dst=some t)(ht:t<Γ.nt)(h:Jt P H σ o p)
 (hr:p.r+p.obs.length<=H'.length) (hfree:∀i,i<p.obs.length->κ (p.r+i)=none)
 (hK:∀κ' Θ' a' w',dM Γ ⟨(t,p.d)::σ,place H' p.r p.obs⟩ κ' Θ' a' w'->(∀j,(j<p.r\/p.r+p.obs.length<=j)->κ' j=κ j)->K a' w'):o.wp P a w K Q':=by
 obtain⟨T,e,sz,len,parts,zs,ds,es,hop,hT,hz,hsz,hsmall,hf,habs,NN,LJ⟩:=h;rw[LJ]at hr hfree hK;rw[NN]at hK;have hf':vD (qC len sz) (List.replicate len zs).flatten (parts.toList.map fun q=>(q.1,St.ev ⟨σ,H'⟩ q.2))=some ds:=by
  rw[<-hf];congr 1
 obtain⟨arr,b0,hrun,Ir,hb0,hal,hdl⟩:=wk (st:=⟨σ,H'⟩) hop hT hz hsz hsmall hf' hs;obtain⟨ρ,hu⟩:=hs.qf;obtain⟨bs,q1,q2,q3⟩:=Mu (H:=H) (ρ:=ρ) habs (by simp) Ir hb0 (by simp);have hel:es.length=len*sz:=by rw[<-q1.length,Ir.length,hdl]
 obtain⟨c1,c2,c3⟩:=BC sz len es hel;have hs':=hs.Su (r:=p.r) hr (by simpa using hfree 0 (by simp)) (u:=ds.all (PM H)) (e:=e) (sz:=sz) (cap:=len) (rows:=chunk sz len es) (bs:=bs) arr hsz c3 hal (by rw[c1];exact bJ _)
  (by unfold maxLen;have:len*1<=len*sz:=dR _ hsz;omega) (by rw[c1,c2,om (by simp[hal])];exact q1) q2
  (fun hq=>by
   obtain⟨_,h2⟩:=q3 hq;cases bs with
   |nil=>rfl
   |cons b bs=>obtain⟨m,hm,_⟩:=h2 b (by simp);cases hm)
 unfold Oper.wp;rw[hrun,Oper.upon_value,hd];rw[c1]at hs';refine hK _ _ _ _ (hs'.set (t:=t) (d:=.acc p.r) (bs:=[]) ht ?_ (by simp)) (fun j hj=>?_)
 ·exact(wO.acc p.r _ (by simp[vL])).LA
 ·unfold vL;simp only[aQ,bS]at hj;rw[av (by omega)]
theorem Js.wp{Q':Exit->Act->World->Prop}{σ:List (Nat×D)}{H H':bL}{o:Oper}{p:Cp}{K:Act->World->Prop}(hs:dM Γ ⟨σ,H'⟩ κ Θ a w){t:Nat}(hd:o.dst=some t)(ht:t<Γ.nt)(h:Js P H σ o p)
 (hK:∀κ' Θ' a' w',dM Γ ⟨(t,p.d)::σ,place H' p.r p.obs⟩ κ' Θ' a' w'->(∀j,(j<p.r\/p.r+p.obs.length<=j)->κ' j=κ j)->K a' w'):o.wp P a w K Q':=by
 obtain⟨T,e,sz,len,parts,zs,ds,hop,hT,hz,hsz,hsmall,hf,a3D,a08,NN,LJ⟩:=h;rw[LJ]at hK;rw[NN]at hK;have hf':vD (qC len sz) (List.replicate len zs).flatten (parts.toList.map fun q=>(q.1,St.ev ⟨σ,H'⟩ q.2))=some ds:=by
  rw[<-hf];congr 1
 obtain⟨arr,b0,hrun,Ir,hb0,hal,hdl⟩:=wk (st:=⟨σ,H'⟩) hop hT hz hsz hsmall hf' hs;have hrd:=Ir.pure a3D;have a2p:b0=[]:=hrd.flat a08;subst a2p;obtain⟨c1,c2,c3⟩:=BC sz len ds hdl;have Ht:Below w.heap.size w (w.alloc (.cells arr e)):=by
  have k:=gi.alloc hs (.cells arr e) (tag:=2) (by omega);refine⟨k.os,k.tape,k.output,k.size,fun b hlt=>?_⟩;simp only[World.alloc];rw[Array.getElem?_push,av (by omega)]
 have hs':=hs.grow Ht;unfold Oper.wp;rw[hrun,Oper.upon_value,hd];have hpl:place H' p.r ([]:bL)=H':=by simp[place]
 rw[hpl]at hK;refine hK _ _ _ _ (hs'.set (t:=t) (d:=.sl (chunk sz len ds)) (bs:=[w.heap.size]) ht ?_ ?_) (fun j hj=>rfl)
 ·have hcell:∀j c,arr.toList[j]?=some c->(w.alloc (.cells arr e)).cell? ⟨w.heap.size,0+j,none⟩=some c:=by
   intro j c hj;simp only[cV,World.cell?,heap_alloc_new w _];simpa using hj
  have hlt:w.heap.size<(w.alloc (.cells arr e)).heap.size:=(az.1 (heap_alloc_new w _)).1;have:=Rd.sl (w:=w.alloc (.cells arr e)) w.heap.size 0 len sz (chunk sz len ds) arr.toList [] hlt (by rw[c1];exact bJ _) (by unfold maxLen;have:len*1<=len*sz:=dR _ hsz;omega) c3 hcell (by rw[c2];exact hrd.keep (by simp));rw[c1]at this;exact .of this
 ·intro b hb;simp only[cZ]at hb;subst hb;cases h:Θ w.heap.size with
  |zero=>rfl
  |succ m=>exact absurd (hs.own w.heap.size (by omega)) (by omega)
theorem EH.wp{Q':Exit->Act->World->Prop}{σ:List (Nat×D)}{H H':bL}{o:Oper}{p:Cp}{K:Act->World->Prop}(hs:dM Γ ⟨σ,H'⟩ κ Θ a w)(hx:Ext H H'){t:Nat}(hd:o.dst=some t)(ht:t<Γ.nt)(h:EH P H σ o p)
 (hr:p.r+p.obs.length<=H'.length) (hfree:∀i,i<p.obs.length->κ (p.r+i)=none)
 (hK:∀κ' Θ' a' w',dM Γ ⟨(t,p.d)::σ,place H' p.r p.obs⟩ κ' Θ' a' w'->(∀j,(j<p.r\/p.r+p.obs.length<=j)->κ' j=κ j)->K a' w'):o.wp P a w K Q':=by
 rcases h with h|h|h|h
 ·exact h.wp hs hx hd ht hr hfree hK
 ·exact h.wp hs hd ht hr hfree hK
 ·exact h.wp hs hx hd ht hr hfree hK
 ·exact h.wp hs hd ht hK
theorem dM.Tw(hs:dM Γ st κ Θ a w){ops:Array Oper}{j s:Nat}(hj:(ops[j]?).bind (·.dst)=some s)(hb:lk st.σ s=.iQ []):yielded ops a.tmps j=none:=by
 obtain⟨bs,r,_⟩:=hs.slot s;rw[hb]at r;have hv:=r.Jd;rcases dU s a.tmps.size with hlt|hlt
 ·have h1:a.tmps[s]?=some (.tuple #[]):=by
   rw[bu,cC hlt]at hv;rw[cC hlt];simpa using hv
  simp[yielded,hj,h1]
 ·simp[yielded,hj,ol hlt]
def Cp.yU(p:Cp)(H':bL):bL:=match p.up with|some (id,ob)=>H'.set id ob|none=>place H' p.r p.obs
theorem qj.wp{Q':Exit->Act->World->Prop}{σ:List (Nat×D)}{H H':bL}{ops:Array Oper}{i:Nat}{o:Oper}{p:Cp}{K:Act->World->Prop}(hs:dM Γ ⟨σ,H'⟩ κ Θ a w)(hx:Ext H H')(hi:ops[i]?=some o)(h:qj P Γ ops H σ o p)
 (hr:p.r+p.obs.length<=H'.length) (hfree:∀i,i<p.obs.length->κ (p.r+i)=none) (Mo:∀id ob,p.up=some (id,ob)->∃zs ds,H'[id]?=some (.box zs)/\ob=.box ds/\zs.length=ds.length)
 (hK:∀κ' Θ' a' w',dM Γ ⟨p.slot σ,p.yU H'⟩ κ' Θ' a' w'->(∀j,(j<p.r\/p.r+p.obs.length<=j)->κ' j=κ j)->K a' w'):wpOp P ops Q' i K a w:=by
 rcases h with⟨t,hpt,Oq,hd,ht,h⟩|⟨hpt,LJ,hd,hg,T,x,y,id,ds,hop,hev,hlen,hc,hT,hl,Oq⟩
 ·have e1:p.slot σ=(t,p.d)::σ:=by simp[Cp.slot,hpt]
  have e2:p.yU H'=place H' p.r p.obs:=by simp[Cp.yU,Oq]
  rw[e1,e2]at hK;rcases h with⟨hg,hc⟩|⟨j,s,want,b,hg,hj,hb,hc⟩|⟨j,s,want,hg,hj,hb,Xh,hno⟩
  ·exact xW hi (by simp[Region.wanted,hg]) (hc.wp hs hx hd ht hr hfree hK)
  ·have hy:=hs.ZR hj hb;rcases hc with⟨rfl,hc⟩|⟨hne,Xh,hno⟩
   ·exact xW hi (by simp[Region.wanted,hg,hy]) (hc.wp hs hx hd ht hr hfree hK)
   ·unfold wpOp;have hw:Region.wanted o (yielded ops a.tmps)=false:=by simp[Region.wanted,hg,hy,hne]
    simp only[hi,hw,wV,yf,hd];have hp:place H' p.r p.obs=H':=by rw[hno];simp[place]
    exact hK κ Θ _ _ (by rw[hp,Xh];exact hs.set ht (.iQ [] [] [] .nil) (by simp)) (fun _ _=>rfl)
  ·have hy:=hs.Tw hj hb;unfold wpOp;have hw:Region.wanted o (yielded ops a.tmps)=false:=by simp[Region.wanted,hg,hy]
   simp only[hi,hw,wV,yf,hd];have hp:place H' p.r p.obs=H':=by rw[hno];simp[place]
   exact hK κ Θ _ _ (by rw[hp,Xh];exact hs.set ht (.iQ [] [] [] .nil) (by simp)) (fun _ _=>rfl)
 ·have e1:p.slot σ=σ:=by simp[Cp.slot,hpt]
  have e2:p.yU H'=H'.set id (.box ds):=by simp[Cp.yU,Oq]
  rw[e1,e2]at hK;obtain⟨zs,ds',hz,he,hzl⟩:=Mo id _ Oq;cases he;obtain⟨w',hrun,hs'⟩:=Jb (st:=⟨σ,H'⟩) hop (by rw[Ln σ H' H x];exact hev) hz rfl (by rw[Ln σ H' H y];exact hc) hT hl (by omega) hs;refine xW hi (by simp[Region.wanted,hg]) ?_;unfold Oper.wp;rw[hrun,Oper.upon_skip,hd];have e3:zs.take 0++ds++zs.drop (0+ds.length)=ds:=by
   rw[zK (by omega)];simp
  rw[e3]at hs';exact hK κ Θ _ _ hs' (fun _ _=>rfl)
theorem FY.congr{H:bL}{σ σ':List (Nat×D)}{o:Oper}{p:Cp}(he:∀x∈o.op.operands.toList,St.ev ⟨σ,H⟩ x=St.ev ⟨σ',H⟩ x)(h:FY P H σ o p):FY P H σ' o p:=by
 rcases h with⟨h,hno⟩|⟨f,xs,ts,ds,ms,d,hop,hds,hsh,kq,hi⟩
 ·exact .inl ⟨Kn (fun _ _ h=>h) he h,hno⟩
 ·have hm:xs.toList.map (St.ev ⟨σ,H⟩)=xs.toList.map (St.ev ⟨σ',H⟩):=by
   apply lT;intro x hx;refine he x ?_;rw[hop];simp only[Op.operands,Call.operands,jj,aV];exact .inr hx
  rw[hm]at hds;exact .inr ⟨f,xs,ts,ds,ms,d,hop,hds,hsh,kq,hi⟩
theorem EH.congr{H:bL}{σ σ':List (Nat×D)}{o:Oper}{p:Cp}(he:∀x∈o.op.operands.toList,St.ev ⟨σ,H⟩ x=St.ev ⟨σ',H⟩ x)(h:EH P H σ o p):EH P H σ' o p:=by
 rcases h with h| (h|⟨T,x,ds,hop,hc,NN,LJ⟩)|⟨T,e,sz,len,parts,zs,ds,es,hop,hT,hz,hsz,hsmall,hf,habs,NN,LJ⟩|⟨T,e,sz,len,parts,zs,ds,hop,hT,hz,hsz,hsmall,hf,habs,hfl,NN,LJ⟩
 ·exact .inl (h.congr he)
 ·exact .inr (.inl (.inl h))
 ·exact .inr (.inl (.inr ⟨T,x,ds,hop,by rw[<-he x (by rw[hop];simp[Op.operands])];exact hc,NN,LJ⟩))
 ·refine .inr (.inr (.inl ⟨T,e,sz,len,parts,zs,ds,es,hop,hT,hz,hsz,hsmall,?_,habs,NN,LJ⟩));rw[<-hf]
  congr 1
  apply lT;intro q hq;rw[he q.2 ?_];rw[hop];simp only[Op.operands,fy];exact cH.2 ⟨q,hq,rfl⟩
 ·refine .inr (.inr (.inr ⟨T,e,sz,len,parts,zs,ds,hop,hT,hz,hsz,hsmall,?_,habs,hfl,NN,LJ⟩));rw[<-hf]
  congr 1
  apply lT;intro q hq;rw[he q.2 ?_];rw[hop];simp only[Op.operands,fy];exact cH.2 ⟨q,hq,rfl⟩
theorem qj.congr{H:bL}{σ σ':List (Nat×D)}{ops:Array Oper}{o:Oper}{p:Cp}(he:∀t∈o.looksAt ops,lk σ t=lk σ' t)(h:qj P Γ ops H σ o p):qj P Γ ops H σ' o p:=by
 have hev:=Hp (st:=⟨σ,H⟩) (sK:=⟨σ',H⟩) he;have hgu:∀ {j s:Nat} {want:Bool},o.guard=some (j,want)->(ops[j]?).bind (·.dst)=some s->lk σ s=lk σ' s:=by
  intro j s want hg hj;refine he s ?_;unfold Oper.looksAt;refine aV.2 (.inr ?_);simp[hg,hj]
 rcases h with⟨t,hpt,Oq,hd,ht,h⟩|⟨hpt,LJ,hd,hg,T,x,y,id,ds,hop,hx,hlen,hc,hT,hl,Oq⟩
 ·refine .inl ⟨t,hpt,Oq,hd,ht,?_⟩;rcases h with⟨hg,hc⟩|⟨j,s,want,b,hg,hj,hb,hc⟩|⟨j,s,want,hg,hj,hb,hc⟩
  ·exact .inl ⟨hg,hc.congr hev⟩
  ·refine .inr (.inl ⟨j,s,want,b,hg,hj,by rw[<-hgu hg hj];exact hb,?_⟩);rcases hc with⟨h1,hc⟩|hc
   ·exact .inl ⟨h1,hc.congr hev⟩
   ·exact .inr hc
  ·exact .inr (.inr ⟨j,s,want,hg,hj,by rw[<-hgu hg hj];exact hb,hc⟩)
 ·refine .inr ⟨hpt,LJ,hd,hg,T,x,y,id,ds,hop,?_,hlen,?_,hT,hl,Oq⟩
  ·rw[<-hev x (by rw[hop];simp[Op.operands])];exact hx
  ·rw[<-hev y (by rw[hop];simp[Op.operands])];exact hc
def Cp.sl(p:Cp):Option (Nat×D):=p.t.map fun t=>(t,p.d)
theorem Cp.Vq(p:Cp)(σ:List (Nat×D)):p.slot σ=p.sl.toList++σ:=by
 unfold Cp.slot Cp.sl;cases p.t<;>rfl
theorem HI(p:Cp)(ps:List Cp)(σ:List (Nat×D)):((p::ps).filterMap Cp.sl).reverse++σ=(ps.filterMap Cp.sl).reverse++p.slot σ:=by
 rw[Cp.Vq,vi];cases p.sl<;>simp
theorem qj.Ty{H:bL}{σ:List (Nat×D)}{o:Oper}{p:Cp}(h:qj P Γ all H σ o p):p.up=none\/p.obs=[]:=by
 rcases h with⟨_,_,h,_⟩|⟨_,h,_⟩
 ·exact .inl h
 ·exact .inr h
theorem qj.slots{H:bL}{σ:List (Nat×D)}{o:Oper}{p:Cp}(h:qj P Γ all H σ o p):o.dst=p.t:=by
 rcases h with⟨t,h1,_,h2,_⟩|⟨h1,_,h2,_⟩
 ·rw[h1,h2]
 ·rw[h1,h2]
theorem GJ.unfold{H:bL}{K:List (Nat×D)->bL->Prop}:∀(l:List Oper) (σ:List (Nat×D)) (acc:bL) (U:aP),GJ P Γ all H K l σ acc U->
 ∃(ps:List Cp) (Gm:bL),ps.length=l.length/\(∀(i:Nat) o p,l[i]?=some o->ps[i]?=some p->qj P Γ all H (((ps.take i).filterMap Cp.sl).reverse++σ) o p/\p.r=H.length+acc.length+((ps.take i).flatMap Cp.obs).length/\
  ∀id ob,p.up=some (id,ob)->id∉U/\H.length<=id/\(∃zs ds,ob=.box ds/\zs.length=ds.length/\(acc++(ps.take i).flatMap Cp.obs)[id-H.length]?=some (.box zs))/\∀(i2:Nat) q yb,i2<i->ps[i2]?=some q->q.up≠some (id,yb))/\
  K ((ps.filterMap Cp.sl).reverse++σ) Gm/\Gm.length=acc.length+(ps.flatMap Cp.obs).length/\
  (∀k,(∀(i:Nat) q ob,ps[i]?=some q->q.up≠some (H.length+k,ob))->Gm[k]?=(acc++ps.flatMap Cp.obs)[k]?)/\
  ∀(i:Nat) q id ob,ps[i]?=some q->q.up=some (id,ob)->Gm[id-H.length]?=some ob:=by
 intro l
 induction l with
 |nil=>
  intro σ acc U h;have h:K σ acc:=h;exact⟨[],acc,rfl,by simp,by simpa using h,by simp,by simp,by simp⟩
 |cons o l ih=>
  intro σ acc U h;obtain⟨p,hr,hc,hok,sH⟩:=h;obtain⟨ps,Gm,h1,h2,h3,h4,h5,h6⟩:=ih _ _ _ sH;cases Mo:p.up with
  |none=>
   have ef:p.fill H.length acc=acc++p.obs:=by simp[Cp.fill,Mo]
   have eu:p.ups U=U:=by simp[Cp.ups,Mo]
   rw[ef]at h2 h4 h5;rw[eu]at h2;refine⟨p::ps,Gm,by simp[h1],?_,by rw[HI];exact h3,by rw[h4];simp;omega,?_,?_⟩
   ·intro i o' p' ho hp;cases i with
    |zero=>
     simp at ho hp;subst ho;subst hp;refine⟨by simpa using hc,by simpa using hr,?_⟩;intro id ob he;rw[Mo]at he;cases he
    |succ i=>
     simp at ho hp;obtain⟨q1,q2,q3⟩:=h2 i o' p' ho hp;refine⟨by rw[ru,HI];exact q1,by rw[q2];simp;omega,?_⟩;intro id ob he;obtain⟨r1,r2,⟨zs,ds,r3,r4,r5⟩,r6⟩:=q3 id ob he;refine⟨r1,r2,⟨zs,ds,r3,r4,by rw[<-r5];simp⟩,?_⟩;intro i2 q yb hlt hq;cases i2 with
     |zero=>simp at hq;subst hq;rw[Mo];simp
     |succ i2=>exact r6 i2 q yb (by omega) (by simpa using hq)
   ·intro k hk;rw[h5 k (fun i q ob hq=>hk (i+1) q ob (by simpa using hq))];simp
   ·intro i q id ob hq he;cases i with
    |zero=>simp at hq;subst hq;rw[Mo]at he;cases he
    |succ i=>exact h6 i q id ob (by simpa using hq) he
  |some x=>
   obtain⟨Ox,ob0⟩:=x;have ef:p.fill H.length acc=acc.set (Ox-H.length) ob0:=by simp[Cp.fill,Mo]
   have eu:p.ups U=Ox::U:=by simp[Cp.ups,Mo]
   have UH:p.obs=[]:=by
    rcases hc.Ty with h|h
    ·rw[h]at Mo;cases Mo
    ·exact h
   rw[ef]at h2 h4 h5;rw[eu]at h2;simp only[Cp.a1f,Mo]at hok;obtain⟨u1,u2,zs0,WI,u3,u4,u5⟩:=hok;have oY:∀(X:bL) (k:Nat),k≠Ox-H.length->(acc.set (Ox-H.length) ob0++X)[k]?=(acc++X)[k]?:=by
    intro X k hk;by_cases hl:k<acc.length
    ·rw[ai (by simpa using hl),ai hl,bq (oo hk)]
    ·rw[au (by simpa using hl),au (by omega)];simp
   have hno:∀(i:Nat) q yb,ps[i]?=some q->q.up≠some (Ox,yb):=by
    intro i q yb hq he;have hlt:i<l.length:=by have:=(aC.1 hq).1;omega
    have:=(h2 i l[i] q (aT hlt) hq).2.2 Ox yb he;exact this.1 (by simp)
   refine⟨p::ps,Gm,by simp[h1],?_,by rw[HI];exact h3,by rw[h4];simp[UH],?_,?_⟩
   ·intro i o' p' ho hp;cases i with
    |zero=>
     simp at ho hp;subst ho;subst hp;refine⟨by simpa using hc,by simpa using hr,?_⟩;intro id ob he;rw[Mo]at he;cases he;exact⟨u1,u2,⟨zs0,WI,u4,u5,by simpa using u3⟩,by intro i2 q yb hlt;omega⟩
    |succ i=>
     simp at ho hp;obtain⟨q1,q2,q3⟩:=h2 i o' p' ho hp;refine⟨by rw[ru,HI];exact q1,by rw[q2];simp[UH],?_⟩;intro id ob he;obtain⟨r1,r2,⟨zs,ds,r3,r4,r5⟩,r6⟩:=q3 id ob he;have hne:id≠Ox:=fun e=>r1 (by simp[e])
     refine⟨fun h=>r1 (by simp[h]),r2,⟨zs,ds,r3,r4,?_⟩,?_⟩
     ·rw[<-r5,oY _ _ (by omega)];simp[UH]
     ·intro i2 q yb hlt hq;cases i2 with
      |zero=>simp at hq;subst hq;rw[Mo];intro e;cases e;exact hne rfl
      |succ i2=>exact r6 i2 q yb (by omega) (by simpa using hq)
   ·intro k hk;rw[h5 k (fun i q ob hq=>hk (i+1) q ob (by simpa using hq))];have hne:k≠Ox-H.length:=fun e=>hk 0 p ob0 rfl (by rw[Mo,e,show H.length+(Ox-H.length)=Ox from by omega])
    rw[oY _ _ hne];simp[UH]
   ·intro i q id ob hq he;cases i with
    |zero=>
     simp at hq;subst hq;rw[Mo]at he;cases he;rw[h5 (Ox-H.length) (fun i q yb hq=>by rw[show H.length+(Ox-H.length)=Ox from by omega];exact hno i q yb hq)];have hl:Ox-H.length<acc.length:=(aC.1 u3).1;rw[ai (by simpa using hl),cz hl]
    |succ i=>exact h6 i q id ob (by simpa using hq) he
theorem dM.same{σ':List (Nat×D)}(h:∀t,lk st.σ t=lk σ' t)(hs:dM Γ st κ Θ a w):dM Γ ⟨σ',st.H⟩ κ Θ a w:=
 ⟨hs.defers,hs.size,hs.nB,hs.mY,fun t=>by show∃bs,oq w κ _ (lk σ' t) bs/\_;rw[<-h t];exact hs.slot t,hs.ob,hs.own,hs.old,hs.mine,hs.stays,hs.qf⟩
theorem dM.room(hs:dM Γ st κ Θ a w)(m:Nat):dM Γ ⟨st.σ,st.H++List.replicate m .gone⟩ κ Θ a w:=by
 have key:∀(j:Nat) y,(st.H++List.replicate m .gone)[j]?=some y->y=.gone\/st.H[j]?=some y:=by
  intro j y hj;by_cases hlt:j<st.H.length
  ·rw[ai hlt]at hj;exact .inr hj
  ·rw[au (by omega)]at hj;rw[List.getElem?_replicate]at hj;split at hj
   ·cases hj;exact .inl rfl
   ·cases hj
 obtain⟨ρ,hu⟩:=hs.qf;refine⟨hs.defers,hs.size,fun i hi=>hs.nB i (by simp at hi;omega),hs.mY,hs.slot,?_,hs.own,hs.old,hs.mine,hs.stays,ρ,hu.free,?_,?_⟩
 ·intro j o hj;rcases key j o hj with rfl|h
  ·trivial
  ·exact hs.ob j o h
 ·intro id e sz rows hj;rcases key id _ hj with h|h
  ·cases h
  ·exact hu.rows id e sz rows h
 ·intro id o hj;rcases key id _ hj with h|h
  ·subst h;trivial
  ·exact hu.more id o h
theorem o4{ps:List Cp}{i:Nat}{p:Cp}(h:ps[i]?=some p):ps.flatMap Cp.obs=(ps.take i).flatMap Cp.obs++(p.obs++(ps.drop (i+1)).flatMap Cp.obs):=by
 have e:ps=ps.take i++(p::ps.drop (i+1)):=by
  obtain⟨hlt,rfl⟩:=aC.1 h;rw[zL,bp]
 conv=>lhs;rw[e]
 simp
theorem wH{ps:List Cp}:∀ {k:Nat},k<(ps.flatMap Cp.obs).length->∃(i:Nat) (p:Cp) (j:Nat),ps[i]?=some p/\j<p.obs.length/\k=((ps.take i).flatMap Cp.obs).length+j:=by
 induction ps with
 |nil=>intro k h;simp at h
 |cons p ps ih=>
  intro k h;by_cases hk:k<p.obs.length
  ·exact⟨0,p,k,rfl,hk,by simp⟩
  ·simp only[eV,b8]at h;obtain⟨i,q,j,h1,h2,h3⟩:=ih (k:=k-p.obs.length) (by omega);refine⟨i+1,q,j,by simpa using h1,h2,?_⟩;rw[ru,eV,b8];omega
theorem JZ{ps:List Cp}{i j:Nat}{p:Cp}(hp:ps[i]?=some p)(hij:i<j):((ps.take i).flatMap Cp.obs).length+p.obs.length<=((ps.take j).flatMap Cp.obs).length:=by
 have h:(ps.take j)[i]?=some p:=by rw[cE,bE hij];exact hp
 have:=o4 h;rw[this];have e:(ps.take j).take i=ps.take i:=by rw[qg,eS (by omega)]
 rw[e];simp only[b8];omega
theorem UY{id:Nat}{l:List Oper}(n:Nat)(hm:P.follows .mixedOrders=true)(hB:RX l.toArray n=true)
 (h:GJ P Γ l.toArray st.H (fun σ acc=>AO P Γ l.toArray (l.drop n) Q ⟨σ,st.H++acc⟩) (l.take n) st.σ [] []):AW P Γ (.region id l.toArray true) Q st:=by
 simp only[RX,aR,lM,bH]at hB;obtain⟨⟨⟨hn,hsc⟩,V1⟩,GO⟩:=hB;obtain⟨ps,Gm,hlen,Hv,hK,hFl,Zu,hFu⟩:=GJ.unfold _ _ _ _ h;simp only[cX,bS,w9,cV]at Hv hK hFl Zu;have hn':n<=l.length:=by simpa using hn
 have hpl:ps.length=n:=by rw[hlen];simp;omega
 have hop:∀(i:Nat),i<n->∃o p,l.toArray[i]?=some o/\ps[i]?=some p/\o.dst=p.t/\qj P Γ l.toArray st.H (((ps.take i).filterMap Cp.sl).reverse++st.σ) o p/\p.r=st.H.length+((ps.take i).flatMap Cp.obs).length:=by
  intro i hi;have h1:l[i]?=some l[i]:=aT (by omega);have h2:ps[i]?=some ps[i]:=aT (by omega);have h3:=Hv i l[i] ps[i] (by rw[cE,bE hi];exact h1) h2;exact⟨l[i],ps[i],by simp[iM,h1],h2,h3.1.slots,h3.1,h3.2.1⟩
 have NO:∀(i:Nat) p,ps[i]?=some p->p.r=st.H.length+((ps.take i).flatMap Cp.obs).length:=by
  intro i p hp;have hi:i<n:=by have:=(aC.1 hp).1;omega
  obtain⟨_,p',_,hp',_,_,hr⟩:=hop i hi;rw[hp]at hp';cases hp';exact hr
 have KF:∀(i:Nat) p id ob,ps[i]?=some p->p.up=some (id,ob)->st.H.length<=id/\(∃zs ds,ob=.box ds/\zs.length=ds.length/\((ps.take i).flatMap Cp.obs)[id-st.H.length]?=some (.box zs))/\∀(i2:Nat) q yb,i2<i->ps[i2]?=some q->q.up≠some (id,yb):=by
  intro i p id ob hp he;have hi:i<n:=by have:=(aC.1 hp).1;omega
  have h1:l[i]?=some l[i]:=aT (by omega);have h3:=(Hv i l[i] p (by rw[cE,bE hi];exact h1) hp).2.2 id ob he;exact⟨h3.2.1,h3.2.2.1,h3.2.2.2⟩
 have S5:∀(i j:Nat) p q id ob yb,ps[i]?=some p->ps[j]?=some q->p.up=some (id,ob)->q.up=some (id,yb)->i=j:=by
  intro i j p q id ob yb hp hq he E4;rcases tJ i j with h|h|h
  ·exact absurd he ((KF j q id yb hq E4).2.2 i p ob h hp)
  ·exact h
  ·exact absurd E4 ((KF i p id ob hp he).2.2 j q yb h hq)
 have S6:∀(i:Nat) p id ob,ps[i]?=some p->p.up=some (id,ob)->p.obs=[]:=by
  intro i p id ob hp he;have hi:i<n:=by have:=(aC.1 hp).1;omega
  obtain⟨_,p',_,hp',_,hc,_⟩:=hop i hi;rw[hp]at hp';cases hp';rcases hc.Ty with h|h
  ·rw[h]at he;cases he
  ·exact h
 have hfit:∀(i:Nat) p,ps[i]?=some p->p.r+p.obs.length<=st.H.length+(ps.flatMap Cp.obs).length:=by
  intro i p hp;rw[NO i p hp,o4 hp];simp only[b8];omega
 have K8:∀(i j:Nat) p q,ps[i]?=some p->ps[j]?=some q->i<j->p.r+p.obs.length<=q.r:=by
  intro i j p q hp hq hij;rw[NO i p hp,NO j q hq];have:=JZ hp hij;omega
 have hdist:∀(i j:Nat) p q t,ps[i]?=some p->ps[j]?=some q->p.t=some t->q.t=some t->i=j:=by
  intro i j p q t hp hq he1 E4;have hi:i<n:=by have:=(aC.1 hp).1;omega
  have hj:j<n:=by have:=(aC.1 hq).1;omega
  obtain⟨oi,p',ho,hp',hdi,_⟩:=hop i hi;obtain⟨oj,q',vA,Iv,hdj,_⟩:=hop j hj;rw[hp]at hp';cases hp';rw[hq]at Iv;cases Iv;have:=aj.1 GO i (bQ.2 hi);simp only[ho,aR]at this;have:=aj.1 this.2 j (bQ.2 hj);simp only[vA,hdi,hdj,he1,E4,oH,bV,s8,Option.isNone_some,s8,cO]at this;exact this.symm
 have Bs:∀(i:Nat) p t,ps[i]?=some p->p.t=some t->∀q∈ps.filterMap Cp.sl,q.1=t->q=(t,p.d):=by
  intro i p t hp hpt q hq he;obtain⟨q',Iv,Gx⟩:=bn.1 hq;obtain⟨j,hj,rfl⟩:=dY.1 Iv;have ED:ps[j]?=some ps[j]:=aT hj;unfold Cp.sl at Gx;cases Uz:ps[j].t with
  |none=>rw[Uz]at Gx;cases Gx
  |some u=>
   rw[Uz]at Gx;simp only[cF,af]at Gx;subst Gx;simp only at he;subst he;have:=hdist j i _ p u ED hp Uz hpt;subst this;rw[hp]at ED;cases ED;rfl
 intro κ Θ a w hs;have main:∀(f:Nat) (listed:Array Bool) (σ':List (Nat×D)) (H':bL) (κ:Nat->Option Value) (Θ:Nat->Nat) (a:Act) (w:World),HeadInv .any l.toArray n listed->
  ((List.range n).filter fun i=> !listed.getD i false).length=f->
  (∀(i:Nat) p t,ps[i]?=some p->p.t=some t->listed.getD i false=true->lk σ' t=p.d)->
  (∀t,(∀(i:Nat) p,ps[i]?=some p->listed.getD i false=true->p.t≠some t)->lk σ' t=lk st.σ t)->
  H'.length=st.H.length+(ps.flatMap Cp.obs).length->Ext st.H H'->
  (∀(i:Nat) p,ps[i]?=some p->listed.getD i false=true->∀(j:Nat) o,p.obs[j]?=some o->(∀(i2:Nat) q ob,ps[i2]?=some q->listed.getD i2 false=true->q.up≠some (p.r+j,ob))->H'[p.r+j]?=some o)->
  (∀(i:Nat) q id ob,ps[i]?=some q->listed.getD i false=true->q.up=some (id,ob)->H'[id]?=some ob/\∃v,κ id=some v)->
  (∀(i:Nat) p,ps[i]?=some p->listed.getD i false=false->∀j,j<p.obs.length->κ (p.r+j)=none)->
  dM Γ ⟨σ',H'⟩ κ Θ a w->
  wpAny P .any l.toArray (fun e a' w'=>∃sK κ' Θ',dM Γ sK κ' Θ' a' w'/\Q e sK) (f+(l.toArray.size-n)) listed a w:=by
  intro f
  induction f with
  |zero=>
   intro listed σ' H' κ Θ a w inv mB hA hB WK Qj Ol UF Oj hs;have hall:∀i,i<n->listed.getD i false=true:=by
    intro i hi;have h0:=cI mB;cases hl:listed.getD i false with
    |true=>rfl
    |false=>
     have:i∈(List.range n).filter fun i=> !listed.getD i false:=fq.2 ⟨bQ.2 hi,by simp[hl]⟩
     rw[h0]at this;cases this
   have Rr:listed=Array.replicate n true++Array.replicate (l.toArray.size-n) false:=by
    apply Array.ext
    ·rw[inv.size];simp;simp at hn;omega
    ·intro i h1 h2;by_cases hi:i<n
     ·have:=hall i hi;rw[xZ (by simpa using hi)];simp[h1]at this;simp[this]
     ·have hi':i<l.toArray.size:=by rw[<-inv.size];exact h1
      have:=inv.tail i (by omega) hi';rw[wT (by simpa using hi)];simp[h1]at this;simp[this]
   rw[cV];have KB:∀t,lk σ' t=lk ((ps.filterMap Cp.sl).reverse++st.σ) t:=by
    intro t;by_cases hex:∃(i:Nat) (p:Cp),ps[i]?=some p/\p.t=some t
    ·obtain⟨i,p,hp,hpt⟩:=hex;have hi:i<n:=by have:=(aC.1 hp).1;omega
     rw[hA i p t hp hpt (hall i hi)];have:=E7 (ps.filterMap Cp.sl).reverse st.σ (t,p.d) (by rw[cU];exact bn.2 ⟨p,aE hp,by simp[Cp.sl,hpt]⟩) (fun q hq he=>Bs i p t hp hpt q (by simpa using hq) he);exact this.symm
    ·rw[hB t (fun i p hp _ he=>hex ⟨i,p,hp,he⟩),C1];intro q hq he;obtain⟨p,hp,hps⟩:=bn.1 (cU.1 hq);obtain⟨i,hi,hpi⟩:=dY.1 hp;refine hex ⟨i,p,by rw[<-hpi];exact aT hi,?_⟩;unfold Cp.sl at hps;cases hpt:p.t with
     |none=>rw[hpt]at hps;cases hps
     |some u=>rw[hpt]at hps;simp only[cF,af]at hps;subst hps;simp only at he;rw[he]
   have Rf:H'=st.H++Gm:=by
    apply nM;intro k;by_cases h1:k<st.H.length
    ·rw[ai h1];exact Qj k _ (aT h1)|>.trans (aT h1).symm
    ·rw[au (by omega)];by_cases hex:∃(i:Nat) (q:Cp) (ob:Ob),ps[i]?=some q/\q.up=some (k,ob)
     ·obtain⟨i,q,ob,hq,he⟩:=hex;have hi:i<n:=by have:=(aC.1 hq).1;omega
      rw[(UF i q k ob hq (hall i hi) he).1,hFu i q k ob hq he]
     ·have hno:∀(i:Nat) q ob,ps[i]?=some q->q.up≠some (k,ob):=fun i q ob hq he=>hex ⟨i,q,ob,hq,he⟩
      rw[Zu (k-st.H.length) (fun i q ob hq=>by rw[show st.H.length+(k-st.H.length)=k from by omega];exact hno i q ob hq)];by_cases h2:k-st.H.length<(ps.flatMap Cp.obs).length
      ·obtain⟨i,p,j,hp,hj,hk⟩:=wH h2;have hi:i<n:=by have:=(aC.1 hp).1;omega
       have e3:p.r+j=k:=by rw[NO i p hp];omega
       have h3:=Ol i p hp (hall i hi) j _ (aT hj) (fun i2 q ob hq _=>by rw[e3];exact hno i2 q ob hq);rw[e3]at h3;rw[h3,o4 hp,hk,au (by omega),cq,ai hj,aT hj]
      ·rw[cB (by omega),cB (by omega)]
   have hs2:=dM.same (st:=⟨σ',H'⟩) (σ':=(ps.filterMap Cp.sl).reverse++st.σ) KB hs;simp only[Rf]at hs2;have hwp:=hK κ Θ a w hs2;have hdl:(l.drop n).length=l.toArray.size-n:=by simp
   have:=wpAny_of_seq (md:=.any) (l.drop n) n listed a w (fun j=>by simp[dw]) (by rw[hdl,Rr];exact V1) hwp
   rwa[hdl]at this
  |succ f ih=>
   intro listed σ' H' κ Θ a w inv mB hA hB WK Qj Ol UF Oj hs;have hun:∃i,i<n/\listed.getD i false=false:=by
    have hne:((List.range n).filter fun i=> !listed.getD i false)≠[]:=by
     intro h0;rw[h0]at mB;simp at mB
    obtain⟨i,hi⟩:=rU _ hne;obtain⟨h1,h2⟩:=fq.1 hi;exact⟨i,bQ.1 h1,by simpa using h2⟩
   have hsz:=inv.size;rw[show f+1+(l.toArray.size-n)=(f+(l.toArray.size-n))+1 from by omega];refine⟨fun h0=>?_,fun i hi=>?_⟩
   ·exfalso;obtain⟨i,⟨hin,Mn⟩,hmin⟩:=exists_least (p:=fun i=>i<n/\listed.getD i false=false) hun;obtain⟨o,p,ho,_,_,_⟩:=hop i hin;have:i∈Region.ready .any l.toArray listed:=by
     refine mem_ready.2 ⟨getD_in (by rw[hsz];omega) Mn,o,ho,fun e he hb=>?_⟩;have:=aj.1 GO i (bQ.2 hin);simp only[ho,aR]at this;have:=sO.1 this.1.1 e he;simp only[hb,bV,pz,bH]at this;cases hl:listed.getD e.on false with
     |true=>rfl
     |false=>
      have:=hmin e.on ⟨by omega,hl⟩;omega
    rw[h0]at this;cases this
   ·obtain⟨i0,hi0,hl0⟩:=hun;have hin:i<n:=by
     rcases dU i n with h|h
     ·exact h
     ·rcases hsc with he|⟨hn2,a0O,hchain⟩
      ·obtain⟨_,oi,hoi,_⟩:=mem_ready.1 hi;have:=(az.1 hoi).1;omega
      ·exact absurd hi (tail_waits a0O hchain hn2 inv _ i0 rfl hi0 (getD_in (by rw[hsz];omega) hl0) i h)
    obtain⟨o,p,ho,hp,hd,hc,_⟩:=hop i hin;obtain⟨Mn,o',ho',hall⟩:=mem_ready.1 hi;rw[ho]at ho';cases ho';have yR:=getD_both Mn;have Uw:qj P Γ l.toArray st.H σ' o p:=by
     refine qj.congr (σ:=((ps.take i).filterMap Cp.sl).reverse++st.σ) (σ':=σ') ?_ hc;intro t ht;have Es:=aj.1 GO i (bQ.2 hin);simp only[ho,aR]at Es;have Es:=aj.1 Es.1.2 t ht;by_cases hex:∃(j:Nat) (q:Cp),ps[j]?=some q/\q.t=some t
     ·obtain⟨j,q,hq,Gy⟩:=hex;have hj:j<n:=by have:=(aC.1 hq).1;omega
      obtain⟨oj,q',vA,Iv,hdj,_⟩:=hop j hj;rw[hq]at Iv;cases Iv;have:=aj.1 Es j (bQ.2 hj);simp only[vA,hdj,Gy,oH,bV,pz,aR,bH]at this;obtain⟨hji,S8⟩:=this;obtain⟨oi',Rz,e,he,hb,hon⟩:=Region.waitsFor_spec S8;rw[ho]at Rz;cases Rz;have hjl:=hall e he hb;rw[hon]at hjl;rw[hA j q t hq Gy hjl];refine E7 ((ps.take i).filterMap Cp.sl).reverse st.σ (t,q.d) ?_ (fun q2 ED E4=>Bs j q t hq Gy q2 ?_ E4)
      ·rw[cU];exact bn.2 ⟨q,aE (i:=j) (by rw[cE,bE hji];exact hq),by simp[Cp.sl,Gy]⟩
      ·obtain⟨q3,NP,vB⟩:=bn.1 (cU.1 ED);exact bn.2 ⟨q3,bw NP,vB⟩
     ·rw[hB t (fun j q hq _ he=>hex ⟨j,q,hq,he⟩),C1];intro q hq he;obtain⟨q3,NP,vB⟩:=bn.1 (cU.1 hq);obtain⟨j,hj,hqj⟩:=dY.1 (bw NP);refine hex ⟨j,q3,by rw[<-hqj];exact aT hj,?_⟩;unfold Cp.sl at vB;cases hpt:q3.t with
      |none=>rw[hpt]at vB;cases vB
      |some u=>rw[hpt]at vB;simp only[cF,af]at vB;subst vB;simp only at he;rw[he]
    have hfp:=hfit i p hp;have Rp:∀id ob,p.up=some (id,ob)->∃v,κ id=some v:=by
     intro id ob he;rcases Uw with⟨_,_,h,_⟩|⟨_,_,_,_,T,x,y,id',ds,NK,hx',_,_,_,_,Oq⟩
     ·rw[h]at he;cases he
     ·rw[Oq]at he;cases he;obtain⟨b1,r1,_⟩:=hs.ev x;rw[Ln σ' H' st.H x,hx']at r1;obtain⟨g,hk,_⟩:=r1.wJ;exact⟨_,hk⟩
    have S4:∀id ob,p.up=some (id,ob)->∃zs ds,H'[id]?=some (.box zs)/\ob=.box ds/\zs.length=ds.length:=by
     intro id ob he;obtain⟨u1,⟨zs,ds,u2,u3,u4⟩,_⟩:=KF i p id ob hp he;refine⟨zs,ds,?_,u2,u3⟩;obtain⟨i1,p1,j1,hp1,DM,hk1⟩:=wH (aC.1 u4).1;have NM:ps[i1]?=some p1:=by
      have:=(aC.1 hp1).1;rw[cE]at hp1;split at hp1
      ·exact hp1
      ·cases hp1
     have hi1:i1<i:=by have:=(aC.1 hp1).1;simp at this;omega
     have et:(ps.take i).take i1=ps.take i1:=by rw[qg,eS (by omega)]
     rw[et]at hk1;have e1:p1.r+j1=id:=by rw[NO i1 p1 NM];omega
     have yA:p1.obs[j1]?=some (.box zs):=by
      rw[o4 hp1,et,hk1,au (by omega),cq,ai DM]at u4;exact u4
     have hl1:listed.getD i1 false=true:=by
      cases hl:listed.getD i1 false with
      |true=>rfl
      |false=>
       have h0:=Oj i1 p1 NM hl j1 DM;rw[e1]at h0;obtain⟨v,hv⟩:=Rp id ob he;rw[h0]at hv;cases hv
     have:=Ol i1 p1 NM hl1 j1 _ yA (fun i2 q yb hq hl E4=>by
      rw[e1]at E4;have:=S5 i i2 p q id ob yb hp hq he E4;subst this;rw[yR]at hl;cases hl)
     rw[e1]at this;exact this
    refine Uw.wp hs Qj ho (by omega) (fun j hj=>Oj i p hp yR j hj) S4 fun κ' Θ' a' w' hs' hsame=>?_
    have oY:∀(j:Nat),(listed.setIfInBounds i true).getD j false=true↔(j=i\/listed.getD j false=true):=by
     intro j;by_cases e:i=j
     ·subst e;have:i<listed.size:=by rw[hsz];omega
      simp[this]
     ·rw[getD_set_ne false e];constructor
      ·exact .inr
      ·rintro(rfl|h)
       ·exact absurd rfl e
       ·exact h
    have hput:(p.yU H').length=H'.length:=by
     unfold Cp.yU;split
     ·simp
     ·exact rR (by omega)
    have Xt:∀(k:Nat),k<st.H.length->(p.yU H')[k]?=H'[k]?:=by
     intro k hk;unfold Cp.yU;split
     ·rename_i id ob he;have:=(KF i p id ob hp he).1;rw[bq (by omega)]
     ·rw[rQ (by omega),bE (by rw[NO i p hp];omega)]
    refine ih (listed.setIfInBounds i true) (p.slot σ') (p.yU H') κ' Θ' a' w' (inv.set hi hin) ?_ ?_ ?_ (by rw[hput];exact WK) ?_ ?_ ?_ ?_ hs'
    ·have Po:((List.range n).filter fun j=> !(listed.setIfInBounds i true).getD j false)=((List.range n).filter fun j=> !listed.getD j false).erase i:=by
      have hnd:((List.range n).filter fun j=> !listed.getD j false).Nodup:=uh _ yd;rw[hnd.erase_eq_filter,wX];apply xh;intro j _;by_cases e:j=i
      ·subst e;have:=(oY j).2 (.inl rfl);rw[this];simp
      ·rw[getD_set_ne false (oo e)];simp[e]
     rw[Po,nh (fq.2 ⟨bQ.2 hin,by simp[yR]⟩),mB];rfl
    ·intro j q t hq Gy hl;unfold Cp.slot;rcases(oY j).1 hl with rfl|zw
     ·rw[hp]at hq;cases hq;rw[Gy];simp[lk]
     ·cases hpt:p.t with
      |none=>exact hA j q t hq Gy zw
      |some u=>
       simp only[lk];rw[av,hA j q t hq Gy zw];intro e;have:=hdist j i q p t hq hp Gy (by rw[hpt,e]);subst this;rw[yR]at zw;cases zw
    ·intro t ht;unfold Cp.slot;have sH:=hB t (fun j q hq hl=>ht j q hq ((oY j).2 (.inr hl)));cases hpt:p.t with
     |none=>exact sH
     |some u=>
      simp only[lk];rw[av (fun e=>ht i p hp ((oY i).2 (.inl rfl)) (by rw[hpt,e]))];exact sH
    ·intro j y hj;rw[Xt j (aC.1 hj).1];exact Qj j y hj
    ·intro j q hq hl k y hy hno;have hkl:=(aC.1 hy).1;unfold Cp.yU;split
     ·rename_i id ob he;have hne:q.r+k≠id:=fun e=>hno i p ob hp ((oY i).2 (.inl rfl)) (by rw[e];exact he)
      rw[bq (oo hne)];rcases(oY j).1 hl with rfl|zw
      ·rw[hp]at hq;cases hq;rw[S6 j p id ob hp he]at hy;simp at hy
      ·exact Ol j q hq zw k y hy (fun i2 q2 yb ED Xr=>hno i2 q2 yb ED ((oY i2).2 (.inr Xr)))
     ·rw[rQ (by omega)];rcases(oY j).1 hl with rfl|zw
      ·rw[hp]at hq;cases hq;rw[av (by omega),bE (by omega),cq];exact hy
      ·have hne:j≠i:=fun e=>by subst e;rw[yR]at zw;cases zw
       have h3:=Ol j q hq zw k y hy (fun i2 q2 yb ED Xr=>hno i2 q2 yb ED ((oY i2).2 (.inr Xr)));rcases sP hne with h|h
       ·have:=K8 j i q p hq hp h;rw[bE (by omega)];exact h3
       ·have:=K8 i j p q hp hq h;rw[av (by omega),av (by omega)];exact h3
    ·intro j q id ob hq hl he;rcases(oY j).1 hl with rfl|zw
     ·rw[hp]at hq;cases hq;obtain⟨zs,ds,z1,_⟩:=S4 id ob he;have hlt:=(aC.1 z1).1;refine⟨by simp only[Cp.yU,he];rw[cz hlt],?_⟩;obtain⟨v,hv⟩:=Rp id ob he;refine⟨v,?_⟩;rw[hsame id (by rw[S6 j p id ob hp he];simp;omega)];exact hv
     ·obtain⟨h1,v,hv⟩:=UF j q id ob hq zw he;have hout:id<p.r\/p.r+p.obs.length<=id:=by
       rcases dU id p.r with h|h
       ·exact .inl h
       ·rcases dU id (p.r+p.obs.length)with h2|h2
        ·have:=Oj i p hp yR (id-p.r) (by omega);rw[show p.r+(id-p.r)=id from by omega,hv]at this;cases this
        ·exact .inr h2
      refine⟨?_,v,by rw[hsame id hout];exact hv⟩;unfold Cp.yU;split
      ·rename_i id2 yb E4;have hne:id2≠id:=fun e=>by
        subst e;have:=S5 i j p q id2 yb ob hp hq E4 he;subst this;rw[yR]at zw;cases zw
       rw[bq hne];exact h1
      ·rw[rQ (by omega)];rcases hout with h|h
       ·rw[bE h];exact h1
       ·rw[av (by omega),av (by omega)];exact h1
    ·intro j q hq hl k hk;have hne:j≠i:=fun e=>by
      subst e;have:=(oY j).2 (.inl rfl);rw[this]at hl;cases hl
     have zw:listed.getD j false=false:=by
      cases h:listed.getD j false with
      |false=>rfl
      |true=>have:=(oY j).2 (.inr h);rw[this]at hl;cases hl
     have h3:=Oj j q hq zw k hk;rw[hsame,h3];rcases sP hne with h|h
     ·have:=K8 j i q p hq hp h;omega
     ·have:=K8 i j p q hp hq h;omega
 refine wp_region_any hm ?_;have YU:HeadInv .any l.toArray n (Array.replicate l.toArray.size false):=
  ⟨by simp,fun j oj _ hl=>(by rw[getD_replicate_false]at hl;cases hl),fun t _ ht=>getD_in (by simpa using ht) (getD_replicate_false _ _)⟩
 have mB:((List.range n).filter fun i=> !(Array.replicate l.toArray.size false).getD i false).length=n:=by
  rw[List.filter_eq_self.2]
  ·simp
  ·intro i _;rw[getD_replicate_false];rfl
 have:=main n (Array.replicate l.toArray.size false) st.σ (st.H++List.replicate (ps.flatMap Cp.obs).length .gone) κ Θ a w.drew YU mB (fun i p t _ _ hl=>by rw[getD_replicate_false]at hl;cases hl) (fun t _=>rfl)
  (by simp) (fun i o h=>by rw[ai (aC.1 h).1];exact h) (fun i p _ hl=>by rw[getD_replicate_false]at hl;cases hl)
  (fun i q id ob _ hl=>by rw[getD_replicate_false]at hl;cases hl)
  (fun i p hp _ j _=>hs.nB _ (by rw[NO i p hp];omega)) (hs.drew.room _)
 rw[show n+(l.toArray.size-n)=l.toArray.size from by omega]at this;exact this
end
end Go.Cx
namespace Go.Cx
open Go.RowKit
def pos(o:aP)(i:Nat):Option Nat:=ix (fun j=>j==i) o
def D.P8(o:aP)(d:D):D:=match d with
 | .acc i=>(match pos o i with|some j=>.acc j|none=>.any)
 | .ptr i off=>(match pos o i with|some j=>.ptr j off|none=>.any)
 | .op i a b c=>(match pos o i with|some j=>.op j a b c|none=>.any)
 |d=>d
def D.X0(o:aP)(d:D):D:=match d with
 | .agg cs=>.agg (cs.map (D.P8 o))
 |d=>d.P8 o
def D.P9(o:aP)(d:D):D:=match d with
 | .iQ vs=>.iQ (vs.map (D.X0 o))
 |d=>d.X0 o
def Ob.rn(o:aP)(x:Ob):Ob:=match x with
 | .box cells=>.box (cells.map (D.P8 o))
 | .DA cells v=>.DA (cells.map (D.P8 o)) v
 | .hole _ _ _ _ _=>.gone
 |x=>x
def St.AG(st:St)(K o:aP):St:=⟨K.map fun t=>(t,(lk st.σ t).P9 o),o.map fun i=>((st.H[i]?).getD .gone).rn o⟩
section
variable{P:Program}{Γ:sQ}{Q:Exit->St->Prop}{st:St}{κ κ':Nat->Option Value}{Θ Θ':Nat->Nat}{a:Act}{w:World}{o:aP}
theorem JU:∀ {o:aP},o.Nodup->∀(i j x:Nat),o[i]?=some x->o[j]?=some x->i=j:=by
 intro o
 induction o with
 |nil=>intro _ i j x h;simp at h
 |cons y o ih=>
  intro hnd i j x hi hj;obtain⟨h1,h2⟩:=di.1 hnd;cases i with
  |zero=>
   cases j with
   |zero=>rfl
   |succ j=>simp at hi hj;subst hi;exact absurd (aE hj) h1
  |succ i=>
   cases j with
   |zero=>simp at hi hj;subst hj;exact absurd (aE hi) h1
   |succ j=>simp at hi hj;rw[ih h2 i j x hi hj]
theorem Kl{i j:Nat}(h:pos o i=some j):o[j]?=some i:=by
 obtain⟨x,h1,h2⟩:=wI h;simp only[cO]at h2;subst h2;exact h1
theorem Nn{i j:Nat}(hnd:o.Nodup)(h:o[j]?=some i):pos o i=some j:=
 Bx h (by simp) (fun k y hk hy=>by
  simp only[cO]at hy;subst hy;obtain⟨h1,h2⟩:=aC.1 h;obtain⟨h3,h4⟩:=aC.1 hk;exact JU hnd k j _ hk h)
section
variable(hk:∀(i j:Nat) v,pos o i=some j->κ i=some v->κ' j=some v)(vK:∀b,Θ b=0->Θ' b=0)
include hk vK
theorem wO.rn{v:Value}{d:D}{bs:aP}(h:wO w κ v d bs)(hz:∀b∈bs,Θ b=0):∃b',wO w κ' v (d.P8 o) b'/\∀b∈b',Θ' b=0:=by
 cases h with
 |pure h=>
  have e:d.P8 o=d:=by cases h<;>rfl
  rw[e];exact⟨bs,.pure h,fun b hb=>vK b (hz b hb)⟩
 |acc i v hi=>
  simp only[D.P8];cases hp:pos o i with
  |none=>exact⟨[],.pure (.any _),by simp⟩
  |some j=>exact⟨[],.acc j v (hk i j v hp hi),by simp⟩
 |ptr i off b hi=>
  simp only[D.P8];cases hp:pos o i with
  |none=>exact⟨[],.pure (.any _),by simp⟩
  |some j=>exact⟨[],.ptr j off b (hk i j _ hp hi),by simp⟩
 |op i x sz off b o0 len cap hi=>
  simp only[D.P8];cases hp:pos o i with
  |none=>exact⟨[],.pure (.any _),by simp⟩
  |some j=>exact⟨[],.op j x sz off b o0 len cap (hk i j _ hp hi),by simp⟩
theorem eZ.rn{vs:bW}{ds:aK}{bs:aP}(h:eZ w κ vs ds bs)(hz:∀b∈bs,Θ b=0):∃b',eZ w κ' vs (ds.map (D.P8 o)) b'/\∀b∈b',Θ' b=0:=by
 induction h with
 |nil=>exact⟨[],.nil,by simp⟩
 |cons v vs d ds b1 b2 h1 h2 _ ih=>
  obtain⟨c1,q1,q2⟩:=wO.rn hk vK h2 (fun b hb=>hz b (by simp[hb]));obtain⟨c2,p1,p2⟩:=ih (fun b hb=>hz b (by simp[hb]));refine⟨c1++c2,.cons _ _ _ _ _ _ h1 q1 p1,fun b hb=>?_⟩;rcases aV.1 hb with hb|hb
  ·exact q2 b hb
  ·exact p2 b hb
theorem HS.rn{v:Value}{d:D}{bs:aP}(h:HS w κ v d bs)(hz:∀b∈bs,Θ b=0):∃b',HS w κ' v (d.X0 o) b'/\∀b∈b',Θ' b=0:=by
 cases h with
 |cell h=>
  by_cases qe:∃ds,d=.agg ds
  ·obtain⟨ds,rfl⟩:=qe;cases h with
   |pure h=>
    cases h with
    |agg cs _ _ h=>
     obtain⟨b',q1,q2⟩:=eZ.rn hk vK (eZ.AN (κ:=κ) h) hz;exact⟨b',.agg _ _ _ q1,q2⟩
  ·have e:d.X0 o=d.P8 o:=by cases d<;>first|rfl|exact absurd ⟨_,rfl⟩ qe
   rw[e];obtain⟨b',q1,q2⟩:=wO.rn hk vK h hz;exact⟨b',.cell q1,q2⟩
 |agg cs ds bs h=>
  obtain⟨b',q1,q2⟩:=eZ.rn hk vK h hz;exact⟨b',.agg _ _ _ q1,q2⟩
theorem zQ.rn{vs:bW}{ds:aK}{bs:aP}(h:zQ w κ vs ds bs)(hz:∀b∈bs,Θ b=0):∃b',zQ w κ' vs (ds.map (D.X0 o)) b'/\∀b∈b',Θ' b=0:=by
 induction h with
 |nil=>exact⟨[],.nil,by simp⟩
 |cons v vs d ds b1 b2 h2 _ ih=>
  obtain⟨c1,q1,q2⟩:=HS.rn hk vK h2 (fun b hb=>hz b (by simp[hb]));obtain⟨c2,p1,p2⟩:=ih (fun b hb=>hz b (by simp[hb]));refine⟨c1++c2,.cons _ _ _ _ _ _ q1 p1,fun b hb=>?_⟩;rcases aV.1 hb with hb|hb
  ·exact q2 b hb
  ·exact p2 b hb
theorem oq.rn{v:Value}{d:D}{bs:aP}(h:oq w κ v d bs)(hz:∀b∈bs,Θ b=0):∃b',oq w κ' v (d.P9 o) b'/\∀b∈b',Θ' b=0:=by
 cases h with
 |v h=>
  have hnt:∀vs,d≠ .iQ vs:=by
   intro vs e;subst e;cases h with
   |cell h=>cases h with|pure h=>cases h
  have e:d.P9 o=d.X0 o:=by cases d<;>first|rfl|exact absurd rfl (hnt _)
  rw[e];obtain⟨b',q1,q2⟩:=HS.rn hk vK h hz;exact⟨b',.v q1,q2⟩
 |iQ vs ds bs h=>
  obtain⟨b',q1,q2⟩:=zQ.rn hk vK h hz;exact⟨b',.iQ _ _ _ q1,q2⟩
end
theorem Sj(σ:List (Nat×D))(K:aP)(f:D->D)(t:Nat):lk (K.map fun t=>(t,f (lk σ t))) t=if t∈K then f (lk σ t)else .any:=by
 induction K with
 |nil=>simp[lk]
 |cons u K ih=>
  simp only[bO,lk];by_cases e:t=u
  ·subst e;simp
  ·rw[av e,ih];simp[e]
theorem dM.AG(hs:dM Γ st κ Θ a w)(K o:aP)(hnd:o.Nodup):∃κ' Θ',dM Γ (st.AG K o) κ' Θ' a w:=by
 let κ':Nat->Option Value:=fun j=>(o[j]?).bind κ
 let Θ':Nat->Nat:=fun b=>if Θ b<=1 then Θ b else match pos o (Θ b-2)with|some j=>j+2|none=>1
 have vK:∀b,Θ b=0->Θ' b=0:=fun b h=>by simp[Θ',h]
 have hk:∀(i j:Nat) v,pos o i=some j->κ i=some v->κ' j=some v:=fun i j v h1 h2=>by simp[κ',Kl h1,h2]
 have hk2:∀(i j:Nat),o[j]?=some i->κ' j=κ i:=fun i j h=>by simp[κ',h]
 have Iw:∀b (i j:Nat),o[j]?=some i->Θ b=i+2->Θ' b=j+2:=by
  intro b i j hj h;simp only[Θ'];rw[av (by omega),h,wY,Nn hnd hj]
 have key:∀(j:Nat) x,(st.AG K o).H[j]?=some x->∃i,o[j]?=some i/\((st.H[i]?=none/\x=.gone)\/∃y,st.H[i]?=some y/\x=y.rn o):=by
  intro j x hj;simp only[St.AG,bU]at hj;cases ho:o[j]? with
  |none=>simp[ho]at hj
  |some i=>
   simp only[ho,cF,af]at hj;refine⟨i,rfl,?_⟩;cases hH:st.H[i]? with
   |none=>rw[hH]at hj;exact .inl ⟨rfl,hj.symm⟩
   |some y=>rw[hH]at hj;exact .inr ⟨y,rfl,hj.symm⟩
 obtain⟨ρ,hu⟩:=hs.qf;let ρ':Nat->Nat:=fun b=>if ρ b=0 then 0 else match pos o (ρ b-1)with|some j=>j+1|none=>0
 refine⟨κ',Θ',hs.defers,hs.size,?_,?_,?_,?_,?_,?_,?_,hs.stays,ρ',?_,?_,?_⟩
 ·intro i hi;simp only[St.AG,ax]at hi;simp[κ',cB hi]
 ·intro i u tj;simp only[κ']at tj;cases ho:o[i]? with
  |none=>simp[ho]at tj
  |some j=>simp[ho]at tj;exact hs.mY j u tj
 ·intro t;show∃bs,oq w κ' _ (lk (K.map fun t=>(t,(lk st.σ t).P9 o)) t) bs/\_;rw[Sj st.σ K (fun d=>d.P9 o) t];split
  ·obtain⟨bs,hr,hz⟩:=hs.slot t;exact oq.rn hk vK hr hz
  ·exact⟨[],.of (.any _),by simp⟩
 ·intro j x hj;obtain⟨i,ho,⟨_,rfl⟩|⟨y,hH,rfl⟩⟩:=key j x hj
  ·trivial
  ·have yA:=hs.ob i y hH;cases y with
   |gone=>trivial
   |hole=>trivial
   |tk rows=>
    obtain⟨v,bs,q1,q2,q3⟩:=yA;exact⟨v,bs,by rw[hk2 i j ho];exact q1,q2,fun b hb=>vK b (q3 b hb)⟩
   |mp kv=>
    obtain⟨g,es,c,q1,q2,q3,q4⟩:=yA;exact⟨g,es,c,by rw[hk2 i j ho];exact q1,q2,Iw g i j ho q3,q4⟩
   |tY sz rows u=>
    obtain⟨q1,q0,v,bs,q2,q3,q4,q5⟩:=yA;exact⟨q1,fun x hx=>by rw[hk2 i j ho];exact q0 x hx,v,bs,by rw[hk2 i j ho];exact q2,q3,q4,fun b hb=>⟨Iw b i j ho (q5 b hb).1,(q5 b hb).2⟩⟩
   |box cells=>
    obtain⟨g,cs,T,q1,q2,q3,bs,q4,q5⟩:=yA;obtain⟨b',p1,p2⟩:=eZ.rn hk vK q4 q5;exact⟨g,cs,T,by rw[hk2 i j ho];exact q1,q2,Iw g i j ho q3,b',p1,p2⟩
   |DA cells u=>
    obtain⟨q0,g,cs,T,q1,q2,q3,bs,q4,q5⟩:=yA;obtain⟨b',p1,p2⟩:=eZ.rn hk vK q4 q5;exact⟨by rw[hk2 i j ho];exact q0,g,cs,T,by rw[hk2 i j ho];exact q1,q2,Iw g i j ho q3,b',p1,p2⟩
   |row k e sz rows=>
    obtain⟨q1,q2,v,cs,bs,q3,q4,q5,q6,q7⟩:=yA;refine⟨q1,q2,v,cs,bs,by rw[hk2 i j ho];exact q3,q4,q5,fun g hg=>Iw g i j ho (q6 g hg),?_⟩;cases k with
    |cl=>exact⟨q7.1,fun b hb=>⟨Iw b i j ho (q7.2.1 b hb).1,(q7.2.1 b hb).2⟩,q7.2.2⟩
    |sh=>exact fun b hb=>vK b (q7 b hb)
    |uq=>exact fun b hb=>vK b (q7 b hb)
    |mv n=>exact fun b hb=>vK b (q7 b hb)
 ·intro b hb;exact hs.own b (fun h=>hb (vK b h))
 ·intro b hb hx;obtain⟨h1,h2⟩:=hs.old b hb hx;simp only[Θ'];rw[bE h2];exact⟨h1,h2⟩
 ·intro b hb;refine hs.mine b ?_;simp only[Θ']at hb;split at hb<;>omega
 ·intro b hb;have hb':ρ b≠0:=fun h=>hb (by simp[ρ',h])
  obtain⟨h1,h2⟩:=hu.free b hb';exact⟨vK b h1,h2⟩
 ·intro j e sz rows hj;obtain⟨i,ho,⟨_,h⟩|⟨y,hH,h⟩⟩:=key j _ hj
  ·cases h
  ·have hy:y=.row .uq e sz rows:=by cases y<;>first| (simp only[Ob.rn]at h;exact h.symm)|cases h
   subst hy;obtain⟨v,cs,bs,q1,q2,q3,q4,q5⟩:=hu.rows i e sz rows hH;refine⟨v,cs,bs,by rw[hk2 i j ho];exact q1,q2,q3,q4,fun b hb=>?_⟩;simp only[ρ'];rw[q5 b hb,av (by omega),wY,Nn hnd ho]
 ·intro j x hj;obtain⟨i,ho,⟨_,h⟩|⟨y,hH,h⟩⟩:=key j _ hj
  ·subst h;trivial
  ·have hm:=hu.more i y hH;have a0V:∀b,ρ b=i+1->ρ' b=j+1:=fun b hb=>by
    simp only[ρ'];rw[hb,av (by omega),wY,Nn hnd ho]
   subst h;cases y with
   |tk rows=>
    obtain⟨v,bs,q1,q2,q3,q4⟩:=hm;exact⟨v,bs,by rw[hk2 i j ho];exact q1,q2,q3,fun b hb=>a0V b (q4 b hb)⟩
   |row k e sz rows=>
    cases k with
    |mv n=>
     obtain⟨v,cs,bs,q1,q2,q3,q4,q5⟩:=hm;exact⟨v,cs,bs,by rw[hk2 i j ho];exact q1,q2,q3,q4,fun b hb=>a0V b (q5 b hb)⟩
    |_=>trivial
   |_=>trivial
end
end Go.Cx
namespace Go.Cx
open Go.RowKit
abbrev Rw:=Nat×List (List D)
def Rw.ob(x:Rw)(v:Option Value):Ob:=.tY x.1 x.2 v
def DG(w:World)(κ:Nat->Option Value):Nat->List Rw->aP->Prop
 |_,[],us=>us=[]
 |n,x::xs,us=>∃v bs XD,κ n=some v/\(∀r∈x.2,r.length=x.1)/\Rd w v (.sl x.2) bs/\us=bs++XD/\DG w κ (n+1) xs XD
def W9(P:Program)(f:FuncId)(ds:aK)(ins outs:List Rw)(d:D):Prop:=
 (∃fn,P.funcs[f]?=some fn/\fn.body.isSome=true/\(fn.name== "runtime.NumGoroutine")=false)/\outs.length=ins.length/\d.flat=true/\
 ∀(w:World) (κ:Nat->Option Value) (args:bW) (us:aP),Io w (fun b=>b∈us)->args.length=ds.length->(∀(i:Nat) d,ds[i]?=some d->∃v,args[i]?=some v/\oq w κ v d [])->
  (∀i,ins.length<=i->κ i=none)->(∀(i:Nat) u,κ i=some u->u.oneCell'=true)->DG w κ 0 ins us->us.Nodup->(∀b∈us,Wr w b)->
  Calls P f args.toArray w (fun e w'=>∃v XD,e=.returned v/\Rd w' v d []/\DG w' κ 0 outs XD/\XD.Nodup/\(∀b∈XD,(b∈us\/w.heap.size<=b)/\Wr w' b)/\
   w'.os=w.os/\w'.tape=w.tape/\w'.output=w.output/\w.heap.size<=w'.heap.size/\∀b,b<w.heap.size->b∉us->w'.heap[b]?=w.heap[b]?)
section
variable{P:Program}{Γ:sQ}{Q:Exit->St->Prop}{st:St}{κ κ':Nat->Option Value}{Θ Θ':Nat->Nat}{a:Act}{w w':World}{all:Array Oper}{rest:List Oper}
theorem DG.parts:∀ {xs:List Rw} {n:Nat} {us:aP},DG w κ n xs us->∃L:List aP,L.length=xs.length/\us=L.flatten/\∀(i:Nat) x bs,xs[i]?=some x->L[i]?=some bs->∃v,κ (n+i)=some v/\(∀r∈x.2,r.length=x.1)/\Rd w v (.sl x.2) bs:=by
 intro xs
 induction xs with
 |nil=>intro n us h;exact⟨[],rfl,by simpa[DG]using h,by simp⟩
 |cons y ys ih=>
  intro n us h;obtain⟨v,bs,XD,h1,h2,h3,rfl,h5⟩:=h;obtain⟨L,q1,rfl,q3⟩:=ih h5;refine⟨bs::L,by simp[q1],by simp,?_⟩;intro i x b hx hb;cases i with
  |zero=>simp at hx hb;subst hx;subst hb;exact⟨v,h1,h2,h3⟩
  |succ i=>
   simp at hx hb;obtain⟨v',r1,r2,r3⟩:=q3 i x b hx hb;exact⟨v',by rw[<-r1];congr 1;omega,r2,r3⟩
theorem DG.of:∀ {xs:List Rw} {n:Nat} {L:List aP},L.length=xs.length->(∀(i:Nat) x bs,xs[i]?=some x->L[i]?=some bs->∃v,κ (n+i)=some v/\(∀r∈x.2,r.length=x.1)/\Rd w v (.sl x.2) bs)->DG w κ n xs L.flatten:=by
 intro xs
 induction xs with
 |nil=>
  intro n L hl _;have:L=[]:=cI (by simpa using hl);subst this;rfl
 |cons y ys ih=>
  intro n L hl h;cases L with
  |nil=>simp at hl
  |cons bs L=>
   obtain⟨v,h1,h2,h3⟩:=h 0 y bs rfl rfl;refine⟨v,bs,L.flatten,h1,h2,h3,by simp,ih (by simpa using hl) ?_⟩;intro i x b hx hb;obtain⟨v',r1,r2,r3⟩:=h (i+1) x b (by simpa using hx) (by simpa using hb);exact⟨v',by rw[<-r1];congr 1;omega,r2,r3⟩
theorem dM.forget(hs:dM Γ st κ Θ a w)(ms:aP):dM Γ ⟨st.σ,kill st.H ms⟩ κ (fun b=>if ms.any (fun m=>Θ b==m+2)then st.H.length+2 else Θ b) a w:=by
 have h0:∀b,Θ b=0->(if ms.any (fun m=>Θ b==m+2)then st.H.length+2 else Θ b)=0:=by
  intro b hb;rw[av,hb];intro h;obtain⟨m,_,hm⟩:=cT.1 h;simp[hb]at hm
 have hk:∀(j:Nat) o,(kill st.H ms)[j]?=some o->o=.gone\/(j∉ms/\st.H[j]?=some o):=fun j o h=>ld h
 have hold:∀b j,j∉ms->Θ b=j+2->(if ms.any (fun m=>Θ b==m+2)then st.H.length+2 else Θ b)=j+2:=by
  intro b j hj hb;rw[av,hb];intro h;obtain⟨m,hm,he⟩:=cT.1 h;simp only[hb,cO]at he;exact hj (by
   have:j=m:=by omega
   rw[this];exact hm)
 obtain⟨ρ,hu⟩:=hs.qf;refine⟨hs.defers,hs.size,fun i hi=>hs.nB i (by simpa[ey]using hi),hs.mY,?_,?_,?_,?_,?_,hs.stays,ρ,?_,?_,?_⟩
 ·intro t;obtain⟨bs,hr,hz⟩:=hs.slot t;exact⟨bs,hr,fun b hb=>h0 b (hz b hb)⟩
 ·intro j o hj;rcases hk j o hj with rfl|⟨hn,hj'⟩
  ·trivial
  ·have yA:=hs.ob j o hj';cases o with
   |gone=>trivial
   |tk rows=>
    obtain⟨v,bs,q1,q2,q3⟩:=yA;exact⟨v,bs,q1,q2,fun b hb=>h0 b (q3 b hb)⟩
   |box cells=>
    obtain⟨g,cs,T,q1,q2,q3,bs,q4,q5⟩:=yA;exact⟨g,cs,T,q1,q2,hold g j hn q3,bs,q4,fun b hb=>h0 b (q5 b hb)⟩
   |DA cells u=>
    obtain⟨q0,g,cs,T,q1,q2,q3,bs,q4,q5⟩:=yA;exact⟨q0,g,cs,T,q1,q2,hold g j hn q3,bs,q4,fun b hb=>h0 b (q5 b hb)⟩
   |row k e sz rows=>
    obtain⟨q1,q2,v,cs,bs,q3,q4,q5,q6,q7⟩:=yA;refine⟨q1,q2,v,cs,bs,q3,q4,q5,fun g hg=>hold g j hn (q6 g hg),?_⟩;cases k with
    |cl=>exact⟨q7.1,fun b hb=>⟨hold b j hn (q7.2.1 b hb).1,(q7.2.1 b hb).2⟩,q7.2.2⟩
    |sh=>exact fun b hb=>h0 b (q7 b hb)
    |uq=>exact fun b hb=>h0 b (q7 b hb)
    |mv n=>exact fun b hb=>h0 b (q7 b hb)
   |tY sz rows u=>
    obtain⟨q1,q0,v,bs,q2,q3,q4,q5⟩:=yA;exact⟨q1,q0,v,bs,q2,q3,q4,fun b hb=>⟨hold b j hn (q5 b hb).1,(q5 b hb).2⟩⟩
   |hole sz rows u p n=>
    obtain⟨q1,q0,v,bs,q2,q3,q4,q5⟩:=yA;exact⟨q1,q0,v,bs,q2,q3,q4,fun b hb=>⟨hold b j hn (q5 b hb).1,(q5 b hb).2⟩⟩
   |mp kv=>
    obtain⟨g,es,c,q1,q2,q3,q4⟩:=yA;exact⟨g,es,c,q1,q2,hold g j hn q3,q4⟩
 ·intro b hb;refine hs.own b fun h=>hb ?_
  exact h0 b h
 ·intro b hb hx;obtain⟨h1,h2⟩:=hs.old b hb hx;have:(if ms.any (fun m=>Θ b==m+2)then st.H.length+2 else Θ b)=Θ b:=by
   rw[av];intro h;obtain⟨m,_,hm⟩:=cT.1 h;simp only[cO]at hm;omega
  show(if ms.any (fun m=>Θ b==m+2)then st.H.length+2 else Θ b)=_/\(if ms.any (fun m=>Θ b==m+2)then st.H.length+2 else Θ b)<=1;rw[this];exact⟨h1,h2⟩
 ·intro b hb;refine hs.mine b ?_;by_cases h:ms.any (fun m=>Θ b==m+2)=true
  ·obtain⟨m,_,hm⟩:=cT.1 h;simp only[cO]at hm;omega
  ·simp only[h]at hb;simpa using hb
 ·intro b hb;obtain⟨h1,h2⟩:=hu.free b hb;exact⟨h0 b h1,h2⟩
 ·intro id e sz rows hj;rcases hk id _ hj with h|⟨_,h⟩
  ·cases h
  ·exact hu.rows id e sz rows h
 ·intro id o hj;rcases hk id _ hj with h|⟨_,h⟩
  ·subst h;trivial
  ·exact hu.more id o h
def lv(H:bL)(m:Nat):Option Value:=match H[m]? with|some (.tY _ _ v)=>v|_=>none
def Km:bL->aP->List Rw->bL
 |H,m::ms,x::xs=>Km (H.set m (x.ob (lv H m))) ms xs
 |H,_,_=>H
theorem Gb:∀(H:bL) (ms:aP) (xs:List Rw),(Km H ms xs).length=H.length:=by
 intro H ms
 induction ms generalizing H with
 |nil=>intro xs;cases xs<;>rfl
 |cons m ms ih=>intro xs;cases xs with|nil=>rfl|cons x xs=>simp[Km,ih]
theorem T4:∀ {H:bL} {ms:aP} {xs:List Rw} {j:Nat} {y:Ob},ms.Nodup->xs.length=ms.length->(Km H ms xs)[j]?=some y->(∃(i:Nat) (x:Rw),ms[i]?=some j/\xs[i]?=some x/\y=x.ob (lv H j))\/(j∉ms/\H[j]?=some y):=by
 intro H ms
 induction ms generalizing H with
 |nil=>intro xs j y _ _ h;cases xs<;>exact .inr ⟨by simp,h⟩
 |cons m ms ih=>
  intro xs j y hnd hl h;cases xs with
  |nil=>simp at hl
  |cons x xs=>
   obtain⟨n1,n2⟩:=di.1 hnd;rcases ih n2 (by simpa using hl) h with⟨i,z,h1,h2,h3⟩|⟨h1,h2⟩
   ·refine .inl ⟨i+1,z,by simpa using h1,by simpa using h2,?_⟩;rw[h3];have hne:m≠j:=fun e=>n1 (by rw[e];exact aE h1)
    simp only[lv,bq hne]
   ·rcases wL j y h2 with⟨rfl,rfl⟩|⟨h3,h4⟩
    ·exact .inl ⟨0,x,rfl,rfl,rfl⟩
    ·exact .inr ⟨by simp[h1,h3],h4⟩
def I9(H:bL):aP->Option (List Rw)
 | []=>some []
 |m::ms=>match H[m]?,I9 H ms with|some (.tY sz rows _),some xs=>some ((sz,rows)::xs)|_,_=>none
theorem NZ{H:bL}:∀ {ms:aP} {xs:List Rw},I9 H ms=some xs->xs.length=ms.length/\∀(i m:Nat) x,ms[i]?=some m->xs[i]?=some x->∃v,H[m]?=some (x.ob v):=by
 intro ms
 induction ms with
 |nil=>intro xs h;cases h;simp
 |cons m ms ih=>
  intro xs h;simp only[I9]at h;split at h
  ·rename_i sz rows u ys h1 h2;cases h;obtain⟨q1,q2⟩:=ih h2;refine⟨by simp[q1],?_⟩;intro i m' x hm hx;cases i with
   |zero=>simp at hm hx;subst hm;subst hx;exact⟨u,h1⟩
   |succ i=>exact q2 i m' x (by simpa using hm) (by simpa using hx)
  ·cases h
def D.DI(d:D):Bool:=match d with
 | .acc _=>true
 |d=>d.flat
def D.bare(d:D):Bool:=match d with
 | .agg cs=>cs.all D.DI
 |d=>d.DI
theorem wO.HG{v:Value}{d:D}{bs:aP}(h:wO w κ v d bs)(hf:d.DI=true):bs=[]:=by
 cases h with
 |pure h=>
  refine h.flat ?_;cases h<;>exact hf
 |_=>rfl
theorem eZ.HG{vs:bW}{ds:aK}{bs:aP}(h:eZ w κ vs ds bs)(hf:ds.all D.DI=true):bs=[]:=by
 induction h with
 |nil=>rfl
 |cons v vs d ds b1 b2 h1 h2 _ ih=>
  simp only[dX,aR]at hf;rw[h2.HG hf.1,ih hf.2];rfl
theorem oq.OR{v:Value}{d:D}{bs:aP}(h:oq w κ v d bs)(hf:d.bare=true):bs=[]:=by
 cases h with
 |v h=>
  cases h with
  |cell h=>
   cases h with
   |pure h=>
    cases h with
    |agg cs ds _ h=>exact eZ.HG (eZ.AN (κ:=κ) h) hf
    |_=>first|rfl|exact absurd hf (by simp[D.bare,D.DI,D.flat])
   |_=>rfl
  |agg cs ds bs h=>exact h.HG hf
 |iQ=>simp[D.bare,D.DI,D.flat]at hf
theorem D.RM(o:aP){c:D}(h:c.DI=true):(c.P8 o).DI=true:=by
 cases c with
 |acc m=>simp only[D.P8];cases pos o m<;>rfl
 |_=>first|exact h| (simp[D.DI,D.flat]at h)
theorem D.OS(o:aP){d:D}(h:d.bare=true):(d.P9 o).bare=true:=by
 cases d with
 |agg cs=>
  simp only[D.P9,D.X0,D.bare,EE]at h⊢;rw[aj]at h⊢;intro c hcm;exact D.RM o (h c hcm)
 |acc m=>simp only[D.P9,D.X0,D.P8];cases pos o m<;>rfl
 |_=>first|exact h| (simp[D.bare,D.DI,D.flat]at h)
theorem Lt{L:List aP}(h:L.flatten.Nodup):∀(i j:Nat) x y b,L[i]?=some x->L[j]?=some y->b∈x->b∈y->i=j:=by
 intro i j x y b hi hj hx hy;have:=tD (f:=fun l:aP=>l) (l:=L) (by simpa[List.flatMap_id]using h);exact this i j x y b hi hj hx hy
theorem ND{L:List aP}(h:L.flatten.Nodup):∀x∈L,x.Nodup:=by
 induction L with
 |nil=>intro x hx;cases hx
 |cons y L ih=>
  intro x hx;simp only[eW]at h;obtain⟨h1,h2,_⟩:=bB.1 h;rcases bA.1 hx with rfl|hx
  ·exact h1
  ·exact ih h2 x hx
theorem Ix:∀ {L:List aP},(∀x∈L,x.Nodup)->(∀(i j:Nat) x y b,L[i]?=some x->L[j]?=some y->b∈x->b∈y->i=j)->L.flatten.Nodup:=by
 intro L
 induction L with
 |nil=>intro _ _;simp
 |cons y L ih=>
  intro h1 h2;simp only[eW];refine bB.2 ⟨h1 y (by simp),ih (fun x hx=>h1 x (by simp[hx])) (fun i j x z b hi hj hx hz=>?_),?_⟩
  ·have:=h2 (i+1) (j+1) x z b (by simpa using hi) (by simpa using hj) hx hz;omega
  ·intro b hb c hc e;subst e;obtain⟨x,hx,yZ⟩:=fG.1 hc;obtain⟨j,hj⟩:=dB hx;have:=h2 0 (j+1) y x b rfl (by simpa using hj) hb yZ;omega
theorem R1{o:Oper}{f t:Nat}{xs:Array Operand}{ts:Array TypeId}{ms:aP}{ins outs:List Rw}{d:D}(hop:o.op=.call {callee:=.value (.func f),args:=xs,argTypes:=ts})(hd:o.dst=some t)(hg:o.guard=none)
 (ht:t<Γ.nt) (hnd:ms.Nodup) (hins:I9 st.H ms=some ins) (hb:((xs.toList.map st.ev).all D.bare)=true) (kq:W9 P f ((xs.toList.map st.ev).map (D.P9 ms)) ins outs d)
 (h:AO P Γ all rest Q ⟨(t,d)::st.σ,Km st.H ms outs⟩):AO P Γ all (o::rest) Q st:=by
 intro κ Θ a w hs;obtain⟨Mn,hig⟩:=NZ hins;obtain⟨hfn,hol,hfl,a01⟩:=kq;let κc:Nat->Option Value:=fun j=>(ms[j]?).bind κ
 have hkc:∀(i m:Nat),ms[i]?=some m->κc i=κ m:=fun i m h=>by simp[κc,h]
 have yA:∀(i m:Nat) x,ms[i]?=some m->ins[i]?=some x->∃v bs,κ m=some v/\(∀r∈x.2,r.length=x.1)/\Rd w v (.sl x.2) bs/\bs.Nodup/\∀b∈bs,Θ b=m+2/\Wr w b:=by
  intro i m x hm hx;obtain⟨u,hu⟩:=hig i m x hm hx;obtain⟨q1,_,v,bs,q2,q3,q4,q5⟩:=hs.ob m _ hu;exact⟨v,bs,q2,q1,q3,q4,q5⟩
 have hL:∃L:List aP,L.length=ins.length/\∀(i m:Nat) x bs,ms[i]?=some m->ins[i]?=some x->L[i]?=some bs->(∃v,κ m=some v/\(∀r∈x.2,r.length=x.1)/\Rd w v (.sl x.2) bs)/\bs.Nodup/\∀b∈bs,Θ b=m+2/\Wr w b:=by
  have key:∀(ms:aP) (ins:List Rw),ins.length=ms.length->(∀(i m:Nat) x,ms[i]?=some m->ins[i]?=some x->∃v bs,κ m=some v/\(∀r∈x.2,r.length=x.1)/\Rd w v (.sl x.2) bs/\bs.Nodup/\∀b∈bs,Θ b=m+2/\Wr w b)->
   ∃L:List aP,L.length=ins.length/\∀(i m:Nat) x bs,ms[i]?=some m->ins[i]?=some x->L[i]?=some bs->(∃v,κ m=some v/\(∀r∈x.2,r.length=x.1)/\Rd w v (.sl x.2) bs)/\bs.Nodup/\∀b∈bs,Θ b=m+2/\Wr w b:=by
   intro ms
   induction ms with
   |nil=>intro ins hl _;exact⟨[],by simpa using hl.symm,by simp⟩
   |cons m ms ih=>
    intro ins hl yA;cases ins with
    |nil=>simp at hl
    |cons x ins=>
     obtain⟨L,q1,q2⟩:=ih ins (by simpa using hl) (fun i m' x' hm hx=>yA (i+1) m' x' (by simpa using hm) (by simpa using hx));obtain⟨v,bs,r1,r2,r3,r4,r5⟩:=yA 0 m x rfl rfl;refine⟨bs::L,by simp[q1],?_⟩;intro i m' x' b hm hx hb;cases i with
     |zero=>simp at hm hx hb;subst hm;subst hx;subst hb;exact⟨⟨v,r1,r2,r3⟩,r4,r5⟩
     |succ i=>exact q2 i m' x' b (by simpa using hm) (by simpa using hx) (by simpa using hb)
  exact key ms ins Mn yA
 obtain⟨L,hLl,Xf⟩:=hL;have Xu:∀(i:Nat) bs,L[i]?=some bs->∃m x,ms[i]?=some m/\ins[i]?=some x:=by
  intro i bs hb';have hlt:=(aC.1 hb').1;exact⟨_,_,aT (by omega),aT (by omega)⟩
 have hmem:∀b∈L.flatten,∃m∈ms,Θ b=m+2:=by
  intro b hb';obtain⟨x,hx,yZ⟩:=fG.1 hb';obtain⟨i,hi⟩:=dB hx;obtain⟨m,y,h1,h2⟩:=Xu i x hi;exact⟨m,aE h1,((Xf i m y x h1 h2 hi).2.2 b yZ).1⟩
 have qR:L.flatten.Nodup:=by
  refine Ix (fun x hx=>?_) (fun i j x y b hi hj hx hy=>?_)
  ·obtain⟨i,hi⟩:=dB hx;obtain⟨m,y,h1,h2⟩:=Xu i x hi;exact(Xf i m y x h1 h2 hi).2.1
  ·obtain⟨m1,y1,h1,h2⟩:=Xu i x hi;obtain⟨m2,y2,h3,h4⟩:=Xu j y hj;have e1:=((Xf i m1 y1 x h1 h2 hi).2.2 b hx).1;have e2:=((Xf j m2 y2 y h3 h4 hj).2.2 b hy).1;have:m1=m2:=by omega
   subst this;exact JU hnd i j m1 h1 h3
 have Xs:DG w κc 0 ins L.flatten:=DG.of hLl (fun i x bs hx hb'=>by
  obtain⟨m,y,h1,h2⟩:=Xu i bs hb';rw[hx]at h2;cases h2;obtain⟨⟨v,q1,q2,q3⟩,_⟩:=Xf i m x bs h1 hx hb';exact⟨v,by rw[cV,hkc i m h1];exact q1,q2,q3⟩)
 have hwr:∀b∈L.flatten,Wr w b:=by
  intro b hb';obtain⟨x,hx,yZ⟩:=fG.1 hb';obtain⟨i,hi⟩:=dB hx;obtain⟨m,y,h1,h2⟩:=Xu i x hi;exact((Xf i m y x h1 h2 hi).2.2 b yZ).2
 have hargs:∀(i:Nat) d,((xs.toList.map st.ev).map (D.P9 ms))[i]?=some d->∃v,(xs.toList.map a.eval)[i]?=some v/\oq w κc v d []:=by
  intro i d EC;rw[bU,bU]at EC;cases hx:xs.toList[i]? with
  |none=>rw[hx]at EC;cases EC
  |some x=>
   rw[hx]at EC;simp only[cF,af]at EC;subst EC;refine⟨a.eval x,by rw[bU,hx];rfl,?_⟩;obtain⟨bs,r,hz⟩:=hs.ev x;have Rh:(st.ev x).bare=true:=aj.1 hb _ (cH.2 ⟨x,aE hx,rfl⟩);obtain⟨b',r',_⟩:=oq.rn (o:=ms) (κ':=κc) (Θ:=fun _=>0) (Θ':=fun _=>0) (fun i j v h1 h2=>by simp[κc,Kl h1,h2]) (fun _ _=>rfl) r (fun _ _=>rfl);have:=r'.OR (D.OS ms Rh);subst this;exact r'
 have NR:Io w fun b=>b∈L.flatten:=by
  obtain⟨B,v1,v2⟩:=hs.Ze;refine⟨B,v1,fun b hB=>⟨(v2 b hB).2.1,fun hb'=>?_⟩⟩;obtain⟨x,hx,yZ⟩:=fG.1 hb';obtain⟨i,hi⟩:=dB hx;obtain⟨m,y,h1,h2⟩:=Xu i x hi;have e1:=((Xf i m y x h1 h2 hi).2.2 b yZ).1;rcases hs.mine b (by omega)with q|q
  ·have:=(v2 b hB).1;omega
  ·exact(v2 b hB).2.2 q
 have hc:=a01 w κc (xs.toList.map a.eval) L.flatten NR (by simp) hargs (fun i hi=>by simp[κc,cB (by omega:ms.length<=i)]) (fun i u hu=>by
  simp only[κc]at hu;cases hm:ms[i]? with
  |none=>rw[hm]at hu;cases hu
  |some m=>rw[hm]at hu;exact hs.mY m u hu) Xs qR hwr
 refine wpList_plain hg fun K hK=>?_
 unfold Oper.wp;rw[tg hop hfn,Oper.upon_enter];have e:xs.map a.eval=(xs.toList.map a.eval).toArray:=by rw[<-fy,j8]
 rw[e];refine hc.mono ?_;rintro e w' ⟨v,XD,rfl,hv,hl',D9,Is,k1,k2,k3,k4,k5⟩;show K (a.put o.dst v) w';rw[hd];obtain⟨L',a5d,rfl,a2k⟩:=hl'.parts;have a66:∀(i:Nat) bs,L'[i]?=some bs->∃m x,ms[i]?=some m/\outs[i]?=some x:=by
  intro i bs hb';have hlt:=(aC.1 hb').1;exact⟨_,_,aT (by omega),aT (by omega)⟩
 have hs1:=hs.forget ms;let Θ1:Nat->Nat:=fun b=>if ms.any (fun m=>Θ b==m+2)then st.H.length+2 else Θ b
 have a0U:∀b,b∈L.flatten->Θ1 b=st.H.length+2:=by
  intro b hb';obtain⟨m,hm,he⟩:=hmem b hb';simp only[Θ1];rw[bE (cT.2 ⟨m,hm,by simp[he]⟩)]
 let Θ2:Nat->Nat:=fun b=>match ix (fun x:aP=>x.contains b) L' with|some i=>(match ms[i]? with|some m=>m+2|none=>1)|none=>if Θ1 b=st.H.length+2 then 1 else Θ1 b
 have a3m:∀(i m:Nat) bs b,ms[i]?=some m->L'[i]?=some bs->b∈bs->Θ2 b=m+2:=by
  intro i m bs b hm hi hb';have:ix (fun x:aP=>x.contains b) L'=some i:=Bx hi (by simpa using hb') (fun j y hj hy=>Lt D9 j i y bs b hj hi (by simpa using hy) hb');simp only[Θ2,this,hm]
 have SB:∀b,b∉L'.flatten->Θ2 b=if Θ1 b=st.H.length+2 then 1 else Θ1 b:=by
  intro b hb';simp only[Θ2];cases h:ix (fun x:aP=>x.contains b) L' with
  |none=>rfl
  |some i=>
   obtain⟨x,hx,hp⟩:=wI h;exact absurd (fG.2 ⟨x,aE hx,by simpa using hp⟩) hb'
 have hlt':∀b∈L'.flatten,b<w'.heap.size:=fun b hb'=>by
  obtain⟨cs,T,hx⟩:=(Is b hb').2;exact(az.1 hx).1
 have kk:gi w w' Θ1 Θ2 (st.H.length+2):=by
  refine⟨by omega,k1,k2,k3,k4,fun b hlt hne=>k5 b hlt fun hb'=>hne (a0U b hb'),fun b hlt hne=>?_,fun b hb'=>?_⟩
  ·by_cases hin:b∈L'.flatten
   ·rcases(Is b hin).1 with h'|h'
    ·exact absurd (a0U b h') hne
    ·omega
   ·rw[SB b hin,av hne]
  ·by_cases hin:b∈L'.flatten
   ·exact hlt' b hin
   ·rw[SB b hin]at hb';refine cw (hs1.own b ?_) k4;intro h0;have h0':Θ1 b=0:=h0;rw[h0']at hb';rw[av (by omega)]at hb';exact hb' rfl
 have hm2:∀b,2<=Θ2 b->wB Γ b:=by
  intro b hb';by_cases hin:b∈L'.flatten
  ·rcases(Is b hin).1 with h'|h'
   ·obtain⟨m,_,he⟩:=hmem b h';exact hs.mine b (by omega)
   ·exact .inl (dA hs.base h')
  ·rw[SB b hin]at hb';split at hb'
   ·omega
   ·exact hs1.mine b hb'
 obtain⟨ρ,hu⟩:=hs1.qf;have Y4:=hs1.lf kk (κ':=κ) (fun _ _ h=>h) hu;have hkl:(kill st.H ms).length=st.H.length:=ey _ _;have hpk:∀(j:Nat) y,(Km st.H ms outs)[j]?=some y->(∃(i:Nat) (x:Rw),ms[i]?=some j/\outs[i]?=some x/\y=x.ob (lv st.H j))\/(j∉ms/\(kill st.H ms)[j]?=some y):=by
  intro j y hj;rcases T4 hnd (by omega) hj with h'|⟨h1,h2⟩
  ·exact .inl h'
  ·exact .inr ⟨h1,by rw[fo h1];exact h2⟩
 have Hx:∀(j:Nat) y,(Km st.H ms outs)[j]?=some y->j+2≠st.H.length+2:=fun j y hj=>by
  have:=(aC.1 hj).1;rw[Gb]at this;omega
 have hs2:dM Γ ⟨st.σ,Km st.H ms outs⟩ κ Θ2 a w':=by
  refine hs1.step kk hm2 (fun _ _ h=>h) (fun i hi=>hs.nB i (by rw[Gb]at hi;exact hi)) hs.mY ?_ ⟨ρ,Y4.1,?_,?_⟩
  ·intro j y hj;have hjl:=Hx j y hj;rcases hpk j y hj with⟨i,x,h1,h2,rfl⟩|⟨_,h2⟩
   ·right;right
    have ZS:∃bs,L'[i]?=some bs:=⟨_,aT (by have:=(aC.1 h2).1;omega)⟩
    obtain⟨bs,ZS⟩:=ZS;obtain⟨v',q1,q2,q3⟩:=a2k i x bs h2 ZS;rw[cV,hkc i j h1]at q1;refine⟨q2,fun x hx=>?_,v',bs,q1,q3,ND D9 bs (aE ZS),fun b hb'=>⟨a3m i j bs b h1 ZS hb',(Is b (fG.2 ⟨bs,aE ZS,hb'⟩)).2⟩⟩;unfold lv at hx;split at hx
    ·rename_i sz0 a50 u0 Zv;subst hx;obtain⟨_,q0,_⟩:=hs.ob j _ Zv;exact q0 x rfl
    ·cases hx
   ·exact .inr (.inl ⟨hjl,h2⟩)
  ·intro id e' sz' dh hj;have hjl:=Hx id _ hj;rcases hpk id _ hj with⟨i,x,h1,h2,h3⟩|⟨_,h2⟩
   ·simp[Rw.ob]at h3
   ·exact Y4.2.1 id e' sz' dh hjl h2
  ·intro id y hj;have hjl:=Hx id _ hj;rcases hpk id _ hj with⟨i,x,h1,h2,h3⟩|⟨_,h2⟩
   ·subst h3;exact Gl.vb rfl
   ·exact Y4.2.2 id y hjl h2
 have qQ:oq w' κ v d []:=.of hv;exact hK _ _ (h κ Θ2 _ w' (hs2.set (t:=t) ht qQ (by simp)))
def Ob.close:Ob->Ob
 | .row _ _ sz rows=>.tY sz rows none
 |o=>o
theorem dM.Px(hs:dM Γ st κ Θ a w)(hb:Below w.heap.size w w')(L:lR)(hL:∀x∈L,x.ok w')(hnd:(L.flatMap Fs.bl).Nodup)(hfr:∀b∈L.flatMap Fs.bl,w.heap.size<=b/\Wr w' b):
 ∃κ' Θ',dM Γ ⟨st.σ,st.H++(L.map Fs.ob).map Ob.close⟩ κ' Θ' a w'/\Names κ' st.H.length L:=by
 let n:=st.H.length
 let κ':Nat->Option Value:=fun j=>if j<n\/n+L.length<=j then κ j else(L[j-n]?).map Fs.v
 let Θ':Nat->Nat:=fun b=>match ix (fun x:Fs=>x.bl.contains b) L with|some i=>n+i+2|none=>Θ b
 have hu1:∀(i j:Nat) x y b,L[i]?=some x->L[j]?=some y->b∈x.bl->b∈y.bl->i=j:=fun i j x y b=>tD hnd i j x y b
 have hts:∀(i:Nat) x b,L[i]?=some x->b∈x.bl->Θ' b=n+i+2:=by
  intro i x b hi Qn;have:ix (fun x:Fs=>x.bl.contains b) L=some i:=Bx hi (by simpa using Qn) (fun j y hj hy=>hu1 j i y x b hj hi (by simpa using hy) Qn);simp only[Θ',this]
 have hno:∀b,b∉L.flatMap Fs.bl->Θ' b=Θ b:=by
  intro b hb';simp only[Θ'];cases h:ix (fun x:Fs=>x.bl.contains b) L with
  |none=>rfl
  |some i=>
   obtain⟨x,hx,hp⟩:=wI h;exact absurd (bZ.2 ⟨x,aE hx,by simpa using hp⟩) hb'
 have hold:∀b,b<w.heap.size->Θ' b=Θ b:=fun b hlt=>hno b (fun h=>by have:=(hfr b h).1;omega)
 have hn:∀(j:Nat) v,κ j=some v->κ' j=some v:=by
  intro j v hj;have:j<n:=by
   rcases dU j n with h|h
   ·exact h
   ·have:=hs.nB j h;rw[hj]at this;cases this
  simp only[κ'];rw[bE (.inl this)];exact hj
 have si:Names κ' n L:=by
  intro i x hx;have hlt:=(aC.1 hx).1;simp only[κ'];rw[av (by omega),cq,hx];rfl
 have hlen:(st.H++(L.map Fs.ob).map Ob.close).length=n+L.length:=by simp[n]
 have k:gi w w' Θ Θ' (n+L.length+2):=by
  refine⟨by omega,hb.os,hb.tape,hb.output,hb.size,fun b hlt _=>hb.block b hlt,fun b hlt _=>hold b hlt,fun b h=>?_⟩;by_cases hin:b∈L.flatMap Fs.bl
  ·obtain⟨cs,T,hx⟩:=(hfr b hin).2;exact(az.1 hx).1
  ·rw[hno b hin]at h;exact cw (hs.own b h) hb.size
 have hm:∀b,2<=Θ' b->wB Γ b:=by
  intro b h;by_cases hin:b∈L.flatMap Fs.bl
  ·exact .inl (dA hs.base (hfr b hin).1)
  ·rw[hno b hin]at h;exact hs.mine b h
 have key:∀(j:Nat) y,(st.H++(L.map Fs.ob).map Ob.close)[j]?=some y->(∃i x,j=n+i/\L[i]?=some x/\y=.tY x.sz x.rows none)\/(j<n/\st.H[j]?=some y):=by
  intro j y hj;by_cases hlt:j<st.H.length
  ·rw[ai hlt]at hj;exact .inr ⟨hlt,hj⟩
  ·rw[au (by omega),bU,bU]at hj;cases hx:L[j-st.H.length]? with
   |none=>simp[hx]at hj
   |some x=>simp[hx]at hj;exact .inl ⟨j-st.H.length,x,by omega,hx,hj.symm⟩
 have Hx:∀(j:Nat) y,(st.H++(L.map Fs.ob).map Ob.close)[j]?=some y->j+2≠n+L.length+2:=fun j y hj=>by
  have:=(aC.1 hj).1;omega
 obtain⟨ρ,hu⟩:=hs.qf;have qR:=hs.lf k hn hu;refine⟨κ',Θ',hs.step k hm hn (fun i hi=>?_) (fun i u tj=>?_) (fun j y hj=>?_) ⟨ρ,qR.1,fun id e sz rows hj=>?_,fun id y hj=>?_⟩,si⟩
 ·rw[hlen]at hi;simp only[κ'];rw[bE (by omega)];exact hs.nB i (by omega)
 ·simp only[κ']at tj;split at tj
  ·exact hs.mY i u tj
  ·cases hx:L[i-n]? with
   |none=>simp[hx]at tj
   |some x=>simp[hx]at tj;subst tj;exact(hL x (aE hx)).2.2.2.2
 ·have hjl:=Hx j y hj;rcases key j y hj with⟨i,x,rfl,hx,rfl⟩|⟨hlt,hy⟩
  ·right;right
   obtain⟨q1,q2,q3,q4,_⟩:=hL x (aE hx);have G3:x.bl.Nodup:=by
    have:∀(l:lR),(l.flatMap Fs.bl).Nodup->∀x∈l,x.bl.Nodup:=by
     intro l
     induction l with
     |nil=>intro _ x hx;cases hx
     |cons z r ih=>
      intro hnd x hx;simp only[eV]at hnd;obtain⟨n1,n2,_⟩:=bB.1 hnd;rcases bA.1 hx with rfl|hx
      ·exact n1
      ·exact ih n2 x hx
    exact this L hnd x (aE hx)
   exact⟨q2,by simp,x.v,x.bl,si i x hx,uQ q2 q3 q4,G3,fun b hb'=>⟨hts i x b hx hb',(hfr b (bZ.2 ⟨x,aE hx,hb'⟩)).2⟩⟩
  ·exact .inr (.inl ⟨hjl,hy⟩)
 ·have hjl:=Hx id _ hj;rcases key id _ hj with⟨i,x,_,_,h⟩|⟨hlt,hy⟩
  ·cases h
  ·exact qR.2.1 id e sz rows hjl hy
 ·have hjl:=Hx id _ hj;rcases key id _ hj with⟨i,x,_,_,h⟩|⟨hlt,hy⟩
  ·subst h;exact Gl.vb rfl
  ·exact qR.2.2 id y hjl hy
theorem Qt{o:Oper}{f t:Nat}{xs:Array Operand}{ts:Array TypeId}{ds:aK}{ms:aP}{d:D}(hop:o.op=.call {callee:=.value (.func f),args:=xs,argTypes:=ts})(hd:o.dst=some t)(hg:o.guard=none)
 (ht:t<Γ.nt) (hds:DD st.H (xs.toList.map st.ev)=some (ds,ms)) (hown:d.IQ=true) (kq:Good P f ds d)
 (h:AO P Γ all rest Q ⟨(t,(lY st.H.length d).1)::st.σ,st.H++(lY st.H.length d).2.map Ob.close⟩):AO P Γ all (o::rest) Q st:=by
 intro κ Θ a w hs;obtain⟨bs,hargs,hz⟩:=HN hs hds;let Θc:Nat->Nat:=fun b=>if Θ b=0\/ms.any (fun m=>Θ b==m+2)then 0 else 1
 have GP:∀b,Seen Θ ms b->Θc b=0:=by
  intro b h;simp only[Θc];rw[bE];rcases h with h|⟨m,h1,h2⟩
  ·exact .inl h
  ·exact .inr (cT.2 ⟨m,h1,by simp[h2]⟩)
 have hc:=kq.2 w Θc _ bs hs.Zd hargs (fun b hb=>GP b (hz b hb)) (fun b hb=>hs.own b (fun e=>hb (GP b (.inl e)))) (fun b=>by simp only[Θc];split<;>omega);refine wpList_plain hg fun K hK=>?_
 unfold Oper.wp;rw[tg hop kq.1,Oper.upon_enter];have e:xs.map a.eval=(xs.toList.map a.eval).toArray:=by rw[<-fy,j8]
 rw[e];refine hc.mono ?_;rintro e w' ⟨v,bs',tb,ub,rfl,hb,hr,Ii,htb,hnd,hfr,hsub⟩;show K (a.put o.dst v) w';rw[hd];obtain⟨L,q1,q2,q3,q4,q5⟩:=hr.inst st.H.length;obtain⟨κ',Θ',hs',hnm⟩:=hs.Px hb L q2 (q3▸hnd) (fun b hb'=>hfr b (q3▸hb'));rw[q1]at hs';refine hK _ _ (h κ' Θ' _ w' (hs'.set (t:=t) ht (q5 κ' hnm) fun b hb'=>?_));rw[hr.own hown]at hb';cases hb'
end
end Go.Cx
namespace Go.Cx
open Go.RowKit
section
variable{P:Program}{Γ:sQ}{Q:Exit->St->Prop}{st:St}{κ κ':Nat->Option Value}{Θ Θ':Nat->Nat}{a:Act}{w w':World}{all:Array Oper}{rest:List Oper}
theorem dM.Nq(hs:dM Γ st κ Θ a w)(ms:aP){H':bL}(h1:w'.os=w.os)(h2:w'.tape=w.tape)(h3:w'.output=w.output)(h4:w.heap.size<=w'.heap.size)
 (Hu:∀b,b<w.heap.size->(∀m∈ms,Θ b≠m+2)->w'.heap[b]?=w.heap[b]?) (Xy:∀b,b<w.heap.size->(∀m∈ms,Θ b≠m+2)->Θ' b=Θ b) (hown:∀b,Θ' b≠0->b<w'.heap.size)
 (hm:∀b,2<=Θ' b->wB Γ b) (hn:∀(j:Nat) v,κ j=some v->κ' j=some v) (hko:∀i,H'.length<=i->κ' i=none) (hk1:∀(i:Nat) u,κ' i=some u->u.oneCell'=true)
 (yA:∀(j:Nat) y,H'[j]?=some y->y=.gone\/(j∉ms/\st.H[j]?=some y)\/(tL w' κ' Θ' j y/\y.QW=false)):dM Γ ⟨st.σ,H'⟩ κ' Θ' a w':=by
 have hs1:=hs.forget ms;have hin:∀b,(ms.any (fun m=>Θ b==m+2))=false->∀m∈ms,Θ b≠m+2:=by
  intro b h m hm' he;have:ms.any (fun m=>Θ b==m+2)=true:=cT.2 ⟨m,hm',by simp[he]⟩;rw[h]at this;cases this
 have hlt2:∀b,(if ms.any (fun m=>Θ b==m+2)then st.H.length+2 else Θ b)≠st.H.length+2->(ms.any (fun m=>Θ b==m+2))=false:=by
  intro b h;cases hc:ms.any (fun m=>Θ b==m+2)with
  |false=>rfl
  |true=>simp[hc]at h
 have kk:gi w w' (fun b=>if ms.any (fun m=>Θ b==m+2)then st.H.length+2 else Θ b) Θ' (st.H.length+2):=by
  refine⟨by omega,h1,h2,h3,h4,fun b hb hne=>Hu b hb (hin b (hlt2 b hne)),fun b hb hne=>?_,hown⟩;have hc:=hlt2 b hne;rw[Xy b hb (hin b hc)];simp[hc]
 obtain⟨ρ,hu⟩:=hs1.qf;have qR:=hs1.lf kk hn hu;refine hs1.step kk hm hn hko hk1 (fun j y hj=>?_) ⟨ρ,qR.1,fun id e sz rows hj=>?_,fun id y hj=>?_⟩
 ·rcases yA j y hj with h|⟨h,hy⟩|⟨h,_⟩
  ·exact .inl h
  ·have:=(aC.1 hy).1;exact .inr (.inl ⟨by omega,by rw[fo h];exact hy⟩)
  ·exact .inr (.inr h)
 ·rcases yA id _ hj with h|⟨h,hy⟩|⟨_,h⟩
  ·cases h
  ·have:=(aC.1 hy).1;exact qR.2.1 id e sz rows (by omega) (by rw[fo h];exact hy)
  ·simp[Ob.QW]at h
 ·rcases yA id _ hj with h|⟨h,hy⟩|⟨_,h⟩
  ·subst h;trivial
  ·have:=(aC.1 hy).1;exact qR.2.2 id y (by omega) (by rw[fo h];exact hy)
  ·exact Gl.plain h
theorem Rd.ZA{v:Value}{rows:List aK}{bs:aP}(h:Rd w v (.sl rows) bs):(∃q c,v=.slice q rows.length c)/\rows.length<=maxLen:=by
 cases h with
 |w8=>exact⟨⟨_,_,rfl⟩,by simp⟩
 |mD=>exact⟨⟨_,_,rfl⟩,by simp⟩
 |sl b off cap sz _ cs bs hb h1 h2=>exact⟨⟨_,_,rfl⟩,by omega⟩
theorem UU{o:Oper}{t T id sz:Nat}{x:Operand}{rows:List aK}{u:Option Value}(hop:o.op=.call {callee:=.builtin .len,args:= #[x],argTypes:= #[T]})(hd:o.dst=some t)(hg:o.guard=none)(ht:t<Γ.nt)
 (hT:(CP P T).isSome=true) (hx:st.ev x=.acc id) (hH:st.H[id]?=some (.tY sz rows u)) (h:AO P Γ all rest Q ⟨(t,.int .i64 rows.length)::st.σ,st.H⟩):AO P Γ all (o::rest) Q st:=by
 intro κ Θ a w hs;obtain⟨b1,r1,_⟩:=hs.ev x;rw[hx]at r1;obtain⟨hk,_⟩:=r1.sL;obtain⟨_,_,v,bs,hk2,hrd,_⟩:=hs.ob id _ hH;rw[hk]at hk2;cases hk2;obtain⟨⟨q,c,hv⟩,E5⟩:=hrd.ZA;obtain⟨⟨e,sz'⟩,hT⟩:=dZ.1 hT;obtain⟨hu,_,_⟩:=mZ hT;refine wpList_plain hg fun K hK=>?_
 unfold Oper.wp;have hrun:(execOp a.eval o).run P w=.ok (.value (.int .i64 rows.length)) w:=by
  simp only[execOp,hop,resolve,invoke,builtin,mN,bO,cA,hv];simp[Builtin.len_,run_underlying hu,goInt]
 rw[hrun,Oper.upon_value,hd];exact hK _ _ (h κ Θ _ w (hs.set (d:=.int .i64 rows.length) (bs:=[]) ht (.of (.int _ _ (Ke E5))) (by simp)))
theorem XK{o:Oper}{t T id sz e m:Nat}{x i:Operand}{rows:List aK}{u:Option Value}{k:IntKind}{n:Int}(hop:o.op=.indexAddr T x i)(hd:o.dst=some t)(hg:o.guard=none)(ht:t<Γ.nt)
 (hT:CP P T=some (e,sz)) (hx:st.ev x=.acc id) (hi:st.ev i=.int k n) (hH:st.H[id]?=some (.tY sz rows u)) (hn:n=(m:Int)) (hm:m<rows.length) (h:AO P Γ all rest Q ⟨(t,.op id m sz 0)::st.σ,st.H⟩):AO P Γ all (o::rest) Q st:=by
 intro κ Θ a w hs;obtain⟨b1,r1,_⟩:=hs.ev x;obtain⟨b2,r2,_⟩:=hs.ev i;rw[hx]at r1;rw[hi]at r2;have hiv:=r2.oC;obtain⟨hk,_⟩:=r1.sL;obtain⟨_,_,v,bs,hk2,hrd,_⟩:=hs.ob id _ hH;rw[hk]at hk2;cases hk2;obtain⟨hu,G2,Ev⟩:=mZ hT;have hsz:=sJ (P:=P) G2 w;subst hn;generalize Ou:a.eval x=vx at hrd hk;cases hrd with
 |w8=>simp at hm
 |mD=>simp at hm
 |sl b off cap sz' _ cs bs hb hcap E5 hrl hc qQ=>
  have hn':0<=(m:Int)/\(m:Int)<(rows.length:Int):=⟨by omega,by omega⟩
  refine wpList_plain hg fun K hK=>?_
  unfold Oper.wp;have hrun:(execOp a.eval o).run P w=.ok (.value (.pointer (some ⟨b,off+(m*sz+0),none⟩))) w:=by
   simp only[execOp,hop,Ou,hiv];simp[Instr.indexAt,asIntOf,run_underlying hu,hn',hm,hsz,Ev,Addr.add_lit]
  rw[hrun,Oper.upon_value,hd];exact hK _ _ (h κ Θ _ w (hs.set (d:=.op id m sz 0) (bs:=[]) ht (wO.op id m sz 0 b off _ _ hk).LA (by simp)))
theorem HH{rows:List aK}{sz i off:Nat}{r:aK}{d:D}(hrl:∀r∈rows,r.length=sz)(hr:rows[i]?=some r)(hd:r[off]?=some d):rows.flatten[i*sz+off]?=some d/\off<sz/\i*sz+off<rows.length*sz:=by
 have h1:=hrl r (aE hr);have h2:=(aC.1 hd).1;have hmid:=Bm hrl hr;have hlt:=(aC.1 hr).1;have hle:(i+1)*sz<=rows.length*sz:=dD _ hlt;rw[jA,kf]at hle;refine⟨?_,by omega,by omega⟩;rw[<-hmid,cE,bE (by omega),dw]at hd;exact hd
theorem R2{o:Oper}{t T id i sz off:Nat}{x:Operand}{rows:List aK}{r:aK}{d:D}{u:Option Value}(hop:o.op=.load T x)(hd:o.dst=some t)(hg:o.guard=none)(ht:t<Γ.nt)
 (hT:xU P T=some false) (hx:st.ev x=.op id i sz off) (hH:st.H[id]?=some (.tY sz rows u)) (hr:rows[i]?=some r) (hc:r[off]?=some d) (hfl:d.flat=true) (h:AO P Γ all rest Q ⟨(t,d)::st.σ,st.H⟩):AO P Γ all (o::rest) Q st:=by
 intro κ Θ a w hs;obtain⟨b1,r1,_⟩:=hs.ev x;rw[hx]at r1;obtain⟨g,o0,len,Ui,hk,hv⟩:=r1.C2;obtain⟨hrl,_,v,bs,hk2,hrd,_⟩:=hs.ob id _ hH;rw[hk]at hk2;cases hk2;obtain⟨hf,_,_⟩:=HH hrl hr hc;cases hrd with
 |mD=>simp at hr
 |sl _ _ _ sz' _ cs ns hb hcap E5 Gz hcs qQ=>
  obtain⟨c,b',h1,h2,h3,h4⟩:=qQ.at hf;have L:=mq (P:=P) (w:=w) hT (o:=i*sz+off) hcs;have hb':=h3.flat hfl;subst hb';refine wpList_plain hg fun K hK=>?_
  unfold Oper.wp;have hrun:(execOp a.eval o).run P w=.ok (.value c) w:=by
   simp only[execOp,hop,hv];simp[L.2 rfl c h1]
  rw[hrun,Oper.upon_value,hd];exact hK _ _ (h κ Θ _ w (hs.set (d:=d) (bs:=[]) ht (.of h3) (by simp)))
theorem jx.a0y{vs:bW}{ds:aK}{bs:aP}(h:jx w vs ds bs){p:Nat}{d:D}(hd:ds[p]?=some d):
 ∃c b1 b2 b3,vs[p]?=some c/\c.oneCell'=true/\Rd w c d b2/\bs=b1++(b2++b3)/\∀(e:D) (b4:aP),Rd w c e b4->jx w vs (ds.set p e) (b1++(b4++b3)):=by
 obtain⟨l,r,rfl,hl⟩:=JS hd;obtain⟨v1,v2,c1,c2,rfl,rfl,k1,k2⟩:=h.split;cases k2 with
 |cons c vs _ _ b2 b3 h1 h2 h3=>
  have hl1:v1.length=p:=by rw[k1.length];exact hl
  refine⟨c,c1,b2,b3,by rw[au (by omega),hl1];simp,h1,h2,rfl,fun e b4 he=>?_⟩;have e1:(l++d::r).set p e=l++e::r:=by rw[qF _ _ (by omega),hl];simp
  rw[e1];exact k1.app (.cons _ _ _ _ _ _ h1 he h3)
theorem Er{rows:List aK}{sz i off:Nat}{r:aK}{d e:D}(hrl:∀r∈rows,r.length=sz)(hr:rows[i]?=some r)(hd:r[off]?=some d):(rows.set i (r.set off e)).flatten=rows.flatten.set (i*sz+off) e:=by
 have hlt:=(aC.1 hd).1;have h1:=hrl r (aE hr);have:=Bn (rows:=rows) (sz:=sz) (i:=i) (off:=off) (row:=r) (ds:=[e]) hrl hr (by simp;omega);have e1:r.set off e=r.take off++[e]++r.drop (off+[e].length):=by
  apply nM;intro j;rw[fO];simp only[dJ,AT,aQ,bS,cV];by_cases hj:j<off
  ·rw[av (by omega),ai (by simp;omega),cE,bE hj]
  ·rw[au (by simp;omega),cD,eS (by omega)];by_cases he:off=j
   ·subst he;simp[hlt]
   ·rw[av he];obtain⟨m,hm⟩:∃m,j-off=m+1:=⟨j-off-1,by omega⟩
    rw[hm,fF,dw]
    congr 1;omega
 rw[e1,this];have hfl:=mL hrl;obtain⟨hf,_,hlt2⟩:=HH hrl hr hd;apply nM;intro j;rw[fO];simp only[dJ,AT,aQ,bS,cV];by_cases hj:j<i*sz+off
 ·rw[av (by omega),ai (by rw[cD];omega),cE,bE hj]
 ·rw[au (by rw[cD];omega),cD,eS (by omega)];by_cases he:i*sz+off=j
  ·subst he;rw[bE rfl,bE (by omega),nN];rfl
  ·rw[av he];obtain⟨m,hm⟩:∃m,j-(i*sz+off)=m+1:=⟨j-(i*sz+off)-1,by omega⟩
   rw[hm,fF,dw]
   congr 1;omega
theorem HL{rows:List aK}{sz i:Nat}{r:aK}(hrl:∀r∈rows,r.length=sz)(hr:r.length=sz):∀x∈rows.set i r,x.length=sz:=by
 intro x hx;rcases rV hx with hx|rfl
 ·exact hrl x hx
 ·exact hr
theorem R4{o:Oper}{t T id i sz off Nz:Nat}{x:Operand}{rows fN:List aK}{r:aK}{u:Option Value}(hop:o.op=.load T x)(hd:o.dst=some t)(hg:o.guard=none)(ht:t<Γ.nt)
 (hT:xU P T=some false) (hx:st.ev x=.op id i sz off) (hH:st.H[id]?=some (.tY sz rows u)) (hr:rows[i]?=some r) (hc:r[off]?=some (.sl fN)) (h2:∀q∈fN,q.length=Nz)
 (h:AO P Γ all rest Q ⟨(t,.acc st.H.length)::st.σ,st.H.set id (.hole sz (rows.set i (r.set off .any)) u (i*sz+off) st.H.length)++[.tY Nz fN none]⟩):AO P Γ all (o::rest) Q st:=by
 intro κ Θ a w hs;obtain⟨b1,r1,_⟩:=hs.ev x;rw[hx]at r1;obtain⟨g,o0,len,Ui,hk,hv⟩:=r1.C2;obtain⟨hrl,V3,v,bs,hk2,hrd,hnd,Br⟩:=hs.ob id _ hH;rw[hk]at hk2;cases hk2;obtain⟨hf,hoff,_⟩:=HH hrl hr hc;cases hrd with
 |mD=>simp at hr
 |sl _ _ _ sz' _ cs ns hb hcap E5 Gz hcs qQ=>
  obtain⟨c,c1,c2,c3,h1,h1c,h3,rfl,oY⟩:=qQ.a0y hf;have L:=mq (P:=P) (w:=w) hT (o:=i*sz+off) hcs;have a0A:id<st.H.length:=(aC.1 hH).1;have hnew:=oY .any [] (.any c);have D9:=hnd;simp only[di,aV,B6]at D9;obtain⟨⟨hg1,hg2,hg3⟩,G3⟩:=D9;obtain⟨n1,n2,n3⟩:=bB.1 G3;obtain⟨n4,n5,n6⟩:=bB.1 n2;let Θ':Nat->Nat:=fun b=>if b∈c2 then st.H.length+2 else Θ b
  have hs':dM Γ ⟨st.σ,st.H.set id (.hole sz (rows.set i (r.set off .any)) u (i*sz+off) st.H.length)++[.tY Nz fN none]⟩ (vL κ st.H.length (some c)) Θ' a w:=by
   have hn:=ug (hs.nB _ (bJ _)) (some c);have Iw:∀b∈c2,Θ b=id+2:=fun b hb'=>(Br b (by simp[hb'])).1
   refine hs.Nq [id] rfl rfl rfl (bJ _) (fun _ _ _=>rfl) (fun b _ hne=>?_) (fun b hb'=>?_) (fun b hb'=>?_) hn (fun j hj=>?_) (fun j y hy=>?_) (fun j y hj=>?_)
   ·simp only[Θ'];rw[av];intro hin;exact hne id (by simp) (Iw b hin)
   ·simp only[Θ']at hb';split at hb'
    ·rename_i hin;exact hs.own b (by rw[Iw b hin];omega)
    ·exact hs.own b hb'
   ·simp only[Θ']at hb';split at hb'
    ·rename_i hin;exact hs.mine b (by rw[Iw b hin];omega)
    ·exact hs.mine b hb'
   ·simp only[b8,nD,aQ,bS]at hj;unfold vL;rw[av (by omega)];exact hs.nB j (by omega)
   ·unfold vL at hy;split at hy
    ·cases hy;exact h1c
    ·exact hs.mY j y hy
   ·rcases zD j y hj with⟨hjl,rfl⟩|⟨hjl,hy⟩
    ·right;right
     have hjn:j=st.H.length:=by rw[hjl];simp
     subst hjn;refine⟨⟨h2,by simp,c,c2,ji _ _ _,h3,n4,fun b hb'=>⟨by simp[Θ',hb'],(Br b (by simp[hb'])).2⟩⟩,rfl⟩
    ·rcases wL j y hy with⟨rfl,rfl⟩|⟨hne,hy'⟩
     ·right;right
      refine⟨⟨HL hrl (by rw[nD];exact hrl r (aE hr)),fun z hz=>hn _ _ (V3 z hz),_,g::(c1++([]++c3)),hn _ _ hk,⟨g,o0,Ui,cs,c1++([]++c3),by simp,hb,by simpa using hcap,E5,hcs,?_,rfl,c,h1,ji _ _ _⟩,?_,fun b hb'=>?_⟩,rfl⟩
      ·rw[Er hrl hr hc];exact hnew
      ·simp only[cX,di,aV,B6];exact⟨⟨hg1,hg3⟩,bB.2 ⟨n1,n5,fun x hx y hy e=>n3 x hx y (by simp[hy]) e⟩⟩
      ·have Zz:b∈g::(c1++(c2++c3)):=by
        simp only[cX,bA,aV]at hb'⊢;rcases hb' with h|h|h<;>simp[h]
       refine⟨?_,(Br b Zz).2⟩;simp only[Θ'];rw[av,(Br b Zz).1];intro hin;simp only[cX,bA,aV]at hb';rcases hb' with h|h|h
       ·subst h;exact hg2 hin
       ·exact n3 b h b (by simp[hin]) rfl
       ·exact n6 b hin b h rfl
     ·exact .inr (.inl ⟨by simpa using hne,hy'⟩)
  refine wpList_plain hg fun K hK=>?_
  unfold Oper.wp;have hrun:(execOp a.eval o).run P w=.ok (.value c) w:=by
   simp only[execOp,hop,hv];simp[L.2 rfl c h1]
  rw[hrun,Oper.upon_value,hd];exact hK _ _ (h _ _ _ w (hs'.set (d:=.acc st.H.length) (bs:=[]) ht (wO.acc st.H.length c (ji _ _ _)).LA (by simp)))
theorem R3{id n i sz off Nz:Nat}{rows fN:List aK}{r:aK}{d:D}{u u2:Option Value}(hH:st.H[id]?=some (.hole sz rows u (i*sz+off) n))(hN:st.H[n]?=some (.tY Nz fN u2))(hr:rows[i]?=some r)(hc:r[off]?=some d)
 (h:AO P Γ all rest Q ⟨st.σ,(st.H.set n .gone).set id (.tY sz (rows.set i (r.set off (.sl fN))) u)⟩):AO P Γ all rest Q st:=by
 intro κ Θ a w hs;obtain⟨hrl,V3,v,bs,hk,⟨b,o0,cap,cs,ns,rfl,h1,h2,h3,h4,h5,rfl,c,h6,h7⟩,hnd,Br⟩:=hs.ob id _ hH;obtain⟨a6E,_,v2,UE,hk2,a3S,a3K,Ri⟩:=hs.ob n _ hN;rw[h7]at hk2;cases hk2;obtain⟨hf,hoff,_⟩:=HH hrl hr hc;obtain⟨c',c1,c2,c3,q1,q1c,q3,rfl,oY⟩:=h5.a0y hf;rw[h6]at q1;cases q1;have hnew:=oY (.sl fN) UE a3S;have hne:n≠id:=fun e=>by subst e;rw[hH]at hN;cases hN
 have a0A:id<st.H.length:=(aC.1 hH).1;have D9:=hnd;simp only[di,aV,B6]at D9;obtain⟨⟨hg1,hg2,hg3⟩,G3⟩:=D9;obtain⟨n1,n2,n3⟩:=bB.1 G3;obtain⟨n4,n5,n6⟩:=bB.1 n2;have Xn:∀x∈UE,∀y∈b::(c1++(c2++c3)),x≠y:=by
  intro x hx y hy e;subst e;have e1:=(Ri x hx).1;have e2:=(Br x hy).1;omega
 let Θ':Nat->Nat:=fun x=>if x∈UE then id+2 else if Θ x=n+2 then 1 else Θ x
 refine h κ Θ' a w (hs.Nq [id,n] rfl rfl rfl (bJ _) (fun _ _ _=>rfl) (fun x _ hnx=>?_) (fun x hx=>?_) (fun x hx=>?_) (fun _ _ h=>h) (fun j hj=>hs.nB j (by simpa using hj)) hs.mY (fun j y hj=>?_))
 ·simp only[Θ'];rw[av (fun hin=>hnx n (by simp) (Ri x hin).1),av (hnx n (by simp))]
 ·simp only[Θ']at hx;split at hx
  ·rename_i hin;exact hs.own x (by rw[(Ri x hin).1];omega)
  ·split at hx
   ·rename_i he;exact hs.own x (by rw[he];omega)
   ·exact hs.own x hx
 ·simp only[Θ']at hx;split at hx
  ·rename_i hin;exact hs.mine x (by rw[(Ri x hin).1];omega)
  ·split at hx
   ·omega
   ·exact hs.mine x hx
 ·rcases wL j y hj with⟨rfl,rfl⟩|⟨DM,hy⟩
  ·right;right
   refine⟨⟨HL hrl (by rw[nD];exact hrl r (aE hr)),V3,_,b::(c1++(UE++c3)),hk,?_,?_,fun x hx=>?_⟩,rfl⟩
   ·have hl:(rows.set i (r.set off (.sl fN))).length=rows.length:=by simp
    have:=Rd.sl (w:=w) b o0 cap sz (rows.set i (r.set off (.sl fN))) cs (c1++(UE++c3)) h1 (by rw[hl];exact h2) h3 (HL hrl (by rw[nD];exact hrl r (aE hr))) h4 (by rw[Er hrl hr hc];exact hnew);rw[hl]at this;exact this
   ·simp only[di,aV,B6];refine⟨⟨hg1,fun hin=>Xn b hin b (by simp) rfl,hg3⟩,bB.2 ⟨n1,bB.2 ⟨a3K,n5,fun x hx y hy e=>Xn x hx y (by simp[hy]) e⟩,fun x hx y hy e=>?_⟩⟩;rcases aV.1 hy with hy|hy
    ·exact Xn y hy x (by simp[hx]) e.symm
    ·exact n3 x hx y (by simp[hy]) e
   ·by_cases hin:x∈UE
    ·exact⟨by simp[Θ',hin],(Ri x hin).2⟩
    ·have Zz:x∈b::(c1++(c2++c3)):=by
      simp only[bA,aV]at hx⊢;rcases hx with h|h|h|h
      ·simp[h]
      ·simp[h]
      ·exact absurd h hin
      ·simp[h]
     refine⟨?_,(Br x Zz).2⟩;have e1:=(Br x Zz).1;simp only[Θ'];rw[av hin,av (by omega),e1]
  ·rcases wL j y hy with⟨rfl,rfl⟩|⟨hj2,hy'⟩
   ·exact .inl rfl
   ·exact .inr (.inl ⟨by simp[DM,hj2],hy'⟩)
theorem jx.setCells{vs:bW}{ds es:aK}{us:bW}{bs:aP}(h:jx w vs ds bs)(p:Nat)(hp:p+es.length<=ds.length)(hu:jx w us es []):
 ∃b',jx w (vs.take p++us++vs.drop (p+us.length)) (ds.take p++es++ds.drop (p+es.length)) b'/\(∀b∈b',b∈bs)/\(bs.Nodup->b'.Nodup):=by
 have e:ds=ds.take p++((ds.drop p).take es.length++(ds.drop p).drop es.length):=by rw[bp,bp]
 rw[e]at h;obtain⟨v1,v2,b1,b2,rfl,rfl,k1,k2⟩:=h.split;obtain⟨v3,v4,b3,b4,rfl,rfl,k3,k4⟩:=k2.split;have l1:v1.length=p:=by rw[k1.length];simp;omega
 have l3:v3.length=es.length:=by rw[k3.length];simp;omega
 have lu:=hu.length;have t1:(v1++(v3++v4)).take p=v1:=gZ l1;have t2:(v1++(v3++v4)).drop (p+us.length)=v4:=by
  rw[<-fp,fD l1,lu,fD l3]
 rw[t1,t2];rw[fp]at k4;refine⟨b1++[]++b4,(k1.app hu).app k4,fun b hb=>?_,fun hnd=>?_⟩
 ·simp only[eR,aV]at hb⊢;rcases hb with h|h<;>simp[h]
 ·obtain⟨n1,n2,n3⟩:=bB.1 hnd;obtain⟨_,n5,_⟩:=bB.1 n2;simp only[eR];exact bB.2 ⟨n1,n5,fun x hx y hy e=>n3 x hx y (by simp[hy]) e⟩
theorem PU{o:Oper}{T id i sz off:Nat}{x y:Operand}{rows:List aK}{r ds:aK}{u:Option Value}(hop:o.op=.store T x y)(hd:o.dst=none)(hg:o.guard=none)
 (hx:st.ev x=.op id i sz off) (hH:st.H[id]?=some (.tY sz rows u)) (hr:rows[i]?=some r) (hc:(st.ev y).cellsOf=some ds) (hfl:ds.all D.flat=true) (hT:L9 P T=true) (hl:ds.length=wS P T) (hpos:0<ds.length) (hfit:off+ds.length<=sz)
 (h:AO P Γ all rest Q ⟨st.σ,st.H.set id (.tY sz (rows.set i (r.take off++ds++r.drop (off+ds.length))) u)⟩):AO P Γ all (o::rest) Q st:=by
 intro κ Θ a w hs;obtain⟨b1,r1,_⟩:=hs.ev x;obtain⟨b2,r2,_⟩:=hs.ev y;rw[hx]at r1;obtain⟨g,o0,len,Ui,hk,hv⟩:=r1.C2;obtain⟨hrl,V3,v,bs,hk2,hrd,hnd,Br⟩:=hs.ob id _ hH;rw[hk]at hk2;cases hk2;have NG:=yj hs.mY r2 hc;have hl1:=NG.length;have a34:ds.all D.LK=true:=by
  rw[aj]at hfl⊢;intro d EC;have:=hfl d EC;cases d<;>first|rfl| (simp[D.flat]at this)
 have hcp:=NG.pure a34;have Mm:=hcp.flat hfl;subst Mm;have hrow:=hrl r (aE hr);have hilt:=(aC.1 hr).1;have Xp:(i+1)*sz<=rows.length*sz:=dD _ hilt;rw[jA,kf]at Xp;cases hrd with
 |mD=>simp at hr
 |sl _ _ _ sz' _ cs ns hb hcap E5 Gz hcs qQ=>
  obtain⟨hgT,hgw⟩:=Br g (by simp);obtain⟨cur,Tb,UG⟩:=hgw;have a07:=mL hrl;have hcl:cs.length=rows.length*sz:=by rw[qQ.length,a07]
  have Hw:∀j c,cs[j]?=some c->cur[o0+j]?=some c:=by
   intro j c hj;have:=hcs j c hj;simpa[World.cell?,UG]using this
  have a06:o0+(i*sz+off)+(a.eval y).cells.size<=cur.size:=by
   have e1:(a.eval y).cells.size=ds.length:=by rw[<-hl1];simp
   rw[e1];have:=Hw (i*sz+off+ds.length-1) cs[i*sz+off+ds.length-1] (aT (by omega));have:=(az.1 this).1;omega
  have Y2:(a.eval y).cells.size=wS P T:=by rw[<-hl,<-hl1];simp
  have hst:=C6 (P:=P) (T:=T) (off:=o0+(i*sz+off)) UG Y2 (dZ.1 hT) a06 NG.one;have hne:(a.eval y).cells.toList.length=ds.length:=hl1;let Gq:Array Value:=(cur.toList.take (o0+(i*sz+off))++(a.eval y).cells.toList++cur.toList.drop (o0+(i*sz+off)+(a.eval y).cells.toList.length)).toArray
  have hw':∀x,x≠g->(w.setRow g Gq).heap[x]?=w.heap[x]?:=fun x hx=>setRow_other w g x _ hx
  have hsame:∀x,x<w.heap.size->(∀m∈[id],Θ x≠m+2)->(w.setRow g Gq).heap[x]?=w.heap[x]?:=fun x _ hx=>hw' x (fun e=>hx id (by simp) (by rw[e];exact hgT))
  simp only[di]at hnd;have a3V:jx (w.setRow g Gq) cs rows.flatten ns:=qQ.keep fun b hb'=>hw' b (fun e=>hnd.1 (e▸hb'))
  have a2v:jx (w.setRow g Gq) (a.eval y).cells.toList ds []:=hcp.keep (by simp);obtain⟨ns',q1,q2,q3⟩:=a3V.setCells (i*sz+off) (by rw[a07];omega) a2v;have hfs:=Bn (ds:=ds) (off:=off) hrl hr hfit;have hl4:(rows.set i (r.take off++ds++r.drop (off+ds.length))).length=rows.length:=by simp
  have a0M:∀z∈rows.set i (r.take off++ds++r.drop (off+ds.length)),z.length=sz:=HL hrl (by simp;omega);have hcell:∀j c,(cs.take (i*sz+off)++(a.eval y).cells.toList++cs.drop (i*sz+off+(a.eval y).cells.toList.length))[j]?=some c->(w.setRow g Gq).cell? ⟨g,o0+j,none⟩=some c:=by
   intro j c hj;have hgh:(w.setRow g Gq).heap[g]?=some (.cells Gq Tb (0,0)):=setRow_heap w g cur _ Tb _ UG;simp only[World.cell?,hgh];show Gq[o0+j]?=some c;simp only[Gq,iM,dJ]at hj⊢;have hcz:o0+(i*sz+off)<=cur.toList.length:=by simp;omega
   by_cases DM:j<i*sz+off
   ·rw[ai (by simp;omega),cE,bE DM]at hj;rw[ai (by rw[cD];omega),cE,bE (by omega)];have:=Hw j c hj;simpa using this
   ·rw[au (by rw[cD];omega),cD,eS (by omega)]at hj;rw[au (by rw[cD];omega),cD,eS hcz];rw[show o0+j-(o0+(i*sz+off))=j-(i*sz+off)from by omega];by_cases hj2:j-(i*sz+off)<(a.eval y).cells.toList.length
    ·rw[ai hj2]at hj⊢;exact hj
    ·rw[au (by omega),dw]at hj⊢;have:=Hw _ c hj;rw[<-qD]at this;rw[<-this];congr 1;omega
  refine wpList_plain hg fun K hK=>?_
  unfold Oper.wp;have hrun:(execOp a.eval o).run P w=.ok .skip (w.setRow g Gq):=by
   simp only[execOp,hop,hv];simp[hst,Gq]
  rw[hrun,Oper.upon_skip,hd];refine hK _ _ (h κ Θ _ _ (hs.Nq [id] rfl rfl rfl (by simp) hsame (fun _ _ _=>rfl) (fun b hb'=>by simpa using hs.own b hb') hs.mine (fun _ _ h=>h) (fun j hj=>hs.nB j (by simpa using hj)) hs.mY (fun j z hj=>?_)));rcases wL j z hj with⟨rfl,rfl⟩|⟨DM,hz⟩
  ·right;right
   refine⟨⟨a0M,V3,_,g::ns',hk,?_,?_,fun b hb'=>?_⟩,rfl⟩
   ·have:=Rd.sl (w:=w.setRow g Gq) g o0 Ui sz (rows.set i (r.take off++ds++r.drop (off+ds.length))) _ ns' (by simpa using hb) (by rw[hl4];exact hcap) E5 a0M hcell (by rw[hfs];exact q1);rw[hl4]at this;exact this
   ·simp only[di];exact⟨fun hin=>hnd.1 (q2 g hin),q3 hnd.2⟩
   ·rcases bA.1 hb' with rfl|hin
    ·exact⟨hgT,⟨_,Tb,setRow_heap w b cur _ Tb _ UG⟩⟩
    ·have hm:=Br b (by simp[q2 b hin]);refine⟨hm.1,?_⟩;obtain⟨xs,T',hxs⟩:=hm.2;exact⟨xs,T',(hw' b (fun e=>hnd.1 (e▸q2 b hin))).trans hxs⟩
  ·exact .inr (.inl ⟨by simpa using DM,hz⟩)
end
end Go.Cx
namespace Go.Cx
open Go.RowKit
def W8(P:Program)(f:FuncId)(ds:aK)(e sz:Nat)(rows dh:List aK):Prop:=
 (∃fn,P.funcs[f]?=some fn/\fn.body.isSome=true/\(fn.name== "runtime.NumGoroutine")=false)/\
 ∀(w:World) (κ:Nat->Option Value) (args:bW) (v:Value) (cs:bW),Io w (fun b=>v.ownBlock=some b)->args.length=ds.length->(∀(i:Nat) d,ds[i]?=some d->∃u,args[i]?=some u/\oq w κ u d [])->
  κ 0=some v->(∀i,1<=i->κ i=none)->v.oneCell'=true->0<sz->(∀r∈rows,r.length=sz)->w.ownsRow 0 e sz v rows.length cs->jx w cs rows.flatten []->
  Calls P f args.toArray w (fun x w'=>∃v' cs',x=.returned v'/\v'.oneCell'=true/\(∀r∈dh,r.length=sz)/\w'.ownsRow 0 e sz v' dh.length cs'/\jx w' cs' dh.flatten []/\(∀g,v'.ownBlock=some g->w.heap.size<=g\/v.ownBlock=some g)/\
   w'.os=w.os/\w'.tape=w.tape/\w'.output=w.output/\w.heap.size<=w'.heap.size/\∀b,b<w.heap.size->v.ownBlock≠some b->w'.heap[b]?=w.heap[b]?)
section
variable{P:Program}{Γ:sQ}{Q:Exit->St->Prop}{st:St}{κ κ':Nat->Option Value}{Θ Θ':Nat->Nat}{a:Act}{w w':World}{all:Array Oper}{rest:List Oper}
theorem Qy{o:Oper}{f t id:Nat}{xs:Array Operand}{ts:Array TypeId}{e sz:Nat}{rows dh:List aK}(hop:o.op=.call {callee:=.value (.func f),args:=xs,argTypes:=ts})(hd:o.dst=some t)(hg:o.guard=none)
 (ht:t<Γ.nt) (hH:st.H[id]?=some (.row .uq e sz rows)) (hfl:rows.flatten.all D.flat=true) (hb:((xs.toList.map st.ev).all D.bare)=true) (kq:W8 P f ((xs.toList.map st.ev).map (D.P9 [id])) e sz rows dh)
 (h:AO P Γ all rest Q ⟨(t,.acc st.H.length)::st.σ,kill st.H [id]++[.row .uq e sz dh]⟩):AO P Γ all (o::rest) Q st:=by
 intro κ Θ a w hs;obtain⟨hsz,hrl,v,cs,bs,hk,hown,hrd,Bv,_⟩:=hs.ob id _ hH;have Br:=hrd.flat hfl;subst Br;have Pr:id<st.H.length:=(aC.1 hH).1;let κc:Nat->Option Value:=fun j=>if j=0 then some v else none
 have NR:Io w fun b=>v.ownBlock=some b:=by
  obtain⟨B,v1,v2⟩:=hs.Ze;refine⟨B,v1,fun b hB=>⟨(v2 b hB).2.1,fun hb'=>?_⟩⟩;have e1:=Bv b hb';rcases hs.mine b (by omega)with q|q
  ·have:=(v2 b hB).1;omega
  ·exact(v2 b hB).2.2 q
 have hargs:∀(i:Nat) d,((xs.toList.map st.ev).map (D.P9 [id]))[i]?=some d->∃u,(xs.toList.map a.eval)[i]?=some u/\oq w κc u d []:=by
  intro i d EC;rw[bU,bU]at EC;cases hx:xs.toList[i]? with
  |none=>rw[hx]at EC;cases EC
  |some x=>
   rw[hx]at EC;simp only[cF,af]at EC;subst EC;refine⟨a.eval x,by rw[bU,hx];rfl,?_⟩;obtain⟨bs,r,hz⟩:=hs.ev x;have Rh:(st.ev x).bare=true:=aj.1 hb _ (cH.2 ⟨x,aE hx,rfl⟩);obtain⟨b',r',_⟩:=oq.rn (o:=[id]) (κ':=κc) (Θ:=fun _=>0) (Θ':=fun _=>0) (fun i j u h1 h2=>by
    have h3:=Kl h1;cases j with
    |zero=>simp at h3;subst h3;rw[hk]at h2;simpa[κc]using h2
    |succ j=>simp at h3) (fun _ _=>rfl) r (fun _ _=>rfl)
   have:=r'.OR (D.OS [id] Rh);subst this;exact r'
 have hc:=kq.2 w κc (xs.toList.map a.eval) v cs NR (by simp) hargs (by simp[κc]) (fun i hi=>by simp only[κc];rw[av (by omega)]) (hs.mY id v hk) hsz hrl hown hrd;refine wpList_plain hg fun K hK=>?_
 unfold Oper.wp;rw[tg hop kq.1,Oper.upon_enter];have e0:xs.map a.eval=(xs.toList.map a.eval).toArray:=by rw[<-fy,j8]
 rw[e0];refine hc.mono ?_;rintro x w' ⟨v',cs',rfl,hone,Gz,Et,Hz,Uu,h1,h2,h3,h4,Hu⟩;show K (a.put o.dst v') w';rw[hd];let n:=st.H.length
 let Θ':Nat->Nat:=fun b=>if some b=v'.ownBlock then n+2 else Θ b
 have UK:∀g,v'.ownBlock=some g->Θ g=id+2\/w.heap.size<=g:=by
  intro g Pq;rcases Uu g Pq with h|h
  ·exact .inr h
  ·exact .inl (Bv g h)
 have k:gi w w' Θ Θ' (id+2):=by
  refine⟨by omega,h1,h2,h3,h4,fun b hb hne=>Hu b hb (fun e=>hne (Bv b e)),fun b hb hne=>?_,fun b hb=>?_⟩
  ·simp only[Θ'];rw[av];intro e;rcases UK b e.symm with h|h
   ·exact hne h
   ·omega
  ·simp only[Θ']at hb;split at hb
   ·rename_i e;exact(Et.lt b e.symm).2
   ·exact cw (hs.own b hb) h4
 have hm:∀b,2<=Θ' b->wB Γ b:=by
  intro b hb;simp only[Θ']at hb;split at hb
  ·rename_i e;rcases UK b e.symm with h|h
   ·exact hs.mine b (by omega)
   ·exact .inl (dA hs.base h)
  ·exact hs.mine b hb
 have hn:=ug (hs.nB n (bJ _)) (some v');obtain⟨ρ,hu⟩:=hs.qf;have qR:=hs.lf k hn hu;have key:∀(j:Nat) y,(kill st.H [id]++[.row .uq e sz dh])[j]?=some y->(j=n/\y=.row .uq e sz dh)\/(j≠n/\(y=.gone\/(j∉[id]/\st.H[j]?=some y))):=by
  intro j y hj;rcases zD j y hj with⟨h1,h2⟩|⟨h1,h2⟩
  ·rw[ey]at h1;exact .inl ⟨h1,h2⟩
  ·rw[ey]at h1;exact .inr ⟨h1,ld h2⟩
 have hs':dM Γ ⟨st.σ,kill st.H [id]++[.row .uq e sz dh]⟩ (vL κ n (some v')) Θ' a w':=by
  refine hs.step k hm hn ?_ ?_ ?_ ⟨ρ,qR.1,fun j e' sz' fN hj=>?_,fun j y hj=>?_⟩
  ·intro i hi;simp only[b8,aQ,bS,ey]at hi;unfold vL;rw[av (by omega)];exact hs.nB i (by omega)
  ·intro i y hy;unfold vL at hy;split at hy
   ·cases hy;exact hone
   ·exact hs.mY i y hy
  ·intro j y hj;rcases key j y hj with⟨rfl,rfl⟩|⟨_,hy|⟨hjk,hy⟩⟩
   ·exact .inr (.inr ⟨hsz,Gz,v',cs',[],ji _ _ _,Et,Hz,fun g Pq=>by simp only[Θ'];rw[bE Pq.symm],by simp⟩)
   ·exact .inl hy
   ·exact .inr (.inl ⟨fun e=>hjk (by simp;omega),hy⟩)
  ·rcases key j _ hj with⟨rfl,hy⟩|⟨_,hy|⟨hjk,hy⟩⟩
   ·simp only[Ob.row.injEq,pN]at hy;obtain⟨rfl,rfl,rfl⟩:=hy;exact⟨v',cs',[],ji _ _ _,Et,Hz,by simp,by simp⟩
   ·cases hy
   ·exact qR.2.1 j e' sz' fN (fun e=>hjk (by simp;omega)) hy
  ·rcases key j _ hj with⟨rfl,hy⟩|⟨_,hy|⟨hjk,hy⟩⟩
   ·subst hy;exact Gl.vb rfl
   ·subst hy;trivial
   ·exact qR.2.2 j y (fun e=>hjk (by simp;omega)) hy
 refine hK _ _ (h _ _ _ _ (hs'.set (t:=t) (d:=.acc n) (bs:=[]) ht ?_ (by simp)));exact(wO.acc n _ (ji _ _ _)).LA
end
end Go.Cx
namespace Go.Cx
open Go.RowKit
def kD(P:Program)(f:FuncId)(cells cells':aK)(ds:aK)(d:D):Prop:=
 (∃fn,P.funcs[f]?=some fn/\fn.body.isSome=true/\(fn.name== "runtime.NumGoroutine")=false)/\
 ∀(w:World) (Θ:Nat->Nat) (g:Nat) (cs:Array Value) (T:TypeId) (args:bW) (bs ts us:aP),
  Io w (fun b=>b=g\/b∈ts)->w.heap[g]?=some (.cells cs T (0,0))->xk w (.agg cs::args) (.agg cells::ds) bs ts us->
  (∀b∈bs,Θ b=0)->(∀b,Θ b≠0->b<w.heap.size)->(∀b,Θ b<=1)->Θ g=1->(∀b∈ts,Θ b=1/\b∈us/\b≠g)->us.Nodup->(∀b∈us,(b∉ts->Θ b=0)/\Wr w b)->
  Calls P f (.pointer (some ⟨g,0,none⟩)::args).toArray w (fun e w'=>∃v cs' T' b2 t2 u2 b3 t3 u3,e=.returned v/\w'.os=w.os/\w'.tape=w.tape/\w'.output=w.output/\w.heap.size<=w'.heap.size/\
   (∀b,b<w.heap.size->b≠g->b∉ts->w'.heap[b]?=w.heap[b]?)/\w'.heap[g]?=some (.cells cs' T' (0,0))/\
   yH w' v d b2 t2 u2/\qk w' cs'.toList cells' b3 t3 u3/\(∀b∈b3++b2,(b<w.heap.size->Θ b=0\/b∈ts)/\b≠g/\b∉t3++t2)/\(u3++u2).Nodup/\
   (∀b∈u3++u2,(w.heap.size<=b\/b∈us)/\b≠g/\Wr w' b)/\∀b∈t3++t2,b∈u3++u2/\(w.heap.size<=b\/b∈ts))
section
variable{P:Program}{Γ:sQ}{Q:Exit->St->Prop}{st:St}{κ κ':Nat->Option Value}{Θ Θ':Nat->Nat}{a:Act}{w w':World}{all:Array Oper}{rest:List Oper}
theorem CT.RE{cs:Array Value}{ds:aK}{bs ts us:aP}(h:CT w (.agg cs) (.agg ds) bs ts us):qk w cs.toList ds bs ts us:=by
 generalize hv:Value.agg cs=v at h;cases h with
 |cell h=>
  cases h with
  |pure h=>
   cases h with
   |agg l _ _ h=>cases hv;simpa using qk.AN h
 |agg l _ _ _ _ h=>cases hv;simpa using h
theorem HS.RE{cs:Array Value}{ds:aK}{bs:aP}(h:HS w κ (.agg cs) (.agg ds) bs):eZ w κ cs.toList ds bs:=by
 generalize hv:Value.agg cs=v at h;cases h with
 |cell h=>
  cases h with
  |pure h=>
   cases h with
   |agg l _ _ h=>cases hv;simpa using eZ.AN h
 |agg l _ _ h=>cases hv;simpa using h
theorem CS.shown{v:Value}{d:D}{bs ts us:aP}(h:CS w v d bs ts us):∃b,Rd w v d.UN b:=by
 cases h with
 |pure h=>
  have e:d.UN=d:=by cases h<;>rfl
  exact⟨_,e.symm▸h⟩
 |fr e sz rows cs ns h1 h2 h3 h4 h5=>exact⟨_,uQ h2 h3 h4⟩
theorem qk.shown{vs:bW}{ds:aK}{bs ts us:aP}(h:qk w vs ds bs ts us):∃b,jx w vs (ds.map D.UN) b:=by
 induction h with
 |nil=>exact⟨_,.nil⟩
 |cons v vs d ds b1 b2 t1 t2 u1 u2 h1 h2 _ ih=>
  obtain⟨b,q⟩:=h2.shown;obtain⟨b',q'⟩:=ih;exact⟨_,.cons _ _ _ _ _ _ h1 q q'⟩
theorem CT.shown{v:Value}{d:D}{bs ts us:aP}(h:CT w v d bs ts us):kj d.UO:=by
 cases h with
 |cell h=>
  by_cases qe:∃ds,d=.agg ds
  ·obtain⟨ds,rfl⟩:=qe;cases h with
   |pure h=>cases h with
    |agg cs _ _ h=>
     obtain⟨b,q⟩:=(qk.AN h).shown;exact⟨w,_,_,.agg _ _ _ q⟩
  ·have e:d.UO=d.UN:=by cases d<;>first|rfl|exact absurd ⟨_,rfl⟩ qe
   rw[e];obtain⟨b,q⟩:=h.shown;exact⟨w,_,_,q⟩
 |agg cs ds bs ts us h=>
  obtain⟨b,q⟩:=h.shown;exact⟨w,_,_,.agg _ _ _ q⟩
theorem xk.shown{vs:bW}{ds:aK}{bs ts us:aP}(h:xk w vs ds bs ts us):∀d∈ds.map D.UO,kj d:=by
 induction h with
 |nil=>intro d hd;cases hd
 |cons v vs d ds b1 b2 t1 t2 u1 u2 h2 _ ih=>
  intro x hx;rcases bA.1 hx with rfl|hx
  ·exact h2.shown
  ·exact ih x hx
def Gg(L:lR)(b:Nat):Option Nat:=ix (fun x:Fs=>x.v.ownBlock==some b) L
def qT(L:lR)(b:Nat):Option Nat:=ix (fun x:Fs=>x.ns.contains b) L
theorem FJ{L:lR}(hnd:(L.flatMap Fs.bl).Nodup){i:Nat}{x:Fs}{b:Nat}(hi:L[i]?=some x)(hb:x.v.ownBlock=some b):Gg L b=some i:=
 Bx hi (by simp[hb]) (fun j y hj hy=>by
  simp only[cO]at hy;exact tD hnd j i y x b hj hi (by simp[Fs.bl,hy]) (by simp[Fs.bl,hb]))
theorem O3{L:lR}{b i:Nat}(h:Gg L b=some i):b∈L.flatMap Fs.ts:=by
 obtain⟨x,hx,hp⟩:=wI h;exact bZ.2 ⟨x,aE hx,by simp only[cO]at hp;simp[Fs.ts,hp]⟩
theorem uS{L:lR}{b:Nat}(h:b∉L.flatMap Fs.ts):Gg L b=none:=by
 cases hb:Gg L b with
 |none=>rfl
 |some i=>exact absurd (O3 hb) h
theorem zT{L:lR}(hnd:(L.flatMap Fs.bl).Nodup){i:Nat}{x:Fs}{b:Nat}(hi:L[i]?=some x)(hb:b∈x.ns):qT L b=some i:=
 Bx hi (by simpa using hb) (fun j y hj hy=>tD hnd j i y x b hj hi (by simp only[Fs.bl];exact aV.2 (.inr (by simpa using hy))) (by simp only[Fs.bl];exact aV.2 (.inr hb)))
theorem rF{L:lR}{b i:Nat}(h:qT L b=some i):∃x,L[i]?=some x/\b∈x.ns:=by
 obtain⟨x,hx,hp⟩:=wI h;exact⟨x,hx,by simpa using hp⟩
theorem B9{L:lR}{b:Nat}(h:b∈L.flatMap Fs.ts):b∈L.flatMap Fs.bl:=by
 obtain⟨x,hx,yZ⟩:=bZ.1 h;exact bZ.2 ⟨x,hx,by simp only[Fs.bl,Fs.ts]at yZ⊢;exact aV.2 (.inl yZ)⟩
theorem pO{L:lR}{i b:Nat}{x:Fs}(h:L[i]?=some x)(hb:b∈x.ns):b∈L.flatMap Fs.bl:=
 bZ.2 ⟨x,aE h,by simp only[Fs.bl];exact aV.2 (.inr hb)⟩
theorem Le{L:lR}(hnd:(L.flatMap Fs.bl).Nodup):∀x∈L,x.bl.Nodup:=by
 induction L with
 |nil=>intro x hx;cases hx
 |cons z r ih=>
  intro x hx;simp only[eV]at hnd;obtain⟨n1,n2,_⟩:=bB.1 hnd;rcases bA.1 hx with rfl|hx
  ·exact n1
  ·exact ih n2 x hx
theorem zy{L:lR}(hnd:(L.flatMap Fs.bl).Nodup){i b:Nat}{x:Fs}(h:L[i]?=some x)(hb:b∈x.ns):b∉L.flatMap Fs.ts:=by
 intro ht;obtain⟨y,hy,hby⟩:=bZ.1 ht;obtain⟨j,hj⟩:=dB hy;have:=tD hnd j i y x b hj h (by simp only[Fs.bl,Fs.ts]at hby⊢;exact aV.2 (.inl hby)) (by simp only[Fs.bl];exact aV.2 (.inr hb));subst this;rw[hj]at h;cases h;have G3:=Le hnd x hy;simp only[Fs.bl]at G3;exact(bB.1 G3).2.2 b hby b hb rfl
theorem F8{L:lR}(hnd:(L.flatMap Fs.bl).Nodup){i:Nat}{x:Fs}(h:L[i]?=some x):x.ns.Nodup:=by
 have:=Le hnd x (aE h);simp only[Fs.bl]at this;exact(bB.1 this).2.1
def RA(P:Program)(fn:Func)(v0:Value)(cells':aK)(d:D)(e:Exit)(st:St):Prop:=
 (e=.ret\/e=.normal)/\∃nz WI Jz es ms qs,DP P st fn.results.toList=some WI/\st.H[0]?=some (.DA Jz v0)/\
  xR st.H nz (.agg Jz::WI)=some (.agg cells'::es,ms,qs)/\ms.Nodup/\qs.Nodup/\GY es=d
theorem RA.out{fn:Func}{v0:Value}{cells':aK}{d:D}{e:Exit}{a':Act}{w':World}{Mp:St}{κ0:Nat->Option Value}{Θ0:Nat->Nat}(hs0:dM Γ Mp κ0 Θ0 a' w')(Y0:RA P fn v0 cells' d e Mp):
 (e=.ret\/e=.normal)/\a'.defers=[]/\OJ Γ w'/\∃v g cs' T b2 t2 u2 b3 t3 u3,(results fn a'.tmps).run P w'=.ok v w'/\v0=.pointer (some ⟨g,0,none⟩)/\w'.heap[g]?=some (.cells cs' T (0,0))/\
  yH w' v d b2 t2 u2/\qk w' cs'.toList cells' b3 t3 u3/\(∀b∈b3++b2,(b<Γ.W0.heap.size->¬Γ.X b->Γ.Θ0 b=0)/\b≠g/\b∉t3++t2)/\(u3++u2).Nodup/\
  (∀b∈u3++u2,OF Γ b/\b≠g/\Wr w' b)/\∀b∈t3++t2,b∈u3++u2/\wB Γ b:=by
 obtain⟨Bu,nz,WI,Jz,es,ms,qs,hres,Zv,WS,Iu,Gx,rfl⟩:=Y0;obtain⟨ρ0,Y3⟩:=hs0.qf;have zx:=vE WS;obtain⟨Θ1,ρ1,hs1,hu1,hm1,KG,Qm⟩:=dM.F3 ms hs0 Y3 Iu (fun m hm=>by
  obtain⟨e,sz,rows,hH⟩:=zx.1 m hm;exact⟨_,e,sz,rows,hH,rfl⟩)
 obtain⟨vs,bs',m1,m2,m3,m4,m5⟩:=CK hs0 hres;have hq:∀m e sz rows,Mp.H[m]?=some (.row .uq e sz rows)->∃v cs ns,κ0 m=some v/\0<sz/\(∀r∈rows,r.length=sz)/\w'.ownsRow 0 e sz v rows.length cs/\jx w' cs rows.flatten ns/\ns.Nodup/\(∀b∈ns,ρ1 b=m+1)/\∀g,v.ownBlock=some g->Θ1 g=m+2:=by
  intro m e sz rows hH;have hnm:m∉ms:=fun hm=>by
   obtain⟨e',sz',dh,CJ⟩:=zx.1 m hm;rw[hH]at CJ;cases CJ
  have K7:(kill Mp.H ms)[m]?=some (.row .uq e sz rows):=by rw[fo hnm];exact hH
  obtain⟨v,cs,ns,r1,r2,r3,r4,r5⟩:=hu1.rows m e sz rows K7;obtain⟨p1,p2,v2,_,_,p3,_,_,p4,_⟩:=hs1.ob m _ K7;rw[r1]at p3;cases p3;exact⟨v,cs,ns,r1,p1,p2,r2,r3,r4,r5,p4⟩
 have h0m:0∉ms:=fun hm=>by
  obtain⟨e',sz',dh,CJ⟩:=zx.1 0 hm;rw[Zv]at CJ;cases CJ
 have h0q:0∉qs:=fun hm=>by
  obtain⟨e',sz',dh,CJ⟩:=zx.2 0 hm;rw[Zv]at CJ;cases CJ
 obtain⟨hv0,g,cs',T,hk0,hg,KJ,bb,Xj,hbz⟩:=hs1.ob 0 _ (show(kill Mp.H ms)[0]?=_ by rw[fo h0m];exact Zv);have e0:v0=.pointer (some ⟨g,0,none⟩):=by rw[hv0]at hk0;cases hk0;rfl
 have KJ:Θ1 g=2:=KJ;obtain⟨c,tt,uu,Bt,xe⟩:=zF (w:=w') (vs:=.agg cs'::vs) (fun b hb=>(hu1.free b hb).1) hq hs0.mY WS Gx (by simp;omega) (fun i d hd=>by
  cases i with
  |zero=>
   simp at hd;subst hd;have:=HS.agg _ _ _ Xj;exact⟨_,bb,rfl,.v (by simpa using this),hbz⟩
  |succ i=>
   obtain⟨v,b,k1,k2,k3⟩:=m4 i d (by simpa using hd);exact⟨v,b,by simpa using k1,k2,fun x hx=>KG x (m5 x (k3 x hx))⟩) hm1
 cases Bt with
 |cons _ _ _ _ b3 b2 t3 t2 u3 u2 Uv sH=>
 have KB:∃v,(results fn a'.tmps).run P w'=.ok v w'/\yH w' v (GY es) b2 t2 u2:=by
  have hrun:(results fn a'.tmps).run P w'=.ok (if h:vs.toArray.size=1 then vs.toArray[0]else .tuple vs.toArray) w':=by
   rw[results_eq,n9];simp[m1]
  cases sH with
  |nil=>exact⟨.tuple #[],by simpa using hrun,.iQ [] [] [] [] [] .nil⟩
  |cons v vs d es b1 b2 t1 t2 u1 u2 hv sH=>
   cases sH with
   |nil=>
    simp only[eR];exact⟨v,by simpa using hrun,.v hv⟩
   |cons v2 vs d2 es b3 b4 t3 t4 u3 u4 JN sH=>exact⟨.tuple (v::v2::vs).toArray,by simpa using hrun,.iQ _ _ _ _ _ (.cons _ _ _ _ _ _ _ _ _ _ hv (.cons _ _ _ _ _ _ _ _ _ _ JN sH))⟩
 obtain⟨v,S0,M3⟩:=KB;have Bv:∀b∈t3++t2,Wr w' b:=by
  intro b hb;rcases aV.1 hb with hb|hb
  ·exact HU Uv b hb
  ·exact HT M3 b hb
 refine⟨Bu,hs0.defers,hs0.stays,v,g,cs',T,b2,t2,u2,b3,t3,u3,S0,e0,hg,M3,Uv.RE,fun b hb=>⟨fun hlt hx=>?_,fun e=>?_,fun ht=>?_⟩,xe.nd,fun b hb=>?_,fun b hb=>?_⟩
 ·have:=xe.zero b hb;rw[<-(hs1.old b hlt hx).1];exact this
 ·have:=xe.zero b hb;subst e;omega
 ·obtain⟨⟨m,_,hΘ⟩,_⟩:=xe.top b ht;have:=xe.zero b hb;omega
 ·rcases xe.mem b hb with h|⟨m,hm,hρ⟩
  ·obtain⟨⟨m,hm,hΘ⟩,_⟩:=xe.top b h;refine⟨.inl (hs1.mine b (by omega)),fun e=>?_,Bv b h⟩;subst e;rw[KJ]at hΘ;have:m=0:=by omega
   subst this;exact h0q hm
  ·have:=hu1.free b (by omega);refine⟨this.2.1,fun e=>?_,this.2.2⟩;have h0:=this.1;subst e;omega
 ·obtain⟨⟨m,hm,hΘ⟩,h2⟩:=xe.top b hb;exact⟨h2,hs1.mine b (by omega)⟩
theorem zQ.len{vs:bW}{ds:aK}{bs:aP}(h:zQ w κ vs ds bs):vs.length=ds.length:=by
 induction h with
 |nil=>rfl
 |cons v vs d ds b1 b2 h1 _ ih=>simp[ih]
theorem kD.of{f:FuncId}{fn:Func}{c:Code}{cells cells' BB ds LI:aK}{obs:bL}{d:D}(hf:P.funcs[f]?=some fn)(hb:fn.body=some c)(hn:(fn.name== "runtime.NumGoroutine")=false)
 (hI:yS 1 (.agg cells::ds)=(.agg BB::LI,obs)) (hl:LI.length+1<=fn.ntmps)
 (h:(∀x∈(D.agg cells::ds).map D.UO,kj x)->∀(v0:Value) (Γ:sQ),Γ.nt=fn.ntmps->AW P Γ c (RA P fn v0 cells' d) ⟨wi 0 (.ptr 0 0::LI),.DA BB v0::obs⟩):kD P f cells cells' ds d:=by
 refine⟨⟨fn,hf,by simp[hb],hn⟩,?_⟩;intro w Θ g cs T args bs ts us hvs hg hargs hz hown h1 hg1 hts hnd qR;have NQ:=hargs.shown;obtain⟨L,q1,q2,rfl,rfl,q5⟩:=hargs.inst 1;rw[hI]at q1 q5;have q1:L.map Fs.ob=obs:=q1;refine calls_of_wp hf hb ?_;let v0:Value:=.pointer (some ⟨g,0,none⟩)
 let κ0:Nat->Option Value:=fun i=>if i=0 then some v0 else(L[i-1]?).map Fs.v
 let Θ0:Nat->Nat:=fun b=>if b=g then 2 else match Gg L b with|some i=>i+3|none=>Θ b
 let ρ0:Nat->Nat:=fun b=>match qT L b with|some i=>i+2|none=>0
 let Γ:sQ:=⟨w,Θ0,fun b=>b=g\/b∈L.flatMap Fs.ts,fn.ntmps,fun b=>b∈L.flatMap Fs.bl,hvs⟩
 have hgl:g<w.heap.size:=(az.1 hg).1;have hk0:κ0 0=some v0:=rfl;have Xq:∀i x,L[i]?=some x->κ0 (i+1)=some x.v:=fun i x hx=>by simp[κ0,hx]
 have hnm:Names κ0 1 L:=fun i x hx=>by rw[Nat.add_comm];exact Xq i x hx
 have hrd:=q5 κ0 hnm;have hlen:=hrd.len;have WT:∀(i:Nat) x b,L[i]?=some x->x.v.ownBlock=some b->b∈L.flatMap Fs.ts:=fun i x b hx hb'=>bZ.2 ⟨x,aE hx,by simp[Fs.ts,hb']⟩
 have NS:∀(i:Nat) x b,L[i]?=some x->x.v.ownBlock=some b->Θ0 b=i+3:=by
  intro i x b hx hb';have:=(hts b (WT i x b hx hb')).2.2;simp only[Θ0,FJ hnd hx hb'];rw[av this]
 have Pt:∀b,Θ b=0->Θ0 b=0:=by
  intro b h0;have e1:b≠g:=fun e=>by subst e;omega
  have e2:b∉L.flatMap Fs.ts:=fun e=>by have:=(hts b e).1;omega
  simp only[Θ0,uS e2];rw[av e1,h0]
 have Rx:∀(i:Nat) x b,L[i]?=some x->b∈x.ns->Θ0 b=0:=fun i x b hx hb'=>Pt b ((qR b (pO hx hb')).1 (zy hnd hx hb'))
 have xN:∀b,Θ0 b≠Θ b->b=g\/b∈L.flatMap Fs.ts:=by
  intro b hne;by_cases e:b=g
  ·exact .inl e
  ·refine .inr (cr fun ht=>hne ?_);simp only[Θ0,uS ht];rw[av e]
 have NJ:∀(j:Nat) o,obs[j]?=some o->∃x,L[j]?=some x/\o=x.ob:=by
  intro j o hj;rw[<-q1,bU]at hj;cases hx:L[j]? with
  |none=>simp[hx]at hj
  |some x=>simp[hx]at hj;exact⟨x,rfl,hj.symm⟩
 have Xw:obs.length=L.length:=by rw[<-q1];simp
 have Uv:∃b',eZ w κ0 cs.toList BB b'/\∀b∈b',Θ0 b=0:=by
  obtain⟨v,b',k1,k2,k3⟩:=hrd.at (i:=0) (d:=.agg BB) rfl;simp at k1;subst k1;exact⟨b',k2.RE,fun b hb'=>Pt b (hz b (k3 b hb'))⟩
 have hs:dM Γ ⟨wi 0 (.ptr 0 0::LI),.DA BB v0::obs⟩ κ0 Θ0 {tmps:=(v0::args).toArray++Array.replicate (fn.ntmps-(v0::args).toArray.size) undef,defers:=[]} w:=by
  refine⟨rfl,?_,fun i hi=>?_,?_,?_,?_,?_,?_,?_,⟨rfl,rfl,rfl,bJ _,fun _ _ _=>rfl⟩,⟨ρ0,?_,?_,?_⟩⟩
  ·simp only[aQ]at hlen;simp[Γ];omega
  ·simp only[aQ]at hi;simp only[κ0];rw[av (by omega),cB (by omega)];rfl
  ·intro id u hu;simp only[κ0]at hu;split at hu
   ·cases hu;rfl
   ·cases hx:L[id-1]? with
    |none=>simp[hx]at hu
    |some x=>simp[hx]at hu;subst hu;exact(q2 x (aE hx)).2.2.2.2
  ·intro t;rw[F0];simp only[vM,yf,wA];have Om:∀v,(v0::args)[t]?=some v->((v0::args).toArray++Array.replicate (fn.ntmps-(v0::args).toArray.size) undef).getD t undef=v:=by
    intro v hv;have hlt:=(aC.1 hv).1;rw[bu,fE (by simpa using hlt)];simp only[iM,hv,rD]
   cases t with
   |zero=>
    refine⟨[],?_,by simp⟩;rw[Om v0 rfl];exact .v (.cell (.ptr 0 0 g hk0))
   |succ s=>
    rw[fF];cases hd:LI[s]? with
    |none=>exact⟨[],.of (.any _),by simp⟩
    |some x=>
     obtain⟨v,b',k1,k2,k3⟩:=hrd.at (i:=s+1) (d:=x) (by simpa using hd);rw[Om v (by simpa using k1)];exact⟨b',.v k2,fun b hb'=>Pt b (hz b (k3 b hb'))⟩
  ·intro j o hj;cases j with
   |zero=>
    simp at hj;subst hj;obtain⟨b',k1,k2⟩:=Uv;exact⟨hk0,g,cs,T,hk0,hg,by simp[Θ0],b',k1,k2⟩
   |succ j=>
    obtain⟨x,hx,rfl⟩:=NJ j o (by simpa using hj);obtain⟨p1,p2,p3,p4,_⟩:=q2 x (aE hx);exact⟨p1,p2,x.v,x.cs,x.ns,Xq j x hx,p3,p4,fun b hb'=>NS j x b hx hb',fun b hb'=>Rx j x b hx hb'⟩
  ·intro b hb';by_cases e:Θ0 b=Θ b
   ·exact hown b (by rw[<-e];exact hb')
   ·rcases xN b e with rfl|ht
    ·exact hgl
    ·exact hown b (by have:=(hts b ht).1;omega)
  ·intro b hlt hx;refine⟨rfl,?_⟩;have e:Θ0 b=Θ b:=cr fun e=>hx (xN b e)
   rw[e];exact h1 b
  ·intro b hb';refine .inr (xN b fun e=>?_);have:=h1 b;omega
  ·intro b hb';cases Qk:qT L b with
   |none=>simp[ρ0,Qk]at hb'
   |some i=>
    obtain⟨x,hx,yZ⟩:=rF Qk;exact⟨Rx i x b hx yZ,.inr (pO hx yZ),(qR b (pO hx yZ)).2⟩
  ·intro id e sz rows hj;cases id with
   |zero=>simp at hj
   |succ j=>
    obtain⟨x,hx,NL⟩:=NJ j _ (by simpa using hj);simp only[Fs.ob,Ob.row.injEq,pN]at NL;obtain⟨rfl,rfl,rfl⟩:=NL;obtain⟨p1,p2,p3,p4,_⟩:=q2 x (aE hx);exact⟨x.v,x.cs,x.ns,Xq j x hx,p3,p4,F8 hnd hx,fun b hb'=>by simp[ρ0,zT hnd hx hb']⟩
  ·intro id o hj;cases id with
   |zero=>simp at hj;subst hj;trivial
   |succ j=>
    obtain⟨x,hx,NL⟩:=NJ j _ (by simpa using hj);subst NL;exact Gl.vb rfl
 refine wp_mono (h NQ v0 Γ rfl _ _ _ _ hs) ?_;rintro x a' w' ⟨Mp,κ1,Θ1,hs0,Y0⟩;obtain⟨Bu,hdf,hst,v,g',cs',T',b2,t2,u2,b3,t3,u3,hrun,e0,hg',hres,a2w,a2q,D9,tj,ht'⟩:=RA.out hs0 Y0;obtain rfl:g=g':=by
  have e1:Value.pointer (some ⟨g,0,none⟩)=.pointer (some ⟨g',0,none⟩):=e0;cases e1;rfl
 have post:a'.defers=[]/\∃v',(results fn a'.tmps).run P w'=.ok v' w'/\∃v cs' T' b2 t2 u2 b3 t3 u3,Ending.returned v'=.returned v/\w'.os=w.os/\w'.tape=w.tape/\w'.output=w.output/\w.heap.size<=w'.heap.size/\
  (∀b,b<w.heap.size->b≠g->b∉L.flatMap Fs.ts->w'.heap[b]?=w.heap[b]?)/\w'.heap[g]?=some (.cells cs' T' (0,0))/\
  yH w' v d b2 t2 u2/\qk w' cs'.toList cells' b3 t3 u3/\(∀b∈b3++b2,(b<w.heap.size->Θ b=0\/b∈L.flatMap Fs.ts)/\b≠g/\b∉t3++t2)/\(u3++u2).Nodup/\
  (∀b∈u3++u2,(w.heap.size<=b\/b∈L.flatMap Fs.bl)/\b≠g/\Wr w' b)/\∀b∈t3++t2,b∈u3++u2/\(w.heap.size<=b\/b∈L.flatMap Fs.ts):=by
  refine⟨hdf,v,hrun,v,cs',T',b2,t2,u2,b3,t3,u3,rfl,hst.os,hst.tape,hst.output,hst.size,fun b hlt hne hnt=>hst.block b hlt (fun hx=>hx.elim hne hnt),hg',hres,a2w,fun b hb'=>?_,D9,fun b hb'=>?_,fun b hb'=>?_⟩
  ·obtain⟨k1,k2,k3⟩:=a2q b hb';refine⟨fun hlt=>?_,k2,k3⟩;by_cases ht:b∈L.flatMap Fs.ts
   ·exact .inr ht
   ·refine .inl ?_;have:=k1 hlt (fun hx=>hx.elim k2 ht);have e:Θ0 b=Θ b:=cr fun e=>(xN b e).elim k2 ht
    rw[<-e];exact this
  ·obtain⟨k1,k2,k3⟩:=tj b hb';refine⟨?_,k2,k3⟩;rcases k1 with(k1|k1|k1)|k1
   ·exact .inl k1
   ·exact absurd k1 k2
   ·exact .inr (B9 k1)
   ·exact .inr k1
  ·obtain⟨k1,k2⟩:=ht' b hb';refine⟨k1,?_⟩;have:=(tj b k1).2.1;rcases k2 with k2|k2|k2
   ·exact .inl k2
   ·exact absurd k2 this
   ·exact .inr k2
 rcases Bu with rfl|rfl
 ·exact post
 ·exact post
theorem Qz{o:Oper}{f t id:Nat}{xs:Array Operand}{ty:Array TypeId}{x0:Operand}{xr:List Operand}{ob:Ob}{Ff cells cells' ds:aK}{d:D}{nz:List (List (Option (Nat×Nat)))}{ms qs:aP}
 (hop:o.op=.call {callee:=.value (.func f),args:=xs,argTypes:=ty}) (hd:o.dst=some t) (hg:o.guard=none) (ht:t<Γ.nt)
 (hxs:xs.toList=x0::xr) (hx0:st.ev x0=.ptr id 0) (hH:st.H[id]?=some ob) (yA:ob.Pg=some Ff)
 (Bu:xR st.H nz (.agg Ff::xr.map st.ev)=some (.agg cells::ds,ms,qs)) (Iu:ms.Nodup) (Gx:qs.Nodup) (kq:kD P f cells cells' ds d)
 (h:AO P Γ all rest Q ⟨(t,(lY (st.H.length+(kr st.H.length cells').2.length) d).1)::st.σ,
  (kill st.H (ms++qs)).set id (ob.re (kr st.H.length cells').1)++((kr st.H.length cells').2++(lY (st.H.length+(kr st.H.length cells').2.length) d).2)⟩):AO P Γ all (o::rest) Q st:=by
 intro κ Θ a w hs;have zx:=vE Bu;obtain⟨ρ,hu⟩:=hs.qf;obtain⟨Θ1,ρ1,hs1,hu1,hm1,KG,Qm⟩:=dM.F3 ms hs hu Iu (fun m hm=>by
  obtain⟨e,sz,rows,hH⟩:=zx.1 m hm;exact⟨_,e,sz,rows,hH,rfl⟩)
 have Pr:id<st.H.length:=(aC.1 hH).1;have hnr:∀k e sz rows,st.H[id]?≠some (.row k e sz rows):=fun k e sz rows e1=>by rw[hH]at e1;cases e1;cases yA
 have a3B:id∉ms:=fun hm=>by obtain⟨e',sz',dh,CJ⟩:=zx.1 id hm;exact hnr _ _ _ _ CJ
 have a3C:id∉qs:=fun hm=>by obtain⟨e',sz',dh,CJ⟩:=zx.2 id hm;exact hnr _ _ _ _ CJ
 have K7:(kill st.H ms)[id]?=some ob:=by rw[fo a3B];exact hH
 have a0F:=hs1.ob id _ K7;obtain⟨g,cs,T,hk0,UG,KJ,bb,Xj,hbz⟩:=a0F.cs yA;have hgl:g<w.heap.size:=(az.1 UG).1;have hq:∀m e sz rows,st.H[m]?=some (.row .uq e sz rows)->∃v cs ns,κ m=some v/\0<sz/\(∀r∈rows,r.length=sz)/\w.ownsRow 0 e sz v rows.length cs/\jx w cs rows.flatten ns/\ns.Nodup/\(∀b∈ns,ρ1 b=m+1)/\∀g,v.ownBlock=some g->Θ1 g=m+2:=by
  intro m e sz rows hH;have hnm:m∉ms:=fun hm=>by
   obtain⟨e',sz',dh,CJ⟩:=zx.1 m hm;rw[hH]at CJ;cases CJ
  have K7:(kill st.H ms)[m]?=some (.row .uq e sz rows):=by rw[fo hnm];exact hH
  obtain⟨v,cs,ns,r1,r2,r3,r4,r5⟩:=hu1.rows m e sz rows K7;obtain⟨p1,p2,v2,_,_,p3,_,_,p4,_⟩:=hs1.ob m _ K7;rw[r1]at p3;cases p3;exact⟨v,cs,ns,r1,p1,p2,r2,r3,r4,r5,p4⟩
 obtain⟨bs,ts,us,Bt,xe⟩:=zF (w:=w) (vs:=.agg cs::xr.map a.eval) (fun b hb=>(hu1.free b hb).1) hq hs.mY Bu Gx (by simp) (fun i d hd=>by
  cases i with
  |zero=>
   simp at hd;subst hd;have:=HS.agg _ _ _ Xj;exact⟨_,bb,rfl,.v (by simpa using this),hbz⟩
  |succ i=>
   rw[fF,bU]at hd;cases hx:xr[i]? with
   |none=>rw[hx]at hd;cases hd
   |some x=>
    rw[hx]at hd;simp only[cF,af]at hd;subst hd;obtain⟨b,r,z⟩:=hs.ev x;exact⟨a.eval x,b,by simp[hx],r,fun y hy=>KG y (z y hy)⟩) hm1
 let Θc:Nat->Nat:=fun b=>if Θ1 b=0 then 0 else 1
 have xN:∀b,Θc b=0↔Θ1 b=0:=fun b=>by simp only[Θc];split<;>simp_all
 have Eu:∀b∈ts,∃m∈qs,Θ1 b=m+2:=fun b hb=>(xe.top b hb).1
 have a3e:∀b∈ts,b≠g:=fun b hb e=>by
  obtain⟨m,hm,hΘ⟩:=Eu b hb;subst e;rw[KJ]at hΘ;exact a3C (by
   have:id=m:=by omega
   rw[this];exact hm)
 have NR:Io w fun b=>b=g\/b∈ts:=by
  obtain⟨B,v1,v2⟩:=hs1.Ze;refine⟨B,v1,fun b hB=>⟨(v2 b hB).2.1,fun hb'=>?_⟩⟩;have hm:wB Γ b:=by
   rcases hb' with rfl|hb'
   ·exact hs1.mine b (by omega)
   ·obtain⟨m,hm,hΘ⟩:=Eu b hb';exact hs1.mine b (by omega)
  rcases hm with q|q
  ·have:=(v2 b hB).1;omega
  ·exact(v2 b hB).2.2 q
 have hwr:∀b∈us,Wr w b:=by
  intro b hb;rcases xe.mem b hb with h|⟨m,hm,hρ⟩
  ·exact FZ Bt b h
  ·exact(hu1.free b (by omega)).2.2
 have hc:=kq.2 w Θc g cs T (xr.map a.eval) bs ts us NR UG Bt (fun b hb=>(xN b).2 (xe.zero b hb)) (fun b hb=>hs1.own b (fun e=>hb ((xN b).2 e))) (fun b=>by simp only[Θc];split<;>omega)
  (by simp only[Θc];rw[av (by omega)]) (fun b hb=>by
   obtain⟨m,hm,hΘ⟩:=Eu b hb;exact⟨by simp only[Θc];rw[av (by omega)],(xe.top b hb).2,a3e b hb⟩) xe.nd (fun b hb=>⟨fun hnt=>by
   rcases xe.mem b hb with h|⟨m,hm,hρ⟩
   ·exact absurd h hnt
   ·exact(xN b).2 (hu1.free b (by omega)).1,hwr b hb⟩)
 refine wpList_plain hg fun K hK=>?_
 unfold Oper.wp;rw[tg hop kq.1,Oper.upon_enter];have e0:xs.map a.eval=(.pointer (some ⟨g,0,none⟩)::xr.map a.eval).toArray:=by
  obtain⟨b0,r0,_⟩:=hs.ev x0;rw[hx0]at r0;obtain⟨g',hk',hv⟩:=r0.wJ;rw[hk0]at hk';cases hk';rw[<-oD,fy,hxs];simp[hv]
 rw[e0];refine hc.mono ?_;rintro x w' ⟨v,cs',T',b2,t2,u2,b3,t3,u3,rfl,k1,k2,k3,k4,NW,kg,YW,kcs,kb,UL,ku,kt⟩;show K (a.put o.dst v) w';rw[hd];let N:=st.H.length
 have hs2:=hs1.forget (id::qs);have hNl:(kill st.H ms).length=N:=ey _ _;simp only[hNl]at hs2;let Θ2:Nat->Nat:=fun b=>if(id::qs).any (fun m=>Θ1 b==m+2)then N+2 else Θ1 b
 have hs2:dM Γ ⟨st.σ,kill (kill st.H ms) (id::qs)⟩ κ Θ2 a w:=hs2;have I1:∀b,Θ1 b=0->Θ2 b=0:=fun b hb=>by
  simp only[Θ2];rw[av,hb];intro h;obtain⟨m,_,hm⟩:=cT.1 h;simp[hb]at hm
 have Bw:∀b,b=g\/b∈ts->Θ2 b=N+2:=by
  intro b hb;simp only[Θ2];rw[bE];rcases hb with rfl|hb
  ·exact cT.2 ⟨id,by simp,by simp[KJ]⟩
  ·obtain⟨m,hm,hΘ⟩:=Eu b hb;exact cT.2 ⟨m,by simp[hm],by simp[hΘ]⟩
 have UJ:wh Γ (kill (kill st.H ms) (id::qs)) κ Θ2 w ρ1:=by
  refine⟨fun b hb=>?_,fun j e sz rows hj=>?_,fun j o hj=>?_⟩
  ·obtain⟨q1,q2⟩:=hu1.free b hb;exact⟨I1 b q1,q2⟩
  ·rcases ld hj with h|⟨_,h⟩
   ·cases h
   ·exact hu1.rows j e sz rows h
  ·rcases ld hj with h|⟨_,h⟩
   ·subst h;trivial
   ·exact hu1.more j o h
 obtain⟨Lb,a1,a2,a3,a4,a5⟩:=kcs.inst N;obtain⟨Ld,c1,c2,c3,c4,c5⟩:=YW.inst (N+(kr N cells').2.length);have a2j:Lb.length=(kr N cells').2.length:=by rw[<-a1];simp
 let L:=Lb++Ld
 have Qk:u3++u2=L.flatMap Fs.bl:=by simp[L,a3,c3]
 have a3d:t3++t2=L.flatMap Fs.ts:=by simp[L,a4,c4]
 rw[Qk]at UL ku kt;rw[a3d]at kt kb;have NE:∀x∈L,x.ok w':=fun x hx=>by
  rcases aV.1 hx with hx|hx
  ·exact a2 x hx
  ·exact c2 x hx
 let κ':Nat->Option Value:=fun j=>if j<N then κ j else(L[j-N]?).map Fs.v
 let Θ':Nat->Nat:=fun b=>if b=g then id+2 else match Gg L b with|some i=>N+i+2|none=>if Θ2 b=N+2 then 0 else Θ2 b
 let ρ':Nat->Nat:=fun b=>match qT L b with|some i=>N+i+1|none=>ρ1 b
 have hgt:g∉L.flatMap Fs.bl:=fun h=>(ku g h).2.1 rfl
 have a0T:Θ' g=id+2:=by simp[Θ']
 have KI:∀(i:Nat) x b,L[i]?=some x->x.v.ownBlock=some b->Θ' b=N+i+2:=by
  intro i x b hx hb;have hb':b∈L.flatMap Fs.ts:=bZ.2 ⟨x,aE hx,by simp[Fs.ts,hb]⟩;have hne:b≠g:=fun e=>hgt (e▸B9 hb')
  simp only[Θ',FJ UL hx hb];rw[av hne]
 have xM:∀b,b≠g->b∉L.flatMap Fs.ts->Θ' b=if Θ2 b=N+2 then 0 else Θ2 b:=by
  intro b h1 h2;simp only[Θ',uS h2];rw[av h1]
 have hzero:∀b,w.heap.size<=b->Θ2 b=0:=fun b hge=>by
  cases h:Θ2 b with
  |zero=>rfl
  |succ m=>exact absurd (hs2.own b (by omega)) (by omega)
 have V2:∀b∈b3++b2,Θ' b=0:=by
  intro b hb;obtain⟨p1,p2,p3⟩:=kb b hb;rw[xM b p2 p3];by_cases hlt:b<w.heap.size
  ·rcases p1 hlt with h|h
   ·rw[I1 b ((xN b).1 h)];simp
   ·rw[bE (Bw b (.inr h))]
  ·rw[hzero b (by omega)];simp
 have Ry:∀(i:Nat) x b,L[i]?=some x->b∈x.ns->Θ' b=0:=by
  intro i x b hx hb;have hmem:=pO hx hb;rw[xM b (ku b hmem).2.1 (zy UL hx hb)];rcases(ku b hmem).1 with h|h
  ·rw[hzero b h];simp
  ·rcases xe.mem b h with h|⟨m,hm,hρ⟩
   ·rw[bE (Bw b (.inr h))]
   ·rw[I1 b (hu1.free b (by omega)).1];simp
 have hn:∀(j:Nat) v,κ j=some v->κ' j=some v:=by
  intro j v hj;have:j<N:=cr fun h=>by rw[hs.nB j (by omega)]at hj;cases hj
  simp only[κ'];rw[bE this];exact hj
 have si:Names κ' N L:=by
  intro i x hx;simp only[κ'];rw[av (by omega),cq,hx];rfl
 have Rt:∀b∈L.flatMap Fs.ts,wB Γ b:=by
  intro b hb;rcases(kt b hb).2 with h|h
  ·exact .inl (dA hs.base h)
  ·obtain⟨m,hm,hΘ⟩:=Eu b h;exact hs1.mine b (by omega)
 have k:gi w w' Θ2 Θ' (N+2):=by
  refine⟨by omega,k1,k2,k3,k4,fun b hlt hne=>NW b hlt (fun e=>hne (Bw b (.inl e))) (fun e=>hne (Bw b (.inr e))),fun b hlt hne=>?_,fun b hb=>?_⟩
  ·rw[xM b (fun e=>hne (Bw b (.inl e))) (fun e=>?_),av hne];rcases(kt b e).2 with h|h
   ·omega
   ·exact hne (Bw b (.inr h))
  ·by_cases e:b=g
   ·subst e;omega
   ·by_cases ht':b∈L.flatMap Fs.ts
    ·obtain⟨x,T,hx⟩:=(ku b (B9 ht')).2.2;exact(az.1 hx).1
    ·rw[xM b e ht']at hb;split at hb
     ·exact absurd rfl hb
     ·exact cw (hs2.own b hb) k4
 have hm:∀b,2<=Θ' b->wB Γ b:=by
  intro b hb;by_cases e:b=g
  ·subst e;exact hs1.mine b (by omega)
  ·by_cases ht':b∈L.flatMap Fs.ts
   ·exact Rt b ht'
   ·rw[xM b e ht']at hb;split at hb
    ·omega
    ·exact hs2.mine b hb
 have qR:=hs2.lf k hn UJ;have E3:((kill st.H (ms++qs)).set id (ob.re (kr N cells').1)).length=N:=by simp[ey,N]
 have a0t:∀(a_ bs:aP) (H:bL),kill H (a_++bs)=kill (kill H a_) bs:=by
  intro a_
  induction a_ with
  |nil=>intro bs H;rfl
  |cons x a_ ih=>intro bs H;simp only[oG,kill,ih]
 have a3L:(kr N cells').2++(lY (N+(kr N cells').2.length) d).2=L.map Fs.ob:=by simp[L,a1,c1]
 have key:∀(j:Nat) y,((kill st.H (ms++qs)).set id (ob.re (kr N cells').1)++L.map Fs.ob)[j]?=some y->(∃i x,j=N+i/\L[i]?=some x/\y=x.ob)\/(j=id/\y=ob.re (kr N cells').1)\/(j≠id/\j<N/\(y=.gone\/(kill (kill st.H ms) (id::qs))[j]?=some y)):=by
  intro j y hj;by_cases hlt:j<N
  ·rw[ai (by rw[E3];exact hlt)]at hj;rcases wL j y hj with⟨rfl,rfl⟩|⟨h1,h2⟩
   ·exact .inr (.inl ⟨rfl,rfl⟩)
   ·refine .inr (.inr ⟨h1,hlt,?_⟩);rcases ld h2 with h|⟨h3,h4⟩
    ·exact .inl h
    ·refine .inr ?_;simp only[aV,B6]at h3;rw[fo (by simp[h1,h3.2]),fo h3.1];exact h4
  ·rw[au (by omega),E3,bU]at hj;cases hx:L[j-N]? with
   |none=>simp[hx]at hj
   |some x=>simp[hx]at hj;exact .inl ⟨j-N,x,by omega,hx,hj.symm⟩
 have hs':dM Γ ⟨st.σ,(kill st.H (ms++qs)).set id (ob.re (kr N cells').1)++L.map Fs.ob⟩ κ' Θ' a w':=by
  have GQ:∀(j:Nat) y,(kill (kill st.H ms) (id::qs))[j]?=some y->y≠ .gone->∀b,ρ1 b=j+1->ρ' b=j+1:=by
   intro j y hy hyg b Y8;have hjk:j∉id::qs:=by
    rcases ld hy with h|h
    ·exact absurd h hyg
    ·exact h.1
   have hnb:qT L b=none:=by
    cases hi:qT L b with
    |none=>rfl
    |some i=>
     exfalso;obtain⟨x,hx,yZ⟩:=rF hi;obtain⟨z0,_,a2Z,T'',Y6⟩:=hu1.free b (by omega);rcases(ku b (pO hx yZ)).1 with h|h
     ·have:=(az.1 Y6).1;omega
     ·rcases xe.mem b h with h|⟨m,hm',hρ⟩
      ·obtain⟨m,hm',hΘ⟩:=Eu b h;omega
      ·exact hjk (by
        have:j=m:=by omega
        rw[this];simp[hm'])
   simp only[ρ',hnb];exact Y8
  refine hs2.step k hm hn ?_ ?_ ?_ ⟨ρ',?_,?_,?_⟩
  ·intro i hi;simp only[b8,E3,ax]at hi;simp only[κ'];rw[av (by omega),cB (by omega)];rfl
  ·intro i u tj;simp only[κ']at tj;split at tj
   ·exact hs.mY i u tj
   ·cases hx:L[i-N]? with
    |none=>simp[hx]at tj
    |some x=>simp[hx]at tj;subst tj;exact(NE x (aE hx)).2.2.2.2
  ·intro j y hj;rcases key j y hj with⟨i,x,rfl,hx,rfl⟩|⟨rfl,rfl⟩|⟨hji,hjl,hy|hy⟩
   ·obtain⟨q1,q2,q3,q4,_⟩:=NE x (aE hx);exact .inr (.inr ⟨q1,q2,x.v,x.cs,x.ns,si i x hx,q3,q4,fun g' hg'=>KI i x g' hx hg',fun b hb'=>Ry i x b hx hb'⟩)
   ·refine .inr (.inr (tL.a1C yA a0F (hn _) ⟨g,cs',T',hn _ _ hk0,kg,a0T,b3,a5 κ' si.left,fun b hb=>V2 b (by simp[hb])⟩))
   ·exact .inl hy
   ·exact .inr (.inl ⟨by omega,hy⟩)
  ·intro b hb;cases Is:qT L b with
   |some i=>
    obtain⟨x,hx,yZ⟩:=rF Is;have hmem:=pO hx yZ;refine⟨Ry i x b hx yZ,?_,(ku b hmem).2.2⟩;rcases(ku b hmem).1 with h|h
    ·exact .inl (.inl (dA hs.base h))
    ·rcases xe.mem b h with h|⟨m,hm',hρ⟩
     ·obtain⟨m,hm',hΘ⟩:=Eu b h;exact .inl (hs1.mine b (by omega))
     ·exact(hu1.free b (by omega)).2.1
   |none=>
    simp only[ρ',Is]at hb;exact qR.1 b hb
  ·intro j e sz rows hj;rcases key j _ hj with⟨i,x,rfl,hx,hy⟩|⟨rfl,hy⟩|⟨hji,hjl,hy|hy⟩
   ·simp only[Fs.ob,Ob.row.injEq,pN]at hy;obtain⟨rfl,rfl,rfl⟩:=hy;obtain⟨q1,q2,q3,q4,_⟩:=NE x (aE hx);exact⟨x.v,x.cs,x.ns,si i x hx,q3,q4,F8 UL hx,fun b hb'=>by simp only[ρ',zT UL hx hb']⟩
   ·cases ob<;>simp[Ob.re]at hy
   ·cases hy
   ·obtain⟨v',c',bs',r1,r2,r3,r4,r5⟩:=qR.2.1 j e sz rows (by omega) hy;exact⟨v',c',bs',r1,r2,r3,r4,fun b hb'=>GQ j _ hy (by simp) b (r5 b hb')⟩
  ·intro j y hj;rcases key j _ hj with⟨i,x,rfl,hx,hy⟩|⟨rfl,hy⟩|⟨hji,hjl,hy|hy⟩
   ·subst hy;exact Gl.vb rfl
   ·subst hy;cases ob<;>exact Gl.vb rfl
   ·subst hy;trivial
   ·by_cases hg:y=.gone
    ·subst hg;trivial
    ·exact(qR.2.2 j y (by omega) hy).re (GQ j y hy hg)
 rw[a3L]at h;refine hK _ _ (h _ _ _ _ (hs'.set (t:=t) ht (c5 κ' ?_) fun b hb=>V2 b (by simp[hb])));rw[<-a2j];exact si.right
def EI(P:Program)(f:FuncId)(ds cells:aK):Prop:=
 (∃fn,P.funcs[f]?=some fn/\fn.body.isSome=true/\(fn.name== "runtime.NumGoroutine")=false)/\
 ∀(w:World) (Θ:Nat->Nat) (args:bW) (bs:aP),Io w (fun _=>False)->OH w args ds bs->(∀b∈bs,Θ b=0)->(∀b,Θ b≠0->b<w.heap.size)->(∀b,Θ b<=1)->
  Calls P f args.toArray w (fun e w'=>∃g cs T bs',e=.returned (.pointer (some ⟨g,0,none⟩))/\Below w.heap.size w w'/\w.heap.size<=g/\w'.heap[g]?=some (.cells cs T (0,0))/\jx w' cs.toList cells bs'/\
   ∀b∈bs',(b<w.heap.size->Θ b=0)/\b≠g)
def Zn(P:Program)(fn:Func)(cells:aK)(e:Exit)(st:St):Prop:=
 (e=.ret\/e=.normal)/\∃j,DP P st fn.results.toList=some [.ptr j 0]/\st.H[j]?=some (.box cells)/\cells.all D.LK=true
theorem EI.of{f:FuncId}{fn:Func}{c:Code}{ds cells:aK}(hf:P.funcs[f]?=some fn)(hb:fn.body=some c)(hn:(fn.name== "runtime.NumGoroutine")=false)
 (hl:ds.length<=fn.ntmps) (h:(∀d∈ds,kj d)->∀Γ:sQ,Γ.nt=fn.ntmps->AW P Γ c (Zn P fn cells) ⟨wi 0 ds,[]⟩):EI P f ds cells:=by
 refine⟨⟨fn,hf,by simp[hb],hn⟩,?_⟩;intro w Θ args bs hvs hargs hz hown h1;obtain⟨hlen,Uu⟩:=hargs.at;refine calls_of_wp hf hb ?_;let Γ:sQ:=⟨w,Θ,fun _=>False,fn.ntmps,fun _=>False,hvs⟩
 have hs:dM Γ ⟨wi 0 ds,[]⟩ (fun _=>none) Θ {tmps:=args.toArray++Array.replicate (fn.ntmps-args.toArray.size) undef,defers:=[]} w:=by
  refine⟨rfl,?_,fun _ _=>rfl,by simp,?_,by simp,hown,fun b _ _=>⟨rfl,h1 b⟩,fun b hb=>by have:=h1 b;omega,⟨rfl,rfl,rfl,bJ _,fun _ _ _=>rfl⟩,⟨fun _=>0,by simp,by simp,by simp⟩⟩
  ·simp[Γ];omega
  ·intro t;rw[F0];simp only[vM,yf,wA];cases hd:ds[t]? with
   |none=>exact⟨[],.of (.any _),by simp⟩
   |some x=>
    obtain⟨v,b,k1,k2,k3⟩:=Uu t x hd;refine⟨b,?_,fun y hy=>hz y (k3 y hy)⟩;have hlt:t<args.length:=(aC.1 k1).1;have:(args.toArray++Array.replicate (fn.ntmps-args.toArray.size) undef).getD t undef=v:=by
     rw[bu,fE (by simpa using hlt)];simp[k1]
    rw[this];exact .of k2
 refine wp_mono (h hargs.rdb Γ rfl _ _ _ _ hs) ?_;rintro e a' w' ⟨Mp,κ0,Θ0,hs0,Bu,j,hres,hH,hp⟩;obtain⟨vs,bs',m1,m2,m3,m4,m5⟩:=CK hs0 hres;obtain⟨v,b,n1,n2,_⟩:=m4 0 _ rfl;obtain⟨g,hk,hv⟩:=n2.wJ;obtain⟨g',cs,T,hk',hg,hΘ,bb,Xj,hbz⟩:=hs0.ob j _ hH;rw[hk]at hk';cases hk';have a3i:vs=[v]:=by
  simp only[aQ,bS]at m3
  match vs,m2,n1 with
  | [],_,n1=>simp at n1
  | [x],_,n1=>simp at n1;rw[n1]
  |x::y::r,m2,_=>simp only[aQ]at m2;omega
 have hrun:(results fn a'.tmps).run P w'=.ok (.pointer (some ⟨g,0,none⟩)) w':=by
  rw[results_eq,n9];simp[m1,a3i,hv]
 have Ht:Below w.heap.size w w':=⟨hs0.stays.os,hs0.stays.tape,hs0.stays.output,hs0.stays.size,fun b hb=>hs0.stays.block b hb (fun h=>h)⟩
 have hgm:w.heap.size<=g:=by
  rcases hs0.mine g (by omega)with q|q
  ·exact q
  ·exact q.elim
 have post:a'.defers=[]/\∃v,(results fn a'.tmps).run P w'=.ok v w'/\∃g cs T bs',Ending.returned v=.returned (.pointer (some ⟨g,0,none⟩))/\Below w.heap.size w w'/\w.heap.size<=g/\w'.heap[g]?=some (.cells cs T (0,0))/\jx w' cs.toList cells bs'/\
  ∀b∈bs',(b<w.heap.size->Θ b=0)/\b≠g:=by
  refine⟨hs0.defers,_,hrun,g,cs,T,bb,rfl,Ht,hgm,hg,Xj.pure hp,fun b hb'=>⟨fun hlt=>?_,fun e=>?_⟩⟩
  ·exact(hs0.old b hlt (fun h=>h)).1.symm.trans (hbz b hb')
  ·have:=hbz b hb';subst e;omega
 rcases Bu with rfl|rfl
 ·exact post
 ·exact post
theorem Qx{o:Oper}{f t:Nat}{xs:Array Operand}{ts:Array TypeId}{ds cells:aK}(hop:o.op=.call {callee:=.value (.func f),args:=xs,argTypes:=ts})(hd:o.dst=some t)(hg:o.guard=none)
 (ht:t<Γ.nt) (hds:DD st.H (xs.toList.map st.ev)=some (ds,[])) (kq:EI P f ds cells)
 (h:AO P Γ all rest Q ⟨(t,.ptr st.H.length 0)::st.σ,st.H++[.box cells]⟩):AO P Γ all (o::rest) Q st:=by
 intro κ Θ a w hs;obtain⟨bs,hargs,hz⟩:=HN hs hds;have vK:∀b∈bs,Θ b=0:=fun b hb=>(hz b hb).elim id (fun⟨m,h1,_⟩=>by cases h1)
 let Θc:Nat->Nat:=fun b=>if Θ b=0 then 0 else 1
 have xN:∀b,Θc b=0↔Θ b=0:=fun b=>by simp only[Θc];split<;>simp_all
 have hc:=kq.2 w Θc _ bs hs.Zd hargs (fun b hb=>(xN b).2 (vK b hb)) (fun b hb=>hs.own b (fun e=>hb ((xN b).2 e))) (fun b=>by simp only[Θc];split<;>omega);refine wpList_plain hg fun K hK=>?_
 unfold Oper.wp;rw[tg hop kq.1,Oper.upon_enter];have e:xs.map a.eval=(xs.toList.map a.eval).toArray:=by rw[<-fy,j8]
 rw[e];refine hc.mono ?_;rintro e w' ⟨g,cs,T,bs',rfl,hb,hge,hg',hrd,Xj⟩;show K (a.put o.dst (.pointer (some ⟨g,0,none⟩))) w';rw[hd];let Θ':Nat->Nat:=fun b=>if b=g then st.H.length+2 else Θ b
 have k:gi w w' Θ Θ' (st.H.length+2):=by
  refine⟨by omega,hb.os,hb.tape,hb.output,hb.size,fun b hlt _=>hb.block b hlt,fun b hlt _=>?_,fun b hb'=>?_⟩
  ·simp only[Θ'];rw[av (by omega)]
  ·simp only[Θ']at hb';split at hb'
   ·rename_i e;subst e;exact(az.1 hg').1
   ·exact cw (hs.own b hb') hb.size
 have hbz:∀b∈bs',Θ' b=0:=by
  intro b hb';obtain⟨h1,h2⟩:=Xj b hb';simp only[Θ'];rw[av h2];by_cases hlt:b<w.heap.size
  ·exact(xN b).1 (h1 hlt)
  ·cases h:Θ b with
   |zero=>rfl
   |succ m=>exact absurd (hs.own b (by omega)) hlt
 have hs':=hs.push (o:=.box cells) (v:=.pointer (some ⟨g,0,none⟩)) rfl k (hs.wQ (fun b hb'=>by
  simp only[Θ']at hb';split at hb'
  ·rename_i e;subst e;exact .inr hge
  ·exact .inl hb')) ⟨g,cs,T,ji _ _ _,hg',by simp[Θ'],bs',eZ.AN hrd,hbz⟩ rfl
 refine hK _ _ (h _ _ _ _ (hs'.set (t:=t) (d:=.ptr st.H.length 0) (bs:=[]) ht ?_ (by simp)));exact(wO.ptr st.H.length 0 g (ji _ _ _)).LA
theorem UT{o:Oper}{T t id e e' sz h:Nat}{kk:IntKind}{x hi:Operand}{rows:List aK}(hop:o.op=.slice T x none (some hi) none)(hd:o.dst=some t)(hg:o.guard=none)(ht:t<Γ.nt)
 (hT:CP P T=some (e',sz)) (hx:st.ev x=.acc id) (hH:st.H[id]?=some (.row .uq e sz rows)) (hhi:st.ev hi=.int kk (h:Int)) (hle:h<=rows.length)
 (hn:AO P Γ all rest Q ⟨(t,.acc st.H.length)::st.σ,kill st.H [id]++[.row .uq e sz (rows.take h)]⟩):AO P Γ all (o::rest) Q st:=by
 intro κ Θ a w hs;obtain⟨hsz,hrl,v,cs0,bs0,hk,WR,a6C,Bv,vK⟩:=hs.ob id _ hH;obtain⟨ρ,hu⟩:=hs.qf;obtain⟨v2,cs,bs,hk2,hown,hrd,hnd,hρ⟩:=hu.rows id e sz rows hH;rw[hk]at hk2;cases hk2;obtain⟨bx,rx,_⟩:=hs.ev x;rw[hx]at rx;obtain⟨hkx,_⟩:=rx.sL;have Ou:a.eval x=v:=by rw[hk]at hkx;cases hkx;rfl
 let v':Value:=match v with| .slice q _ cap=>.slice q h cap|u=>u
 have hc:Ay rows.length ((none:Option Operand).map st.ev) ((some hi).map st.ev)=some (0,h):=by
  simp[Ay,hhi,hle]
 have hrun:∃q cap,v=.slice q rows.length cap/\v'=.slice q h cap/\(execOp a.eval o).run P w=.ok (.value v') w:=by
  obtain⟨tj,G2,Ev⟩:=mZ hT;have main:∀(q:Option Addr) (cap:Nat),(∀b off sp,q=some ⟨b,off,sp⟩->off=0/\sp=none)->v=.slice q rows.length cap->rows.length<=cap->(execOp a.eval o).run P w=.ok (.value (.slice q h cap)) w:=by
   intro q cap hq0 hq hcap;obtain⟨hr,hl,hh⟩:=Kv (P:=P) (isSlice:=true) (cap:=cap) hs hcap hc;have a5i:(if cap=0 then q else q.map (·.add (0*sz)))=q:=by
    split
    ·rfl
    ·cases q with
     |none=>rfl
     |some ad=>simp[Addr.add]
   simp only[vN,cF]at hr;simp only[execOp,hop,Ou,hq];simp[Instr.sliceAt,Instr.slice,run_underlying tj,hr,sJ (P:=P) G2 w];intro hc0;cases q with
   |none=>rfl
   |some ad=>simp[Addr.add]
  rcases hown.2 with⟨rfl,h0⟩|⟨g,cap,cur,rfl,_,KE,hnc,hcm,hcs,htk⟩
  ·exact⟨none,0,by rw[h0],rfl,main none 0 (by simp) (by rw[h0]) (by omega)⟩
  ·exact⟨some ⟨g,0,none⟩,cap,rfl,rfl,main _ _ (by simp) rfl hnc⟩
 obtain⟨q,cap,hvq,V4,hrun⟩:=hrun;have yA:v'.ownBlock=v.ownBlock:=by rw[V4,hvq];cases q<;>rfl
 have hone:v'.oneCell'=true:=by
  have:=hs.mY id v hk;rw[hvq]at this;rw[V4];exact this
 have hsplit:∃cs' bs',w.ownsRow 0 e sz v' (rows.take h).length cs'/\jx w cs' (rows.take h).flatten bs'/\bs'.Nodup/\∀b∈bs',b∈bs:=by
  have e1:rows.flatten=(rows.take h).flatten++(rows.drop h).flatten:=by rw[<-jk,bp]
  have Hz:=hrd;rw[e1]at Hz;obtain⟨c1,c2,b1,b2,rfl,rfl,k1,k2⟩:=Hz.split;have htl:(rows.take h).length=h:=by rw[cD];omega
  have hc1:c1.length=h*sz:=by rw[k1.length,mL (fun r hr=>hrl r (bw hr)),htl]
  refine⟨c1,b1,?_,k1,(bB.1 hnd).1,fun b hb=>by simp[hb]⟩;rw[htl];refine⟨hc1,?_⟩;rcases hown.2 with⟨hv0,h0⟩|⟨g,cap',cur,hvs,hbg,KE,hnc,hcm,hcs,htk⟩
  ·left
   have:h=0:=by omega
   subst this;have e3:=hv0.symm.trans hvq;simp only[Value.slice.injEq]at e3;exact⟨by rw[V4,<-e3.1,<-e3.2.2],rfl⟩
  ·right
   have e3:=hvs.symm.trans hvq;simp only[Value.slice.injEq]at e3;refine⟨g,cap',cur,by rw[V4,<-e3.1,<-e3.2.2],hbg,KE,by omega,hcm,hcs,?_⟩;have h3:(cur.toList.take (rows.length*sz)).take (h*sz)=(c1++c2).take (h*sz):=by rw[htk]
   rw[qg,eS (dD _ hle)]at h3;rw[h3];exact gZ hc1
 obtain⟨cs',bs',p1,p2,p3,p4⟩:=hsplit;refine wpList_plain hg fun K hK=>?_
 unfold Oper.wp;rw[hrun,Oper.upon_value,hd];let n:=st.H.length
 have Pr:id<n:=(aC.1 hH).1;let Θ':Nat->Nat:=fun b=>if some b=v'.ownBlock then n+2 else Θ b
 let ρ':Nat->Nat:=fun b=>if ρ b=id+1 then n+1 else ρ b
 have UK:∀g,v'.ownBlock=some g->Θ g=id+2:=fun g Pq=>Bv g (yA▸Pq)
 have k:gi w w Θ Θ' (id+2):=by
  refine⟨by omega,rfl,rfl,rfl,bJ _,fun _ _ _=>rfl,fun b hb hne=>?_,fun b hb=>?_⟩
  ·simp only[Θ'];rw[av fun e=>hne (UK b e.symm)]
  ·simp only[Θ']at hb;split at hb
   ·rename_i e;exact hs.own b (by rw[UK b e.symm];omega)
   ·exact hs.own b hb
 have hm:∀b,2<=Θ' b->wB Γ b:=by
  intro b hb;simp only[Θ']at hb;split at hb
  ·rename_i e;exact hs.mine b (by rw[UK b e.symm];omega)
  ·exact hs.mine b hb
 have Xv:=ug (hs.nB n (bJ _)) (some v');have qR:=hs.lf k Xv hu;have Ii:∀b∈bs',Θ' b=0:=by
  intro b hb;have h1:=(hu.free b (by rw[hρ b (p4 b hb)];omega)).1;simp only[Θ'];rw[av fun e=>by have:=UK b e.symm;omega];exact h1
 have key:∀(j:Nat) y,(kill st.H [id]++[.row .uq e sz (rows.take h)])[j]?=some y->(j=n/\y=.row .uq e sz (rows.take h))\/(j≠n/\(y=.gone\/(j∉[id]/\st.H[j]?=some y))):=by
  intro j y hj;rcases zD j y hj with⟨h1,h2⟩|⟨h1,h2⟩
  ·rw[ey]at h1;exact .inl ⟨h1,h2⟩
  ·rw[ey]at h1;exact .inr ⟨h1,ld h2⟩
 have hs':dM Γ ⟨st.σ,kill st.H [id]++[.row .uq e sz (rows.take h)]⟩ (vL κ n (some v')) Θ' a w:=by
  refine hs.step k hm Xv ?_ ?_ ?_ ⟨ρ',fun b hb=>?_,fun j e2 Nz fN hj=>?_,fun j y hj=>?_⟩
  ·intro i hi;simp only[b8,aQ,bS,ey]at hi;unfold vL;rw[av (by omega)];exact hs.nB i (by omega)
  ·intro i y hy;unfold vL at hy;split at hy
   ·cases hy;exact hone
   ·exact hs.mY i y hy
  ·intro j y hj;rcases key j y hj with⟨rfl,rfl⟩|⟨_,hy|⟨hjk,hy⟩⟩
   ·exact .inr (.inr ⟨hsz,fun r hr=>hrl r (bw hr),v',cs',bs',ji _ _ _,p1,p2,fun g Pq=>by simp only[Θ'];rw[bE Pq.symm],Ii⟩)
   ·exact .inl hy
   ·exact .inr (.inl ⟨fun e=>hjk (by simp;omega),hy⟩)
  ·refine qR.1 b fun h0=>hb ?_
   simp only[ρ'];rw[av (by omega)];exact h0
  ·rcases key j _ hj with⟨rfl,hy⟩|⟨_,hy|⟨hjk,hy⟩⟩
   ·simp only[Ob.row.injEq,pN]at hy;obtain⟨rfl,rfl,rfl⟩:=hy;exact⟨v',cs',bs',ji _ _ _,p1,p2,p3,fun b hb=>by simp only[ρ'];rw[bE (hρ b (p4 b hb))]⟩
   ·cases hy
   ·obtain⟨v3,c3,b3,q1,q2,q3,q4,q5⟩:=qR.2.1 j e2 Nz fN (fun e=>hjk (by simp;omega)) hy;refine⟨v3,c3,b3,q1,q2,q3,q4,fun b hb=>?_⟩;have hne:j≠id:=fun e=>hjk (by simp[e])
    simp only[ρ'];rw[av (by rw[q5 b hb];omega)];exact q5 b hb
  ·rcases key j _ hj with⟨rfl,hy⟩|⟨_,hy|⟨hjk,hy⟩⟩
   ·subst hy;exact Gl.vb rfl
   ·subst hy;trivial
   ·refine(qR.2.2 j y (fun e=>hjk (by simp;omega)) hy).re fun b hb=>?_
    have hne:j≠id:=fun e=>hjk (by simp[e])
    simp only[ρ'];rw[av (by omega)];exact hb
 refine hK _ _ (hn _ _ _ _ (hs'.set (t:=t) (d:=.acc n) (bs:=[]) ht ?_ (by simp)));exact(wO.acc n _ (ji _ _ _)).LA
end
end Go.Cx
namespace Go.Cx
open Go.RowKit
section
variable{P:Program}{Γ:sQ}{Q:Exit->St->Prop}{st:St}{κ κ':Nat->Option Value}{Θ Θ':Nat->Nat}{a:Act}{w w':World}{all:Array Oper}{rest:List Oper}
theorem dM.Yd(hs:dM Γ st κ Θ a w):
 dM Γ ⟨st.σ,st.H++[.mp []]⟩ (vL κ st.H.length (some (.map (some w.heap.size)))) (fun b=>if b=w.heap.size then st.H.length+2 else Θ b) a (w.alloc (.map #[] 0)):=by
 have k:=gi.alloc hs (.map #[] 0) (tag:=st.H.length+2) (by omega);refine hs.push rfl k (hs.wQ (fun b hb=>by by_cases e:b=w.heap.size<;>simp_all)) ?_ rfl;exact⟨w.heap.size,#[],0,by simp[vL],heap_alloc_new w _,by simp,rfl,by simp⟩
theorem Ms{o:Oper}{T t:Nat}(hop:o.op=.makeMap T none)(hd:o.dst=some t)(hg:o.guard=none)(ht:t<Γ.nt)
 (h:AO P Γ all rest Q ⟨(t,.acc st.H.length)::st.σ,st.H++[.mp []]⟩):AO P Γ all (o::rest) Q st:=by
 intro κ Θ a w hs;have hs':=hs.Yd;refine wpList_plain hg fun K hK=>?_
 unfold Oper.wp;have hrun:(execOp a.eval o).run P w=.ok (.value (.map (some w.heap.size))) (w.alloc (.map #[] 0)):=by
  simp[execOp,hop,Instr.makeMap,newObj];rfl
 rw[hrun,Oper.upon_value,hd];refine hK _ _ (h _ _ _ _ (hs'.set (t:=t) (d:=.acc st.H.length) (bs:=[]) ht ?_ (by simp)));exact(wO.acc st.H.length _ (ji _ _ _)).LA
theorem vl.push{es:List MapEntry}{kv:List (D×D)}{k v:D}{u x:Value}(h:vl w es kv)(hk:Rd w u k [])(hv:Rd w x v [])(c:Nat):vl w (es++[{key:=u,val:=x,born:=c}]) (kv++[(k,v)]):=by
 refine⟨by simp[h.1],fun j e p h1 h2=>?_⟩;by_cases hj:j<es.length
 ·rw[ai hj]at h1;rw[ai (by rw[<-h.1];exact hj)]at h2;exact h.2 j e p h1 h2
 ·rw[au (by omega)]at h1;rw[au (by rw[<-h.1];omega),<-h.1]at h2;have e0:j-es.length=0:=by
   have:=(aC.1 h1).1;simp at this;omega
  rw[e0]at h1 h2;simp at h1 h2;subst h1;subst h2;exact⟨hk,hv⟩
theorem vl.put{es:List MapEntry}{kv:List (D×D)}{k v:D}{u x:Value}(h:vl w es kv)(hk:Rd w u k [])(hv:Rd w x v [])(i:Nat){es':List MapEntry}(hl:es'.length=es.length)
 (he:∀(j:Nat) e,es'[j]?=some e->(j=i/\e.key=u/\e.val=x)\/(j≠i/\es[j]?=some e)):vl w es' (kv.set i (k,v)):=by
 refine⟨by simp[hl,h.1],fun j e p h1 h2=>?_⟩;rcases he j e h1 with⟨rfl,h3,h4⟩|⟨hne,h3⟩
 ·have hlt:j<kv.length:=by
   have:=(aC.1 h2).1;simpa using this
  rw[cz hlt]at h2;cases h2;rw[h3,h4];exact⟨hk,hv⟩
 ·rw[bq (oo hne)]at h2;exact h.2 j e p h3 h2
theorem YX{kd:TypeDesc}{k v:D}{u:Value}(It:E6 kd k=true)(hu:Rd w u k []):∀ {es:List MapEntry} {kv kv':List (D×D)} (i:Nat),vl w es kv->Ez k v kv=some kv'->
 (Instr.findNow kd u es i=some none/\kv'=kv++[(k,v)])\/∃j x e,Instr.findNow kd u es i=some (some (i+j,x))/\es[j]?=some e/\e.key=u/\kv'=kv.set j (k,v):=by
 intro es
 induction es with
 |nil=>
  intro kv kv' i hr h;cases kv with
  |nil=>cases h;exact .inl ⟨rfl,rfl⟩
  |cons p kv=>exact absurd hr.1 (by simp)
 |cons e es ih=>
  intro kv kv' i hr h;cases kv with
  |nil=>exact absurd hr.1 (by simp)
  |cons p kv=>
   obtain⟨r1,r2,r3⟩:=hr.cons;simp only[Ez]at h;split at h
   ·rename_i hq;cases h;have:=HK It hu r1 hq;exact .inr ⟨0,e.val,e,by simp[Instr.findNow,this.1],rfl,this.2 rfl,rfl⟩
   ·rename_i hq;have Iv:=(HK It hu r1 hq).1;cases hk:Ez k v kv with
    |none=>rw[hk]at h;cases h
    |some kv1=>
     rw[hk]at h;cases h;rcases ih (i+1) r3 hk with⟨h1,h2⟩|⟨j,x,e',h1,h2,h3,h4⟩
     ·exact .inl ⟨by simpa[Instr.findNow,Iv]using h1,by rw[h2];rfl⟩
     ·exact .inr ⟨j+1,x,e',by simp only[Instr.findNow,Iv];rw[h1];congr 3;omega,by simpa using h2,h3,by rw[h4];rfl⟩
   ·cases h
theorem L3{kd:TypeDesc}{u:Value}(h:MapKept.IsKey kd u)(n:Nat):Instr.sameBits n u u=true:=by
 cases kd<;>cases u<;>simp[MapKept.IsKey]at h<;>simp[Instr.sameBits]
 all_goals first
  |exact(MapKept.bytes_beq _ _).2 rfl
  |rfl
def D.scalar:D->Bool
 | .str _=>true
 | .int _ _=>true
 | .bool _=>true
 |_=>false
theorem MW{v:Value}{d:D}{bs:aP}(hd:d.scalar=true)(hu:oq w κ v d bs):Rd w v d []:=by
 cases d<;>simp[D.scalar]at hd
 all_goals cases hu with|v h=>cases h with|cell h=>cases h with|pure h=>cases h<;>(constructor<;>assumption)
theorem Jp{o:Oper}{T id:Nat}{x i y:Operand}{kd:TypeDesc}{dz:D}{kv kv':List (D×D)}(hop:o.op=.mapUpdate T x i y)(hd:o.dst=none)(hg:o.guard=none)
 (hT:QU P T=some (kd,dz)) (hx:st.ev x=.acc id) (hH:st.H[id]?=some (.mp kv)) (It:E6 kd (st.ev i)=true) (hsc:(st.ev y).scalar=true) (hput:Ez (st.ev i) (st.ev y) kv=some kv')
 (h:AO P Γ all rest Q ⟨st.σ,st.H.set id (.mp kv')⟩):AO P Γ all (o::rest) Q st:=by
 intro κ Θ a w hs;obtain⟨g,es,c,q1,q2,q3,q4⟩:=hs.ob id _ hH;obtain⟨bs,r,_⟩:=hs.ev x;rw[hx]at r;obtain⟨hk,_⟩:=r.sL;rw[q1]at hk;have Y7:a.eval x=.map (some g):=(pM hk).symm;obtain⟨bi,ri,_⟩:=hs.ev i;obtain⟨by',ry,_⟩:=hs.ev y;have hu:=JR It ri;have hv:=MW hsc ry;obtain⟨kt,et,z,t1,t2,t3,t4⟩:=Ia hT;have hik:=M8 It hu;have Xl:=MapKept.run_checkKey (P:=P) (w:=w) t2 hik false 9999;have a38:g<w.heap.size:=(az.1 q2).1;have Pr:id<st.H.length:=(aC.1 hH).1;have hrun:∃es' c',(execOp a.eval o).run P w=.ok .skip {w with heap:=w.heap.setIfInBounds g (.map es' c')}/\vl w es'.toList kv':=by
  rcases YX It hu 0 q4 hput with⟨hn,rfl⟩|⟨j,x',e,hn,he,hek,rfl⟩
  ·have Uy:=MapKept.run_findKey (P:=P) (w:=w) t2 hn;refine⟨es.push {key:=a.eval i,val:=a.eval y,born:=c},c+1,?_,?_⟩
   ·simp[execOp,hop,Y7,Instr.mapUpdate,run_underlying t1,MapKept.run_getObj_map q2,Xl,Uy,MapKept.run_setObj_map _ q2]
   ·rw[Array.toList_push];exact q4.push hu hv c
  ·rw[cV]at hn;have Uy:=MapKept.run_findKey (P:=P) (w:=w) t2 hn;have hej:es[j]?=some e:=by simpa using he
   have hst:(Instr.keyThatStays (((es[j]?).map (·.key)).getD (a.eval i)) (a.eval i)).run P w=.ok (a.eval i) w:=by
    rw[hej];simp[Instr.keyThatStays,hek,L3 hik]
   refine⟨es.modify j fun e=> {e with key:=a.eval i,val:=a.eval y},c,?_,?_⟩
   ·simp[execOp,hop,Y7,Instr.mapUpdate,run_underlying t1,MapKept.run_getObj_map q2,Xl,Uy,hst,MapKept.run_setObj_map _ q2]
   ·refine q4.put hu hv j (by simp) fun m e' hm=>?_
    rw[qD,tq]at hm;by_cases hmj:j=m
    ·subst hmj;rw[bE rfl,hej]at hm;cases hm;exact .inl ⟨rfl,rfl,rfl⟩
    ·rw[av hmj]at hm;exact .inr ⟨oo hmj,by simpa using hm⟩
 obtain⟨es',c',hr,a3T⟩:=hrun;have Xx:∀b,b≠g->(w.heap.setIfInBounds g (.map es' c'))[b]?=w.heap[b]?:=fun b hb=>by simp[oo hb]
 have k:gi w {w with heap:=w.heap.setIfInBounds g (.map es' c')} Θ Θ (id+2):=by
  refine⟨by omega,rfl,rfl,rfl,by simp,fun b hb hne=>Xx b fun e=>hne (e▸q3),fun _ _ _=>rfl,fun b hb=>?_⟩;simpa using hs.own b hb
 have hs':dM Γ ⟨st.σ,st.H.set id (.mp kv')⟩ κ Θ a {w with heap:=w.heap.setIfInBounds g (.map es' c')}:=by
  obtain⟨ρ,tj⟩:=hs.qf;have qR:=hs.lf k (fun _ _ h=>h) tj;refine hs.step k hs.mine (fun _ _ h=>h) (fun i hi=>hs.nB i (by simpa using hi)) hs.mY ?_ ⟨ρ,qR.1,fun j e sz rows hj=>?_,fun j y hj=>?_⟩
  ·intro j y' hj;by_cases e:j=id
   ·subst e;rw[cz Pr]at hj;cases hj;exact .inr (.inr ⟨g,es',c',q1,by simp[a38],q3,a3T.stay⟩)
   ·rw[bq (oo e)]at hj;exact .inr (.inl ⟨by omega,hj⟩)
  ·by_cases e':j=id
   ·subst e';rw[cz Pr]at hj;cases hj
   ·rw[bq (oo e')]at hj;exact qR.2.1 j e sz rows (by omega) hj
  ·by_cases e':j=id
   ·subst e';rw[cz Pr]at hj;cases hj;trivial
   ·rw[bq (oo e')]at hj;exact qR.2.2 j y (by omega) hj
 refine wpList_plain hg fun K hK=>?_
 unfold Oper.wp;rw[hr,Oper.upon_skip,hd];exact hK _ _ (h _ _ _ _ hs')
end
end Go.Cx
namespace Go.Cx
open Go.RowKit
def OE(P:Program)(f:FuncId)(ds:aK)(d:D):Prop:=
 (∃fn,P.funcs[f]?=some fn/\fn.body.isSome=true/\(fn.name== "runtime.NumGoroutine")=false)/\
 ∀(w:World) (Θ:Nat->Nat) (args:bW) (bs ts us:aP),
  Io w (fun b=>b∈ts)->xk w args ds bs ts us->
  (∀b∈bs,Θ b=0)->(∀b,Θ b≠0->b<w.heap.size)->(∀b,Θ b<=1)->(∀b∈ts,Θ b=1/\b∈us)->us.Nodup->(∀b∈us,(b∉ts->Θ b=0)/\Wr w b)->
  Calls P f args.toArray w (fun e w'=>∃v b2 t2 u2,e=.returned v/\w'.os=w.os/\w'.tape=w.tape/\w'.output=w.output/\w.heap.size<=w'.heap.size/\
   (∀b,b<w.heap.size->b∉ts->w'.heap[b]?=w.heap[b]?)/\
   yH w' v d b2 t2 u2/\(∀b∈b2,(b<w.heap.size->Θ b=0\/b∈ts)/\b∉t2)/\u2.Nodup/\
   (∀b∈u2,(w.heap.size<=b\/b∈us)/\Wr w' b)/\∀b∈t2,b∈u2/\(w.heap.size<=b\/b∈ts))
section
variable{P:Program}{Γ:sQ}{Q:Exit->St->Prop}{st:St}{κ κ':Nat->Option Value}{Θ Θ':Nat->Nat}{a:Act}{w w':World}{all:Array Oper}{rest:List Oper}
theorem a2T.out{fn:Func}{d:D}{e:Exit}{a':Act}{w':World}{Mp:St}{κ0:Nat->Option Value}{Θ0:Nat->Nat}(hs0:dM Γ Mp κ0 Θ0 a' w')(Y0:RC P fn d e Mp):
 (e=.ret\/e=.normal)/\a'.defers=[]/\OJ Γ w'/\∃v b2 t2 u2,(results fn a'.tmps).run P w'=.ok v w'/\
  yH w' v d b2 t2 u2/\(∀b∈b2,(b<Γ.W0.heap.size->¬Γ.X b->Γ.Θ0 b=0)/\b∉t2)/\u2.Nodup/\
  (∀b∈u2,OF Γ b/\Wr w' b)/\∀b∈t2,b∈u2/\wB Γ b:=by
 obtain⟨Bu,nz,WI,es,ms,qs,hres,WS,Iu,Gx,rfl⟩:=Y0;obtain⟨ρ0,Y3⟩:=hs0.qf;have zx:=vE WS;obtain⟨Θ1,ρ1,hs1,hu1,hm1,KG,Qm⟩:=dM.F3 ms hs0 Y3 Iu (fun m hm=>by
  obtain⟨e,sz,rows,hH⟩:=zx.1 m hm;exact⟨_,e,sz,rows,hH,rfl⟩)
 obtain⟨vs,bs',m1,m2,m3,m4,m5⟩:=CK hs0 hres;have hq:∀m e sz rows,Mp.H[m]?=some (.row .uq e sz rows)->∃v cs ns,κ0 m=some v/\0<sz/\(∀r∈rows,r.length=sz)/\w'.ownsRow 0 e sz v rows.length cs/\jx w' cs rows.flatten ns/\ns.Nodup/\(∀b∈ns,ρ1 b=m+1)/\∀g,v.ownBlock=some g->Θ1 g=m+2:=by
  intro m e sz rows hH;have hnm:m∉ms:=fun hm=>by
   obtain⟨e',sz',dh,CJ⟩:=zx.1 m hm;rw[hH]at CJ;cases CJ
  have K7:(kill Mp.H ms)[m]?=some (.row .uq e sz rows):=by rw[fo hnm];exact hH
  obtain⟨v,cs,ns,r1,r2,r3,r4,r5⟩:=hu1.rows m e sz rows K7;obtain⟨p1,p2,v2,_,_,p3,_,_,p4,_⟩:=hs1.ob m _ K7;rw[r1]at p3;cases p3;exact⟨v,cs,ns,r1,p1,p2,r2,r3,r4,r5,p4⟩
 obtain⟨c,ts,us,Bt,xe⟩:=zF (w:=w') (vs:=vs) (fun b hb=>(hu1.free b hb).1) hq hs0.mY WS Gx (by omega) (fun i d hd=>by
  obtain⟨v,b,k1,k2,k3⟩:=m4 i d hd;exact⟨v,b,k1,k2,fun x hx=>KG x (m5 x (k3 x hx))⟩) hm1
 have KB:∃v,(results fn a'.tmps).run P w'=.ok v w'/\yH w' v (GY es) c ts us:=by
  have hrun:(results fn a'.tmps).run P w'=.ok (if h:vs.toArray.size=1 then vs.toArray[0]else .tuple vs.toArray) w':=by
   rw[results_eq,n9];simp[m1]
  cases Bt with
  |nil=>exact⟨.tuple #[],by simpa using hrun,.iQ [] [] [] [] [] .nil⟩
  |cons v vs d es b1 b2 t1 t2 u1 u2 hv sH=>
   cases sH with
   |nil=>
    simp only[eR];exact⟨v,by simpa using hrun,.v hv⟩
   |cons v2 vs d2 es b3 b4 t3 t4 u3 u4 JN sH=>exact⟨.tuple (v::v2::vs).toArray,by simpa using hrun,.iQ _ _ _ _ _ (.cons _ _ _ _ _ _ _ _ _ _ hv (.cons _ _ _ _ _ _ _ _ _ _ JN sH))⟩
 obtain⟨v,S0,M3⟩:=KB;refine⟨Bu,hs0.defers,hs0.stays,v,c,ts,us,S0,M3,fun b hb=>⟨fun hlt hx=>?_,fun ht=>?_⟩,xe.nd,fun b hb=>?_,fun b hb=>?_⟩
 ·have:=xe.zero b hb;rw[<-(hs1.old b hlt hx).1];exact this
 ·obtain⟨⟨m,_,hΘ⟩,_⟩:=xe.top b ht;have:=xe.zero b hb;omega
 ·rcases xe.mem b hb with h|⟨m,hm,hρ⟩
  ·obtain⟨⟨m,hm,hΘ⟩,_⟩:=xe.top b h;exact⟨.inl (hs1.mine b (by omega)),HT M3 b h⟩
  ·have:=hu1.free b (by omega);exact⟨this.2.1,this.2.2⟩
 ·obtain⟨⟨m,hm,hΘ⟩,h2⟩:=xe.top b hb;exact⟨h2,hs1.mine b (by omega)⟩
theorem OE.of{f:FuncId}{fn:Func}{c:Code}{ds LI:aK}{obs:bL}{d:D}(hf:P.funcs[f]?=some fn)(hb:fn.body=some c)(hn:(fn.name== "runtime.NumGoroutine")=false)
 (hI:yS 0 ds=(LI,obs)) (hl:LI.length<=fn.ntmps)
 (h:(∀x∈ds.map D.UO,kj x)->∀(Γ:sQ),Γ.nt=fn.ntmps->AW P Γ c (RC P fn d) ⟨wi 0 LI,obs⟩):OE P f ds d:=by
 refine⟨⟨fn,hf,by simp[hb],hn⟩,?_⟩;intro w Θ args bs ts us hvs hargs hz hown h1 hts hnd qR;have NQ:=hargs.shown;obtain⟨L,q1,q2,rfl,rfl,q5⟩:=hargs.inst 0;rw[hI]at q1 q5;have q1:L.map Fs.ob=obs:=q1;refine calls_of_wp hf hb ?_;let κ0:Nat->Option Value:=fun i=>(L[i]?).map Fs.v
 let Θ0:Nat->Nat:=fun b=>match Gg L b with|some i=>i+2|none=>Θ b
 let ρ0:Nat->Nat:=fun b=>match qT L b with|some i=>i+1|none=>0
 let Γ:sQ:=⟨w,Θ0,fun b=>b∈L.flatMap Fs.ts,fn.ntmps,fun b=>b∈L.flatMap Fs.bl,hvs⟩
 have Xq:∀i x,L[i]?=some x->κ0 i=some x.v:=fun i x hx=>by simp[κ0,hx]
 have hnm:Names κ0 0 L:=fun i x hx=>by rw[cV];exact Xq i x hx
 have hrd:=q5 κ0 hnm;have hlen:args.length=LI.length:=hrd.len;have WT:∀(i:Nat) x b,L[i]?=some x->x.v.ownBlock=some b->b∈L.flatMap Fs.ts:=fun i x b hx hb'=>bZ.2 ⟨x,aE hx,by simp[Fs.ts,hb']⟩
 have NS:∀(i:Nat) x b,L[i]?=some x->x.v.ownBlock=some b->Θ0 b=i+2:=by
  intro i x b hx hb';simp only[Θ0,FJ hnd hx hb']
 have Pt:∀b,Θ b=0->Θ0 b=0:=by
  intro b h0;have e2:b∉L.flatMap Fs.ts:=fun e=>by have:=(hts b e).1;omega
  simp only[Θ0,uS e2];exact h0
 have Rx:∀(i:Nat) x b,L[i]?=some x->b∈x.ns->Θ0 b=0:=fun i x b hx hb'=>Pt b ((qR b (pO hx hb')).1 (zy hnd hx hb'))
 have xN:∀b,Θ0 b≠Θ b->b∈L.flatMap Fs.ts:=by
  intro b hne;refine cr fun ht=>hne ?_
  simp only[Θ0,uS ht]
 have NJ:∀(j:Nat) o,obs[j]?=some o->∃x,L[j]?=some x/\o=x.ob:=by
  intro j o hj;rw[<-q1,bU]at hj;cases hx:L[j]? with
  |none=>simp[hx]at hj
  |some x=>simp[hx]at hj;exact⟨x,rfl,hj.symm⟩
 have Xw:obs.length=L.length:=by rw[<-q1];simp
 have hs:dM Γ ⟨wi 0 LI,obs⟩ κ0 Θ0 {tmps:=args.toArray++Array.replicate (fn.ntmps-args.toArray.size) undef,defers:=[]} w:=by
  refine⟨rfl,?_,fun i hi=>?_,?_,?_,?_,?_,?_,?_,⟨rfl,rfl,rfl,bJ _,fun _ _ _=>rfl⟩,⟨ρ0,?_,?_,?_⟩⟩
  ·simp[Γ];omega
  ·have hi:obs.length<=i:=hi;simp only[κ0];rw[cB (by omega)];rfl
  ·intro id u hu;simp only[κ0]at hu;cases hx:L[id]? with
   |none=>simp[hx]at hu
   |some x=>simp[hx]at hu;subst hu;exact(q2 x (aE hx)).2.2.2.2
  ·intro t;rw[F0];simp only[vM,yf,wA];have Om:∀v,args[t]?=some v->(args.toArray++Array.replicate (fn.ntmps-args.toArray.size) undef).getD t undef=v:=by
    intro v hv;have hlt:=(aC.1 hv).1;rw[bu,fE (by simpa using hlt)];simp only[iM,hv,rD]
   cases hd:LI[t]? with
   |none=>exact⟨[],.of (.any _),by simp⟩
   |some x=>
    obtain⟨v,b',k1,k2,k3⟩:=hrd.at (i:=t) (d:=x) hd;rw[Om v k1];exact⟨b',.v k2,fun b hb'=>Pt b (hz b (k3 b hb'))⟩
  ·intro j o hj;obtain⟨x,hx,rfl⟩:=NJ j o hj;obtain⟨p1,p2,p3,p4,_⟩:=q2 x (aE hx);exact⟨p1,p2,x.v,x.cs,x.ns,Xq j x hx,p3,p4,fun b hb'=>NS j x b hx hb',fun b hb'=>Rx j x b hx hb'⟩
  ·intro b hb';by_cases e:Θ0 b=Θ b
   ·exact hown b (by rw[<-e];exact hb')
   ·exact hown b (by have:=(hts b (xN b e)).1;omega)
  ·intro b hlt hx;refine⟨rfl,?_⟩;have e:Θ0 b=Θ b:=cr fun e=>hx (xN b e)
   rw[e];exact h1 b
  ·intro b hb';refine .inr (xN b fun e=>?_);have:=h1 b;omega
  ·intro b hb';cases Qk:qT L b with
   |none=>simp[ρ0,Qk]at hb'
   |some i=>
    obtain⟨x,hx,yZ⟩:=rF Qk;exact⟨Rx i x b hx yZ,.inr (pO hx yZ),(qR b (pO hx yZ)).2⟩
  ·intro id e sz rows hj;obtain⟨x,hx,NL⟩:=NJ id _ hj;simp only[Fs.ob,Ob.row.injEq,pN]at NL;obtain⟨rfl,rfl,rfl⟩:=NL;obtain⟨p1,p2,p3,p4,_⟩:=q2 x (aE hx);exact⟨x.v,x.cs,x.ns,Xq id x hx,p3,p4,F8 hnd hx,fun b hb'=>by simp[ρ0,zT hnd hx hb']⟩
  ·intro id o hj;obtain⟨x,hx,NL⟩:=NJ id _ hj;subst NL;exact Gl.vb rfl
 refine wp_mono (h NQ Γ rfl _ _ _ _ hs) ?_;rintro x a' w' ⟨Mp,κ1,Θ1,hs0,Y0⟩;obtain⟨Bu,hdf,hst,v,b2,t2,u2,hrun,hres,Mm,D9,tj,ht'⟩:=a2T.out hs0 Y0;have post:a'.defers=[]/\∃v',(results fn a'.tmps).run P w'=.ok v' w'/\∃v b2 t2 u2,Ending.returned v'=.returned v/\w'.os=w.os/\w'.tape=w.tape/\w'.output=w.output/\w.heap.size<=w'.heap.size/\
  (∀b,b<w.heap.size->b∉L.flatMap Fs.ts->w'.heap[b]?=w.heap[b]?)/\
  yH w' v d b2 t2 u2/\(∀b∈b2,(b<w.heap.size->Θ b=0\/b∈L.flatMap Fs.ts)/\b∉t2)/\u2.Nodup/\
  (∀b∈u2,(w.heap.size<=b\/b∈L.flatMap Fs.bl)/\Wr w' b)/\∀b∈t2,b∈u2/\(w.heap.size<=b\/b∈L.flatMap Fs.ts):=by
  refine⟨hdf,v,hrun,v,b2,t2,u2,rfl,hst.os,hst.tape,hst.output,hst.size,fun b hlt hnt=>hst.block b hlt (fun hx=>hnt hx),hres,fun b hb'=>?_,D9,fun b hb'=>?_,fun b hb'=>?_⟩
  ·obtain⟨k1,k3⟩:=Mm b hb';refine⟨fun hlt=>?_,k3⟩;by_cases ht:b∈L.flatMap Fs.ts
   ·exact .inr ht
   ·refine .inl ?_;have:=k1 hlt (fun hx=>ht hx);have e:Θ0 b=Θ b:=cr fun e=>ht (xN b e)
    rw[<-e];exact this
  ·obtain⟨k1,k3⟩:=tj b hb';refine⟨?_,k3⟩;rcases k1 with(k1|k1)|k1
   ·exact .inl k1
   ·exact .inr (B9 k1)
   ·exact .inr k1
  ·obtain⟨k1,k2⟩:=ht' b hb';exact⟨k1,k2⟩
 rcases Bu with rfl|rfl
 ·exact post
 ·exact post
theorem Qu{o:Oper}{f t:Nat}{xs:Array Operand}{ty:Array TypeId}{ds:aK}{d:D}{nz:List (List (Option (Nat×Nat)))}{ms qs:aP}
 (hop:o.op=.call {callee:=.value (.func f),args:=xs,argTypes:=ty}) (hd:o.dst=some t) (hg:o.guard=none) (ht:t<Γ.nt)
 (Bu:xR st.H nz (xs.toList.map st.ev)=some (ds,ms,qs)) (Iu:ms.Nodup) (Gx:qs.Nodup) (kq:OE P f ds d)
 (h:AO P Γ all rest Q ⟨(t,(lY st.H.length d).1)::st.σ,kill st.H (ms++qs)++(lY st.H.length d).2⟩):AO P Γ all (o::rest) Q st:=by
 intro κ Θ a w hs;have zx:=vE Bu;obtain⟨ρ,hu⟩:=hs.qf;obtain⟨Θ1,ρ1,hs1,hu1,hm1,KG,Qm⟩:=dM.F3 ms hs hu Iu (fun m hm=>by
  obtain⟨e,sz,rows,hH⟩:=zx.1 m hm;exact⟨_,e,sz,rows,hH,rfl⟩)
 have hq:∀m e sz rows,st.H[m]?=some (.row .uq e sz rows)->∃v cs ns,κ m=some v/\0<sz/\(∀r∈rows,r.length=sz)/\w.ownsRow 0 e sz v rows.length cs/\jx w cs rows.flatten ns/\ns.Nodup/\(∀b∈ns,ρ1 b=m+1)/\∀g,v.ownBlock=some g->Θ1 g=m+2:=by
  intro m e sz rows hH;have hnm:m∉ms:=fun hm=>by
   obtain⟨e',sz',dh,CJ⟩:=zx.1 m hm;rw[hH]at CJ;cases CJ
  have K7:(kill st.H ms)[m]?=some (.row .uq e sz rows):=by rw[fo hnm];exact hH
  obtain⟨v,cs,ns,r1,r2,r3,r4,r5⟩:=hu1.rows m e sz rows K7;obtain⟨p1,p2,v2,_,_,p3,_,_,p4,_⟩:=hs1.ob m _ K7;rw[r1]at p3;cases p3;exact⟨v,cs,ns,r1,p1,p2,r2,r3,r4,r5,p4⟩
 obtain⟨bs,ts,us,Bt,xe⟩:=zF (w:=w) (vs:=xs.toList.map a.eval) (fun b hb=>(hu1.free b hb).1) hq hs.mY Bu Gx (by simp) (fun i d hd=>by
  rw[bU]at hd;cases hx:xs.toList[i]? with
  |none=>rw[hx]at hd;cases hd
  |some x=>
   rw[hx]at hd;simp only[cF,af]at hd;subst hd;obtain⟨b,r,z⟩:=hs.ev x;exact⟨a.eval x,b,by rw[bU,hx];rfl,r,fun y hy=>KG y (z y hy)⟩) hm1
 let Θc:Nat->Nat:=fun b=>if Θ1 b=0 then 0 else 1
 have xN:∀b,Θc b=0↔Θ1 b=0:=fun b=>by simp only[Θc];split<;>simp_all
 have Eu:∀b∈ts,∃m∈qs,Θ1 b=m+2:=fun b hb=>(xe.top b hb).1
 have NR:Io w fun b=>b∈ts:=by
  obtain⟨B,v1,v2⟩:=hs1.Ze;refine⟨B,v1,fun b hB=>⟨(v2 b hB).2.1,fun hb'=>?_⟩⟩;have hm:wB Γ b:=by
   obtain⟨m,hm,hΘ⟩:=Eu b hb';exact hs1.mine b (by omega)
  rcases hm with q|q
  ·have:=(v2 b hB).1;omega
  ·exact(v2 b hB).2.2 q
 have hwr:∀b∈us,Wr w b:=by
  intro b hb;rcases xe.mem b hb with h|⟨m,hm,hρ⟩
  ·exact FZ Bt b h
  ·exact(hu1.free b (by omega)).2.2
 have hc:=kq.2 w Θc (xs.toList.map a.eval) bs ts us NR Bt (fun b hb=>(xN b).2 (xe.zero b hb)) (fun b hb=>hs1.own b (fun e=>hb ((xN b).2 e))) (fun b=>by simp only[Θc];split<;>omega)
  (fun b hb=>by
   obtain⟨m,hm,hΘ⟩:=Eu b hb;exact⟨by simp only[Θc];rw[av (by omega)],(xe.top b hb).2⟩) xe.nd (fun b hb=>⟨fun hnt=>by
   rcases xe.mem b hb with h|⟨m,hm,hρ⟩
   ·exact absurd h hnt
   ·exact(xN b).2 (hu1.free b (by omega)).1,hwr b hb⟩)
 refine wpList_plain hg fun K hK=>?_
 unfold Oper.wp;rw[tg hop kq.1,Oper.upon_enter];have e0:xs.map a.eval=(xs.toList.map a.eval).toArray:=by
  rw[<-oD,fy]
 rw[e0];refine hc.mono ?_;rintro x w' ⟨v,b2,t2,u2,rfl,k1,k2,k3,k4,NW,YW,kb,UL,ku,kt⟩;show K (a.put o.dst v) w';rw[hd];let N:=st.H.length
 have hs2:=hs1.forget qs;have hNl:(kill st.H ms).length=N:=ey _ _;simp only[hNl]at hs2;let Θ2:Nat->Nat:=fun b=>if qs.any (fun m=>Θ1 b==m+2)then N+2 else Θ1 b
 have hs2:dM Γ ⟨st.σ,kill (kill st.H ms) qs⟩ κ Θ2 a w:=hs2;have I1:∀b,Θ1 b=0->Θ2 b=0:=fun b hb=>by
  simp only[Θ2];rw[av,hb];intro h;obtain⟨m,_,hm⟩:=cT.1 h;simp[hb]at hm
 have Bw:∀b,b∈ts->Θ2 b=N+2:=by
  intro b hb;simp only[Θ2];rw[bE];obtain⟨m,hm,hΘ⟩:=Eu b hb;exact cT.2 ⟨m,hm,by simp[hΘ]⟩
 have UJ:wh Γ (kill (kill st.H ms) qs) κ Θ2 w ρ1:=by
  refine⟨fun b hb=>?_,fun j e sz rows hj=>?_,fun j o hj=>?_⟩
  ·obtain⟨q1,q2⟩:=hu1.free b hb;exact⟨I1 b q1,q2⟩
  ·rcases ld hj with h|⟨_,h⟩
   ·cases h
   ·exact hu1.rows j e sz rows h
  ·rcases ld hj with h|⟨_,h⟩
   ·subst h;trivial
   ·exact hu1.more j o h
 obtain⟨L,c1,c2,c3,c4,c5⟩:=YW.inst N;subst c3;subst c4;have NE:∀x∈L,x.ok w':=c2;let κ':Nat->Option Value:=fun j=>if j<N then κ j else(L[j-N]?).map Fs.v
 let Θ':Nat->Nat:=fun b=>match Gg L b with|some i=>N+i+2|none=>if Θ2 b=N+2 then 0 else Θ2 b
 let ρ':Nat->Nat:=fun b=>match qT L b with|some i=>N+i+1|none=>ρ1 b
 have KI:∀(i:Nat) x b,L[i]?=some x->x.v.ownBlock=some b->Θ' b=N+i+2:=by
  intro i x b hx hb;simp only[Θ',FJ UL hx hb]
 have xM:∀b,b∉L.flatMap Fs.ts->Θ' b=if Θ2 b=N+2 then 0 else Θ2 b:=by
  intro b h2;simp only[Θ',uS h2]
 have hzero:∀b,w.heap.size<=b->Θ2 b=0:=fun b hge=>by
  cases h:Θ2 b with
  |zero=>rfl
  |succ m=>exact absurd (hs2.own b (by omega)) (by omega)
 have V2:∀b∈b2,Θ' b=0:=by
  intro b hb;obtain⟨p1,p3⟩:=kb b hb;rw[xM b p3];by_cases hlt:b<w.heap.size
  ·rcases p1 hlt with h|h
   ·rw[I1 b ((xN b).1 h)];simp
   ·rw[bE (Bw b h)]
  ·rw[hzero b (by omega)];simp
 have Ry:∀(i:Nat) x b,L[i]?=some x->b∈x.ns->Θ' b=0:=by
  intro i x b hx hb;have hmem:=pO hx hb;rw[xM b (zy UL hx hb)];rcases(ku b hmem).1 with h|h
  ·rw[hzero b h];simp
  ·rcases xe.mem b h with h|⟨m,hm,hρ⟩
   ·rw[bE (Bw b h)]
   ·rw[I1 b (hu1.free b (by omega)).1];simp
 have hn:∀(j:Nat) v,κ j=some v->κ' j=some v:=by
  intro j v hj;have:j<N:=cr fun h=>by rw[hs.nB j (by omega)]at hj;cases hj
  simp only[κ'];rw[bE this];exact hj
 have si:Names κ' N L:=by
  intro i x hx;simp only[κ'];rw[av (by omega),cq,hx];rfl
 have Rt:∀b∈L.flatMap Fs.ts,wB Γ b:=by
  intro b hb;rcases(kt b hb).2 with h|h
  ·exact .inl (dA hs.base h)
  ·obtain⟨m,hm,hΘ⟩:=Eu b h;exact hs1.mine b (by omega)
 have k:gi w w' Θ2 Θ' (N+2):=by
  refine⟨by omega,k1,k2,k3,k4,fun b hlt hne=>NW b hlt (fun e=>hne (Bw b e)),fun b hlt hne=>?_,fun b hb=>?_⟩
  ·rw[xM b (fun e=>?_),av hne];rcases(kt b e).2 with h|h
   ·omega
   ·exact hne (Bw b h)
  ·by_cases ht':b∈L.flatMap Fs.ts
   ·obtain⟨x,T,hx⟩:=(ku b (B9 ht')).2;exact(az.1 hx).1
   ·rw[xM b ht']at hb;split at hb
    ·exact absurd rfl hb
    ·exact cw (hs2.own b hb) k4
 have hm:∀b,2<=Θ' b->wB Γ b:=by
  intro b hb;by_cases ht':b∈L.flatMap Fs.ts
  ·exact Rt b ht'
  ·rw[xM b ht']at hb;split at hb
   ·omega
   ·exact hs2.mine b hb
 have qR:=hs2.lf k hn UJ;have E3:(kill st.H (ms++qs)).length=N:=by simp[ey,N]
 have key:∀(j:Nat) y,(kill st.H (ms++qs)++L.map Fs.ob)[j]?=some y->(∃i x,j=N+i/\L[i]?=some x/\y=x.ob)\/(j<N/\(y=.gone\/(kill (kill st.H ms) qs)[j]?=some y)):=by
  intro j y hj;by_cases hlt:j<N
  ·rw[ai (by rw[E3];exact hlt)]at hj;refine .inr ⟨hlt,?_⟩;rcases ld hj with h|⟨h3,h4⟩
   ·exact .inl h
   ·refine .inr ?_;simp only[aV,B6]at h3;rw[fo h3.2,fo h3.1];exact h4
  ·rw[au (by omega),E3,bU]at hj;cases hx:L[j-N]? with
   |none=>simp[hx]at hj
   |some x=>simp[hx]at hj;exact .inl ⟨j-N,x,by omega,hx,hj.symm⟩
 have hs':dM Γ ⟨st.σ,kill st.H (ms++qs)++L.map Fs.ob⟩ κ' Θ' a w':=by
  have GQ:∀(j:Nat) y,(kill (kill st.H ms) qs)[j]?=some y->y≠ .gone->∀b,ρ1 b=j+1->ρ' b=j+1:=by
   intro j y hy hyg b Y8;have hjk:j∉qs:=by
    rcases ld hy with h|h
    ·exact absurd h hyg
    ·exact h.1
   have hnb:qT L b=none:=by
    cases hi:qT L b with
    |none=>rfl
    |some i=>
     exfalso;obtain⟨x,hx,yZ⟩:=rF hi;obtain⟨z0,_,a2Z,T'',Y6⟩:=hu1.free b (by omega);rcases(ku b (pO hx yZ)).1 with h|h
     ·have:=(az.1 Y6).1;omega
     ·rcases xe.mem b h with h|⟨m,hm',hρ⟩
      ·obtain⟨m,hm',hΘ⟩:=Eu b h;omega
      ·exact hjk (by
        have:j=m:=by omega
        rw[this];exact hm')
   simp only[ρ',hnb];exact Y8
  refine hs2.step k hm hn ?_ ?_ ?_ ⟨ρ',?_,?_,?_⟩
  ·intro i hi;simp only[b8,E3,ax]at hi;simp only[κ'];rw[av (by omega),cB (by omega)];rfl
  ·intro i u tj;simp only[κ']at tj;split at tj
   ·exact hs.mY i u tj
   ·cases hx:L[i-N]? with
    |none=>simp[hx]at tj
    |some x=>simp[hx]at tj;subst tj;exact(NE x (aE hx)).2.2.2.2
  ·intro j y hj;rcases key j y hj with⟨i,x,rfl,hx,rfl⟩|⟨hjl,hy|hy⟩
   ·obtain⟨q1,q2,q3,q4,_⟩:=NE x (aE hx);exact .inr (.inr ⟨q1,q2,x.v,x.cs,x.ns,si i x hx,q3,q4,fun g' hg'=>KI i x g' hx hg',fun b hb'=>Ry i x b hx hb'⟩)
   ·exact .inl hy
   ·exact .inr (.inl ⟨by omega,hy⟩)
  ·intro b hb;cases Is:qT L b with
   |some i=>
    obtain⟨x,hx,yZ⟩:=rF Is;have hmem:=pO hx yZ;refine⟨Ry i x b hx yZ,?_,(ku b hmem).2⟩;rcases(ku b hmem).1 with h|h
    ·exact .inl (.inl (dA hs.base h))
    ·rcases xe.mem b h with h|⟨m,hm',hρ⟩
     ·obtain⟨m,hm',hΘ⟩:=Eu b h;exact .inl (hs1.mine b (by omega))
     ·exact(hu1.free b (by omega)).2.1
   |none=>
    simp only[ρ',Is]at hb;exact qR.1 b hb
  ·intro j e sz rows hj;rcases key j _ hj with⟨i,x,rfl,hx,hy⟩|⟨hjl,hy|hy⟩
   ·simp only[Fs.ob,Ob.row.injEq,pN]at hy;obtain⟨rfl,rfl,rfl⟩:=hy;obtain⟨q1,q2,q3,q4,_⟩:=NE x (aE hx);exact⟨x.v,x.cs,x.ns,si i x hx,q3,q4,F8 UL hx,fun b hb'=>by simp only[ρ',zT UL hx hb']⟩
   ·cases hy
   ·obtain⟨v',c',bs',r1,r2,r3,r4,r5⟩:=qR.2.1 j e sz rows (by omega) hy;exact⟨v',c',bs',r1,r2,r3,r4,fun b hb'=>GQ j _ hy (by simp) b (r5 b hb')⟩
  ·intro j y hj;rcases key j _ hj with⟨i,x,rfl,hx,hy⟩|⟨hjl,hy|hy⟩
   ·subst hy;exact Gl.vb rfl
   ·subst hy;trivial
   ·by_cases hg:y=.gone
    ·subst hg;trivial
    ·exact(qR.2.2 j y (by omega) hy).re (GQ j y hy hg)
 rw[<-c1]at h;refine hK _ _ (h _ _ _ _ (hs'.set (t:=t) ht (c5 κ' si) fun b hb=>V2 b hb))
end
end Go.Cx
namespace Go.Cx
open Go.RowKit
def LN(P:Program)(f:FuncId)(e:TypeId)(sz:Nat)(rows dh:List aK):Prop:=
 (∃fn,P.funcs[f]?=some fn/\fn.body.isSome=true/\(fn.name== "runtime.NumGoroutine")=false)/\
 ∀(w:World) (v:Value) (cs:bW),0<sz->(∀r∈rows,r.length=sz)->w.ownsRow 0 e sz v rows.length cs->jx w cs rows.flatten []->
  Calls P f #[v] w (fun x w'=>x=.returned (.tuple #[])/\w'.os=w.os/\w'.tape=w.tape/\w'.output=w.output/\w.heap.size<=w'.heap.size/\
   (∀b,b<w.heap.size->v.ownBlock≠some b->w'.heap[b]?=w.heap[b]?)/\(∀r∈dh,r.length=sz)/\∃cs',w'.ownsRow 0 e sz v dh.length cs'/\jx w' cs' dh.flatten [])
section
variable{P:Program}{Γ:sQ}{Q:Exit->St->Prop}{st:St}{κ:Nat->Option Value}{Θ:Nat->Nat}{a:Act}{w:World}{all:Array Oper}{rest:List Oper}
theorem Qw{o:Oper}{f id e sz:Nat}{x:Operand}{ts:Array TypeId}{k0:RK}{rows dh:List aK}(hop:o.op=.call {callee:=.value (.func f),args:= #[x],argTypes:=ts})(hd:∀t,o.dst=some t->t<Γ.nt)(hg:o.guard=none)
 (hx:st.ev x=.acc id) (hH:st.H[id]?=some (.row k0 e sz rows)) (hk0:k0.hand=true) (hfl:rows.flatten.all D.flat=true) (kq:LN P f e sz rows dh)
 (h:AO P Γ all rest Q (St.put ⟨st.σ,st.H.set id (.row k0 e sz dh)⟩ o.dst (.iQ []))):AO P Γ all (o::rest) Q st:=by
 intro κ Θ a w hs;obtain⟨b1,r1,_⟩:=hs.ev x;rw[hx]at r1;obtain⟨hkv,_⟩:=r1.sL;obtain⟨hsz,hrl,v,cs,bs,hk1,hown,hrd,Bv,hz⟩:=hs.ob id _ hH;rw[hkv]at hk1;cases hk1;have Br:=hrd.flat hfl;subst Br;obtain⟨ρ,hu⟩:=hs.qf;refine wpList_plain hg fun K hK=>?_
 unfold Oper.wp;rw[tg hop kq.1,Oper.upon_enter];have e1:(#[x]:Array Operand).map a.eval= #[a.eval x]:=by simp
 rw[e1];refine(kq.2 w _ cs hsz hrl hown hrd).mono ?_;rintro e' w' ⟨rfl,k1,k2,k3,k4,k5,Gz,cs',Et,Hz⟩;have kk:gi w w' Θ Θ (id+2):=⟨by omega,k1,k2,k3,k4,fun b hb ht=>k5 b hb fun e=>ht (Bv b e),fun _ _ _=>rfl,fun b hb=>cw (hs.own b hb) k4⟩
 have hs':dM Γ ⟨st.σ,st.H.set id (.row k0 e sz dh)⟩ κ Θ a w':=by
  refine hs.put [] wL (fun _ _ h=>h) (fun i hi=>hs.nB i (by simpa using hi)) hs.mY kk hs.mine ?_ hu (by simp) ?_ ?_
  ·refine⟨hsz,Gz,_,cs',[],hkv,Et,Hz,Bv,?_⟩;cases k0 with
   |cl=>simp[RK.hand]at hk0
   |mv n=>simp[RK.hand]at hk0
   |sh=>simp
   |uq=>simp
  ·intro e2 Nz fN he;cases he;exact⟨_,cs',[],hkv,Et,Hz,by simp,by simp⟩
  ·cases k0 with
   |mv n=>simp[RK.hand]at hk0
   |_=>rfl
 show K (a.put o.dst (.tuple #[])) w';refine hK _ _ (h κ Θ _ w' ?_);cases KA:o.dst with
 |none=>exact hs'
 |some t=>exact hs'.set (hd t KA) (.iQ [] [] [] .nil) (by simp)
end
end Go.Cx

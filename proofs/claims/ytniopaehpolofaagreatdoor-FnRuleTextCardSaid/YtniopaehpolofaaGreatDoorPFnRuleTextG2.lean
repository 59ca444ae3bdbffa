/- Calls as contracts of the abstract walk ('Good'): arguments are looked at, results may be handed over whole and new; how a body's abstract walk gives its contract. No condition; plain lemmas. -/
import Derived.Test.YtniopaehpolofaaGreatDoorPFnRuleTextG1
import Derived.StillTail
import Derived.MapKept
set_option linter.unusedVariables false
set_option linter.unusedSimpArgs false
namespace Go.Cx
open Go.RowKit
inductive FK(w:World):List Value->List D->List Nat->Prop
 |nil:FK w [] [] []
 |cons (v:Value) (vs:aq) (d:D) (ds:aG) (b1 b2:aH):Rd w v d b1->FK w vs ds b2->FK w (v::vs) (d::ds) (b1++b2)
inductive tj(w:World):Value->D->List Nat->List Nat->List Nat->Prop
 |pure {v:Value} {d:D} {bs:aH}:Rd w v d bs->tj w v d bs [] []
 |fr (v:Value) (e sz:Nat) (rows:List aG) (cs:aq) (ns:aH):0<sz->(∀r∈rows,r.length=sz)->w.ownsRow 0 e sz v rows.length cs->ng w (mX e) 0 cs rows.flatten ns->v.oneCell'=true->
  tj w v (.fr e sz rows) [] v.ownBlock.toList (v.ownBlock.toList++ns)
 |fs (v:Value) (e sz:Nat) (rows:List aG) (cs:aq) (ns:aH):0<sz->(∀r∈rows,r.length=sz)->w.ownsRow 0 e sz v rows.length cs->gG w cs rows.flatten ns->v.oneCell'=true->
  tj w v (.fs e sz rows) ns v.ownBlock.toList v.ownBlock.toList
inductive lM(w:World):List Value->List D->List Nat->List Nat->List Nat->Prop
 |nil:lM w [] [] [] [] []
 |cons (v:Value) (vs:aq) (d:D) (ds:aG) (b1 b2 t1 t2 u1 u2:aH):v.oneCell'=true->tj w v d b1 t1 u1->lM w vs ds b2 t2 u2->lM w (v::vs) (d::ds) (b1++b2) (t1++t2) (u1++u2)
inductive vK(w:World):Value->D->List Nat->List Nat->List Nat->Prop
 |cell {v:Value} {d:D} {bs ts us:aH}:tj w v d bs ts us->vK w v d bs ts us
 |agg (cs:aq) (ds:aG) (bs ts us:aH):lM w cs ds bs ts us->vK w (.agg cs.toArray) (.agg ds) bs ts us
inductive qi(w:World):List Value->List D->List Nat->List Nat->List Nat->Prop
 |nil:qi w [] [] [] [] []
 |cons (v:Value) (vs:aq) (d:D) (ds:aG) (b1 b2 t1 t2 u1 u2:aH):vK w v d b1 t1 u1->qi w vs ds b2 t2 u2->qi w (v::vs) (d::ds) (b1++b2) (t1++t2) (u1++u2)
inductive qZ(w:World):Value->D->List Nat->List Nat->List Nat->Prop
 |v {v:Value} {d:D} {bs ts us:aH}:vK w v d bs ts us->qZ w v d bs ts us
 |fy (vs:aq) (ds:aG) (bs ts us:aH):qi w vs ds bs ts us->qZ w (.tuple vs.toArray) (.fy ds) bs ts us
def Good(P:Program)(f:FuncId)(ds:aG)(d:D):Prop:=
 (∃fn,P.funcs[f]?=some fn/\fn.body.isSome=true/\(fn.name== "runtime.NumGoroutine")=false)/\
 ∀(w:World) (Θ:Nat->Nat) (args:aq) (bs:aH),B0 w (fun _=>False)->FK w args ds bs->(∀b∈bs,Θ b=0)->(∀b,Θ b≠0->b<w.heap.size)->(∀b,Θ b<=1)->
  Calls P f args.toArray w (fun e w'=>∃v bs' ts us,e=.returned v/\Below w.heap.size w w'/\qZ w' v d bs' ts us/\(∀b∈bs',b<w.heap.size->Θ b=0)/\(∀b∈bs',b∉ts)/\us.Nodup/\
   (∀b∈us,w.heap.size<=b/\Wr w' b)/\∀b∈ts,b∈us)
def sw(n:Nat)(d:D):D×ai:=match d with
 | .fr e sz rows=>(.acc n,[.row .uq e sz rows])
 | .fs e sz rows=>(.acc n,[.row .sh e sz rows])
 |d=>(d,[])
def iN(n:Nat):aG->aG×ai
 | []=>([],[])
 |d::ds=>((sw n d).1::(iN (n+(sw n d).2.length) ds).1,(sw n d).2++(iN (n+(sw n d).2.length) ds).2)
def rT(n:Nat)(d:D):D×ai:=match d with
 | .agg cs=>(.agg (iN n cs).1,(iN n cs).2)
 |d=>sw n d
def rB(n:Nat):aG->aG×ai
 | []=>([],[])
 |d::ds=>((rT n d).1::(rB (n+(rT n d).2.length) ds).1,(rT n d).2++(rB (n+(rT n d).2.length) ds).2)
def ir(n:Nat)(d:D):D×ai:=match d with
 | .fy vs=>(.fy (rB n vs).1,(rB n vs).2)
 |d=>rT n d
structure Fs where
 v:Value
 e:Nat
 sz:Nat
 rows:List aG
 cs:aq
 ns:aH
 sh:Bool
 vs:aH
def Fs.ob(x:Fs):Ob:=.row (bif x.sh then .sh else .uq) x.e x.sz x.rows
def Fs.rs(x:Fs):aH:=bif x.sh then x.vs else x.ns
def Fs.ok(w:World)(x:Fs):Prop:=0<x.sz/\(∀r∈x.rows,r.length=x.sz)/\w.ownsRow 0 x.e x.sz x.v x.rows.length x.cs/\ng w (bif x.sh then(fun _=>none)else mX x.e) 0 x.cs x.rows.flatten x.rs/\x.v.oneCell'=true
theorem Fs.ok.uq{w:World}{x:Fs}(h:x.ok w)(hs:x.sh=false):ng w (mX x.e) 0 x.cs x.rows.flatten x.ns:=by
 have:=h.2.2.2.1;unfold Fs.rs at this;rw[hs]at this;exact this
theorem Fs.Au{x:Fs}{e sz:Nat}{rows:List aG}(h:x.ob=.row .uq e sz rows):x.sh=false/\x.e=e/\x.sz=sz/\x.rows=rows:=by
 unfold Fs.ob at h;cases hs:x.sh with
 |true=>rw[hs]at h;cases h
 |false=>rw[hs]at h;cases h;exact⟨rfl,rfl,rfl,rfl⟩
theorem Fs.rel{w:World}{κ:Nat->Option Value}{Θ:Nat->Nat}{id:Nat}{x:Fs}(h:x.ok w)(hk:κ id=some x.v)(ht:∀g,x.v.ownBlock=some g->Θ g=id+2)(hz:∀b∈x.ns,Θ b=0)(hv:x.sh=true->∀b∈x.vs,Θ b=0):mh w κ Θ id x.ob:=by
 obtain⟨q1,q2,q3,q4,_⟩:=h;unfold Fs.ob;unfold Fs.rs at q4;cases hs:x.sh with
 |true=>rw[hs]at q4;exact⟨q1,q2,x.v,x.cs,x.vs,hk,q3,q4.rd,ht,hv hs⟩
 |false=>rw[hs]at q4;exact⟨q1,q2,x.v,x.cs,x.ns,hk,q3,q4.rd,ht,hz⟩
theorem Fs.plain{w:World}{κ:Nat->Option Value}{ρ:Nat->Nat}{id:Nat}(x:Fs):Az w κ ρ id x.ob:=by
 unfold Fs.ob;cases x.sh<;>exact Az.ux rfl
def Fs.bl(x:Fs):aH:=x.v.ownBlock.toList++x.ns
def Fs.ts(x:Fs):aH:=x.v.ownBlock.toList
section
variable{P:Program}{Γ:lY}{Q:Exit->St->Prop}{st:St}{κ κ':Nat->Option Value}{Θ Θ':Nat->Nat}{a:Act}{w w':World}{all:Array Oper}{rest:List Oper}
def Names(κ:Nat->Option Value)(n:Nat)(L:List Fs):Prop:=∀(i:Nat) x,L[i]?=some x->κ (n+i)=some x.v
theorem Names.left{n:Nat}{L1 L2:List Fs}(h:Names κ n (L1++L2)):Names κ n L1:=fun i x hx=>h i x (by
 rw[aS (aB.1 hx).1];exact hx)
theorem Names.right{n:Nat}{L1 L2:List Fs}(h:Names κ n (L1++L2)):Names κ (n+L1.length) L2:=fun i x hx=>by
 have:=h (L1.length+i) x (by rw[aV (by omega)];simpa using hx);rw[<-this];congr 1;omega
theorem tj.inst{v:Value}{d:D}{bs ts us:aH}(h:tj w v d bs ts us)(n:Nat):
 ∃L:List Fs,L.map Fs.ob=(sw n d).2/\(∀x∈L,x.ok w)/\us=L.flatMap Fs.bl/\ts=L.flatMap Fs.ts/\(∀x∈L,x.sh=true->∀b∈x.vs,b∈bs)/\∀κ,Names κ n L->∃b0,oz w κ v (sw n d).1 b0/\∀b∈b0,b∈bs:=by
 cases h with
 |pure h=>
  have e:sw n d=(d,[]):=by cases h<;>rfl
  rw[e];exact⟨[],rfl,by simp,rfl,rfl,by simp,fun κ _=>⟨_,.pure h,fun _ h=>h⟩⟩
 |fr e sz rows cs ns h1 h2 h3 h4 h5=>
  refine⟨[⟨v,e,sz,rows,cs,ns,false,[]⟩],rfl,?_,by simp[Fs.bl],by simp[Fs.ts],by simp,fun κ hk=>⟨[],?_,by simp⟩⟩
  ·intro x hx;simp at hx;subst hx;exact⟨h1,h2,h3,h4,h5⟩
  ·exact .acc n v (by simpa using hk 0 _ rfl)
 |fs e sz rows cs ns h1 h2 h3 h4 h5=>
  refine⟨[⟨v,e,sz,rows,cs,[],true,bs⟩],rfl,?_,by simp[Fs.bl],by simp[Fs.ts],fun x hx _ b hb=>?_,fun κ hk=>⟨[],?_,by simp⟩⟩
  ·intro x hx;simp at hx;subst hx;exact⟨h1,h2,h3,.of h4 (fun _=>rfl),h5⟩
  ·simp at hx;subst hx;exact hb
  ·exact .acc n v (by simpa using hk 0 _ rfl)
theorem lM.inst{vs:aq}{ds:aG}{bs ts us:aH}(h:lM w vs ds bs ts us)(n:Nat):
 ∃L:List Fs,L.map Fs.ob=(iN n ds).2/\(∀x∈L,x.ok w)/\us=L.flatMap Fs.bl/\ts=L.flatMap Fs.ts/\(∀x∈L,x.sh=true->∀b∈x.vs,b∈bs)/\∀κ,Names κ n L->∃b0,dA w κ vs (iN n ds).1 b0/\∀b∈b0,b∈bs:=by
 induction h generalizing n with
 |nil=>exact⟨[],rfl,by simp,rfl,rfl,by simp,fun κ _=>⟨_,.nil,fun _ h=>h⟩⟩
 |cons v vs d ds b1 b2 t1 t2 u1 u2 h1 h2 _ ih=>
  obtain⟨L1,q1,q2,q3,q4,q6,q5⟩:=h2.inst n;obtain⟨L2,p1,p2,p3,p4,p6,p5⟩:=ih (n+(sw n d).2.length);have hl:L1.length=(sw n d).2.length:=by rw[<-q1];simp
  refine⟨L1++L2,by simp[iN,q1,p1],?_,by simp[q3,p3],by simp[q4,p4],fun x hx hs b hb=>?_,fun κ hk=>?_⟩
  ·intro x hx;rcases aF.1 hx with hx|hx
   ·exact q2 x hx
   ·exact p2 x hx
  ·rcases aF.1 hx with hx|hx
   ·exact aF.2 (.inl (q6 x hx hs b hb))
   ·exact aF.2 (.inr (p6 x hx hs b hb))
  ·obtain⟨c1,r1,s1⟩:=q5 κ hk.left;obtain⟨c2,r2,s2⟩:=p5 κ (by rw[<-hl];exact hk.right);refine⟨_,.cons _ _ _ _ _ _ h1 r1 r2,fun b hb=>?_⟩;rcases aF.1 hb with hb|hb
   ·exact aF.2 (.inl (s1 b hb))
   ·exact aF.2 (.inr (s2 b hb))
theorem vK.inst{v:Value}{d:D}{bs ts us:aH}(h:vK w v d bs ts us)(n:Nat):
 ∃L:List Fs,L.map Fs.ob=(rT n d).2/\(∀x∈L,x.ok w)/\us=L.flatMap Fs.bl/\ts=L.flatMap Fs.ts/\(∀x∈L,x.sh=true->∀b∈x.vs,b∈bs)/\∀κ,Names κ n L->∃b0,A7 w κ v (rT n d).1 b0/\∀b∈b0,b∈bs:=by
 cases h with
 |cell h=>
  by_cases lE:∃ds,d=.agg ds
  ·obtain⟨ds,rfl⟩:=lE;cases h with
   |pure h=>
    cases h with
    |agg cs _ _ h=>
     have:∀(vs:aq) (es:aG) (b:aH),gG w vs es b->∀n,(iN n es).1=es/\(iN n es).2=[]:=by
      intro vs es
      induction es generalizing vs with
      |nil=>intro b _ n;exact⟨rfl,rfl⟩
      |cons e es ih=>
       intro b hh n;cases hh with
       |cons v vs _ _ b1 b2 _ h2 h3=>
        have e1:sw n e=(e,[]):=by cases h2<;>rfl
        have:=ih vs b2 h3 n;simp[iN,e1,this]
     obtain⟨e1,e2⟩:=this _ _ _ h n;refine⟨[],by simp[rT,e2],by simp,rfl,rfl,by simp,fun κ _=>⟨_,?_,fun _ h=>h⟩⟩;simp only[rT,e1];exact .agg _ _ _ (dA.sx h)
  ·have e:rT n d=sw n d:=by cases d<;>first|rfl|exact absurd ⟨_,rfl⟩ lE
   rw[e];obtain⟨L,q1,q2,q3,q4,q6,q5⟩:=h.inst n;exact⟨L,q1,q2,q3,q4,q6,fun κ hk=>by obtain⟨c,r,s⟩:=q5 κ hk;exact⟨c,.cell r,s⟩⟩
 |agg cs ds bs ts us h=>
  obtain⟨L,q1,q2,q3,q4,q6,q5⟩:=h.inst n;exact⟨L,q1,q2,q3,q4,q6,fun κ hk=>by obtain⟨c,r,s⟩:=q5 κ hk;exact⟨c,.agg _ _ _ r,s⟩⟩
theorem qi.inst{vs:aq}{ds:aG}{bs ts us:aH}(h:qi w vs ds bs ts us)(n:Nat):
 ∃L:List Fs,L.map Fs.ob=(rB n ds).2/\(∀x∈L,x.ok w)/\us=L.flatMap Fs.bl/\ts=L.flatMap Fs.ts/\(∀x∈L,x.sh=true->∀b∈x.vs,b∈bs)/\∀κ,Names κ n L->∃b0,sA w κ vs (rB n ds).1 b0/\∀b∈b0,b∈bs:=by
 induction h generalizing n with
 |nil=>exact⟨[],rfl,by simp,rfl,rfl,by simp,fun κ _=>⟨_,.nil,fun _ h=>h⟩⟩
 |cons v vs d ds b1 b2 t1 t2 u1 u2 h2 _ ih=>
  obtain⟨L1,q1,q2,q3,q4,q6,q5⟩:=h2.inst n;obtain⟨L2,p1,p2,p3,p4,p6,p5⟩:=ih (n+(rT n d).2.length);have hl:L1.length=(rT n d).2.length:=by rw[<-q1];simp
  refine⟨L1++L2,by simp[rB,q1,p1],?_,by simp[q3,p3],by simp[q4,p4],fun x hx hs b hb=>?_,fun κ hk=>?_⟩
  ·intro x hx;rcases aF.1 hx with hx|hx
   ·exact q2 x hx
   ·exact p2 x hx
  ·rcases aF.1 hx with hx|hx
   ·exact aF.2 (.inl (q6 x hx hs b hb))
   ·exact aF.2 (.inr (p6 x hx hs b hb))
  ·obtain⟨c1,r1,s1⟩:=q5 κ hk.left;obtain⟨c2,r2,s2⟩:=p5 κ (by rw[<-hl];exact hk.right);refine⟨_,.cons _ _ _ _ _ _ r1 r2,fun b hb=>?_⟩;rcases aF.1 hb with hb|hb
   ·exact aF.2 (.inl (s1 b hb))
   ·exact aF.2 (.inr (s2 b hb))
theorem qZ.inst{v:Value}{d:D}{bs ts us:aH}(h:qZ w v d bs ts us)(n:Nat):
 ∃L:List Fs,L.map Fs.ob=(ir n d).2/\(∀x∈L,x.ok w)/\us=L.flatMap Fs.bl/\ts=L.flatMap Fs.ts/\(∀x∈L,x.sh=true->∀b∈x.vs,b∈bs)/\∀κ,Names κ n L->∃b0,kF w κ v (ir n d).1 b0/\∀b∈b0,b∈bs:=by
 cases h with
 |v h=>
  have hnt:∀vs,d≠ .fy vs:=by
   intro vs e;subst e;cases h with
   |cell h=>cases h with|pure h=>cases h
  have e:ir n d=rT n d:=by cases d<;>first|rfl|exact absurd rfl (hnt _)
  rw[e];obtain⟨L,q1,q2,q3,q4,q6,q5⟩:=h.inst n;exact⟨L,q1,q2,q3,q4,q6,fun κ hk=>by obtain⟨c,r,s⟩:=q5 κ hk;exact⟨c,.v r,s⟩⟩
 |fy vs ds bs ts us h=>
  obtain⟨L,q1,q2,q3,q4,q6,q5⟩:=h.inst n;exact⟨L,q1,q2,q3,q4,q6,fun κ hk=>by obtain⟨c,r,s⟩:=q5 κ hk;exact⟨c,.fy _ _ _ r,s⟩⟩
theorem D3{v:Value}{d:D}{bs ts us:aH}(h:tj w v d bs ts us):∀b∈ts,Wr w b:=by
 cases h with
 |pure=>simp
 |fr e sz rows cs ns h1 h2 h3 h4 h5=>
  intro b hb;simp only[eN]at hb;rcases h3.2 with⟨rfl,_⟩|⟨g,cap,cur,rfl,_,hg,_⟩
  ·simp[Value.ownBlock]at hb
  ·simp[Value.ownBlock]at hb;subst hb;exact⟨_,_,hg⟩
 |fs e sz rows cs ns h1 h2 h3 h4 h5=>
  intro b hb;simp only[eN]at hb;rcases h3.2 with⟨rfl,_⟩|⟨g,cap,cur,rfl,_,hg,_⟩
  ·simp[Value.ownBlock]at hb
  ·simp[Value.ownBlock]at hb;subst hb;exact⟨_,_,hg⟩
theorem GI{vs:aq}{ds:aG}{bs ts us:aH}(h:lM w vs ds bs ts us):∀b∈ts,Wr w b:=by
 induction h with
 |nil=>simp
 |cons v vs d ds b1 b2 t1 t2 u1 u2 h1 h2 _ ih=>
  intro b hb;rcases aF.1 hb with hb|hb
  ·exact D3 h2 b hb
  ·exact ih b hb
theorem A9{v:Value}{d:D}{bs ts us:aH}(h:vK w v d bs ts us):∀b∈ts,Wr w b:=by
 cases h with
 |cell h=>exact D3 h
 |agg cs ds bs ts us h=>exact GI h
theorem yJ{vs:aq}{ds:aG}{bs ts us:aH}(h:qi w vs ds bs ts us):∀b∈ts,Wr w b:=by
 induction h with
 |nil=>simp
 |cons v vs d ds b1 b2 t1 t2 u1 u2 h2 _ ih=>
  intro b hb;rcases aF.1 hb with hb|hb
  ·exact A9 h2 b hb
  ·exact ih b hb
theorem A8{v:Value}{d:D}{bs ts us:aH}(h:qZ w v d bs ts us):∀b∈ts,Wr w b:=by
 cases h with
 |v h=>exact A9 h
 |fy vs ds bs ts us h=>exact yJ h
def ix{α:Type}(p:α->Bool):List α->Option Nat
 | []=>none
 |x::r=>if p x then some 0 else(ix p r).map (· +1)
theorem p9{α:Type}{p:α->Bool}:∀ {l:List α} {i:Nat},ix p l=some i->∃x,l[i]?=some x/\p x=true:=by
 intro l
 induction l with
 |nil=>intro i h;cases h
 |cons x r ih=>
  intro i h;simp only[ix]at h;split at h
  ·cases h;exact⟨x,rfl,by assumption⟩
  ·cases hr:ix p r with
   |none=>simp[hr]at h
   |some j=>simp[hr]at h;subst h;simpa using ih hr
theorem uh{α:Type}{p:α->Bool}:∀ {l:List α} {i:Nat} {x:α},l[i]?=some x->p x=true->(∀(j:Nat) y,l[j]?=some y->p y=true->j=i)->ix p l=some i:=by
 intro l
 induction l with
 |nil=>intro i x h;simp at h
 |cons y r ih=>
  intro i x h hp hu;simp only[ix];split
  ·rename_i hy;rw[hu 0 y rfl hy]
  ·rename_i hy;cases i with
   |zero=>simp at h;subst h;exact absurd hp hy
   |succ i=>
    rw[ih (by simpa using h) hp (fun j z hz R3=>by have:=hu (j+1) z (by simpa using hz) R3;omega)];rfl
theorem mo{α:Type}{f:α->aH}:∀ {l:List α},(l.flatMap f).Nodup->∀(i j:Nat) x y b,l[i]?=some x->l[j]?=some y->b∈f x->b∈f y->i=j:=by
 intro l
 induction l with
 |nil=>intro _ i j x y b hi;simp at hi
 |cons z r ih=>
  intro hnd i j x y b hi hj rG hby;simp only[gD]at hnd;obtain⟨n1,n2,n3⟩:=aZ.1 hnd;cases i with
  |zero=>
   simp at hi;subst hi;cases j with
   |zero=>rfl
   |succ j=>
    simp at hj;exact absurd rfl (n3 b rG b (bV.2 ⟨y,aD hj,hby⟩))
  |succ i=>
   simp at hi;cases j with
   |zero=>
    simp at hj;subst hj;exact absurd rfl (n3 b hby b (bV.2 ⟨x,aD hi,rG⟩))
   |succ j=>simp at hj;rw[ih n2 i j x y b hi hj rG hby]
theorem cN.BV(hs:cN Γ st κ Θ a w)(hb:Below w.heap.size w w')(L:List Fs)(hL:∀x∈L,x.ok w')(hnd:(L.flatMap Fs.bl).Nodup)(hfr:∀b∈L.flatMap Fs.bl,w.heap.size<=b/\Wr w' b)(hvs:∀x∈L,x.sh=true->∀b∈x.vs,Θ b=0/\b∉L.flatMap Fs.ts)
 (n:Nat) (H':ai) (hfree:∀i,i<L.length->κ (n+i)=none) (hlen':st.H.length<=H'.length) (hin:n+L.length<=H'.length)
 (key:∀(j:Nat) y,H'[j]?=some y->(∃i x,j=n+i/\L[i]?=some x/\y=x.ob)\/((j<n\/n+L.length<=j)/\(y=.gone\/st.H[j]?=some y))):
 ∃κ' Θ',cN Γ ⟨st.σ,H'⟩ κ' Θ' a w'/\Names κ' n L/\(∀(j:Nat) v,κ j=some v->κ' j=some v)/\(∀b,b∉L.flatMap Fs.ts->Θ' b=Θ b)/\(∀j,(j<n\/n+L.length<=j)->κ' j=κ j):=by
 let κ':Nat->Option Value:=fun j=>if j<n\/n+L.length<=j then κ j else(L[j-n]?).map Fs.v
 let Θ':Nat->Nat:=fun b=>match ix (fun x:Fs=>x.v.ownBlock==some b) L with|some i=>n+i+2|none=>Θ b
 have hu1:∀(i j:Nat) x y b,L[i]?=some x->L[j]?=some y->b∈x.bl->b∈y.bl->i=j:=fun i j x y b=>mo hnd i j x y b
 have hts:∀(i:Nat) x b,L[i]?=some x->x.v.ownBlock=some b->Θ' b=n+i+2:=by
  intro i x b hi HH;have:ix (fun x:Fs=>x.v.ownBlock==some b) L=some i:=uh hi (by simp[HH]) (fun j y hj hy=>by
   simp only[bX]at hy;exact hu1 j i y x b hj hi (by simp[Fs.bl,hy]) (by simp[Fs.bl,HH]))
  simp only[Θ',this]
 have hno:∀b,b∉L.flatMap Fs.ts->Θ' b=Θ b:=by
  intro b hb';simp only[Θ'];cases h:ix (fun x:Fs=>x.v.ownBlock==some b) L with
  |none=>rfl
  |some i=>
   obtain⟨x,hx,hp⟩:=p9 h;exact absurd (bV.2 ⟨x,aD hx,by simp only[bX]at hp;simp[Fs.ts,hp]⟩) hb'
 have hsub:∀b,b∈L.flatMap Fs.ts->b∈L.flatMap Fs.bl:=by
  intro b h;obtain⟨x,hx,rG⟩:=bV.1 h;exact bV.2 ⟨x,hx,by simp only[Fs.bl,Fs.ts]at rG⊢;exact aF.2 (.inl rG)⟩
 have hold:∀b,b<w.heap.size->Θ' b=Θ b:=fun b hlt=>hno b (fun h=>by have:=(hfr b (hsub b h)).1;omega)
 have hzero:∀b,w.heap.size<=b->Θ b=0:=fun b hge=>by
  cases h:Θ b with
  |zero=>rfl
  |succ m=>exact absurd (hs.own b (by omega)) (by omega)
 have hn:∀(j:Nat) v,κ j=some v->κ' j=some v:=by
  intro j v hj;have:j<n\/n+L.length<=j:=by
   rcases cY j n with h|h
   ·exact .inl h
   ·rcases cY j (n+L.length)with h2|h2
    ·have:=hfree (j-n) (by omega);rw[show n+(j-n)=j from by omega,hj]at this;cases this
    ·exact .inr h2
  simp only[κ'];rw[bG this];exact hj
 have mY:Names κ' n L:=by
  intro i x hx;have hlt:=(aB.1 hx).1;simp only[κ'];rw[ar (by omega),cC,hx];rfl
 have UM:∀b,Θ' b≠0->Θ b≠0\/b∈L.flatMap Fs.bl:=by
  intro b h;by_cases PG:b∈L.flatMap Fs.ts
  ·exact .inr (hsub b PG)
  ·rw[hno b PG]at h;exact .inl h
 have k:eT w w' Θ Θ' (H'.length+2):=by
  refine⟨by omega,hb.os,hb.tape,hb.output,hb.size,fun b hlt _=>hb.block b hlt,fun b hlt _=>hold b hlt,fun b h=>?_⟩;rcases UM b h with h|h
  ·exact bw (hs.own b h) hb.size
  ·obtain⟨cs,T,hx⟩:=(hfr b h).2;exact(aX.1 hx).1
 have hm:∀b,2<=Θ' b->oy Γ b:=by
  intro b h;by_cases PG:b∈L.flatMap Fs.ts
  ·exact .inl (eg hs.base (hfr b (hsub b PG)).1)
  ·rw[hno b PG]at h;exact hs.mine b h
 obtain⟨ρ,hu⟩:=hs.kx;have lF:=hs.iw k hn hu;let ρ':Nat->Nat:=fun b=>match ix (fun x:Fs=>x.ns.contains b) L with|some i=>n+i+1|none=>ρ b
 have Uq:∀(i:Nat) x b,L[i]?=some x->b∈x.ns->ρ' b=n+i+1:=by
  intro i x b hi HH;have:ix (fun x:Fs=>x.ns.contains b) L=some i:=uh hi (by simpa using HH) (fun j y hj hy=>by
   exact hu1 j i y x b hj hi (by simp only[Fs.bl];exact aF.2 (.inr (by simpa using hy))) (by simp only[Fs.bl];exact aF.2 (.inr HH)))
  simp only[ρ',this]
 have oF:∀(i:Nat) x b,L[i]?=some x->b∈x.ns->Θ' b=0:=by
  intro i x b hi HH;have hmem:b∈L.flatMap Fs.bl:=bV.2 ⟨x,aD hi,by simp only[Fs.bl];exact aF.2 (.inr HH)⟩;rw[hno b ?_]
  ·exact hzero b (hfr b hmem).1
  ·intro h;obtain⟨y,hy,hby⟩:=bV.1 h;obtain⟨j,hj⟩:=fY hy;have:=hu1 j i y x b hj hi (by simp only[Fs.bl,Fs.ts]at hby⊢;exact aF.2 (.inl hby)) (by simp only[Fs.bl];exact aF.2 (.inr HH));subst this;rw[hj]at hi;cases hi;have yd:x.bl.Nodup:=by
    have:∀(l:List Fs),(l.flatMap Fs.bl).Nodup->∀x∈l,x.bl.Nodup:=by
     intro l
     induction l with
     |nil=>intro _ x hx;cases hx
     |cons z r ih=>
      intro hnd x hx;simp only[gD]at hnd;obtain⟨n1,n2,_⟩:=aZ.1 hnd;rcases aY.1 hx with rfl|hx
      ·exact n1
      ·exact ih n2 x hx
    exact this L hnd x hy
   simp only[Fs.bl]at yd;exact(aZ.1 yd).2.2 b hby b HH rfl
 have hlen:∀i,H'.length<=i->κ' i=none:=by
  intro i hi;simp only[κ'];rw[bG (by omega)];exact hs.jN i (by omega)
 have AT:∀(j:Nat) y,H'[j]?=some y->j+2≠H'.length+2:=fun j y hj=>by
  have:=(aB.1 hj).1;omega
 refine⟨κ',Θ',?_,mY,hn,hno,fun j hj=>bG hj⟩;have zE:∀b,b<w.heap.size->ρ' b=ρ b:=by
  intro b hlt';simp only[ρ'];cases hi:ix (fun x:Fs=>x.ns.contains b) L with
  |none=>rfl
  |some i=>
   obtain⟨x,hx,hp⟩:=p9 hi;have:=(hfr b (bV.2 ⟨x,aD hx,by simp only[Fs.bl];exact aF.2 (.inr (by simpa using hp))⟩)).1;omega
 have M2:∀b,ρ b≠0->b<w.heap.size:=fun b hb'=>by
  obtain⟨_,_,cs',T,hx⟩:=hu.free b hb';exact(aX.1 hx).1
 refine hs.step k hm hn hlen ?_ ?_ ⟨ρ',?_,?_,?_⟩
 ·intro i u n8;simp only[κ']at n8;split at n8
  ·exact hs.j9 i u n8
  ·cases hx:L[i-n]? with
   |none=>simp[hx]at n8
   |some x=>simp[hx]at n8;subst n8;exact(hL x (aD hx)).2.2.2.2
 ·intro j y hj;have hjl:=AT j y hj;rcases key j y hj with⟨i,x,rfl,hx,rfl⟩|⟨hlt,hy|hy⟩
  ·refine .inr (.inr (Fs.rel (hL x (aD hx)) (mY i x hx) (fun g hg=>hts i x g hx hg) (fun b hb'=>oF i x b hx hb') fun hs' b hb'=>?_));obtain⟨e1,e2⟩:=hvs x (aD hx) hs' b hb';rw[hno b e2];exact e1
  ·exact .inl hy
  ·exact .inr (.inl ⟨hjl,hy⟩)
 ·intro b hb';by_cases h:∃(i:Nat) (x:Fs),L[i]?=some x/\b∈x.ns
  ·obtain⟨i,x,hx,rG⟩:=h;have hmem:b∈L.flatMap Fs.bl:=bV.2 ⟨x,aD hx,by simp only[Fs.bl];exact aF.2 (.inr rG)⟩;exact⟨oF i x b hx rG,.inl (.inl (eg hs.base (hfr b hmem).1)),(hfr b hmem).2⟩
  ·have:ρ' b=ρ b:=by
    simp only[ρ'];cases hi:ix (fun x:Fs=>x.ns.contains b) L with
    |none=>rfl
    |some i=>
     obtain⟨x,hx,hp⟩:=p9 hi;exact absurd ⟨i,x,hx,by simpa using hp⟩ h
   rw[this]at hb';exact lF.1 b hb'
 ·intro j e sz rows hj;have hjl:=AT j _ hj;rcases key j _ hj with⟨i,x,rfl,hx,hy⟩|⟨hlt,hy|hy⟩
  ·obtain⟨hsh,rfl,rfl,rfl⟩:=Fs.Au hy.symm;have hok:=hL x (aD hx);have q4:=hok.uq hsh;obtain⟨q1,q2,q3,_,_⟩:=hok;have yd:x.ns.Nodup:=by
    have:∀(l:List Fs),(l.flatMap Fs.bl).Nodup->∀x∈l,x.bl.Nodup:=by
     intro l
     induction l with
     |nil=>intro _ x hx;cases hx
     |cons z r ih=>
      intro hnd x hx;simp only[gD]at hnd;obtain⟨n1,n2,_⟩:=aZ.1 hnd;rcases aY.1 hx with rfl|hx
      ·exact n1
      ·exact ih n2 x hx
    exact(aZ.1 (this L hnd x (aD hx))).2.1
   exact⟨x.v,x.cs,x.ns,mY i x hx,q3,q4,yd,fun b hb'=>Uq i x b hx hb'⟩
  ·cases hy
  ·obtain⟨v,cs,bs,q1,q2,q3,q4,q5⟩:=lF.2.1 j e sz rows hjl hy;exact⟨v,cs,bs,q1,q2,q3,q4,fun b hb'=>(zE b (M2 b (by rw[q5 b hb'];omega))).trans (q5 b hb')⟩
 ·intro j y hj;have hjl:=AT j _ hj;rcases key j _ hj with⟨i,x,rfl,hx,hy⟩|⟨hlt,hy|hy⟩
  ·subst hy;exact Fs.plain x
  ·subst hy;trivial
  ·exact(lF.2.2 j y hjl hy).re fun b hb'=>(zE b (M2 b (by omega))).trans hb'
theorem cN.Kr(hs:cN Γ st κ Θ a w)(hb:Below w.heap.size w w')(L:List Fs)(hL:∀x∈L,x.ok w')(hnd:(L.flatMap Fs.bl).Nodup)(hfr:∀b∈L.flatMap Fs.bl,w.heap.size<=b/\Wr w' b)(hvs:∀x∈L,x.sh=true->∀b∈x.vs,Θ b=0/\b∉L.flatMap Fs.ts):
 ∃κ' Θ',cN Γ ⟨st.σ,st.H++L.map Fs.ob⟩ κ' Θ' a w'/\Names κ' st.H.length L/\(∀(j:Nat) v,κ j=some v->κ' j=some v)/\(∀b,b∉L.flatMap Fs.ts->Θ' b=Θ b):=by
 obtain⟨κ',Θ',h1,h2,h3,h4,_⟩:=hs.BV hb L hL hnd hfr hvs st.H.length (st.H++L.map Fs.ob) (fun i _=>hs.jN _ (by omega)) (by simp) (by simp) (by
  intro j y hj;by_cases hlt:j<st.H.length
  ·rw[aS hlt]at hj;exact .inr ⟨.inl hlt,.inr hj⟩
  ·rw[aV (by omega),b9]at hj;cases hx:L[j-st.H.length]? with
   |none=>simp[hx]at hj
   |some x=>simp[hx]at hj;exact .inl ⟨j-st.H.length,x,by omega,hx,hj.symm⟩)
 exact⟨κ',Θ',h1,h2,h3,h4⟩
def HI(H:ai)(d:D):Option (D×aH):=match d with
 | .acc m=>(match H[m]? with|some (.row _ _ _ rows)=>some (.sl rows,[m])|some (.nF _ rows _)=>some (.sl rows,[m])|some (.tk rows)=>some (.sl rows,[])|_=>none)
 | .ptr _ _=>none
 | .op _ _ _ _=>none
 |d=>some (d.rZ,[])
def EB(H:ai):aG->Option (aG×aH)
 | []=>some ([],[])
 |d::ds=>match HI H d,EB H ds with|some (e,m),some (es,ms)=>some (e::es,m++ms)|_,_=>none
def Ju(H:ai)(d:D):Option (D×aH):=match d with
 | .agg cs=>(match EB H cs with|some (es,ms)=>some (.agg es,ms)|none=>none)
 | .fy _=>none
 |d=>HI H d
def vo(H:ai):aG->Option (aG×aH)
 | []=>some ([],[])
 |d::ds=>match Ju H d,vo H ds with|some (e,m),some (es,ms)=>some (e::es,m++ms)|_,_=>none
def Seen(Θ:Nat->Nat)(ms:aH)(b:Nat):Prop:=Θ b=0\/∃m∈ms,Θ b=m+2
theorem Seen.mono{ms ns:aH}{b:Nat}(h:Seen Θ ms b)(hs:∀m∈ms,m∈ns):Seen Θ ns b:=by
 rcases h with h|⟨m,h1,h2⟩
 ·exact .inl h
 ·exact .inr ⟨m,hs m h1,h2⟩
theorem Jt(hs:cN Γ st κ Θ a w){v:Value}{d e:D}{bs:aH}{ms:aH}(h:HI st.H d=some (e,ms))(hr:oz w κ v d bs)(hz:∀b∈bs,Θ b=0):∃b',Rd w v e b'/\∀b∈b',Seen Θ ms b:=by
 cases hr with
 |pure hr=>
  have:HI st.H d=some (d.rZ,[]):=by cases hr<;>rfl
  rw[this]at h;cases h;exact⟨bs,hr.soft,fun b hb=>.inl (hz b hb)⟩
 |acc m _ hk=>
  simp only[HI]at h;split at h
  ·rename_i k e' sz rows hH;cases h;obtain⟨_,hrl,v2,cs,b2,hk2,hown,hrs,hΘ,hd⟩:=hs.ob m _ hH;rw[hk]at hk2;cases hk2;refine⟨_,kN hrl hown hrs,fun b hb=>?_⟩;rcases aF.1 hb with hb|hb
   ·simp only[eN]at hb;exact .inr ⟨m,by simp,hΘ b hb⟩
   ·cases k with
    |cl=>exact .inr ⟨m,by simp,(hd.2.1 b hb).1⟩
    |sh=>exact .inl (hd b hb)
    |uq=>exact .inl (hd b hb)
    |mv n=>exact .inl (hd b hb)
    |ho p n=>exact .inl (hd b hb)
  ·rename_i sz rows u hH;cases h;obtain⟨_,_,v2,b2,hk2,hrd,_,tR⟩:=hs.ob m _ hH;rw[hk]at hk2;cases hk2;exact⟨b2,hrd,fun b hb=>.inr ⟨m,by simp,(tR b hb).1⟩⟩
  ·rename_i rows hH;cases h;obtain⟨v2,b2,hk2,hrd,GZ⟩:=hs.ob m _ hH;rw[hk]at hk2;cases hk2;exact⟨b2,hrd,fun b hb=>.inl (GZ b hb)⟩
  ·cases h
 |ptr=>simp[HI]at h
 |op=>simp[HI]at h
theorem Le(hs:cN Γ st κ Θ a w):∀ {ds es:aG} {vs:aq} {bs ms:aH},EB st.H ds=some (es,ms)->dA w κ vs ds bs->(∀b∈bs,Θ b=0)->∃b',gG w vs es b'/\∀b∈b',Seen Θ ms b:=by
 intro ds
 induction ds with
 |nil=>
  intro es vs bs ms h hr _;simp only[EB,aQ,bW]at h;obtain⟨rfl,rfl⟩:=h;cases hr;exact⟨[],.nil,by simp⟩
 |cons d ds ih=>
  intro es vs bs ms h hr hz;simp only[EB]at h;split at h
  ·rename_i e m es' ms' h1 h2;cases h;cases hr with
   |cons v vs _ _ b1 b2 hv hc hcs=>
    obtain⟨c1,q1,q2⟩:=Jt hs h1 hc (fun b hb=>hz b (by simp[hb]));obtain⟨c2,p1,p2⟩:=ih h2 hcs (fun b hb=>hz b (by simp[hb]));refine⟨c1++c2,.cons _ _ _ _ _ _ hv q1 p1,fun b hb=>?_⟩;rcases aF.1 hb with hb|hb
    ·exact(q2 b hb).mono (fun m hm=>by simp[hm])
    ·exact(p2 b hb).mono (fun m hm=>by simp[hm])
  ·cases h
theorem OP(hs:cN Γ st κ Θ a w){v:Value}{d e:D}{bs ms:aH}(h:Ju st.H d=some (e,ms))(hr:kF w κ v d bs)(hz:∀b∈bs,Θ b=0):∃b',Rd w v e b'/\∀b∈b',Seen Θ ms b:=by
 by_cases lE:∃ds,d=.agg ds
 ·obtain⟨ds,rfl⟩:=lE;obtain⟨cs,rfl,hcs⟩:=hr.sC;simp only[Ju]at h;split at h
  ·rename_i es ms' h1;cases h;obtain⟨b',q1,q2⟩:=Le hs h1 hcs hz;exact⟨b',.agg _ _ _ q1,q2⟩
  ·cases h
 ·have hc:oz w κ v d bs:=by
   cases hr with
   |v hr=>cases hr with
    |cell hr=>exact hr
    |agg=>exact absurd ⟨_,rfl⟩ lE
   |fy=>simp[Ju]at h
  have e1:Ju st.H d=HI st.H d:=by
   cases d<;>first|rfl|exact absurd ⟨_,rfl⟩ lE|simp[Ju]at h
  rw[e1]at h;exact Jt hs h hc hz
theorem zx(hs:cN Γ st κ Θ a w):∀ {xs:List Operand} {es:aG} {ms:aH},vo st.H (xs.map st.ev)=some (es,ms)->∃b',FK w (xs.map a.eval) es b'/\∀b∈b',Seen Θ ms b:=by
 intro xs
 induction xs with
 |nil=>
  intro es ms h;simp only[bI,vo,aQ,bW]at h;obtain⟨rfl,rfl⟩:=h;exact⟨[],.nil,by simp⟩
 |cons x xs ih=>
  intro es ms h;simp only[ax,vo]at h;split at h
  ·rename_i e m es' ms' h1 h2;cases h;obtain⟨b0,r0,z0⟩:=hs.ev x;obtain⟨c1,q1,q2⟩:=OP hs h1 r0 z0;obtain⟨c2,p1,p2⟩:=ih h2;refine⟨c1++c2,.cons _ _ _ _ _ _ q1 p1,fun b hb=>?_⟩;rcases aF.1 hb with hb|hb
   ·exact(q2 b hb).mono (fun m hm=>by simp[hm])
   ·exact(p2 b hb).mono (fun m hm=>by simp[hm])
  ·cases h
def D.K5(d:D):D:=match d with
 | .fr _ _ rows=>.sl rows
 | .fs _ _ rows=>.sl rows
 |d=>d
def D.K6(d:D):D:=match d with
 | .agg cs=>.agg (cs.map D.K5)
 |d=>d.K5
theorem lM.sx{w:World}:∀ {ds:aG} {vs:aq} {bs:aH},gG w vs ds bs->lM w vs ds bs [] []:=by
 intro ds
 induction ds with
 |nil=>intro vs bs h;cases h;exact .nil
 |cons d ds ih=>
  intro vs bs h;cases h with
  |cons v vs _ _ b1 b2 h1 h2 h3=>exact .cons _ _ _ _ _ _ [] [] [] [] h1 (.pure h2) (ih h3)
theorem tj.sS{w:World}{v:Value}{d:D}{bs ts us:aH}(h:tj w v d bs ts us):∃b,Rd w v d.K5 b/\∀x∈b,x∈bs\/x∈us:=by
 cases h with
 |pure h=>
  have e:d.K5=d:=by cases h<;>rfl
  exact⟨_,e.symm▸h,fun x hx=>.inl hx⟩
 |fr e sz rows cs ns h1 h2 h3 h4 h5=>exact⟨_,kN h2 h3 h4.rd,fun x hx=>.inr hx⟩
 |fs e sz rows cs ns h1 h2 h3 h4 h5=>exact⟨_,kN h2 h3 h4,fun x hx=>(aF.1 hx).symm⟩
theorem lM.sS{w:World}{vs:aq}{ds:aG}{bs ts us:aH}(h:lM w vs ds bs ts us):∃b,gG w vs (ds.map D.K5) b/\∀x∈b,x∈bs\/x∈us:=by
 induction h with
 |nil=>exact⟨_,.nil,by simp⟩
 |cons v vs d ds b1 b2 t1 t2 u1 u2 h1 h2 _ ih=>
  obtain⟨b,q,s⟩:=h2.sS;obtain⟨b',q',s'⟩:=ih;refine⟨_,.cons _ _ _ _ _ _ h1 q q',fun x hx=>?_⟩;rcases aF.1 hx with h|h
  ·rcases s x h with h|h<;>simp[h]
  ·rcases s' x h with h|h<;>simp[h]
theorem vK.sS{w:World}{v:Value}{d:D}{bs ts us:aH}(h:vK w v d bs ts us):∃b,Rd w v d.K6 b/\∀x∈b,x∈bs\/x∈us:=by
 cases h with
 |cell h=>
  by_cases lE:∃ds,d=.agg ds
  ·obtain⟨ds,rfl⟩:=lE;cases h with
   |pure h=>cases h with
    |agg cs _ _ h=>
     obtain⟨b,q,s⟩:=(lM.sx h).sS;exact⟨_,.agg _ _ _ q,s⟩
  ·have e:d.K6=d.K5:=by cases d<;>first|rfl|exact absurd ⟨_,rfl⟩ lE
   rw[e];exact h.sS
 |agg cs ds bs ts us h=>
  obtain⟨b,q,s⟩:=h.sS;exact⟨_,.agg _ _ _ q,s⟩
def D.Gn(d:D):Bool:=match d with
 | .fr _ _ _=>true
 |d=>d.flat
def D.Dx(d:D):Bool:=match d with
 | .agg cs=>cs.all D.Gn
 |d=>d.Gn
def D.Ak(d:D):Bool:=match d with
 | .fy vs=>vs.all D.Dx
 |d=>d.Dx
def D.O8(d:D):Bool:=match d with
 | .fy _=>false
 |d=>d.Dx
theorem tj.own{v:Value}{d:D}{bs ts us:aH}(h:tj w v d bs ts us)(ho:d.Gn=true):bs=[]:=by
 cases h with
 |pure h=>exact h.flat (by cases h<;>exact ho)
 |fr=>rfl
 |fs=>cases ho
theorem lM.own{vs:aq}{ds:aG}{bs ts us:aH}(h:lM w vs ds bs ts us)(ho:ds.all D.Gn=true):bs=[]:=by
 induction h with
 |nil=>rfl
 |cons v vs d ds b1 b2 t1 t2 u1 u2 h1 h2 _ ih=>
  simp only[ck,aM]at ho;rw[h2.own ho.1,ih ho.2];rfl
theorem vK.own{v:Value}{d:D}{bs ts us:aH}(h:vK w v d bs ts us)(ho:d.Dx=true):bs=[]:=by
 cases h with
 |cell h=>
  by_cases lE:∃ds,d=.agg ds
  ·obtain⟨ds,rfl⟩:=lE;cases h with
   |pure h=>
    cases h with
    |agg cs _ _ h=>
     simp only[D.Dx]at ho;have:∀(es:aG) (vs:aq) (b:aH),gG w vs es b->es.all D.Gn=true->es.all D.flat=true:=by
      intro es
      induction es with
      |nil=>intros;rfl
      |cons e es ih=>
       intro vs b hh ho;simp only[ck,aM]at ho⊢;cases hh with
       |cons v vs _ _ b1 b2 _ h2 h3=>exact⟨by cases h2<;>exact ho.1,ih _ _ h3 ho.2⟩
     exact gG.flat h (this _ _ _ h ho)
  ·have e:d.Dx=d.Gn:=by cases d<;>first|rfl|exact absurd ⟨_,rfl⟩ lE
   exact h.own (e▸ho)
 |agg cs ds bs ts us h=>exact h.own ho
theorem qi.own{vs:aq}{ds:aG}{bs ts us:aH}(h:qi w vs ds bs ts us)(ho:ds.all D.Dx=true):bs=[]:=by
 induction h with
 |nil=>rfl
 |cons v vs d ds b1 b2 t1 t2 u1 u2 h2 _ ih=>
  simp only[ck,aM]at ho;rw[h2.own ho.1,ih ho.2];rfl
theorem qZ.own{v:Value}{d:D}{bs ts us:aH}(h:qZ w v d bs ts us)(ho:d.Ak=true):bs=[]:=by
 cases h with
 |v h=>
  have hnt:∀vs,d≠ .fy vs:=by
   intro vs e;subst e;cases h with
   |cell h=>cases h with|pure h=>cases h
  have e:d.Ak=d.Dx:=by cases d<;>first|rfl|exact absurd rfl (hnt _)
  exact h.own (e▸ho)
 |fy vs ds bs ts us h=>exact h.own ho
theorem nH{o:Oper}{f:FuncId}{xs:Array Operand}{ts:Array TypeId}(hop:o.op=.call {callee:=.value (.func f),args:=xs,argTypes:=ts})
 (hf:∃fn,P.funcs[f]?=some fn/\fn.body.isSome=true/\(fn.name== "runtime.NumGoroutine")=false):
 (execOp a.eval o).run P w=.ok (.enter f (xs.map a.eval)) w:=by
 obtain⟨fn,h1,h2,h3⟩:=hf;have h2':¬fn.body=none:=by intro hb;simp[hb]at h2
 simp only[eE,ne_eq]at h3;simp[execOp,hop,resolve,Deferred.ofValue,Act.eval,invoke,callFunc,h1,h2',h3]
theorem DE{Q':Exit->Act->World->Prop}{K:Act->World->Prop}{o:Oper}{f t:Nat}{xs:Array Operand}{ts:Array TypeId}{ds:aG}{ms:aH}{d:D}(hs:cN Γ st κ Θ a w)
 (hop:o.op=.call {callee:=.value (.func f),args:=xs,argTypes:=ts}) (hd:o.dst=some t) (ht:t<Γ.nt) (hds:∃bs,FK w (xs.toList.map a.eval) ds bs/\∀b∈bs,Seen Θ ms b) (hsh:ms=[]\/d.Ak=true)
 (iM:Good P f ds d) (hK:∀κ' Θ' a' w',cN Γ ⟨(t,(ir st.H.length d).1)::st.σ,st.H++(ir st.H.length d).2⟩ κ' Θ' a' w'->K a' w'):o.wp P a w K Q':=by
 obtain⟨bs,hargs,hz⟩:=hds;let Θc:Nat->Nat:=fun b=>if Θ b=0\/ms.any (fun m=>Θ b==m+2)then 0 else 1
 have zD:∀b,Seen Θ ms b->Θc b=0:=by
  intro b h;simp only[Θc];rw[bG];rcases h with h|⟨m,h1,h2⟩
  ·exact .inl h
  ·exact .inr (bt.2 ⟨m,h1,by simp[h2]⟩)
 have hc:=iM.2 w Θc _ bs hs.Om hargs (fun b hb=>zD b (hz b hb)) (fun b hb=>hs.own b (fun e=>hb (zD b (.inl e)))) (fun b=>by simp only[Θc];split<;>omega);unfold Oper.wp;rw[nH hop iM.1,Oper.upon_enter];have e:xs.map a.eval=(xs.toList.map a.eval).toArray:=by rw[<-eB,fW]
 rw[e];refine hc.mono ?_;rintro e w' ⟨v,bs',tb,ub,rfl,hb,hr,zl,htb,hnd,hfr,hsub⟩;show K (a.put o.dst v) w';rw[hd];obtain⟨L,q1,q2,q3,q4,q6,q5⟩:=hr.inst st.H.length;have hbz:∀b∈bs',Θ b=0:=fun b hb'=>?_
 obtain⟨κ',Θ',hs',hnm,_,hno⟩:=hs.Kr hb L q2 (q3▸hnd) (fun b hb'=>hfr b (q3▸hb')) (fun x hx hx' b hb'=>⟨hbz b (q6 x hx hx' b hb'),q4▸htb b (q6 x hx hx' b hb')⟩);rw[q1]at hs';obtain⟨b0,HF,AU⟩:=q5 κ' hnm;refine hK κ' Θ' _ w' (hs'.set (t:=t) ht HF fun b hb'=>?_)
 ·rw[hno b (q4▸htb b (AU b hb'))];exact hbz b (AU b hb')
 rcases hsh with BE|hown
 ·by_cases hlt:b<w.heap.size
  ·have h0:=zl b hb' hlt;simp only[Θc,BE,List.any_nil]at h0;by_cases h1:Θ b=0
   ·exact h1
   ·simp[h1]at h0
  ·by_cases h0:Θ b=0
   ·exact h0
   ·exact absurd (hs.own b h0) hlt
 ·rw[hr.own hown]at hb';cases hb'
theorem KT{Q':Exit->Act->World->Prop}{K:Act->World->Prop}{o:Oper}{f t:Nat}{xs:Array Operand}{ts:Array TypeId}{ds:aG}{ms:aH}{d:D}(hs:cN Γ st κ Θ a w)
 (hop:o.op=.call {callee:=.value (.func f),args:=xs,argTypes:=ts}) (hd:o.dst=some t) (ht:t<Γ.nt) (hds:vo st.H (xs.toList.map st.ev)=some (ds,ms)) (hsh:ms=[]\/d.Ak=true)
 (iM:Good P f ds d) (hK:∀κ' Θ' a' w',cN Γ ⟨(t,(ir st.H.length d).1)::st.σ,st.H++(ir st.H.length d).2⟩ κ' Θ' a' w'->K a' w'):o.wp P a w K Q':=
 DE hs hop hd ht (zx hs hds) hsh iM hK
def zF(d:D):Bool:=match d with
 | .agg cs=>cs.all D.Cu
 | .fy _=>false
 |d=>d.Cu
theorem Iq{v:Value}{d:D}{bs:aH}(hr:kF w κ v d bs)(h:zF d=true):Rd w v d bs:=by
 by_cases lE:∃ds,d=.agg ds
 ·obtain⟨ds,rfl⟩:=lE;obtain⟨cs,rfl,hcs⟩:=hr.sC;exact .agg _ _ _ (hcs.pure h)
 ·have hp:d.Cu=true:=by
   cases d<;>first|exact h|exact absurd ⟨_,rfl⟩ lE|simp[zF]at h
  cases hr with
  |v hr=>cases hr with
   |cell hr=>cases hr with
    |pure hr=>exact hr
    |acc=>simp[D.Cu]at hp
    |ptr=>simp[D.Cu]at hp
    |op=>simp[D.Cu]at hp
   |agg=>exact absurd ⟨_,rfl⟩ lE
  |fy=>simp[zF]at h
theorem BX(hs:cN Γ st κ Θ a w):∀ {xs:List Operand},(xs.map st.ev).all zF=true->∃b',FK w (xs.map a.eval) (xs.map st.ev) b'/\∀b∈b',Seen Θ [] b:=by
 intro xs
 induction xs with
 |nil=>intro _;exact⟨[],.nil,by simp⟩
 |cons x xs ih=>
  intro h;simp only[ax,ck,aM]at h;obtain⟨b0,r0,z0⟩:=hs.ev x;obtain⟨c2,p1,p2⟩:=ih h.2;refine⟨b0++c2,.cons _ _ _ _ _ _ (Iq r0 h.1) p1,fun b hb=>?_⟩;rcases aF.1 hb with hb|hb
  ·exact .inl (z0 b hb)
  ·exact p2 b hb
theorem HQ{o:Oper}{f t:Nat}{xs:Array Operand}{ts:Array TypeId}{d:D}(hop:o.op=.call {callee:=.value (.func f),args:=xs,argTypes:=ts})(hd:o.dst=some t)(hg:o.guard=none)
 (ht:t<Γ.nt) (hk:(xs.toList.map st.ev).all zF=true) (iM:Good P f (xs.toList.map st.ev) d)
 (h:AO P Γ all rest Q ⟨(t,(ir st.H.length d).1)::st.σ,st.H++(ir st.H.length d).2⟩):AO P Γ all (o::rest) Q st:=by
 intro κ Θ a w hs;exact wpList_plain hg fun K hK=>DE hs hop hd ht (BX hs hk) (.inl rfl) iM fun κ' Θ' a' w' hs'=>hK _ _ (h κ' Θ' a' w' hs')
theorem KB{o:Oper}{f t:Nat}{xs:Array Operand}{ts:Array TypeId}{ds:aG}{ms:aH}{d:D}(hop:o.op=.call {callee:=.value (.func f),args:=xs,argTypes:=ts})(hd:o.dst=some t)(hg:o.guard=none)
 (ht:t<Γ.nt) (hds:vo st.H (xs.toList.map st.ev)=some (ds,ms)) (hsh:ms=[]\/d.Ak=true) (iM:Good P f ds d)
 (h:AO P Γ all rest Q ⟨(t,(ir st.H.length d).1)::st.σ,st.H++(ir st.H.length d).2⟩):AO P Γ all (o::rest) Q st:=by
 intro κ Θ a w hs;exact wpList_plain hg fun K hK=>KT hs hop hd ht hds hsh iM fun κ' Θ' a' w' hs'=>hK _ _ (h κ' Θ' a' w' hs')
def JI(P:Program)(st:St):ResultVar->Option D
 | .tmp t=>some (lk st.σ t)
 | .cell x T=>match pH P T,lk st.σ x with
  |some ag,.ptr id off=>(match(st.H[id]?).bind Ob.FW with|some cells=>w8 ag (oX P T) cells off|none=>none)
  |_,_=>none
def w9(P:Program)(st:St):List ResultVar->Option aG
 | []=>some []
 |r::rs=>match JI P st r,w9 P st rs with|some d,some ds=>some (d::ds)|_,_=>none
def JK(tmps:Array Value):ResultVar->Sem Value
 | .tmp t=>pure (tmps.getD t undef)
 | .cell a t=>do loadVar t (<-asAddr (tmps.getD a undef))
theorem results_eq(fn:Func)(tmps:Array Value):results fn tmps=(do let vs<-fn.results.mapM (JK tmps);pure (if h:vs.size=1 then vs[0]else .tuple vs)):=by
 unfold results
 congr 1
theorem JJ(hs:cN Γ st κ Θ a w){r:ResultVar}{d:D}(h:JI P st r=some d):
 ∃v bs,(JK a.tmps r).run P w=.ok v w/\kF w κ v d bs/\∀b∈bs,Θ b=0:=by
 cases r with
 |tmp t=>
  simp only[JI,aQ]at h;subst h;obtain⟨bs,hr,hz⟩:=hs.slot t;exact⟨_,bs,by simp[JK],hr,hz⟩
 |cell x T=>
  have hp:pv P st (.load T (.tmp x))=some d:=by
   simp only[JI]at h;split at h
   ·rename_i ag id off h1 h2;simp only[pv,h1,St.ev,h2];exact h
   ·cases h
  obtain⟨v,bs,hrun,hr,hz⟩:=Af (o:= {(default:Oper)with op:=.load T (.tmp x)}) hs rfl hp;refine⟨v,bs,?_,hr,hz⟩;simp only[execOp,Act.eval]at hrun;have SE:∃b off,a.tmps.getD x undef=.pointer (some ⟨b,off,none⟩):=by
   simp only[JI]at h;split at h
   ·rename_i ag id off h1 h2;obtain⟨b0,r0,_⟩:=hs.slot x;rw[h2]at r0;obtain⟨g,_,hv⟩:=r0.pF;exact⟨g,off,hv⟩
   ·cases h
  obtain⟨b,off,hv⟩:=SE;simp only[JK,hv]at hrun⊢;simp only[Instr.loadAt,Instr.sureAddr,Sem.run_bind,Sem.run_pure,Result.andThen_ok]at hrun;simp only[asAddr,Sem.run_bind,Sem.run_pure,Result.andThen_ok];cases hl:(loadVar T ⟨b,off,none⟩).run P w with
  |ok u w1=>simp only[hl,Result.andThen_ok,Result.ok.injEq,Next.value.injEq]at hrun;rw[hrun.1,hrun.2]
  |halt u w1=>simp[hl]at hrun
theorem vI(hs:cN Γ st κ Θ a w):∀ {rs:List ResultVar} {ds:aG},w9 P st rs=some ds->
 ∃(vs:aq) (bs:aH),(rs.mapM (JK a.tmps)).run P w=.ok vs w/\
  vs.length=rs.length/\ds.length=rs.length/\(∀(i:Nat) d,ds[i]?=some d->∃v b,vs[i]?=some v/\kF w κ v d b/\∀x∈b,x∈bs)/\∀b∈bs,Θ b=0:=by
 intro rs
 induction rs with
 |nil=>
  intro ds h;simp only[w9,aQ]at h;subst h;exact⟨[],[],by simp,rfl,rfl,by simp,by simp⟩
 |cons r rs ih=>
  intro ds h;simp only[w9]at h;split at h
  ·rename_i d ds' h1 h2;cases h;obtain⟨v,b,k1,k2,k3⟩:=JJ hs h1;obtain⟨vs,bs,m1,m2,m3,m4,m5⟩:=ih h2;refine⟨v::vs,b++bs,?_,by simp[m2],by simp[m3],?_,?_⟩
   ·simp only[tZ,Sem.run_bind,k1,Result.andThen_ok,m1,Sem.run_pure]
   ·intro i x hx;cases i with
    |zero=>simp at hx;subst hx;exact⟨v,b,by simp,k2,by intro y hy;simp[hy]⟩
    |succ i=>
     simp at hx;obtain⟨u,b',q1,q2,q3⟩:=m4 i x hx;exact⟨u,b',by simpa using q1,q2,fun y hy=>by simp[q3 y hy]⟩
   ·intro y hy;rcases aF.1 hy with hy|hy
    ·exact k3 y hy
    ·exact m5 y hy
  ·cases h
def zK:aG->D
 | [d]=>d
 |ds=>.fy ds
def pV:Nat->aG->List (Nat×D)
 |_,[]=>[]
 |k,d::ds=>(k,d)::pV (k+1) ds
theorem xY:∀(ds:aG) (k t:Nat),lk (pV k ds) t=if t<k then .any else(ds[t-k]?).getD .any:=by
 intro ds
 induction ds with
 |nil=>intro k t;simp[pV,lk]
 |cons d ds ih=>
  intro k t;simp only[pV,lk];by_cases h:t=k
  ·subst h;simp
  ·rw[ar h,ih];by_cases h1:t<k
   ·rw[bG (by omega),bG h1]
   ·rw[ar (by omega),ar h1];have:t-k=(t-(k+1))+1:=by omega
    rw[this,fX]
theorem FK.at{vs:aq}{ds:aG}{bs:aH}(h:FK w vs ds bs):vs.length=ds.length/\∀(i:Nat) d,ds[i]?=some d->∃v b,vs[i]?=some v/\Rd w v d b/\∀x∈b,x∈bs:=by
 induction ds generalizing vs bs with
 |nil=>cases h;exact⟨rfl,by simp⟩
 |cons e ds ih=>
  cases h with
  |cons v vs _ _ b1 b2 h2 h3=>
   obtain⟨l,hi⟩:=ih h3;refine⟨by simp[l],fun i d hd=>?_⟩;cases i with
   |zero=>simp at hd;subst hd;exact⟨v,b1,by simp,h2,by intro x hx;simp[hx]⟩
   |succ i=>
    simp at hd;obtain⟨u,b,k1,k3,k4⟩:=hi i d hd;exact⟨u,b,by simpa using k1,k3,fun x hx=>by simp[k4 x hx]⟩
def n7(d:D):Prop:=∃w v bs,Rd w v d bs
theorem gG.QO{vs:aq}{ds:aG}{bs:aH}(h:gG w vs ds bs):∀d∈ds,n7 d:=by
 intro d hd;obtain⟨i,hi,rfl⟩:=cS.1 hd;obtain⟨v,b,_,_,hr,_⟩:=h.at (aN hi);exact⟨w,v,b,hr⟩
theorem n7.agg{ds:aG}(h:n7 (.agg ds)):∀d∈ds,n7 d:=by
 obtain⟨w,v,bs,h⟩:=h;cases h with|agg cs _ _ hx=>exact hx.QO
theorem n7.sl{rows:List aG}(h:n7 (.sl rows)):rows.length<=maxLen/\∀r∈rows,∀d∈r,n7 d:=by
 obtain⟨w,v,bs,h⟩:=h;cases h with
 |oB=>simp
 |iU=>simp
 |sl b off cap sz _ cs bs hb h1 h2 h3 h4 h5=>
  exact⟨by omega,fun r hr d hd=>h5.QO d (cu.2 ⟨r,hr,hd⟩)⟩
theorem FK.QO{vs:aq}{ds:aG}{bs:aH}(h:FK w vs ds bs):∀d∈ds,n7 d:=by
 intro d hd;obtain⟨i,hi,rfl⟩:=cS.1 hd;obtain⟨v,b,_,hr,_⟩:=h.at.2 i _ (aN hi);exact⟨w,v,b,hr⟩
def J6(z:Option (Nat×Nat))(d:D):D:=match d,z with
 | .nil,some (e,sz+1)=>.fr e (sz+1) []
 |d,_=>d.rZ
def tU(H:ai)(z:Option (Nat×Nat))(d:D):Option (D×aH×aH):=match d with
 | .acc m=>(match H[m]? with|some (.row k e sz rows)=>(match k with| .uq=>some (.fr e sz rows,[],[m])| .sh=>(match z with|some (_,0)=>some (.fs e sz rows,[],[m])|_=>some (.sl rows,[m],[]))| .cl=>none| .mv _=>none| .ho _ _=>none)|_=>none)
 | .ptr _ _=>none
 | .op _ _ _ _=>none
 | .agg _=>none
 | .fy _=>none
 |d=>some (J6 z d,[],[])
def zO(H:ai):List (Option (Nat×Nat))->aG->Option (aG×aH×aH)
 |_,[]=>some ([],[],[])
 |zs,d::ds=>match tU H zs.head?.join d,zO H zs.tail ds with|some (e,m,q),some (es,ms,qs)=>some (e::es,m++ms,q++qs)|_,_=>none
def Ez(H:ai)(zs:List (Option (Nat×Nat)))(d:D):Option (D×aH×aH):=match d with
 | .agg cs=>(match zO H zs cs with|some (es,ms,qs)=>some (.agg es,ms,qs)|none=>none)
 |d=>tU H zs.head?.join d
def qO(H:ai):List (List (Option (Nat×Nat)))->aG->Option (aG×aH×aH)
 |_,[]=>some ([],[],[])
 |zs,d::ds=>match Ez H (zs.head?.getD []) d,qO H zs.tail ds with|some (e,m,q),some (es,ms,qs)=>some (e::es,m++ms,q++qs)|_,_=>none
def Hj(P:Program)(fn:Func)(d:D)(e:Exit)(st:St):Prop:=
 (e=.ret\/e=.normal)/\∃nz ds es ms qs,w9 P st fn.results.toList=some ds/\qO st.H nz ds=some (es,ms,qs)/\ms.Nodup/\qs.Nodup/\(∀m∈qs,m∉ms)/\zK es=d
structure RP(Θ ρ:Nat->Nat)(qs bs ts us:List Nat):Prop where
 zero:∀b∈bs,Θ b=0
 top:∀b∈ts,(∃m∈qs,Θ b=m+2)/\b∈us
 mem:∀b∈us,b∈ts\/∃m∈qs,ρ b=m+1
 nd:us.Nodup
theorem RP.nil{ρ:Nat->Nat}{bs:aH}(h:∀b∈bs,Θ b=0):RP Θ ρ [] bs [] []:=⟨h,by simp,by simp,by simp⟩
theorem RP.app{ρ:Nat->Nat}{q1 q2 b1 b2 t1 t2 u1 u2:aH}(hf:∀b,ρ b≠0->Θ b=0)(hq:(q1++q2).Nodup)(h1:RP Θ ρ q1 b1 t1 u1)(h2:RP Θ ρ q2 b2 t2 u2):RP Θ ρ (q1++q2) (b1++b2) (t1++t2) (u1++u2):=by
 refine⟨fun b hb=>?_,fun b hb=>?_,fun b hb=>?_,aZ.2 ⟨h1.nd,h2.nd,fun x hx y hy e=>?_⟩⟩
 ·rcases aF.1 hb with hb|hb
  ·exact h1.zero b hb
  ·exact h2.zero b hb
 ·rcases aF.1 hb with hb|hb
  ·obtain⟨⟨m,p,q⟩,r⟩:=h1.top b hb;exact⟨⟨m,by simp[p],q⟩,by simp[r]⟩
  ·obtain⟨⟨m,p,q⟩,r⟩:=h2.top b hb;exact⟨⟨m,by simp[p],q⟩,by simp[r]⟩
 ·rcases aF.1 hb with hb|hb
  ·rcases h1.mem b hb with h|⟨m,p,q⟩
   ·exact .inl (by simp[h])
   ·exact .inr ⟨m,by simp[p],q⟩
  ·rcases h2.mem b hb with h|⟨m,p,q⟩
   ·exact .inl (by simp[h])
   ·exact .inr ⟨m,by simp[p],q⟩
 ·subst e;have hd:=(aZ.1 hq).2.2;rcases h1.mem x hx with hx|⟨m,p,q⟩
  ·obtain⟨⟨m,p,q⟩,_⟩:=h1.top x hx;rcases h2.mem x hy with hy|⟨m',p',q'⟩
   ·obtain⟨⟨m',p',q'⟩,_⟩:=h2.top x hy;exact hd m p m' p' (by omega)
   ·have:=hf x (by omega);omega
  ·rcases h2.mem x hy with hy|⟨m',p',q'⟩
   ·obtain⟨⟨m',p',q'⟩,_⟩:=h2.top x hy;have:=hf x (by omega);omega
   ·exact hd m p m' p' (by omega)
theorem Dq(z:Option (Nat×Nat)){v:Value}{d:D}{b0:aH}(hr:Rd w v d b0):∃bs,tj w v (J6 z d) bs [] []/\∀b∈bs,b∈b0:=by
 unfold J6;split
 ·rename_i e sz;cases hr;refine⟨[],?_,by simp⟩;have:=tj.fr (w:=w) (.slice none 0 0) e (sz+1) [] [] [] (Nat.succ_pos _) (by simp) (World.ownsRow_nil w 0 e (sz+1)) (.nil _) rfl;simpa[Value.ownBlock]using this
 ·exact⟨b0,.pure hr.soft,fun _ h=>h⟩
section
variable{H:ai}{ρ:Nat->Nat}(hf:∀b,ρ b≠0->Θ b=0)
 (hq:∀m e sz rows,H[m]?=some (.row .uq e sz rows)->∃v cs ns,κ m=some v/\0<sz/\(∀r∈rows,r.length=sz)/\w.ownsRow 0 e sz v rows.length cs/\ng w (mX e) 0 cs rows.flatten ns/\ns.Nodup/\(∀b∈ns,ρ b=m+1)/\∀g,v.ownBlock=some g->Θ g=m+2)
 {M:aH} (qJ:∀m e sz rows,m∉M->H[m]?=some (.row .sh e sz rows)->∃v cs ns,κ m=some v/\0<sz/\(∀r∈rows,r.length=sz)/\w.ownsRow 0 e sz v rows.length cs/\gG w cs rows.flatten ns/\(∀b∈ns,Θ b=0)/\∀g,v.ownBlock=some g->Θ g=m+2)
include hf hq qJ
theorem E2{z:Option (Nat×Nat)}{d e:D}{ms qs:aH}{v:Value}{b0:aH}(h:tU H z d=some (e,ms,qs))(hM:∀m∈qs,m∉M)(hone:v.oneCell'=true)(hr:oz w κ v d b0)(hz:∀b∈b0,Θ b=0)
 (hm:∀m∈ms,∀k e sz rows,H[m]?=some (.row k e sz rows)->oM κ Θ ρ w m k rows):∃bs ts us,tj w v e bs ts us/\RP Θ ρ qs bs ts us:=by
 cases hr with
 |pure hr=>
  have:tU H z d=some (J6 z d,[],[]):=by cases hr<;>first|rfl|simp[tU]at h
  rw[this]at h;cases h;obtain⟨bs,hb,zl⟩:=Dq z hr;exact⟨bs,[],[],hb,RP.nil (fun b hb'=>hz b (zl b hb'))⟩
 |acc m _ hk=>
  simp only[tU]at h;split at h
  ·rename_i k e' sz rows hH;split at h
   ·cases h;obtain⟨v2,cs,ns,r1,r2,r3,r4,r5,r6,r7,r8⟩:=hq m _ _ _ hH;rw[hk]at r1;cases r1;refine⟨[],_,_,.fr v _ _ _ cs ns r2 r3 r4 r5 hone,by simp,fun b hb=>?_,fun b hb=>?_,?_⟩
    ·simp only[eN]at hb;exact⟨⟨m,by simp,r8 b hb⟩,by simp[hb]⟩
    ·rcases aF.1 hb with hb|hb
     ·exact .inl hb
     ·exact .inr ⟨m,by simp,r7 b hb⟩
    ·refine aZ.2 ⟨by cases v.ownBlock<;>simp,r6,fun x hx y hy RM=>?_⟩;subst RM;simp only[eN]at hx;have h1:=r8 x hx;have h2:=hf x (by rw[r7 x hy];omega);omega
   ·split at h
    ·cases h;obtain⟨v2,cs,ns,r1,r2,r3,r4,r5,r6,r7⟩:=qJ m _ _ _ (hM m (by simp)) hH;rw[hk]at r1;cases r1;refine⟨_,_,_,.fs v _ _ _ cs ns r2 r3 r4 r5 hone,r6,fun b hb=>?_,fun b hb=>.inl hb,by cases v.ownBlock<;>simp⟩;simp only[eN]at hb;exact⟨⟨m,by simp,r7 b hb⟩,by simp[hb]⟩
    ·cases h;obtain⟨v2,bs,r1,r2,r3,_⟩:=hm m (by simp) _ _ _ _ hH;rw[hk]at r1;cases r1;exact⟨bs,[],[],.pure r2,RP.nil r3⟩
   ·cases h
   ·cases h
   ·cases h
  ·cases h
 |ptr=>simp[tU]at h
 |op=>simp[tU]at h
theorem Gs:∀ {ds es:aG} {zs:List (Option (Nat×Nat))} {ms qs:aH} {vs:aq} {b0:aH},zO H zs ds=some (es,ms,qs)->(∀m∈qs,m∉M)->qs.Nodup->dA w κ vs ds b0->(∀b∈b0,Θ b=0)->
 (∀m∈ms,∀k e sz rows,H[m]?=some (.row k e sz rows)->oM κ Θ ρ w m k rows)->∃bs ts us,lM w vs es bs ts us/\RP Θ ρ qs bs ts us:=by
 intro ds
 induction ds with
 |nil=>
  intro es zs ms qs vs b0 h _ _ hr _ _;simp only[zO,aQ,bW]at h;obtain⟨rfl,rfl,rfl⟩:=h;cases hr;exact⟨[],[],[],.nil,RP.nil (by simp)⟩
 |cons d ds ih=>
  intro es zs ms qs vs b0 h hM hnd hr hz hm;simp only[zO]at h;split at h
  ·rename_i e m q es' ms' QN h1 h2;cases h;cases hr with
   |cons v vs _ _ b1 b2 hv hc hcs=>
    obtain⟨c1,t1,u1,q1,q2⟩:=E2 hf hq qJ h1 (fun x hx=>hM x (by simp[hx])) hv hc (fun b hb=>hz b (by simp[hb])) (fun x hx=>hm x (by simp[hx]));obtain⟨c2,t2,u2,p1,p2⟩:=ih h2 (fun x hx=>hM x (by simp[hx])) (aZ.1 hnd).2.1 hcs (fun b hb=>hz b (by simp[hb])) (fun x hx=>hm x (by simp[hx]));exact⟨_,_,_,.cons _ _ _ _ _ _ _ _ _ _ hv q1 p1,RP.app hf hnd q2 p2⟩
  ·cases h
theorem JL(hk1:∀(i:Nat) u,κ i=some u->u.oneCell'=true){zs:List (Option (Nat×Nat))}{d e:D}{ms qs:aH}{v:Value}{b0:aH}(h:Ez H zs d=some (e,ms,qs))(hM:∀m∈qs,m∉M)(hnd:qs.Nodup)(hr:kF w κ v d b0)(hz:∀b∈b0,Θ b=0)
 (hm:∀m∈ms,∀k e sz rows,H[m]?=some (.row k e sz rows)->oM κ Θ ρ w m k rows):∃bs ts us,vK w v e bs ts us/\RP Θ ρ qs bs ts us:=by
 by_cases lE:∃ds,d=.agg ds
 ·obtain⟨ds,rfl⟩:=lE;obtain⟨cs,rfl,hcs⟩:=hr.sC;simp only[Ez]at h;split at h
  ·rename_i es ms' QN h1;cases h;obtain⟨bs,ts,us,q1,q2⟩:=Gs hf hq qJ h1 hM hnd hcs hz hm;exact⟨bs,ts,us,.agg _ _ _ _ _ q1,q2⟩
  ·cases h
 ·have e1:Ez H zs d=tU H zs.head?.join d:=by cases d<;>first|rfl|exact absurd ⟨_,rfl⟩ lE
  rw[e1]at h;have hc:oz w κ v d b0:=by
   cases hr with
   |v hr=>cases hr with
    |cell hr=>exact hr
    |agg=>exact absurd ⟨_,rfl⟩ lE
   |fy=>simp[tU]at h
  cases hc with
  |pure hr=>
   have:tU H zs.head?.join d=some (J6 zs.head?.join d,[],[]):=by cases hr<;>first|rfl|simp[tU]at h
   rw[this]at h;cases h;obtain⟨bs,hb,zl⟩:=Dq zs.head?.join hr;exact⟨bs,[],[],.cell hb,RP.nil (fun b hb'=>hz b (zl b hb'))⟩
  |acc m _ hk=>
   obtain⟨bs,ts,us,q1,q2⟩:=E2 hf hq qJ h hM (hk1 _ _ hk) (.acc m _ hk) (by simp) hm;exact⟨bs,ts,us,.cell q1,q2⟩
  |ptr=>simp[tU]at h
  |op=>simp[tU]at h
theorem rX(hk1:∀(i:Nat) u,κ i=some u->u.oneCell'=true):∀ {ds es:aG} {zs:List (List (Option (Nat×Nat)))} {ms qs:aH} {vs:aq},qO H zs ds=some (es,ms,qs)->(∀m∈qs,m∉M)->qs.Nodup->vs.length=ds.length->
 (∀(i:Nat) d,ds[i]?=some d->∃v b,vs[i]?=some v/\kF w κ v d b/\∀x∈b,Θ x=0)->
 (∀m∈ms,∀k e sz rows,H[m]?=some (.row k e sz rows)->oM κ Θ ρ w m k rows)->∃bs ts us,qi w vs es bs ts us/\RP Θ ρ qs bs ts us:=by
 intro ds
 induction ds with
 |nil=>
  intro es zs ms qs vs h _ _ hl _ _;simp only[qO,aQ,bW]at h;obtain⟨rfl,rfl,rfl⟩:=h;cases vs with
  |nil=>exact⟨[],[],[],.nil,RP.nil (by simp)⟩
  |cons=>simp at hl
 |cons d ds ih=>
  intro es zs ms qs vs h hM hnd hl hr hm;simp only[qO]at h;split at h
  ·rename_i e m q es' ms' QN h1 h2;cases h;cases vs with
   |nil=>simp at hl
   |cons v vs=>
    obtain⟨v',b0,Od,HF,oF⟩:=hr 0 d rfl;simp at Od;subst Od;obtain⟨c1,t1,u1,q1,q2⟩:=JL hf hq qJ hk1 h1 (fun x hx=>hM x (by simp[hx])) (aZ.1 hnd).1 HF oF (fun x hx=>hm x (by simp[hx]));obtain⟨c2,t2,u2,p1,p2⟩:=ih h2 (fun x hx=>hM x (by simp[hx])) (aZ.1 hnd).2.1 (by simpa using hl) (fun i d' wi=>by
     obtain⟨v',b,k1,k2⟩:=hr (i+1) d' (by simpa using wi);exact⟨v',b,by simpa using k1,k2⟩) (fun x hx=>hm x (by simp[hx]))
    exact⟨_,_,_,.cons _ _ _ _ _ _ _ _ _ _ q1 p1,RP.app hf hnd q2 p2⟩
  ·cases h
end
theorem Am{H:ai}{z:Option (Nat×Nat)}{d e:D}{ms qs:aH}(h:tU H z d=some (e,ms,qs)):(∀m∈ms,∃e sz rows,H[m]?=some (.row .sh e sz rows))/\∀m∈qs,∃k e sz rows,H[m]?=some (.row k e sz rows):=by
 cases d with
 |acc m=>
  simp only[tU]at h;split at h
  ·rename_i k e' sz rows hH;split at h
   ·cases h;exact⟨by simp,fun m' hm'=>by simp at hm';subst hm';exact⟨_,_,_,_,hH⟩⟩
   ·split at h
    ·cases h;exact⟨by simp,fun m' hm'=>by simp at hm';subst hm';exact⟨_,_,_,_,hH⟩⟩
    ·cases h;exact⟨fun m' hm'=>by simp at hm';subst hm';exact⟨_,_,_,hH⟩,by simp⟩
   ·cases h
   ·cases h
   ·cases h
  ·cases h
 |_=>simp[tU]at h<;>(try(obtain⟨_,rfl,rfl⟩:=h;simp))
theorem E3{H:ai}:∀ {ds es:aG} {zs:List (Option (Nat×Nat))} {ms qs:aH},zO H zs ds=some (es,ms,qs)->(∀m∈ms,∃e sz rows,H[m]?=some (.row .sh e sz rows))/\∀m∈qs,∃k e sz rows,H[m]?=some (.row k e sz rows):=by
 intro ds
 induction ds with
 |nil=>intro es zs ms qs h;simp only[zO,aQ,bW]at h;obtain⟨rfl,rfl,rfl⟩:=h;simp
 |cons d ds ih=>
  intro es zs ms qs h;simp only[zO]at h;split at h
  ·rename_i e m q es' ms' QN h1 h2;cases h;have a1:=Am h1;have a2:=ih h2;refine⟨fun x hx=>?_,fun x hx=>?_⟩<;>rcases aF.1 hx with hx|hx
   ·exact a1.1 x hx
   ·exact a2.1 x hx
   ·exact a1.2 x hx
   ·exact a2.2 x hx
  ·cases h
theorem F0{H:ai}{zs:List (Option (Nat×Nat))}{d e:D}{ms qs:aH}(h:Ez H zs d=some (e,ms,qs)):(∀m∈ms,∃e sz rows,H[m]?=some (.row .sh e sz rows))/\∀m∈qs,∃k e sz rows,H[m]?=some (.row k e sz rows):=by
 by_cases lE:∃ds,d=.agg ds
 ·obtain⟨ds,rfl⟩:=lE;simp only[Ez]at h;split at h
  ·rename_i es ms' QN h1;cases h;exact E3 h1
  ·cases h
 ·have e1:Ez H zs d=tU H zs.head?.join d:=by cases d<;>first|rfl|exact absurd ⟨_,rfl⟩ lE
  rw[e1]at h;exact Am h
theorem oA{H:ai}:∀ {ds es:aG} {zs:List (List (Option (Nat×Nat)))} {ms qs:aH},qO H zs ds=some (es,ms,qs)->(∀m∈ms,∃e sz rows,H[m]?=some (.row .sh e sz rows))/\∀m∈qs,∃k e sz rows,H[m]?=some (.row k e sz rows):=by
 intro ds
 induction ds with
 |nil=>intro es zs ms qs h;simp only[qO,aQ,bW]at h;obtain⟨rfl,rfl,rfl⟩:=h;simp
 |cons d ds ih=>
  intro es zs ms qs h;simp only[qO]at h;split at h
  ·rename_i e m q es' ms' QN h1 h2;cases h;have a1:=F0 h1;have a2:=ih h2;refine⟨fun x hx=>?_,fun x hx=>?_⟩<;>rcases aF.1 hx with hx|hx
   ·exact a1.1 x hx
   ·exact a2.1 x hx
   ·exact a1.2 x hx
   ·exact a2.2 x hx
  ·cases h
theorem Good.of{f:FuncId}{fn:Func}{c:Code}{ds:aG}{d:D}(hf:P.funcs[f]?=some fn)(hb:fn.body=some c)(hn:(fn.name== "runtime.NumGoroutine")=false)
 (hl:ds.length<=fn.ntmps) (h:(∀d∈ds,n7 d)->∀Γ:lY,Γ.nt=fn.ntmps->AW P Γ c (Hj P fn d) ⟨pV 0 ds,[]⟩):Good P f ds d:=by
 refine⟨⟨fn,hf,by simp[hb],hn⟩,?_⟩;intro w Θ args bs hvs hargs hz hown h1;obtain⟨hlen,GQ⟩:=hargs.at;refine calls_of_wp hf hb ?_;let Γ:lY:=⟨w,Θ,fun _=>False,fn.ntmps,fun _=>False,hvs⟩
 have hs:cN Γ ⟨pV 0 ds,[]⟩ (fun _=>none) Θ {tmps:=args.toArray++Array.replicate (fn.ntmps-args.toArray.size) undef,defers:=[]} w:=by
  refine⟨rfl,?_,fun _ _=>rfl,by simp,?_,by simp,hown,fun b _ _=>⟨rfl,h1 b⟩,fun b hb=>by have:=h1 b;omega,⟨rfl,rfl,rfl,b8 _,fun _ _ _=>rfl⟩,⟨fun _=>0,by simp,by simp,by simp⟩⟩
  ·simp[Γ];omega
  ·intro t;rw[xY];simp only[oI,th,s8];cases hd:ds[t]? with
   |none=>exact⟨[],.of (.any _),by simp⟩
   |some x=>
    obtain⟨v,b,k1,k2,k3⟩:=GQ t x hd;refine⟨b,?_,fun y hy=>hz y (k3 y hy)⟩;have hlt:t<args.length:=(aB.1 k1).1;have:(args.toArray++Array.replicate (fn.ntmps-args.toArray.size) undef).getD t undef=v:=by
     rw[bM,dO (by simpa using hlt)];simp[k1]
    rw[this];exact .of k2
 refine wp_mono (h hargs.QO Γ rfl _ _ _ _ hs) ?_;rintro e a' w' ⟨B2,κ0,Θ0,hs0,ue,nz,Lu,es,ms,qs,hres,M4,BE,zX,Kg,rfl⟩;obtain⟨ρ0,Nh⟩:=hs0.kx;have tS:=oA M4;obtain⟨Θ1,ρ1,hs1,hu1,hm1,hz1,HG⟩:=cN.xa ms hs0 Nh BE (fun m hm=>by
  obtain⟨e,sz,rows,hH⟩:=tS.1 m hm;exact⟨_,e,sz,rows,hH,rfl⟩)
 obtain⟨vs,bs',m1,m2,m3,m4,m5⟩:=vI hs0 hres;have hq:∀m e sz rows,B2.H[m]?=some (.row .uq e sz rows)->∃v cs ns,κ0 m=some v/\0<sz/\(∀r∈rows,r.length=sz)/\w'.ownsRow 0 e sz v rows.length cs/\ng w' (mX e) 0 cs rows.flatten ns/\ns.Nodup/\(∀b∈ns,ρ1 b=m+1)/\∀g,v.ownBlock=some g->Θ1 g=m+2:=by
  intro m e sz rows hH;have hnm:m∉ms:=fun hm=>by
   obtain⟨e',sz',cU,vG⟩:=tS.1 m hm;rw[hH]at vG;cases vG
  have C9:(kill B2.H ms)[m]?=some (.row .uq e sz rows):=by rw[cR hnm];exact hH
  obtain⟨v,cs,ns,r1,r2,r3,r4,r5⟩:=hu1.rows m e sz rows C9;obtain⟨p1,p2,v2,_,_,p3,_,_,p4,_⟩:=hs1.ob m _ C9;rw[r1]at p3;cases p3;exact⟨v,cs,ns,r1,p1,p2,r2,r3,r4,r5,p4⟩
 have qJ:∀m e sz rows,m∉ms->B2.H[m]?=some (.row .sh e sz rows)->∃v cs ns,κ0 m=some v/\0<sz/\(∀r∈rows,r.length=sz)/\w'.ownsRow 0 e sz v rows.length cs/\gG w' cs rows.flatten ns/\(∀b∈ns,Θ1 b=0)/\∀g,v.ownBlock=some g->Θ1 g=m+2:=by
  intro m e sz rows hnm hH;obtain⟨p1,p2,v2,cs,ns,p3,p4,p5,p6,p7⟩:=hs1.ob m _ (show(kill B2.H ms)[m]?=_ by rw[cR hnm];exact hH);exact⟨v2,cs,ns,p3,p1,p2,p4,p5,p7,p6⟩
 obtain⟨c,ts,us,ud,qo⟩:=rX (w:=w') (vs:=vs) (fun b hb=>(hu1.free b hb).1) hq qJ hs0.j9 M4 Kg zX (by omega) (fun i d hd=>by
  obtain⟨v,b,k1,k2,k3⟩:=m4 i d hd;exact⟨v,b,k1,k2,fun x hx=>hz1 x (m5 x (k3 x hx))⟩) hm1
 have CD:∃v,(results fn a'.tmps).run P w'=.ok v w'/\qZ w' v (zK es) c ts us:=by
  have hrun:(results fn a'.tmps).run P w'=.ok (if h:vs.toArray.size=1 then vs.toArray[0]else .tuple vs.toArray) w':=by
   rw[results_eq,jM];simp[m1]
  cases ud with
  |nil=>exact⟨.tuple #[],by simpa using hrun,.fy [] [] [] [] [] .nil⟩
  |cons v vs d es b1 b2 t1 t2 u1 u2 hv mM=>
   cases mM with
   |nil=>
    simp only[dw];exact⟨v,by simpa using hrun,.v hv⟩
   |cons v2 vs d2 es b3 b4 t3 t4 u3 u4 hv2 mM=>exact⟨.tuple (v::v2::vs).toArray,by simpa using hrun,.fy _ _ _ _ _ (.cons _ _ _ _ _ _ _ _ _ _ hv (.cons _ _ _ _ _ _ _ _ _ _ hv2 mM))⟩
 obtain⟨v,IS,DR⟩:=CD;have AP:Below w.heap.size w w':=⟨hs1.stays.os,hs1.stays.tape,hs1.stays.output,hs1.stays.size,fun b hb=>hs1.stays.block b hb (fun h=>h)⟩
 have Fh:∀b,oy Γ b->w.heap.size<=b:=fun b h=>by
  rcases h with h|h
  ·exact h
  ·exact h.elim
 have hwr:∀b∈us,w.heap.size<=b/\Wr w' b:=by
  intro b hb';rcases qo.mem b hb' with h|⟨m,hm,hρ⟩
  ·obtain⟨⟨m,hm,hΘ⟩,_⟩:=qo.top b h;refine⟨Fh b (hs1.mine b (by omega)),?_⟩;exact A8 DR b h
  ·have:=hu1.free b (by omega);exact⟨this.2.1.elim (Fh b) False.elim,this.2.2⟩
 have post:a'.defers=[]/\∃v,(results fn a'.tmps).run P w'=.ok v w'/\∃u bs' ts us,Ending.returned v=.returned u/\Below w.heap.size w w'/\qZ w' u (zK es) bs' ts us/\(∀b∈bs',b<w.heap.size->Θ b=0)/\(∀b∈bs',b∉ts)/\us.Nodup/\
  (∀b∈us,w.heap.size<=b/\Wr w' b)/\∀b∈ts,b∈us:=by
  refine⟨hs0.defers,v,IS,v,c,ts,us,rfl,AP,DR,fun b hb' hlt=>?_,fun b hb' ht=>?_,qo.nd,hwr,fun b hb'=>(qo.top b hb').2⟩
  ·have he:Θ1 b=Θ b:=(hs1.old b hlt (fun h=>h)).1;rw[<-he];exact qo.zero b hb'
  ·obtain⟨⟨m,_,hΘ⟩,_⟩:=qo.top b ht;have:=qo.zero b hb';omega
 rcases ue with rfl|rfl
 ·exact post
 ·exact post
end
end Go.Cx
namespace Go.Cx
open Go.RowKit
abbrev ic:=List Fs
section
variable{P:Program}{Γ:lY}{Q:Exit->St->Prop}{st:St}{κ:Nat->Option Value}{Θ:Nat->Nat}{a:Act}{w:World}{all:Array Oper}
def Ext(H H':ai):Prop:=∀(i:Nat) o,H[i]?=some o->H'[i]?=some o
theorem DH(σ:List (Nat×D))(H H':ai)(x:Operand):St.ev ⟨σ,H⟩ x=St.ev ⟨σ,H'⟩ x:=by cases x<;>rfl
theorem Ca{σ σ':List (Nat×D)}{H H':ai}{op:Op}{d:D}(hx:Ext H H')(he:∀x∈op.operands.toList,St.ev ⟨σ,H⟩ x=St.ev ⟨σ',H'⟩ x)(h:pv P ⟨σ,H⟩ op=some d):pv P ⟨σ',H'⟩ op=some d:=by
 have hm:∀(o:Option Operand),(∀x∈o.toArray.toList,St.ev ⟨σ,H⟩ x=St.ev ⟨σ',H'⟩ x)->o.map (St.ev ⟨σ,H⟩)=o.map (St.ev ⟨σ',H'⟩):=by
  intro o h;cases o with
  |none=>rfl
  |some x=>simp[h x (by simp)]
 cases op<;>simp only[pv]at h⊢ <;>(try cases h)
 case move x=>rw[he x (by simp[Op.operands])]at*
 case assign x=>rw[he x (by simp[Op.operands])]at*
 case nilCheck x=>rw[he x (by simp[Op.operands])]at h;exact h
 case pick c x y=>rw[he c (by simp[Op.operands]),he x (by simp[Op.operands]),he y (by simp[Op.operands])]at h;exact h
 case binOp op t x y t'=>rw[he x (by simp[Op.operands]),he y (by simp[Op.operands])]at h;exact h
 case unOp op t x=>cases op<;>simp only[pv]at h⊢ <;>(try cases h)<;>(rw[he x (by simp[Op.operands])]at h;exact h)
 case convert s d x=>rw[he x (by simp[Op.operands])]at h;exact h
 case field t x f=>rw[he x (by simp[Op.operands])]at h;exact h
 case fieldAddr t x f=>rw[he x (by simp[Op.operands])]at h;exact h
 case indexAddr t x i=>
  rw[he x (by simp[Op.operands]),he i (by simp[Op.operands])]at h;split at h
  ·rename_i e sz rows kk n h1 h2 h3
   (try simp only[h1,h2,h3]);exact h
  ·rename_i e sz id kk n h1 h2 h3
   (try simp only[h1,h2,h3])
   split at h
   ·rename_i k e' sz' rows hH;simp only[hx id _ hH];exact h
   ·cases h
  ·rename_i g o' kk n h1 h2
   (try simp only[h1,h2])
   generalize vJ P t=q at h⊢;cases q<;>exact h
  ·cases h
 case load t x=>
  rw[he x (by simp[Op.operands])]at h;split at h
  ·rename_i ag row off h1 h2
   (try simp only[h1,h2]);exact h
  ·rename_i ag id off h1 h2
   (try simp only[h1,h2])
   split at h
   ·rename_i cells hH;obtain⟨ob,hH,pK⟩:=aJ.1 hH;simp only[hx id _ hH,aA,pK];exact h
   ·cases h
  ·rename_i ag id i sz off h1 h2
   (try simp only[h1,h2])
   split at h
   ·rename_i p n e' sz' rows hH;simp only[hx id _ hH];exact h
   ·rename_i k e' sz' rows R2 hH;simp only[hx id _ hH];cases k with
    |ho p n=>exact(R2 _ _ rfl).elim
    |_=>exact h
   ·cases h
  ·rename_i ag g o' h1 h2
   (try simp only[h1,h2]);exact h
  ·cases h
 case lookup T x i ok=>
  rw[he x (by simp[Op.operands]),he i (by simp[Op.operands])]at h;split at h
  ·rename_i id h1
   (try simp only[h1])
   split at h
   ·rename_i kv hH;simp only[hx id _ hH];exact h
   ·cases h
  ·cases h
 case extract x i=>rw[he x (by simp[Op.operands])]at h;exact h
 case index t x i=>rw[he x (by simp[Op.operands]),he i (by simp[Op.operands])]at h;exact h
 case slice t x lo hi mx=>
  cases mx with
  |none=>
   simp only[pv]at h⊢;rw[he x (by simp[Op.operands]),hm lo (fun y hy=>he y (by simp only[Op.operands,gR,aF];exact .inl (.inl (.inr hy)))),
    hm hi (fun y hy=>he y (by simp only[Op.operands,gR,aF];exact .inl (.inr hy)))]at h
   exact h
  |some m=>simp only[pv]at h;cases h
 case build t parts=>
  have:(parts.toList.map fun p=>(p.1,St.ev ⟨σ,H⟩ p.2))=parts.toList.map fun p=>(p.1,St.ev ⟨σ',H'⟩ p.2):=by
   apply ig;intro p hp;rw[he p.2 (by simp only[Op.operands];simp;exact⟨p.1,by simpa using hp⟩)]
  rw[this]at h;exact h
 case call c=>
  split at h
  ·rename_i x t h1 h2 h3;have Nk:x∈(Op.call c).operands.toList:=by
    simp only[Op.operands,Call.operands,gR,aF,h2];exact .inr (by simp)
   (try simp only[h1,h2,h3])
   unfold LH at h⊢;rw[he x Nk]at h;split at h
   ·rename_i s hs;(try simp only[hs]);exact h
   ·rename_i rows hs;(try simp only[hs]);exact h
   ·rename_i hs;(try simp only[hs]);exact h
   ·rename_i id hs
    (try simp only[hs])
    split at h
    ·rename_i kk k e sz rows h4 h5;simp only[h4,hx id _ h5];exact h
    ·cases h
   ·cases h
  ·rename_i x y t t' h1 h2 h3;have Nk:x∈(Op.call c).operands.toList:=by
    simp only[Op.operands,Call.operands,gR,aF,h2];exact .inr (by simp)
   have V2:y∈(Op.call c).operands.toList:=by
    simp only[Op.operands,Call.operands,gR,aF,h2];exact .inr (by simp)
   (try simp only[h1,h2,h3])
   rw[he x Nk,he y V2]at h;exact h
  ·cases h
theorem EA{H H':ai}(hx:Ext H H'){d e:D}{ms:aH}(h:HI H d=some (e,ms)):HI H' d=some (e,ms):=by
 cases d<;>simp only[HI]at h⊢ <;>(try exact h)
 split at h
 ·rename_i k e' sz rows hH;simp only[hx _ _ hH];exact h
 ·rename_i sz rows u hH;simp only[hx _ _ hH];exact h
 ·rename_i rows hH;simp only[hx _ _ hH];exact h
 ·cases h
theorem H7{H H':ai}(hx:Ext H H'):∀ {ds es:aG} {ms:aH},EB H ds=some (es,ms)->EB H' ds=some (es,ms):=by
 intro ds
 induction ds with
 |nil=>intro es ms h;exact h
 |cons d ds ih=>
  intro es ms h;simp only[EB]at h⊢;split at h
  ·rename_i e m es' ms' h1 h2;rw[EA hx h1,ih h2];exact h
  ·cases h
theorem Jv{H H':ai}(hx:Ext H H'){d e:D}{ms:aH}(h:Ju H d=some (e,ms)):Ju H' d=some (e,ms):=by
 by_cases lE:∃ds,d=.agg ds
 ·obtain⟨ds,rfl⟩:=lE;simp only[Ju]at h⊢;split at h
  ·rename_i es ms' h1;rw[H7 hx h1];exact h
  ·cases h
 ·by_cases ht:∃vs,d=.fy vs
  ·obtain⟨vs,rfl⟩:=ht;simp[Ju]at h
  ·have e1:∀H,Ju H d=HI H d:=by intro H;cases d<;>first|rfl|exact absurd ⟨_,rfl⟩ lE|exact absurd ⟨_,rfl⟩ ht
   rw[e1]at h⊢;exact EA hx h
theorem H8{H H':ai}(hx:Ext H H'):∀ {ds es:aG} {ms:aH},vo H ds=some (es,ms)->vo H' ds=some (es,ms):=by
 intro ds
 induction ds with
 |nil=>intro es ms h;exact h
 |cons d ds ih=>
  intro es ms h;simp only[vo]at h⊢;split at h
  ·rename_i e m es' ms' h1 h2;rw[Jv hx h1,ih h2];exact h
  ·cases h
structure Cp where
 t:Option Nat
 d:D
 r:Nat
 obs:ai
 up:Option (Nat×Ob)
def Looks(H:ai)(vs ds:aG)(ms:aH):Prop:=vo H vs=some (ds,ms)\/(vs.all zF=true/\ds=vs/\ms=[])
def yI(P:Program)(H:ai)(σ:List (Nat×D))(o:Oper)(p:Cp):Prop:=
 (pv P ⟨σ,H⟩ o.op=some p.d/\p.obs=[])\/∃(f:FuncId) (xs:Array Operand) (ts:Array TypeId) (ds:aG) (ms:aH) (d:D),o.op=.call {callee:=.value (.func f),args:=xs,argTypes:=ts}/\
  Looks H (xs.toList.map (St.ev ⟨σ,H⟩)) ds ms/\(ms=[]\/d.Ak=true)/\Good P f ds d/\(ir p.r d=(p.d,p.obs)\/(d.O8=true/\p.d=d.K6/\p.obs=[]))
def C1(P:Program)(H:ai)(σ:List (Nat×D))(o:Oper)(p:Cp):Prop:=
 (∃T zs,o.op=.alloc T/\tz P T=some zs/\p.d=.ptr p.r 0/\p.obs=[.box zs])\/∃T x ds,o.op=.box T x/\(St.ev ⟨σ,H⟩ x).cellsOf=some ds/\p.d=.ptr p.r 0/\p.obs=[.box ds]
def C3(P:Program)(H:ai)(σ:List (Nat×D))(o:Oper)(p:Cp):Prop:=
 ∃T e sz len parts zs ds es,o.op=.buildSlice T len parts/\vJ P T=some (e,sz)/\tz P e=some zs/\0<sz/\len*sz<=16777216/\
  o9 (kp len sz) (List.replicate len zs).flatten (parts.toList.map fun q=>(q.1,St.ev ⟨σ,H⟩ q.2))=some ds/\wq H ds=some (es,[])/\p.d=.acc p.r/\p.obs=[.row (nV (H6 H e 0 ds)) e sz (chunk sz len es)]
def C2(P:Program)(H:ai)(σ:List (Nat×D))(o:Oper)(p:Cp):Prop:=
 ∃T e sz len parts zs ds,o.op=.buildSlice T len parts/\vJ P T=some (e,sz)/\tz P e=some zs/\0<sz/\len*sz<=16777216/\
  o9 (kp len sz) (List.replicate len zs).flatten (parts.toList.map fun q=>(q.1,St.ev ⟨σ,H⟩ q.2))=some ds/\ds.all D.Cu=true/\ds.all D.flat=true/\p.d=.sl (chunk sz len ds)/\p.obs=[]
def wm(P:Program)(H:ai)(σ:List (Nat×D))(o:Oper)(p:Cp):Prop:=yI P H σ o p\/C1 P H σ o p\/C3 P H σ o p\/C2 P H σ o p
def Ov(P:Program)(Γ:lY)(all:Array Oper)(H:ai)(σ:List (Nat×D))(o:Oper)(p:Cp):Prop:=
 ∃t,p.t=some t/\p.up=none/\o.dst=some t/\t<Γ.nt/\((o.guard=none/\wm P H σ o p)\/
  (∃(j s:Nat) (want b:Bool),o.guard=some (j,want)/\(all[j]?).bind (·.dst)=some s/\lk σ s=.bool b/\((b=want/\wm P H σ o p)\/(b≠want/\p.d=.fy []/\p.obs=[])))\/
  ∃(j s:Nat) (want:Bool),o.guard=some (j,want)/\(all[j]?).bind (·.dst)=some s/\lk σ s=.fy []/\p.d=.fy []/\p.obs=[])
def Ou(P:Program)(H:ai)(σ:List (Nat×D))(o:Oper)(p:Cp):Prop:=
 p.t=none/\p.obs=[]/\o.dst=none/\o.guard=none/\∃T x y id ds,o.op=.store T x y/\St.ev ⟨σ,H⟩ x=.ptr id 0/\H.length<=id/\(St.ev ⟨σ,H⟩ y).cellsOf=some ds/\Ck P T=true/\ds.length=oX P T/\p.up=some (id,.box ds)
def lJ(P:Program)(Γ:lY)(all:Array Oper)(H:ai)(σ:List (Nat×D))(o:Oper)(p:Cp):Prop:=Ov P Γ all H σ o p\/Ou P H σ o p
def Cp.slot(p:Cp)(σ:List (Nat×D)):List (Nat×D):=match p.t with|some t=>(t,p.d)::σ|none=>σ
def Cp.fill(n:Nat)(p:Cp)(acc:ai):ai:=match p.up with|some (id,ob)=>acc.set (id-n) ob|none=>acc++p.obs
def Cp.Qf(n:Nat)(p:Cp)(U:aH)(acc:ai):Prop:=match p.up with|some (id,ob)=>id∉U/\n<=id/\∃zs ds,acc[id-n]?=some (.box zs)/\ob=.box ds/\zs.length=ds.length|none=>True
def Cp.Qg(p:Cp)(U:aH):aH:=match p.up with|some (id,_)=>id::U|none=>U
def yy(P:Program)(Γ:lY)(all:Array Oper)(H:ai)(K:List (Nat×D)->ai->Prop):List Oper->List (Nat×D)->ai->aH->Prop
 | [],σ,acc,_=>K σ acc
 |o::os,σ,acc,U=>∃p:Cp,p.r=H.length+acc.length/\lJ P Γ all H σ o p/\p.Qf H.length U acc/\yy P Γ all H K os (p.slot σ) (p.fill H.length acc) (p.Qg U)
theorem qV{Q':Exit->Act->World->Prop}{ops:Array Oper}{i:Nat}{o:Oper}{K:Act->World->Prop}(hi:ops[i]?=some o)(hw:Region.wanted o (yielded ops a.tmps)=true)(h:o.wp P a w K Q'):wpOp P ops Q' i K a w:=by
 unfold wpOp;simp only[hi,hw,jV];exact .inl h
theorem cN.OY(hs:cN Γ st κ Θ a w){ops:Array Oper}{j s:Nat}{b:Bool}(hj:(ops[j]?).bind (·.dst)=some s)(hb:lk st.σ s=.bool b):yielded ops a.tmps j=some b:=by
 obtain⟨bs,r,_⟩:=hs.slot s;rw[hb]at r;have hv:=r.nC;have hlt:s<a.tmps.size:=by
  rcases cY s a.tmps.size with h|h
  ·exact h
  ·exfalso;rw[bM,kC h]at hv;simp[undef]at hv
 have h1:a.tmps[s]?=some (.bool b):=by
  rw[bM,bS hlt]at hv;rw[bS hlt];simpa using hv
 simp[yielded,hj,h1]
theorem AJ{st mO:St}{ops:Array Oper}{o:Oper}(h:∀t∈o.looksAt ops,lk st.σ t=lk mO.σ t):∀x∈o.op.operands.toList,st.ev x=mO.ev x:=by
 intro x hx;cases x with
 |tmp t=>
  refine h t ?_;unfold Oper.looksAt;exact aF.2 (.inl (bJ.2 ⟨.tmp t,hx,rfl⟩))
 |const v=>rfl
 |global g=>rfl
 |func f=>rfl
theorem uo(l:List (Nat×D))(σ:List (Nat×D))(t:Nat):(∀p∈l,p.1≠t)->lk (l++σ) t=lk σ t:=by
 induction l with
 |nil=>intro _;rfl
 |cons q l ih=>
  intro h;obtain⟨u,d⟩:=q;simp only[eC,lk];rw[ar (fun e=>h (u,d) (by simp) e.symm)];exact ih (fun p hp=>h p (by simp[hp]))
theorem wY(l:List (Nat×D))(σ:List (Nat×D))(p:Nat×D)(hp:p∈l)(hd:∀q∈l,q.1=p.1->q=p):lk (l++σ) p.1=p.2:=by
 induction l with
 |nil=>cases hp
 |cons q l ih=>
  obtain⟨u,d⟩:=q;simp only[eC,lk];by_cases e:p.1=u
  ·rw[bG e];have:=hd (u,d) (by simp) e.symm;rw[<-this]
  ·rw[ar e];rcases aY.1 hp with rfl|hp
   ·exact absurd rfl e
   ·exact ih hp (fun q hq=>hd q (by simp[hq]))
def I1(ops:Array Oper)(n:Nat):Bool:=
 decide (n<=ops.size)&&(decide (n=ops.size)||(decide (n<ops.size)&&(Region.sinkB .any ops n&&Region.chainB .any ops n)))&&
 Region.seqB .any ops (ops.size-n) n (Array.replicate n true++Array.replicate (ops.size-n) false)&&
 (List.range n).all fun i=>match ops[i]? with
  |none=>false
  |some o=>(o.after.all fun e=> !Region.binds .any e||decide (e.on<i))&&
   ((o.looksAt ops).all fun t=>(List.range n).all fun j=>match ops[j]? with|some oj=> !(oj.dst==some t)||(decide (j<i)&&Region.waitsFor .any ops i j)|none=>true)&&
   (List.range n).all fun j=>j==i||(match ops[j]? with|some oj=> !(oj.dst==o.dst)||o.dst.isNone|none=>true)
def place(H:ai)(r:Nat)(obs:ai):ai:=H.take r++(obs++H.drop (r+obs.length))
theorem lm{H:ai}{r:Nat}{obs:ai}(h:r+obs.length<=H.length)(j:Nat):(place H r obs)[j]?=if j<r then H[j]? else if j<r+obs.length then obs[j-r]? else H[j]?:=by
 unfold place;have hl:(H.take r).length=r:=by rw[bD];omega
 by_cases h1:j<r
 ·rw[bG h1,aS (by omega),bU,bG h1]
 ·rw[ar h1,aV (by omega),hl];by_cases h2:j<r+obs.length
  ·rw[bG h2,aS (by omega)]
  ·rw[ar h2,aV (by omega),cW]
   congr 1;omega
theorem lq{H:ai}{r:Nat}{obs:ai}(h:r+obs.length<=H.length):(place H r obs).length=H.length:=by
 unfold place;simp;omega
theorem yI.wp{Q':Exit->Act->World->Prop}{σ:List (Nat×D)}{H H':ai}{o:Oper}{p:Cp}{K:Act->World->Prop}(hs:cN Γ ⟨σ,H'⟩ κ Θ a w)(hx:Ext H H'){t:Nat}(hd:o.dst=some t)(ht:t<Γ.nt)(h:yI P H σ o p)
 (hr:p.r+p.obs.length<=H'.length) (hfree:∀i,i<p.obs.length->κ (p.r+i)=none)
 (hK:∀κ' Θ' a' w',cN Γ ⟨(t,p.d)::σ,place H' p.r p.obs⟩ κ' Θ' a' w'->(∀j,(j<p.r\/p.r+p.obs.length<=j)->κ' j=κ j)->K a' w'):o.wp P a w K Q':=by
 rcases h with⟨h,hno⟩|⟨f,xs,ts,ds,ms,d,hop,hds,hsh,iM,hi⟩
 ·have h':=Ca (σ:=σ) (σ':=σ) hx (fun x _=>DH σ H H' x) h;obtain⟨v,bs,hrun,hrd,hz⟩:=uy hs h';unfold Oper.wp;rw[hrun,Oper.upon_value,hd];have hp:place H' p.r p.obs=H':=by rw[hno];simp[place]
  exact hK κ Θ _ _ (by rw[hp];exact hs.set ht hrd hz) (fun _ _=>rfl)
 ·have hev:xs.toList.map (St.ev ⟨σ,H⟩)=xs.toList.map (St.ev ⟨σ,H'⟩):=ig (fun x _=>DH σ H H' x);have NL:∃bs,FK w (xs.toList.map a.eval) ds bs/\∀b∈bs,Seen Θ ms b:=by
   rcases hds with hds|⟨hk,rfl,rfl⟩
   ·have:=H8 hx hds;rw[hev]at this;exact zx hs this
   ·rw[hev]at hk⊢;exact BX hs hk
  obtain⟨bs,hargs,hz⟩:=NL;let Θc:Nat->Nat:=fun b=>if Θ b=0\/ms.any (fun m=>Θ b==m+2)then 0 else 1
  have zD:∀b,Seen Θ ms b->Θc b=0:=by
   intro b h;simp only[Θc];rw[bG];rcases h with h|⟨m,h1,h2⟩
   ·exact .inl h
   ·exact .inr (bt.2 ⟨m,h1,by simp[h2]⟩)
  have hc:=iM.2 w Θc _ bs hs.Om hargs (fun b hb=>zD b (hz b hb)) (fun b hb=>hs.own b (fun e=>hb (zD b (.inl e)))) (fun b=>by simp only[Θc];split<;>omega);unfold Oper.wp;rw[nH hop iM.1,Oper.upon_enter];have e:xs.map a.eval=(xs.toList.map a.eval).toArray:=by rw[<-eB,fW]
  rw[e];refine hc.mono ?_;rintro e w' ⟨v,bs',tb,ub,rfl,hb,hr',zl,htb,hnd,hfr,hsub⟩;show K (a.put o.dst v) w';rw[hd];rcases hi with hi|⟨hown,Ee,Ct⟩
  rotate_left
  ·cases hr' with
   |fy=>cases hown
   |v hv=>
    have tR:bs'=[]:=hv.own (by
     unfold D.O8 at hown;split at hown
     ·cases hown
     ·exact hown)
    obtain⟨b,q,s⟩:=hv.sS;have hp:place H' p.r p.obs=H':=by rw[Ct];simp[place]
    refine hK κ Θ _ w' ?_ (fun _ _=>rfl);rw[hp,Ee];refine(hs.grow hb).set ht (.v (.cell (.pure q))) fun x hx'=>?_
    rcases s x hx' with h|h
    ·rw[tR]at h;cases h
    ·by_cases h0:Θ x=0
     ·exact h0
     ·have:=hs.own x h0;have:=(hfr x h).1;omega
  obtain⟨L,q1,q2,q3,q4,q6,q5⟩:=hr'.inst p.r;rw[hi]at q1 q5;simp only at q1 q5;have hbz:∀b∈bs',Θ b=0:=by
   intro b hb';rcases hsh with BE|hown
   ·by_cases hlt:b<w.heap.size
    ·have h0:=zl b hb' hlt;simp only[Θc,BE,List.any_nil]at h0;by_cases h1:Θ b=0
     ·exact h1
     ·simp[h1]at h0
    ·by_cases h0:Θ b=0
     ·exact h0
     ·exact absurd (hs.own b h0) hlt
   ·rw[hr'.own hown]at hb';cases hb'
  have T7:L.length=p.obs.length:=by have:=congrArg List.length q1;simpa using this
  obtain⟨κ',Θ',hs',hnm,_,hno,hsame⟩:=hs.BV hb L q2 (q3▸hnd) (fun b hb'=>hfr b (q3▸hb')) (fun x hx hx' b hb'=>⟨hbz b (q6 x hx hx' b hb'),q4▸htb b (q6 x hx hx' b hb')⟩) p.r (place H' p.r p.obs) (fun i hi'=>hfree i (by omega)) (by rw[lq hr];exact b8 _) (by rw[lq hr];omega) (by
   intro j y hj;rw[lm hr]at hj;split at hj
   ·rename_i h1;exact .inr ⟨.inl h1,.inr hj⟩
   ·rename_i h1;split at hj
    ·rename_i h2;rw[<-q1,b9]at hj;cases hx':L[j-p.r]? with
     |none=>simp[hx']at hj
     |some x=>simp[hx']at hj;exact .inl ⟨j-p.r,x,by omega,hx',hj.symm⟩
    ·exact .inr ⟨.inr (by omega),.inr hj⟩)
  obtain⟨b0,HF,AU⟩:=q5 κ' hnm;refine hK κ' Θ' _ w' (hs'.set (t:=t) ht HF fun b hb'=>?_) (fun j hj=>hsame j (by omega));rw[hno b (q4▸htb b (AU b hb'))];exact hbz b (AU b hb')
theorem cN.Dp{σ:List (Nat×D)}{H':ai}(hs:cN Γ ⟨σ,H'⟩ κ Θ a w){r:Nat}(hr:r+1<=H'.length)(hfree:κ r=none){cs:Array Value}{ds:aG}{bs:aH}(T:TypeId)(hrd:dA w κ cs.toList ds bs)(hz:∀b∈bs,Θ b=0):
 cN Γ ⟨σ,place H' r [.box ds]⟩ (oG κ r (some (.pointer (some ⟨w.heap.size,0,none⟩)))) (fun b=>if b=w.heap.size then r+2 else Θ b) a (w.alloc (.cells cs T)):=by
 have k:=eT.alloc hs (.cells cs T) (tag:=r+2) (by omega);have hn:=nj hfree (some (Value.pointer (some ⟨w.heap.size,0,none⟩)));obtain⟨h1,h2⟩:=dA.stay k hn hrd hz;obtain⟨ρ,hu⟩:=hs.kx;refine hs.put (id:=r) (o:=.box ds) [] ?_ hn ?_ ?_ k (hs.pL (fun b hb=>by by_cases e:b=w.heap.size<;>simp_all)) ?_ hu (by simp) (by intro e sz rows h;cases h)
 ·intro j y hj;rw[lm (by simpa using hr)]at hj;split at hj
  ·exact .inr ⟨by omega,hj⟩
  ·split at hj
   ·rename_i h2;simp only[aR,bC]at h2;have e:j=r:=by omega
    subst e;simp at hj;exact .inl ⟨rfl,hj.symm⟩
   ·rename_i h2;simp only[aR,bC]at h2;exact .inr ⟨by omega,hj⟩
 ·intro i hi;rw[lq (by simpa using hr)]at hi;unfold oG;rw[ar (by omega)];exact hs.jN i hi
 ·intro i x hx;unfold oG at hx;split at hx
  ·cases hx;rfl
  ·exact hs.j9 i x hx
 ·exact⟨w.heap.size,cs,T,by simp[oG],heap_alloc_new w _,by simp,bs,h1,h2⟩
theorem C1.wp{Q':Exit->Act->World->Prop}{σ:List (Nat×D)}{H H':ai}{o:Oper}{p:Cp}{K:Act->World->Prop}(hs:cN Γ ⟨σ,H'⟩ κ Θ a w){t:Nat}(hd:o.dst=some t)(ht:t<Γ.nt)(h:C1 P H σ o p)
 (hr:p.r+p.obs.length<=H'.length) (hfree:∀i,i<p.obs.length->κ (p.r+i)=none)
 (hK:∀κ' Θ' a' w',cN Γ ⟨(t,p.d)::σ,place H' p.r p.obs⟩ κ' Θ' a' w'->(∀j,(j<p.r\/p.r+p.obs.length<=j)->κ' j=κ j)->K a' w'):o.wp P a w K Q':=by
 rcases h with⟨T,zs,hop,hz,Ee,Ct⟩|⟨T,x,ds,hop,hc,Ee,Ct⟩
 ·rw[Ct]at hr hfree hK;rw[Ee]at hK;obtain⟨i,z,hi,oF,hsz,hlen,hone,rfl⟩:=nZ hz;have hs':=hs.Dp (r:=p.r) hr (by simpa using hfree 0 (by simp)) T (cs:=z.cells) (rU z.cells.toList hone) (by simp);unfold Oper.wp;have hrun:(execOp a.eval o).run P w=.ok (.value (.pointer (some ⟨w.heap.size,0,none⟩))) (w.alloc (.cells z.cells T)):=by
   simp[execOp,hop,Instr.alloc,zeroValue,typeInfo,hi,oF,newVar,newRow]
  rw[hrun,Oper.upon_value,hd];refine hK _ _ _ _ (hs'.set (t:=t) (d:=.ptr p.r 0) (bs:=[]) ht ?_ (by simp)) (fun j hj=>?_)
  ·exact(oz.ptr p.r 0 w.heap.size (by simp[oG])).Bq
  ·unfold oG;simp only[aR,bC]at hj;rw[ar (by omega)]
 ·rw[Ct]at hr hfree hK;rw[Ee]at hK;obtain⟨bs,rr,hz⟩:=hs.ev x;rw[DH σ H' H x]at rr;have hcs:=rM hs.j9 rr hc;have hs':=hs.Dp (r:=p.r) hr (by simpa using hfree 0 (by simp)) T hcs hz;unfold Oper.wp;have hrun:(execOp a.eval o).run P w=.ok (.value (.pointer (some ⟨w.heap.size,0,none⟩))) (w.alloc (.cells (a.eval x).cells T)):=by
   simp[execOp,hop,Instr.box,newVar,newRow]
  rw[hrun,Oper.upon_value,hd];refine hK _ _ _ _ (hs'.set (t:=t) (d:=.ptr p.r 0) (bs:=[]) ht ?_ (by simp)) (fun j hj=>?_)
  ·exact(oz.ptr p.r 0 w.heap.size (by simp[oG])).Bq
  ·unfold oG;simp only[aR,bC]at hj;rw[ar (by omega)]
theorem cN.J5{σ:List (Nat×D)}{H':ai}(hs:cN Γ ⟨σ,H'⟩ κ Θ a w){r:Nat}(hr:r+1<=H'.length)(hfree:κ r=none){u:Bool}{e sz cap:Nat}{rows:List aG}{bs:aH}(cur:Array Value)(hsz:0<sz)(hrl:∀x∈rows,x.length=sz)
 (AS:cur.size=cap*sz) (hn:rows.length<=cap) (hcap:cap<=maxLen) (hrd:gG w (cur.toList.take (rows.length*sz)) rows.flatten bs) (hz:∀b∈bs,Θ b=0) (hq:u=true->bs=[]/\ng w (mX e) 0 (cur.toList.take (rows.length*sz)) rows.flatten bs):
 cN Γ ⟨σ,place H' r [.row (nV u) e sz rows]⟩ (oG κ r (some (.slice (some ⟨w.heap.size,0,none⟩) rows.length cap))) (fun b=>if b=w.heap.size then r+2 else Θ b) a (w.alloc (.cells cur e)):=by
 have k:=eT.alloc hs (.cells cur e) (tag:=r+2) (by omega);have hkn:=nj hfree (some (Value.slice (some ⟨w.heap.size,0,none⟩) rows.length cap));obtain⟨h1,h2⟩:=gG.over k hrd hz;have hlen:(cur.toList.take (rows.length*sz)).length=rows.length*sz:=by
  have:rows.length*sz<=cap*sz:=cx _ hn;have h3:cur.toList.length=cap*sz:=by rw[<-AS];simp
  rw[bD,h3,cv this]
 have hown:(w.alloc (.cells cur e)).ownsRow 0 e sz (.slice (some ⟨w.heap.size,0,none⟩) rows.length cap) rows.length (cur.toList.take (rows.length*sz)):=
  ⟨hlen,.inr ⟨w.heap.size,cap,cur,rfl,by omega,heap_alloc_new w _,hn,hcap,AS,rfl⟩⟩
 obtain⟨ρ,hu⟩:=hs.kx;refine hs.put (id:=r) (o:=.row (nV u) e sz rows) [] ?_ hkn ?_ ?_ k (hs.pL (fun b hb=>by by_cases e:b=w.heap.size<;>simp_all)) ?_ hu (by simp) ?_
 ·intro j y hj;rw[lm (by simpa using hr)]at hj;split at hj
  ·exact .inr ⟨by omega,hj⟩
  ·split at hj
   ·rename_i h2;simp only[aR,bC]at h2;have e:j=r:=by omega
    subst e;simp at hj;exact .inl ⟨rfl,hj.symm⟩
   ·rename_i h2;simp only[aR,bC]at h2;exact .inr ⟨by omega,hj⟩
 ·intro i hi;rw[lq (by simpa using hr)]at hi;unfold oG;rw[ar (by omega)];exact hs.jN i hi
 ·intro i x hx;unfold oG at hx;split at hx
  ·cases hx;rfl
  ·exact hs.j9 i x hx
 ·refine⟨hsz,hrl,_,_,bs,by simp[oG],hown,h1,?_,?_⟩
  ·intro g hg;simp only[Value.ownBlock,aQ]at hg;subst hg;simp
  ·cases u<;>exact h2
 ·intro e' sz' cU he;cases u with
  |false=>simp[nV]at he
  |true=>
   simp only[nV,Ob.row.injEq,pS]at he;obtain⟨rfl,rfl,rfl⟩:=he;obtain⟨h0,hF⟩:=hq rfl;subst h0;exact⟨_,_,[],by simp[oG],hown,hF.over k hz,by simp,by simp⟩
theorem C3.wp{Q':Exit->Act->World->Prop}{σ:List (Nat×D)}{H H':ai}{o:Oper}{p:Cp}{K:Act->World->Prop}(hs:cN Γ ⟨σ,H'⟩ κ Θ a w)(hx:Ext H H'){t:Nat}(hd:o.dst=some t)(ht:t<Γ.nt)(h:C3 P H σ o p)
 (hr:p.r+p.obs.length<=H'.length) (hfree:∀i,i<p.obs.length->κ (p.r+i)=none)
 (hK:∀κ' Θ' a' w',cN Γ ⟨(t,p.d)::σ,place H' p.r p.obs⟩ κ' Θ' a' w'->(∀j,(j<p.r\/p.r+p.obs.length<=j)->κ' j=κ j)->K a' w'):o.wp P a w K Q':=by
 obtain⟨T,e,sz,len,parts,zs,ds,es,hop,hT,hz,hsz,hsmall,hf,habs,Ee,Ct⟩:=h;rw[Ct]at hr hfree hK;rw[Ee]at hK;have hf':o9 (kp len sz) (List.replicate len zs).flatten (parts.toList.map fun q=>(q.1,St.ev ⟨σ,H'⟩ q.2))=some ds:=by
  rw[<-hf];congr 1
 obtain⟨arr,b0,hrun,BB,hb0,hal,hdl⟩:=pX (st:=⟨σ,H'⟩) hop hT hz hsz hsmall hf' hs;obtain⟨ρ,hu⟩:=hs.kx;obtain⟨bs,q1,q2,q3⟩:=EK (H:=H) (ρ:=ρ) habs (by simp) BB hb0 (by simp) e 0;have hel:es.length=len*sz:=by rw[<-q1.length,BB.length,hdl]
 obtain⟨c1,c2,c3⟩:=u7 sz len es hel;have hs':=hs.J5 (r:=p.r) hr (by simpa using hfree 0 (by simp)) (u:=H6 H e 0 ds) (e:=e) (sz:=sz) (cap:=len) (rows:=chunk sz len es) (bs:=bs) arr hsz c3 hal (by rw[c1];exact b8 _)
  (by unfold maxLen;have:len*1<=len*sz:=ij _ hsz;omega) (by rw[c1,c2,ed (by simp[hal])];exact q1) q2
  (fun hq=>by
   obtain⟨_,h2,h3⟩:=q3 hq;refine⟨?_,by rw[c1,c2,ed (by simp[hal])];exact h3⟩;cases bs with
   |nil=>rfl
   |cons b bs=>obtain⟨m,hm,_⟩:=h2 b (by simp);cases hm)
 unfold Oper.wp;rw[hrun,Oper.upon_value,hd];rw[c1]at hs';refine hK _ _ _ _ (hs'.set (t:=t) (d:=.acc p.r) (bs:=[]) ht ?_ (by simp)) (fun j hj=>?_)
 ·exact(oz.acc p.r _ (by simp[oG])).Bq
 ·unfold oG;simp only[aR,bC]at hj;rw[ar (by omega)]
theorem C2.wp{Q':Exit->Act->World->Prop}{σ:List (Nat×D)}{H H':ai}{o:Oper}{p:Cp}{K:Act->World->Prop}(hs:cN Γ ⟨σ,H'⟩ κ Θ a w){t:Nat}(hd:o.dst=some t)(ht:t<Γ.nt)(h:C2 P H σ o p)
 (hK:∀κ' Θ' a' w',cN Γ ⟨(t,p.d)::σ,place H' p.r p.obs⟩ κ' Θ' a' w'->(∀j,(j<p.r\/p.r+p.obs.length<=j)->κ' j=κ j)->K a' w'):o.wp P a w K Q':=by
 obtain⟨T,e,sz,len,parts,zs,ds,hop,hT,hz,hsz,hsmall,hf,Rz,PO,Ee,Ct⟩:=h;rw[Ct]at hK;rw[Ee]at hK;have hf':o9 (kp len sz) (List.replicate len zs).flatten (parts.toList.map fun q=>(q.1,St.ev ⟨σ,H'⟩ q.2))=some ds:=by
  rw[<-hf];congr 1
 obtain⟨arr,b0,hrun,BB,hb0,hal,hdl⟩:=pX (st:=⟨σ,H'⟩) hop hT hz hsz hsmall hf' hs;have hrd:=BB.pure Rz;have RZ:b0=[]:=hrd.flat PO;subst RZ;obtain⟨c1,c2,c3⟩:=u7 sz len ds hdl;have AP:Below w.heap.size w (w.alloc (.cells arr e)):=by
  have k:=eT.alloc hs (.cells arr e) (tag:=2) (by omega);refine⟨k.os,k.tape,k.output,k.size,fun b hlt=>?_⟩;simp only[World.alloc];rw[Array.getElem?_push,ar (by omega)]
 have hs':=hs.grow AP;unfold Oper.wp;rw[hrun,Oper.upon_value,hd];have hpl:place H' p.r ([]:ai)=H':=by simp[place]
 rw[hpl]at hK;refine hK _ _ _ _ (hs'.set (t:=t) (d:=.sl (chunk sz len ds)) (bs:=[w.heap.size]) ht ?_ ?_) (fun j hj=>rfl)
 ·have hcell:∀j c,arr.toList[j]?=some c->(w.alloc (.cells arr e)).cell? ⟨w.heap.size,0+j,none⟩=some c:=by
   intro j c hj;simp only[bq,World.cell?,heap_alloc_new w _];simpa using hj
  have hlt:w.heap.size<(w.alloc (.cells arr e)).heap.size:=(aX.1 (heap_alloc_new w _)).1;have:=Rd.sl (w:=w.alloc (.cells arr e)) w.heap.size 0 len sz (chunk sz len ds) arr.toList [] hlt (by rw[c1];exact b8 _) (by unfold maxLen;have:len*1<=len*sz:=ij _ hsz;omega) c3 hcell (by rw[c2];exact hrd.keep (by simp));rw[c1]at this;exact .of this
 ·intro b hb;simp only[bu]at hb;subst hb;cases h:Θ w.heap.size with
  |zero=>rfl
  |succ m=>exact absurd (hs.own w.heap.size (by omega)) (by omega)
theorem wm.wp{Q':Exit->Act->World->Prop}{σ:List (Nat×D)}{H H':ai}{o:Oper}{p:Cp}{K:Act->World->Prop}(hs:cN Γ ⟨σ,H'⟩ κ Θ a w)(hx:Ext H H'){t:Nat}(hd:o.dst=some t)(ht:t<Γ.nt)(h:wm P H σ o p)
 (hr:p.r+p.obs.length<=H'.length) (hfree:∀i,i<p.obs.length->κ (p.r+i)=none)
 (hK:∀κ' Θ' a' w',cN Γ ⟨(t,p.d)::σ,place H' p.r p.obs⟩ κ' Θ' a' w'->(∀j,(j<p.r\/p.r+p.obs.length<=j)->κ' j=κ j)->K a' w'):o.wp P a w K Q':=by
 rcases h with h|h|h|h
 ·exact h.wp hs hx hd ht hr hfree hK
 ·exact h.wp hs hd ht hr hfree hK
 ·exact h.wp hs hx hd ht hr hfree hK
 ·exact h.wp hs hd ht hK
theorem cN.Jo(hs:cN Γ st κ Θ a w){ops:Array Oper}{j s:Nat}(hj:(ops[j]?).bind (·.dst)=some s)(hb:lk st.σ s=.fy []):yielded ops a.tmps j=none:=by
 obtain⟨bs,r,_⟩:=hs.slot s;rw[hb]at r;have hv:=r.Br;rcases cY s a.tmps.size with hlt|hlt
 ·have h1:a.tmps[s]?=some (.tuple #[]):=by
   rw[bM,bS hlt]at hv;rw[bS hlt];simpa using hv
  simp[yielded,hj,h1]
 ·simp[yielded,hj,kC hlt]
def Cp.rC(p:Cp)(H':ai):ai:=match p.up with|some (id,ob)=>H'.set id ob|none=>place H' p.r p.obs
theorem lJ.wp{Q':Exit->Act->World->Prop}{σ:List (Nat×D)}{H H':ai}{ops:Array Oper}{i:Nat}{o:Oper}{p:Cp}{K:Act->World->Prop}(hs:cN Γ ⟨σ,H'⟩ κ Θ a w)(hx:Ext H H')(hi:ops[i]?=some o)(h:lJ P Γ ops H σ o p)
 (hr:p.r+p.obs.length<=H'.length) (hfree:∀i,i<p.obs.length->κ (p.r+i)=none) (EG:∀id ob,p.up=some (id,ob)->∃zs ds,H'[id]?=some (.box zs)/\ob=.box ds/\zs.length=ds.length)
 (hK:∀κ' Θ' a' w',cN Γ ⟨p.slot σ,p.rC H'⟩ κ' Θ' a' w'->(∀j,(j<p.r\/p.r+p.obs.length<=j)->κ' j=κ j)->K a' w'):wpOp P ops Q' i K a w:=by
 rcases h with⟨t,hpt,Fk,hd,ht,h⟩|⟨hpt,Ct,hd,hg,T,x,y,id,ds,hop,hev,hlen,hc,hT,hl,Fk⟩
 ·have e1:p.slot σ=(t,p.d)::σ:=by simp[Cp.slot,hpt]
  have e2:p.rC H'=place H' p.r p.obs:=by simp[Cp.rC,Fk]
  rw[e1,e2]at hK;rcases h with⟨hg,hc⟩|⟨j,s,want,b,hg,hj,hb,hc⟩|⟨j,s,want,hg,hj,hb,NK,hno⟩
  ·exact qV hi (by simp[Region.wanted,hg]) (hc.wp hs hx hd ht hr hfree hK)
  ·have hy:=hs.OY hj hb;rcases hc with⟨rfl,hc⟩|⟨hne,NK,hno⟩
   ·exact qV hi (by simp[Region.wanted,hg,hy]) (hc.wp hs hx hd ht hr hfree hK)
   ·unfold wpOp;have hw:Region.wanted o (yielded ops a.tmps)=false:=by simp[Region.wanted,hg,hy,hne]
    simp only[hi,hw,pN,th,hd];have hp:place H' p.r p.obs=H':=by rw[hno];simp[place]
    exact hK κ Θ _ _ (by rw[hp,NK];exact hs.set ht (.fy [] [] [] .nil) (by simp)) (fun _ _=>rfl)
  ·have hy:=hs.Jo hj hb;unfold wpOp;have hw:Region.wanted o (yielded ops a.tmps)=false:=by simp[Region.wanted,hg,hy]
   simp only[hi,hw,pN,th,hd];have hp:place H' p.r p.obs=H':=by rw[hno];simp[place]
   exact hK κ Θ _ _ (by rw[hp,NK];exact hs.set ht (.fy [] [] [] .nil) (by simp)) (fun _ _=>rfl)
 ·have e1:p.slot σ=σ:=by simp[Cp.slot,hpt]
  have e2:p.rC H'=H'.set id (.box ds):=by simp[Cp.rC,Fk]
  rw[e1,e2]at hK;obtain⟨zs,ds',hz,he,hzl⟩:=EG id _ Fk;cases he;obtain⟨w',hrun,hs'⟩:=Bo (st:=⟨σ,H'⟩) hop (by rw[DH σ H' H x];exact hev) hz rfl (by rw[DH σ H' H y];exact hc) hT hl (by omega) rfl hs;refine qV hi (by simp[Region.wanted,hg]) ?_;unfold Oper.wp;rw[hrun,Oper.upon_skip,hd];have e3:zs.take 0++ds++zs.drop (0+ds.length)=ds:=by
   rw[kD (by omega)];simp
  rw[e3]at hs';exact hK κ Θ _ _ hs' (fun _ _=>rfl)
theorem yI.congr{H:ai}{σ σ':List (Nat×D)}{o:Oper}{p:Cp}(he:∀x∈o.op.operands.toList,St.ev ⟨σ,H⟩ x=St.ev ⟨σ',H⟩ x)(h:yI P H σ o p):yI P H σ' o p:=by
 rcases h with⟨h,hno⟩|⟨f,xs,ts,ds,ms,d,hop,hds,hsh,iM,hi⟩
 ·exact .inl ⟨Ca (fun _ _ h=>h) he h,hno⟩
 ·have hm:xs.toList.map (St.ev ⟨σ,H⟩)=xs.toList.map (St.ev ⟨σ',H⟩):=by
   apply ig;intro x hx;refine he x ?_;rw[hop];simp only[Op.operands,Call.operands,gR,aF];exact .inr hx
  rw[hm]at hds;exact .inr ⟨f,xs,ts,ds,ms,d,hop,hds,hsh,iM,hi⟩
theorem wm.congr{H:ai}{σ σ':List (Nat×D)}{o:Oper}{p:Cp}(he:∀x∈o.op.operands.toList,St.ev ⟨σ,H⟩ x=St.ev ⟨σ',H⟩ x)(h:wm P H σ o p):wm P H σ' o p:=by
 rcases h with h| (h|⟨T,x,ds,hop,hc,Ee,Ct⟩)|⟨T,e,sz,len,parts,zs,ds,es,hop,hT,hz,hsz,hsmall,hf,habs,Ee,Ct⟩|⟨T,e,sz,len,parts,zs,ds,hop,hT,hz,hsz,hsmall,hf,habs,hfl,Ee,Ct⟩
 ·exact .inl (h.congr he)
 ·exact .inr (.inl (.inl h))
 ·exact .inr (.inl (.inr ⟨T,x,ds,hop,by rw[<-he x (by rw[hop];simp[Op.operands])];exact hc,Ee,Ct⟩))
 ·refine .inr (.inr (.inl ⟨T,e,sz,len,parts,zs,ds,es,hop,hT,hz,hsz,hsmall,?_,habs,Ee,Ct⟩));rw[<-hf]
  congr 1
  apply ig;intro q hq;rw[he q.2 ?_];rw[hop];simp only[Op.operands,eB];exact cQ.2 ⟨q,hq,rfl⟩
 ·refine .inr (.inr (.inr ⟨T,e,sz,len,parts,zs,ds,hop,hT,hz,hsz,hsmall,?_,habs,hfl,Ee,Ct⟩));rw[<-hf]
  congr 1
  apply ig;intro q hq;rw[he q.2 ?_];rw[hop];simp only[Op.operands,eB];exact cQ.2 ⟨q,hq,rfl⟩
theorem lJ.congr{H:ai}{σ σ':List (Nat×D)}{ops:Array Oper}{o:Oper}{p:Cp}(he:∀t∈o.looksAt ops,lk σ t=lk σ' t)(h:lJ P Γ ops H σ o p):lJ P Γ ops H σ' o p:=by
 have hev:=AJ (st:=⟨σ,H⟩) (mO:=⟨σ',H⟩) he;have TI:∀ {j s:Nat} {want:Bool},o.guard=some (j,want)->(ops[j]?).bind (·.dst)=some s->lk σ s=lk σ' s:=by
  intro j s want hg hj;refine he s ?_;unfold Oper.looksAt;refine aF.2 (.inr ?_);simp[hg,hj]
 rcases h with⟨t,hpt,Fk,hd,ht,h⟩|⟨hpt,Ct,hd,hg,T,x,y,id,ds,hop,hx,hlen,hc,hT,hl,Fk⟩
 ·refine .inl ⟨t,hpt,Fk,hd,ht,?_⟩;rcases h with⟨hg,hc⟩|⟨j,s,want,b,hg,hj,hb,hc⟩|⟨j,s,want,hg,hj,hb,hc⟩
  ·exact .inl ⟨hg,hc.congr hev⟩
  ·refine .inr (.inl ⟨j,s,want,b,hg,hj,by rw[<-TI hg hj];exact hb,?_⟩);rcases hc with⟨h1,hc⟩|hc
   ·exact .inl ⟨h1,hc.congr hev⟩
   ·exact .inr hc
  ·exact .inr (.inr ⟨j,s,want,hg,hj,by rw[<-TI hg hj];exact hb,hc⟩)
 ·refine .inr ⟨hpt,Ct,hd,hg,T,x,y,id,ds,hop,?_,hlen,?_,hT,hl,Fk⟩
  ·rw[<-hev x (by rw[hop];simp[Op.operands])];exact hx
  ·rw[<-hev y (by rw[hop];simp[Op.operands])];exact hc
def Cp.sl(p:Cp):Option (Nat×D):=p.t.map fun t=>(t,p.d)
theorem Cp.LW(p:Cp)(σ:List (Nat×D)):p.slot σ=p.sl.toList++σ:=by
 unfold Cp.slot Cp.sl;cases p.t<;>rfl
theorem zk(p:Cp)(ps:List Cp)(σ:List (Nat×D)):((p::ps).filterMap Cp.sl).reverse++σ=(ps.filterMap Cp.sl).reverse++p.slot σ:=by
 rw[Cp.LW,oZ];cases p.sl<;>simp
theorem lJ.Jp{H:ai}{σ:List (Nat×D)}{o:Oper}{p:Cp}(h:lJ P Γ all H σ o p):p.up=none\/p.obs=[]:=by
 rcases h with⟨_,_,h,_⟩|⟨_,h,_⟩
 ·exact .inl h
 ·exact .inr h
theorem lJ.slots{H:ai}{σ:List (Nat×D)}{o:Oper}{p:Cp}(h:lJ P Γ all H σ o p):o.dst=p.t:=by
 rcases h with⟨t,h1,_,h2,_⟩|⟨h1,_,h2,_⟩
 ·rw[h1,h2]
 ·rw[h1,h2]
theorem yy.unfold{H:ai}{K:List (Nat×D)->ai->Prop}:∀(l:List Oper) (σ:List (Nat×D)) (acc:ai) (U:aH),yy P Γ all H K l σ acc U->
 ∃(ps:List Cp) (zR:ai),ps.length=l.length/\(∀(i:Nat) o p,l[i]?=some o->ps[i]?=some p->lJ P Γ all H (((ps.take i).filterMap Cp.sl).reverse++σ) o p/\p.r=H.length+acc.length+((ps.take i).flatMap Cp.obs).length/\
  ∀id ob,p.up=some (id,ob)->id∉U/\H.length<=id/\(∃zs ds,ob=.box ds/\zs.length=ds.length/\(acc++(ps.take i).flatMap Cp.obs)[id-H.length]?=some (.box zs))/\∀(i2:Nat) q rH,i2<i->ps[i2]?=some q->q.up≠some (id,rH))/\
  K ((ps.filterMap Cp.sl).reverse++σ) zR/\zR.length=acc.length+(ps.flatMap Cp.obs).length/\
  (∀k,(∀(i:Nat) q ob,ps[i]?=some q->q.up≠some (H.length+k,ob))->zR[k]?=(acc++ps.flatMap Cp.obs)[k]?)/\
  ∀(i:Nat) q id ob,ps[i]?=some q->q.up=some (id,ob)->zR[id-H.length]?=some ob:=by
 intro l
 induction l with
 |nil=>
  intro σ acc U h;have h:K σ acc:=h;exact⟨[],acc,rfl,by simp,by simpa using h,by simp,by simp,by simp⟩
 |cons o l ih=>
  intro σ acc U h;obtain⟨p,hr,hc,hok,mM⟩:=h;obtain⟨ps,zR,h1,h2,h3,h4,h5,h6⟩:=ih _ _ _ mM;cases EG:p.up with
  |none=>
   have ef:p.fill H.length acc=acc++p.obs:=by simp[Cp.fill,EG]
   have eu:p.Qg U=U:=by simp[Cp.Qg,EG]
   rw[ef]at h2 h4 h5;rw[eu]at h2;refine⟨p::ps,zR,by simp[h1],?_,by rw[zk];exact h3,by rw[h4];simp;omega,?_,?_⟩
   ·intro i o' p' ho hp;cases i with
    |zero=>
     simp at ho hp;subst ho;subst hp;refine⟨by simpa using hc,by simpa using hr,?_⟩;intro id ob he;rw[EG]at he;cases he
    |succ i=>
     simp at ho hp;obtain⟨q1,q2,q3⟩:=h2 i o' p' ho hp;refine⟨by rw[jq,zk];exact q1,by rw[q2];simp;omega,?_⟩;intro id ob he;obtain⟨r1,r2,⟨zs,ds,r3,r4,r5⟩,r6⟩:=q3 id ob he;refine⟨r1,r2,⟨zs,ds,r3,r4,by rw[<-r5];simp⟩,?_⟩;intro i2 q rH hlt hq;cases i2 with
     |zero=>simp at hq;subst hq;rw[EG];simp
     |succ i2=>exact r6 i2 q rH (by omega) (by simpa using hq)
   ·intro k hk;rw[h5 k (fun i q ob hq=>hk (i+1) q ob (by simpa using hq))];simp
   ·intro i q id ob hq he;cases i with
    |zero=>simp at hq;subst hq;rw[EG]at he;cases he
    |succ i=>exact h6 i q id ob (by simpa using hq) he
  |some x=>
   obtain⟨Ft,Sn⟩:=x;have ef:p.fill H.length acc=acc.set (Ft-H.length) Sn:=by simp[Cp.fill,EG]
   have eu:p.Qg U=Ft::U:=by simp[Cp.Qg,EG]
   have Fi:p.obs=[]:=by
    rcases hc.Jp with h|h
    ·rw[h]at EG;cases EG
    ·exact h
   rw[ef]at h2 h4 h5;rw[eu]at h2;simp only[Cp.Qf,EG]at hok;obtain⟨u1,u2,Vg,Lu,u3,u4,u5⟩:=hok;have k9:∀(X:ai) (k:Nat),k≠Ft-H.length->(acc.set (Ft-H.length) Sn++X)[k]?=(acc++X)[k]?:=by
    intro X k hk;by_cases hl:k<acc.length
    ·rw[aS (by simpa using hl),aS hl,bH (kE hk)]
    ·rw[aV (by simpa using hl),aV (by omega)];simp
   have hno:∀(i:Nat) q rH,ps[i]?=some q->q.up≠some (Ft,rH):=by
    intro i q rH hq he;have hlt:i<l.length:=by have:=(aB.1 hq).1;omega
    have:=(h2 i l[i] q (aN hlt) hq).2.2 Ft rH he;exact this.1 (by simp)
   refine⟨p::ps,zR,by simp[h1],?_,by rw[zk];exact h3,by rw[h4];simp[Fi],?_,?_⟩
   ·intro i o' p' ho hp;cases i with
    |zero=>
     simp at ho hp;subst ho;subst hp;refine⟨by simpa using hc,by simpa using hr,?_⟩;intro id ob he;rw[EG]at he;cases he;exact⟨u1,u2,⟨Vg,Lu,u4,u5,by simpa using u3⟩,by intro i2 q rH hlt;omega⟩
    |succ i=>
     simp at ho hp;obtain⟨q1,q2,q3⟩:=h2 i o' p' ho hp;refine⟨by rw[jq,zk];exact q1,by rw[q2];simp[Fi],?_⟩;intro id ob he;obtain⟨r1,r2,⟨zs,ds,r3,r4,r5⟩,r6⟩:=q3 id ob he;have hne:id≠Ft:=fun e=>r1 (by simp[e])
     refine⟨fun h=>r1 (by simp[h]),r2,⟨zs,ds,r3,r4,?_⟩,?_⟩
     ·rw[<-r5,k9 _ _ (by omega)];simp[Fi]
     ·intro i2 q rH hlt hq;cases i2 with
      |zero=>simp at hq;subst hq;rw[EG];intro e;cases e;exact hne rfl
      |succ i2=>exact r6 i2 q rH (by omega) (by simpa using hq)
   ·intro k hk;rw[h5 k (fun i q ob hq=>hk (i+1) q ob (by simpa using hq))];have hne:k≠Ft-H.length:=fun e=>hk 0 p Sn rfl (by rw[EG,e,show H.length+(Ft-H.length)=Ft from by omega])
    rw[k9 _ _ hne];simp[Fi]
   ·intro i q id ob hq he;cases i with
    |zero=>
     simp at hq;subst hq;rw[EG]at he;cases he;rw[h5 (Ft-H.length) (fun i q rH hq=>by rw[show H.length+(Ft-H.length)=Ft from by omega];exact hno i q rH hq)];have hl:Ft-H.length<acc.length:=(aB.1 u3).1;rw[aS (by simpa using hl),cI hl]
    |succ i=>exact h6 i q id ob (by simpa using hq) he
theorem cN.same{σ':List (Nat×D)}(h:∀t,lk st.σ t=lk σ' t)(hs:cN Γ st κ Θ a w):cN Γ ⟨σ',st.H⟩ κ Θ a w:=
 ⟨hs.defers,hs.size,hs.jN,hs.j9,fun t=>by show∃bs,kF w κ _ (lk σ' t) bs/\_;rw[<-h t];exact hs.slot t,hs.ob,hs.own,hs.old,hs.mine,hs.stays,hs.kx⟩
theorem cN.room(hs:cN Γ st κ Θ a w)(m:Nat):cN Γ ⟨st.σ,st.H++List.replicate m .gone⟩ κ Θ a w:=by
 have key:∀(j:Nat) y,(st.H++List.replicate m .gone)[j]?=some y->y=.gone\/st.H[j]?=some y:=by
  intro j y hj;by_cases hlt:j<st.H.length
  ·rw[aS hlt]at hj;exact .inr hj
  ·rw[aV (by omega)]at hj;rw[List.getElem?_replicate]at hj;split at hj
   ·cases hj;exact .inl rfl
   ·cases hj
 obtain⟨ρ,hu⟩:=hs.kx;refine⟨hs.defers,hs.size,fun i hi=>hs.jN i (by simp at hi;omega),hs.j9,hs.slot,?_,hs.own,hs.old,hs.mine,hs.stays,ρ,hu.free,?_,?_⟩
 ·intro j o hj;rcases key j o hj with rfl|h
  ·trivial
  ·exact hs.ob j o h
 ·intro id e sz rows hj;rcases key id _ hj with h|h
  ·cases h
  ·exact hu.rows id e sz rows h
 ·intro id o hj;rcases key id _ hj with h|h
  ·subst h;trivial
  ·exact hu.more id o h
theorem jk{ps:List Cp}{i:Nat}{p:Cp}(h:ps[i]?=some p):ps.flatMap Cp.obs=(ps.take i).flatMap Cp.obs++(p.obs++(ps.drop (i+1)).flatMap Cp.obs):=by
 have e:ps=ps.take i++(p::ps.drop (i+1)):=by
  obtain⟨hlt,rfl⟩:=aB.1 h;rw[s7,bK]
 conv=>lhs;rw[e]
 simp
theorem p8{ps:List Cp}:∀ {k:Nat},k<(ps.flatMap Cp.obs).length->∃(i:Nat) (p:Cp) (j:Nat),ps[i]?=some p/\j<p.obs.length/\k=((ps.take i).flatMap Cp.obs).length+j:=by
 induction ps with
 |nil=>intro k h;simp at h
 |cons p ps ih=>
  intro k h;by_cases hk:k<p.obs.length
  ·exact⟨0,p,k,rfl,hk,by simp⟩
  ·simp only[gD,af]at h;obtain⟨i,q,j,h1,h2,h3⟩:=ih (k:=k-p.obs.length) (by omega);refine⟨i+1,q,j,by simpa using h1,h2,?_⟩;rw[jq,gD,af];omega
theorem Bi{ps:List Cp}{i j:Nat}{p:Cp}(hp:ps[i]?=some p)(hij:i<j):((ps.take i).flatMap Cp.obs).length+p.obs.length<=((ps.take j).flatMap Cp.obs).length:=by
 have h:(ps.take j)[i]?=some p:=by rw[bU,bG hij];exact hp
 have:=jk h;rw[this];have e:(ps.take j).take i=ps.take i:=by rw[lH,cv (by omega)]
 rw[e];simp only[af];omega
theorem KH{id:Nat}{l:List Oper}(n:Nat)(hm:P.follows .mixedOrders=true)(hB:I1 l.toArray n=true)
 (h:yy P Γ l.toArray st.H (fun σ acc=>AO P Γ l.toArray (l.drop n) Q ⟨σ,st.H++acc⟩) (l.take n) st.σ [] []):AW P Γ (.region id l.toArray true) Q st:=by
 simp only[I1,aM,fM,bA]at hB;obtain⟨⟨⟨hn,hsc⟩,Kh⟩,zC⟩:=hB;obtain⟨ps,zR,hlen,AR,hK,RQ,PA,RR⟩:=yy.unfold _ _ _ _ h;simp only[dN,bC,ou,bq]at AR hK RQ PA;have hn':n<=l.length:=by simpa using hn
 have hpl:ps.length=n:=by rw[hlen];simp;omega
 have hop:∀(i:Nat),i<n->∃o p,l.toArray[i]?=some o/\ps[i]?=some p/\o.dst=p.t/\lJ P Γ l.toArray st.H (((ps.take i).filterMap Cp.sl).reverse++st.σ) o p/\p.r=st.H.length+((ps.take i).flatMap Cp.obs).length:=by
  intro i hi;have h1:l[i]?=some l[i]:=aN (by omega);have h2:ps[i]?=some ps[i]:=aN (by omega);have h3:=AR i l[i] ps[i] (by rw[bU,bG hi];exact h1) h2;exact⟨l[i],ps[i],by simp[eH,h1],h2,h3.1.slots,h3.1,h3.2.1⟩
 have Ef:∀(i:Nat) p,ps[i]?=some p->p.r=st.H.length+((ps.take i).flatMap Cp.obs).length:=by
  intro i p hp;have hi:i<n:=by have:=(aB.1 hp).1;omega
  obtain⟨_,p',_,hp',_,_,hr⟩:=hop i hi;rw[hp]at hp';cases hp';exact hr
 have CF:∀(i:Nat) p id ob,ps[i]?=some p->p.up=some (id,ob)->st.H.length<=id/\(∃zs ds,ob=.box ds/\zs.length=ds.length/\((ps.take i).flatMap Cp.obs)[id-st.H.length]?=some (.box zs))/\∀(i2:Nat) q rH,i2<i->ps[i2]?=some q->q.up≠some (id,rH):=by
  intro i p id ob hp he;have hi:i<n:=by have:=(aB.1 hp).1;omega
  have h1:l[i]?=some l[i]:=aN (by omega);have h3:=(AR i l[i] p (by rw[bU,bG hi];exact h1) hp).2.2 id ob he;exact⟨h3.2.1,h3.2.2.1,h3.2.2.2⟩
 have IW:∀(i j:Nat) p q id ob rH,ps[i]?=some p->ps[j]?=some q->p.up=some (id,ob)->q.up=some (id,rH)->i=j:=by
  intro i j p q id ob rH hp hq he wV;rcases nA i j with h|h|h
  ·exact absurd he ((CF j q id rH hq wV).2.2 i p ob h hp)
  ·exact h
  ·exact absurd wV ((CF i p id ob hp he).2.2 j q rH h hq)
 have IX:∀(i:Nat) p id ob,ps[i]?=some p->p.up=some (id,ob)->p.obs=[]:=by
  intro i p id ob hp he;have hi:i<n:=by have:=(aB.1 hp).1;omega
  obtain⟨_,p',_,hp',_,hc,_⟩:=hop i hi;rw[hp]at hp';cases hp';rcases hc.Jp with h|h
  ·rw[h]at he;cases he
  ·exact h
 have hfit:∀(i:Nat) p,ps[i]?=some p->p.r+p.obs.length<=st.H.length+(ps.flatMap Cp.obs).length:=by
  intro i p hp;rw[Ef i p hp,jk hp];simp only[af];omega
 have CB:∀(i j:Nat) p q,ps[i]?=some p->ps[j]?=some q->i<j->p.r+p.obs.length<=q.r:=by
  intro i j p q hp hq hij;rw[Ef i p hp,Ef j q hq];have:=Bi hp hij;omega
 have hdist:∀(i j:Nat) p q t,ps[i]?=some p->ps[j]?=some q->p.t=some t->q.t=some t->i=j:=by
  intro i j p q t hp hq Rl wV;have hi:i<n:=by have:=(aB.1 hp).1;omega
  have hj:j<n:=by have:=(aB.1 hq).1;omega
  obtain⟨oi,p',ho,hp',Rk,_⟩:=hop i hi;obtain⟨oj,q',o4,BF,hdj,_⟩:=hop j hj;rw[hp]at hp';cases hp';rw[hq]at BF;cases BF;have:=aO.1 zC i (az.2 hi);simp only[ho,aM]at this;have:=aO.1 this.2 j (az.2 hj);simp only[o4,Rk,hdj,Rl,wV,ju,bB,nc,Option.isNone_some,nc,bX]at this;exact this.symm
 have uc:∀(i:Nat) p t,ps[i]?=some p->p.t=some t->∀q∈ps.filterMap Cp.sl,q.1=t->q=(t,p.d):=by
  intro i p t hp hpt q hq he;obtain⟨q',BF,zX⟩:=bJ.1 hq;obtain⟨j,hj,rfl⟩:=cS.1 BF;have qJ:ps[j]?=some ps[j]:=aN hj;unfold Cp.sl at zX;cases Nc:ps[j].t with
  |none=>rw[Nc]at zX;cases zX
  |some u=>
   rw[Nc]at zX;simp only[bZ,aQ]at zX;subst zX;simp only at he;subst he;have:=hdist j i _ p u qJ hp Nc hpt;subst this;rw[hp]at qJ;cases qJ;rfl
 intro κ Θ a w hs;have main:∀(f:Nat) (listed:Array Bool) (σ':List (Nat×D)) (H':ai) (κ:Nat->Option Value) (Θ:Nat->Nat) (a:Act) (w:World),HeadInv .any l.toArray n listed->
  ((List.range n).filter fun i=> !listed.getD i false).length=f->
  (∀(i:Nat) p t,ps[i]?=some p->p.t=some t->listed.getD i false=true->lk σ' t=p.d)->
  (∀t,(∀(i:Nat) p,ps[i]?=some p->listed.getD i false=true->p.t≠some t)->lk σ' t=lk st.σ t)->
  H'.length=st.H.length+(ps.flatMap Cp.obs).length->Ext st.H H'->
  (∀(i:Nat) p,ps[i]?=some p->listed.getD i false=true->∀(j:Nat) o,p.obs[j]?=some o->(∀(i2:Nat) q ob,ps[i2]?=some q->listed.getD i2 false=true->q.up≠some (p.r+j,ob))->H'[p.r+j]?=some o)->
  (∀(i:Nat) q id ob,ps[i]?=some q->listed.getD i false=true->q.up=some (id,ob)->H'[id]?=some ob/\∃v,κ id=some v)->
  (∀(i:Nat) p,ps[i]?=some p->listed.getD i false=false->∀j,j<p.obs.length->κ (p.r+j)=none)->
  cN Γ ⟨σ',H'⟩ κ Θ a w->
  wpAny P .any l.toArray (fun e a' w'=>∃mO κ' Θ',cN Γ mO κ' Θ' a' w'/\Q e mO) (f+(l.toArray.size-n)) listed a w:=by
  intro f
  induction f with
  |zero=>
   intro listed σ' H' κ Θ a w inv j0 hA hB Lv HB Fc Jz Fb hs;have hall:∀i,i<n->listed.getD i false=true:=by
    intro i hi;have h0:=bn j0;cases hl:listed.getD i false with
    |true=>rfl
    |false=>
     have:i∈(List.range n).filter fun i=> !listed.getD i false:=fN.2 ⟨az.2 hi,by simp[hl]⟩
     rw[h0]at this;cases this
   have II:listed=Array.replicate n true++Array.replicate (l.toArray.size-n) false:=by
    apply Array.ext
    ·rw[inv.size];simp;simp at hn;omega
    ·intro i h1 h2;by_cases hi:i<n
     ·have:=hall i hi;rw[qW (by simpa using hi)];simp[h1]at this;simp[this]
     ·have hi':i<l.toArray.size:=by rw[<-inv.size];exact h1
      have:=inv.tail i (by omega) hi';rw[pM (by simpa using hi)];simp[h1]at this;simp[this]
   rw[bq];have CD:∀t,lk σ' t=lk ((ps.filterMap Cp.sl).reverse++st.σ) t:=by
    intro t;by_cases hex:∃(i:Nat) (p:Cp),ps[i]?=some p/\p.t=some t
    ·obtain⟨i,p,hp,hpt⟩:=hex;have hi:i<n:=by have:=(aB.1 hp).1;omega
     rw[hA i p t hp hpt (hall i hi)];have:=wY (ps.filterMap Cp.sl).reverse st.σ (t,p.d) (by rw[cL];exact bJ.2 ⟨p,aD hp,by simp[Cp.sl,hpt]⟩) (fun q hq he=>uc i p t hp hpt q (by simpa using hq) he);exact this.symm
    ·rw[hB t (fun i p hp _ he=>hex ⟨i,p,hp,he⟩),uo];intro q hq he;obtain⟨p,hp,hps⟩:=bJ.1 (cL.1 hq);obtain⟨i,hi,hpi⟩:=cS.1 hp;refine hex ⟨i,p,by rw[<-hpi];exact aN hi,?_⟩;unfold Cp.sl at hps;cases hpt:p.t with
     |none=>rw[hpt]at hps;cases hps
     |some u=>rw[hpt]at hps;simp only[bZ,aQ]at hps;subst hps;simp only at he;rw[he]
   have I5:H'=st.H++zR:=by
    apply jU;intro k;by_cases h1:k<st.H.length
    ·rw[aS h1];exact HB k _ (aN h1)|>.trans (aN h1).symm
    ·rw[aV (by omega)];by_cases hex:∃(i:Nat) (q:Cp) (ob:Ob),ps[i]?=some q/\q.up=some (k,ob)
     ·obtain⟨i,q,ob,hq,he⟩:=hex;have hi:i<n:=by have:=(aB.1 hq).1;omega
      rw[(Jz i q k ob hq (hall i hi) he).1,RR i q k ob hq he]
     ·have hno:∀(i:Nat) q ob,ps[i]?=some q->q.up≠some (k,ob):=fun i q ob hq he=>hex ⟨i,q,ob,hq,he⟩
      rw[PA (k-st.H.length) (fun i q ob hq=>by rw[show st.H.length+(k-st.H.length)=k from by omega];exact hno i q ob hq)];by_cases h2:k-st.H.length<(ps.flatMap Cp.obs).length
      ·obtain⟨i,p,j,hp,hj,hk⟩:=p8 h2;have hi:i<n:=by have:=(aB.1 hp).1;omega
       have e3:p.r+j=k:=by rw[Ef i p hp];omega
       have h3:=Fc i p hp (hall i hi) j _ (aN hj) (fun i2 q ob hq _=>by rw[e3];exact hno i2 q ob hq);rw[e3]at h3;rw[h3,jk hp,hk,aV (by omega),cC,aS hj,aN hj]
      ·rw[bR (by omega),bR (by omega)]
   have hs2:=cN.same (st:=⟨σ',H'⟩) (σ':=(ps.filterMap Cp.sl).reverse++st.σ) CD hs;simp only[I5]at hs2;have hwp:=hK κ Θ a w hs2;have hdl:(l.drop n).length=l.toArray.size-n:=by simp
   have:=wpAny_of_seq (md:=.any) (l.drop n) n listed a w (fun j=>by simp[cW]) (by rw[hdl,II];exact Kh) hwp
   rwa[hdl]at this
  |succ f ih=>
   intro listed σ' H' κ Θ a w inv j0 hA hB Lv HB Fc Jz Fb hs;have hun:∃i,i<n/\listed.getD i false=false:=by
    have hne:((List.range n).filter fun i=> !listed.getD i false)≠[]:=by
     intro h0;rw[h0]at j0;simp at j0
    obtain⟨i,hi⟩:=mC _ hne;obtain⟨h1,h2⟩:=fN.1 hi;exact⟨i,az.1 h1,by simpa using h2⟩
   have hsz:=inv.size;rw[show f+1+(l.toArray.size-n)=(f+(l.toArray.size-n))+1 from by omega];refine⟨fun h0=>?_,fun i hi=>?_⟩
   ·exfalso;obtain⟨i,⟨hin,GW⟩,hmin⟩:=exists_least (p:=fun i=>i<n/\listed.getD i false=false) hun;obtain⟨o,p,ho,_,_,_⟩:=hop i hin;have:i∈Region.ready .any l.toArray listed:=by
     refine mem_ready.2 ⟨getD_in (by rw[hsz];omega) GW,o,ho,fun e he hb=>?_⟩;have:=aO.1 zC i (az.2 hin);simp only[ho,aM]at this;have:=mT.1 this.1.1 e he;simp only[hb,bB,kZ,bA]at this;cases hl:listed.getD e.on false with
     |true=>rfl
     |false=>
      have:=hmin e.on ⟨by omega,hl⟩;omega
    rw[h0]at this;cases this
   ·obtain⟨i0,hi0,hl0⟩:=hun;have hin:i<n:=by
     rcases cY i n with h|h
     ·exact h
     ·rcases hsc with he|⟨hn2,Ph,hchain⟩
      ·obtain⟨_,oi,Pa,_⟩:=mem_ready.1 hi;have:=(aX.1 Pa).1;omega
      ·exact absurd hi (tail_waits Ph hchain hn2 inv _ i0 rfl hi0 (getD_in (by rw[hsz];omega) hl0) i h)
    obtain⟨o,p,ho,hp,hd,hc,_⟩:=hop i hin;obtain⟨GW,o',ho',hall⟩:=mem_ready.1 hi;rw[ho]at ho';cases ho';have rA:=getD_both GW;have NN:lJ P Γ l.toArray st.H σ' o p:=by
     refine lJ.congr (σ:=((ps.take i).filterMap Cp.sl).reverse++st.σ) (σ':=σ') ?_ hc;intro t ht;have xR:=aO.1 zC i (az.2 hin);simp only[ho,aM]at xR;have xR:=aO.1 xR.1.2 t ht;by_cases hex:∃(j:Nat) (q:Cp),ps[j]?=some q/\q.t=some t
     ·obtain⟨j,q,hq,zY⟩:=hex;have hj:j<n:=by have:=(aB.1 hq).1;omega
      obtain⟨oj,q',o4,BF,hdj,_⟩:=hop j hj;rw[hq]at BF;cases BF;have:=aO.1 xR j (az.2 hj);simp only[o4,hdj,zY,ju,bB,kZ,aM,bA]at this;obtain⟨hji,IY⟩:=this;obtain⟨VF,IR,e,he,hb,hon⟩:=Region.waitsFor_spec IY;rw[ho]at IR;cases IR;have hjl:=hall e he hb;rw[hon]at hjl;rw[hA j q t hq zY hjl];refine wY ((ps.take i).filterMap Cp.sl).reverse st.σ (t,q.d) ?_ (fun q2 qJ wV=>uc j q t hq zY q2 ?_ wV)
      ·rw[cL];exact bJ.2 ⟨q,aD (i:=j) (by rw[bU,bG hji];exact hq),by simp[Cp.sl,zY]⟩
      ·obtain⟨q3,Eg,o5⟩:=bJ.1 (cL.1 qJ);exact bJ.2 ⟨q3,bQ Eg,o5⟩
     ·rw[hB t (fun j q hq _ he=>hex ⟨j,q,hq,he⟩),uo];intro q hq he;obtain⟨q3,Eg,o5⟩:=bJ.1 (cL.1 hq);obtain⟨j,hj,Pe⟩:=cS.1 (bQ Eg);refine hex ⟨j,q3,by rw[<-Pe];exact aN hj,?_⟩;unfold Cp.sl at o5;cases hpt:q3.t with
      |none=>rw[hpt]at o5;cases o5
      |some u=>rw[hpt]at o5;simp only[bZ,aQ]at o5;subst o5;simp only at he;rw[he]
    have Uc:=hfit i p hp;have IG:∀id ob,p.up=some (id,ob)->∃v,κ id=some v:=by
     intro id ob he;rcases NN with⟨_,_,h,_⟩|⟨_,_,_,_,T,x,y,id',ds,Ec,hx',_,_,_,_,Fk⟩
     ·rw[h]at he;cases he
     ·rw[Fk]at he;cases he;obtain⟨b1,r1,_⟩:=hs.ev x;rw[DH σ' H' st.H x,hx']at r1;obtain⟨g,hk,_⟩:=r1.pF;exact⟨_,hk⟩
    have IV:∀id ob,p.up=some (id,ob)->∃zs ds,H'[id]?=some (.box zs)/\ob=.box ds/\zs.length=ds.length:=by
     intro id ob he;obtain⟨u1,⟨zs,ds,u2,u3,u4⟩,_⟩:=CF i p id ob hp he;refine⟨zs,ds,?_,u2,u3⟩;obtain⟨i1,p1,j1,hp1,xS,hk1⟩:=p8 (aB.1 u4).1;have Ed:ps[i1]?=some p1:=by
      have:=(aB.1 hp1).1;rw[bU]at hp1;split at hp1
      ·exact hp1
      ·cases hp1
     have hi1:i1<i:=by have:=(aB.1 hp1).1;simp at this;omega
     have et:(ps.take i).take i1=ps.take i1:=by rw[lH,cv (by omega)]
     rw[et]at hk1;have e1:p1.r+j1=id:=by rw[Ef i1 p1 Ed];omega
     have pK:p1.obs[j1]?=some (.box zs):=by
      rw[jk hp1,et,hk1,aV (by omega),cC,aS xS]at u4;exact u4
     have hl1:listed.getD i1 false=true:=by
      cases hl:listed.getD i1 false with
      |true=>rfl
      |false=>
       have h0:=Fb i1 p1 Ed hl j1 xS;rw[e1]at h0;obtain⟨v,hv⟩:=IG id ob he;rw[h0]at hv;cases hv
     have:=Fc i1 p1 Ed hl1 j1 _ pK (fun i2 q rH hq hl wV=>by
      rw[e1]at wV;have:=IW i i2 p q id ob rH hp hq he wV;subst this;rw[rA]at hl;cases hl)
     rw[e1]at this;exact this
    refine NN.wp hs HB ho (by omega) (fun j hj=>Fb i p hp rA j hj) IV fun κ' Θ' a' w' hs' hsame=>?_
    have k9:∀(j:Nat),(listed.setIfInBounds i true).getD j false=true↔(j=i\/listed.getD j false=true):=by
     intro j;by_cases e:i=j
     ·subst e;have:i<listed.size:=by rw[hsz];omega
      simp[this]
     ·rw[getD_set_ne false e];constructor
      ·exact .inr
      ·rintro(rfl|h)
       ·exact absurd rfl e
       ·exact h
    have hput:(p.rC H').length=H'.length:=by
     unfold Cp.rC;split
     ·simp
     ·exact lq (by omega)
    have NW:∀(k:Nat),k<st.H.length->(p.rC H')[k]?=H'[k]?:=by
     intro k hk;unfold Cp.rC;split
     ·rename_i id ob he;have:=(CF i p id ob hp he).1;rw[bH (by omega)]
     ·rw[lm (by omega),bG (by rw[Ef i p hp];omega)]
    refine ih (listed.setIfInBounds i true) (p.slot σ') (p.rC H') κ' Θ' a' w' (inv.set hi hin) ?_ ?_ ?_ (by rw[hput];exact Lv) ?_ ?_ ?_ ?_ hs'
    ·have GR:((List.range n).filter fun j=> !(listed.setIfInBounds i true).getD j false)=((List.range n).filter fun j=> !listed.getD j false).erase i:=by
      have hnd:((List.range n).filter fun j=> !listed.getD j false).Nodup:=nk _ rK;rw[hnd.erase_eq_filter,pP];apply qh;intro j _;by_cases e:j=i
      ·subst e;have:=(k9 j).2 (.inl rfl);rw[this];simp
      ·rw[getD_set_ne false (kE e)];simp[e]
     rw[GR,mL (fN.2 ⟨az.2 hin,by simp[rA]⟩),j0];rfl
    ·intro j q t hq zY hl;unfold Cp.slot;rcases(k9 j).1 hl with rfl|sO
     ·rw[hp]at hq;cases hq;rw[zY];simp[lk]
     ·cases hpt:p.t with
      |none=>exact hA j q t hq zY sO
      |some u=>
       simp only[lk];rw[ar,hA j q t hq zY sO];intro e;have:=hdist j i q p t hq hp zY (by rw[hpt,e]);subst this;rw[rA]at sO;cases sO
    ·intro t ht;unfold Cp.slot;have mM:=hB t (fun j q hq hl=>ht j q hq ((k9 j).2 (.inr hl)));cases hpt:p.t with
     |none=>exact mM
     |some u=>
      simp only[lk];rw[ar (fun e=>ht i p hp ((k9 i).2 (.inl rfl)) (by rw[hpt,e]))];exact mM
    ·intro j y hj;rw[NW j (aB.1 hj).1];exact HB j y hj
    ·intro j q hq hl k y hy hno;have PT:=(aB.1 hy).1;unfold Cp.rC;split
     ·rename_i id ob he;have hne:q.r+k≠id:=fun e=>hno i p ob hp ((k9 i).2 (.inl rfl)) (by rw[e];exact he)
      rw[bH (kE hne)];rcases(k9 j).1 hl with rfl|sO
      ·rw[hp]at hq;cases hq;rw[IX j p id ob hp he]at hy;simp at hy
      ·exact Fc j q hq sO k y hy (fun i2 q2 rH qJ HD=>hno i2 q2 rH qJ ((k9 i2).2 (.inr HD)))
     ·rw[lm (by omega)];rcases(k9 j).1 hl with rfl|sO
      ·rw[hp]at hq;cases hq;rw[ar (by omega),bG (by omega),cC];exact hy
      ·have hne:j≠i:=fun e=>by subst e;rw[rA]at sO;cases sO
       have h3:=Fc j q hq sO k y hy (fun i2 q2 rH qJ HD=>hno i2 q2 rH qJ ((k9 i2).2 (.inr HD)));rcases mU hne with h|h
       ·have:=CB j i q p hq hp h;rw[bG (by omega)];exact h3
       ·have:=CB i j p q hp hq h;rw[ar (by omega),ar (by omega)];exact h3
    ·intro j q id ob hq hl he;rcases(k9 j).1 hl with rfl|sO
     ·rw[hp]at hq;cases hq;obtain⟨zs,ds,z1,_⟩:=IV id ob he;have hlt:=(aB.1 z1).1;refine⟨by simp only[Cp.rC,he];rw[cI hlt],?_⟩;obtain⟨v,hv⟩:=IG id ob he;refine⟨v,?_⟩;rw[hsame id (by rw[IX j p id ob hp he];simp;omega)];exact hv
     ·obtain⟨h1,v,hv⟩:=Jz j q id ob hq sO he;have hout:id<p.r\/p.r+p.obs.length<=id:=by
       rcases cY id p.r with h|h
       ·exact .inl h
       ·rcases cY id (p.r+p.obs.length)with h2|h2
        ·have:=Fb i p hp rA (id-p.r) (by omega);rw[show p.r+(id-p.r)=id from by omega,hv]at this;cases this
        ·exact .inr h2
      refine⟨?_,v,by rw[hsame id hout];exact hv⟩;unfold Cp.rC;split
      ·rename_i Py rH wV;have hne:Py≠id:=fun e=>by
        subst e;have:=IW i j p q Py rH ob hp hq wV he;subst this;rw[rA]at sO;cases sO
       rw[bH hne];exact h1
      ·rw[lm (by omega)];rcases hout with h|h
       ·rw[bG h];exact h1
       ·rw[ar (by omega),ar (by omega)];exact h1
    ·intro j q hq hl k hk;have hne:j≠i:=fun e=>by
      subst e;have:=(k9 j).2 (.inl rfl);rw[this]at hl;cases hl
     have sO:listed.getD j false=false:=by
      cases h:listed.getD j false with
      |false=>rfl
      |true=>have:=(k9 j).2 (.inr h);rw[this]at hl;cases hl
     have h3:=Fb j q hq sO k hk;rw[hsame,h3];rcases mU hne with h|h
     ·have:=CB j i q p hq hp h;omega
     ·have:=CB i j p q hp hq h;omega
 refine wp_region_any hm ?_;have Nx:HeadInv .any l.toArray n (Array.replicate l.toArray.size false):=
  ⟨by simp,fun j oj _ hl=>(by rw[getD_replicate_false]at hl;cases hl),fun t _ ht=>getD_in (by simpa using ht) (getD_replicate_false _ _)⟩
 have j0:((List.range n).filter fun i=> !(Array.replicate l.toArray.size false).getD i false).length=n:=by
  rw[List.filter_eq_self.2]
  ·simp
  ·intro i _;rw[getD_replicate_false];rfl
 have:=main n (Array.replicate l.toArray.size false) st.σ (st.H++List.replicate (ps.flatMap Cp.obs).length .gone) κ Θ a w.drew Nx j0 (fun i p t _ _ hl=>by rw[getD_replicate_false]at hl;cases hl) (fun t _=>rfl)
  (by simp) (fun i o h=>by rw[aS (aB.1 h).1];exact h) (fun i p _ hl=>by rw[getD_replicate_false]at hl;cases hl)
  (fun i q id ob _ hl=>by rw[getD_replicate_false]at hl;cases hl)
  (fun i p hp _ j _=>hs.jN _ (by rw[Ef i p hp];omega)) (hs.drew.room _)
 rw[show n+(l.toArray.size-n)=l.toArray.size from by omega]at this;exact this
end
end Go.Cx
namespace Go.Cx
open Go.RowKit
def pos(o:aH)(i:Nat):Option Nat:=ix (fun j=>j==i) o
def D.G1(o:aH)(d:D):D:=match d with
 | .acc i=>(match pos o i with|some j=>.acc j|none=>.any)
 | .ptr i off=>(match pos o i with|some j=>.ptr j off|none=>.any)
 | .op i a b c=>(match pos o i with|some j=>.op j a b c|none=>.any)
 |d=>d
def D.Md(o:aH)(d:D):D:=match d with
 | .agg cs=>.agg (cs.map (D.G1 o))
 |d=>d.G1 o
def D.G2(o:aH)(d:D):D:=match d with
 | .fy vs=>.fy (vs.map (D.Md o))
 |d=>d.Md o
def Ob.rn(o:aH)(x:Ob):Ob:=match x with
 | .box cells=>.box (cells.map (D.G1 o))
 | .B1 cells v=>.B1 (cells.map (D.G1 o)) v
 | .hole _ _ _ _ _=>.gone
 | .row k e sz rows=>(match k with| .ho _ _=>.gone|k=>.row k e sz rows)
 |x=>x
def St.sj(st:St)(K o:aH):St:=⟨K.map fun t=>(t,(lk st.σ t).G2 o),o.map fun i=>((st.H[i]?).getD .gone).rn o⟩
section
variable{P:Program}{Γ:lY}{Q:Exit->St->Prop}{st:St}{κ κ':Nat->Option Value}{Θ Θ':Nat->Nat}{a:Act}{w:World}{o:aH}
theorem Bd:∀ {o:aH},o.Nodup->∀(i j x:Nat),o[i]?=some x->o[j]?=some x->i=j:=by
 intro o
 induction o with
 |nil=>intro _ i j x h;simp at h
 |cons y o ih=>
  intro hnd i j x hi hj;obtain⟨h1,h2⟩:=fO.1 hnd;cases i with
  |zero=>
   cases j with
   |zero=>rfl
   |succ j=>simp at hi hj;subst hi;exact absurd (aD hj) h1
  |succ i=>
   cases j with
   |zero=>simp at hi hj;subst hj;exact absurd (aD hi) h1
   |succ j=>simp at hi hj;rw[ih h2 i j x hi hj]
theorem CY{i j:Nat}(h:pos o i=some j):o[j]?=some i:=by
 obtain⟨x,h1,h2⟩:=p9 h;simp only[bX]at h2;subst h2;exact h1
theorem Ey{i j:Nat}(hnd:o.Nodup)(h:o[j]?=some i):pos o i=some j:=
 uh h (by simp) (fun k y hk hy=>by
  simp only[bX]at hy;subst hy;obtain⟨h1,h2⟩:=aB.1 h;obtain⟨h3,h4⟩:=aB.1 hk;exact Bd hnd k j _ hk h)
section
variable(hk:∀(i j:Nat) v,pos o i=some j->κ i=some v->κ' j=some v)(oF:∀b,Θ b=0->Θ' b=0)
include hk oF
theorem oz.rn{v:Value}{d:D}{bs:aH}(h:oz w κ v d bs)(hz:∀b∈bs,Θ b=0):∃b',oz w κ' v (d.G1 o) b'/\∀b∈b',Θ' b=0:=by
 cases h with
 |pure h=>
  have e:d.G1 o=d:=by cases h<;>rfl
  rw[e];exact⟨bs,.pure h,fun b hb=>oF b (hz b hb)⟩
 |acc i v hi=>
  simp only[D.G1];cases hp:pos o i with
  |none=>exact⟨[],.pure (.any _),by simp⟩
  |some j=>exact⟨[],.acc j v (hk i j v hp hi),by simp⟩
 |ptr i off b hi=>
  simp only[D.G1];cases hp:pos o i with
  |none=>exact⟨[],.pure (.any _),by simp⟩
  |some j=>exact⟨[],.ptr j off b (hk i j _ hp hi),by simp⟩
 |op i x sz off b o0 len cap hi=>
  simp only[D.G1];cases hp:pos o i with
  |none=>exact⟨[],.pure (.any _),by simp⟩
  |some j=>exact⟨[],.op j x sz off b o0 len cap (hk i j _ hp hi),by simp⟩
theorem dA.rn{vs:aq}{ds:aG}{bs:aH}(h:dA w κ vs ds bs)(hz:∀b∈bs,Θ b=0):∃b',dA w κ' vs (ds.map (D.G1 o)) b'/\∀b∈b',Θ' b=0:=by
 induction h with
 |nil=>exact⟨[],.nil,by simp⟩
 |cons v vs d ds b1 b2 h1 h2 _ ih=>
  obtain⟨c1,q1,q2⟩:=oz.rn hk oF h2 (fun b hb=>hz b (by simp[hb]));obtain⟨c2,p1,p2⟩:=ih (fun b hb=>hz b (by simp[hb]));refine⟨c1++c2,.cons _ _ _ _ _ _ h1 q1 p1,fun b hb=>?_⟩;rcases aF.1 hb with hb|hb
  ·exact q2 b hb
  ·exact p2 b hb
theorem A7.rn{v:Value}{d:D}{bs:aH}(h:A7 w κ v d bs)(hz:∀b∈bs,Θ b=0):∃b',A7 w κ' v (d.Md o) b'/\∀b∈b',Θ' b=0:=by
 cases h with
 |cell h=>
  by_cases lE:∃ds,d=.agg ds
  ·obtain⟨ds,rfl⟩:=lE;cases h with
   |pure h=>
    cases h with
    |agg cs _ _ h=>
     obtain⟨b',q1,q2⟩:=dA.rn hk oF (dA.sx (κ:=κ) h) hz;exact⟨b',.agg _ _ _ q1,q2⟩
  ·have e:d.Md o=d.G1 o:=by cases d<;>first|rfl|exact absurd ⟨_,rfl⟩ lE
   rw[e];obtain⟨b',q1,q2⟩:=oz.rn hk oF h hz;exact⟨b',.cell q1,q2⟩
 |agg cs ds bs h=>
  obtain⟨b',q1,q2⟩:=dA.rn hk oF h hz;exact⟨b',.agg _ _ _ q1,q2⟩
theorem sA.rn{vs:aq}{ds:aG}{bs:aH}(h:sA w κ vs ds bs)(hz:∀b∈bs,Θ b=0):∃b',sA w κ' vs (ds.map (D.Md o)) b'/\∀b∈b',Θ' b=0:=by
 induction h with
 |nil=>exact⟨[],.nil,by simp⟩
 |cons v vs d ds b1 b2 h2 _ ih=>
  obtain⟨c1,q1,q2⟩:=A7.rn hk oF h2 (fun b hb=>hz b (by simp[hb]));obtain⟨c2,p1,p2⟩:=ih (fun b hb=>hz b (by simp[hb]));refine⟨c1++c2,.cons _ _ _ _ _ _ q1 p1,fun b hb=>?_⟩;rcases aF.1 hb with hb|hb
  ·exact q2 b hb
  ·exact p2 b hb
theorem kF.rn{v:Value}{d:D}{bs:aH}(h:kF w κ v d bs)(hz:∀b∈bs,Θ b=0):∃b',kF w κ' v (d.G2 o) b'/\∀b∈b',Θ' b=0:=by
 cases h with
 |v h=>
  have hnt:∀vs,d≠ .fy vs:=by
   intro vs e;subst e;cases h with
   |cell h=>cases h with|pure h=>cases h
  have e:d.G2 o=d.Md o:=by cases d<;>first|rfl|exact absurd rfl (hnt _)
  rw[e];obtain⟨b',q1,q2⟩:=A7.rn hk oF h hz;exact⟨b',.v q1,q2⟩
 |fy vs ds bs h=>
  obtain⟨b',q1,q2⟩:=sA.rn hk oF h hz;exact⟨b',.fy _ _ _ q1,q2⟩
end
theorem Iw(σ:List (Nat×D))(K:aH)(f:D->D)(t:Nat):lk (K.map fun t=>(t,f (lk σ t))) t=if t∈K then f (lk σ t)else .any:=by
 induction K with
 |nil=>simp[lk]
 |cons u K ih=>
  simp only[ax,lk];by_cases e:t=u
  ·subst e;simp
  ·rw[ar e,ih];simp[e]
theorem cN.sj(hs:cN Γ st κ Θ a w)(K o:aH)(hnd:o.Nodup):∃κ' Θ',cN Γ (st.sj K o) κ' Θ' a w:=by
 let κ':Nat->Option Value:=fun j=>(o[j]?).bind κ
 let Θ':Nat->Nat:=fun b=>if Θ b<=1 then Θ b else match pos o (Θ b-2)with|some j=>j+2|none=>1
 have oF:∀b,Θ b=0->Θ' b=0:=fun b h=>by simp[Θ',h]
 have hk:∀(i j:Nat) v,pos o i=some j->κ i=some v->κ' j=some v:=fun i j v h1 h2=>by simp[κ',CY h1,h2]
 have hk2:∀(i j:Nat),o[j]?=some i->κ' j=κ i:=fun i j h=>by simp[κ',h]
 have BH:∀b (i j:Nat),o[j]?=some i->Θ b=i+2->Θ' b=j+2:=by
  intro b i j hj h;simp only[Θ'];rw[ar (by omega),h,pR,Ey hnd hj]
 have key:∀(j:Nat) x,(st.sj K o).H[j]?=some x->∃i,o[j]?=some i/\((st.H[i]?=none/\x=.gone)\/∃y,st.H[i]?=some y/\x=y.rn o):=by
  intro j x hj;simp only[St.sj,b9]at hj;cases ho:o[j]? with
  |none=>simp[ho]at hj
  |some i=>
   simp only[ho,bZ,aQ]at hj;refine⟨i,rfl,?_⟩;cases hH:st.H[i]? with
   |none=>rw[hH]at hj;exact .inl ⟨rfl,hj.symm⟩
   |some y=>rw[hH]at hj;exact .inr ⟨y,rfl,hj.symm⟩
 obtain⟨ρ,hu⟩:=hs.kx;let ρ':Nat->Nat:=fun b=>if ρ b=0 then 0 else match pos o (ρ b-1)with|some j=>j+1|none=>0
 refine⟨κ',Θ',hs.defers,hs.size,?_,?_,?_,?_,?_,?_,?_,hs.stays,ρ',?_,?_,?_⟩
 ·intro i hi;simp only[St.sj,bL]at hi;simp[κ',bR hi]
 ·intro i u n8;simp only[κ']at n8;cases ho:o[i]? with
  |none=>simp[ho]at n8
  |some j=>simp[ho]at n8;exact hs.j9 j u n8
 ·intro t;show∃bs,kF w κ' _ (lk (K.map fun t=>(t,(lk st.σ t).G2 o)) t) bs/\_;rw[Iw st.σ K (fun d=>d.G2 o) t];split
  ·obtain⟨bs,hr,hz⟩:=hs.slot t;exact kF.rn hk oF hr hz
  ·exact⟨[],.of (.any _),by simp⟩
 ·intro j x hj;obtain⟨i,ho,⟨_,rfl⟩|⟨y,hH,rfl⟩⟩:=key j x hj
  ·trivial
  ·have pK:=hs.ob i y hH;cases y with
   |gone=>trivial
   |hole=>trivial
   |tk rows=>
    obtain⟨v,bs,q1,q2,q3⟩:=pK;exact⟨v,bs,by rw[hk2 i j ho];exact q1,q2,fun b hb=>oF b (q3 b hb)⟩
   |tf e sz rows=>
    obtain⟨v,bs,q1,q2,q3⟩:=pK;exact⟨v,bs,by rw[hk2 i j ho];exact q1,q2,fun b hb=>oF b (q3 b hb)⟩
   |mp kv=>
    obtain⟨g,es,c,q1,q2,q3,q4⟩:=pK;exact⟨g,es,c,by rw[hk2 i j ho];exact q1,q2,BH g i j ho q3,q4⟩
   |nF sz rows u=>
    obtain⟨q1,q0,v,bs,q2,q3,q4,q5⟩:=pK;exact⟨q1,fun x hx=>by rw[hk2 i j ho];exact q0 x hx,v,bs,by rw[hk2 i j ho];exact q2,q3,q4,fun b hb=>⟨BH b i j ho (q5 b hb).1,(q5 b hb).2⟩⟩
   |box cells=>
    obtain⟨g,cs,T,q1,q2,q3,bs,q4,q5⟩:=pK;obtain⟨b',p1,p2⟩:=dA.rn hk oF q4 q5;exact⟨g,cs,T,by rw[hk2 i j ho];exact q1,q2,BH g i j ho q3,b',p1,p2⟩
   |B1 cells u=>
    obtain⟨q0,g,cs,T,q1,q2,q3,bs,q4,q5⟩:=pK;obtain⟨b',p1,p2⟩:=dA.rn hk oF q4 q5;exact⟨⟨by rw[hk2 i j ho];exact q0.1,q0.2.same q1 q2 (by rw[hk2 i j ho];exact q1) q2⟩,g,cs,T,by rw[hk2 i j ho];exact q1,q2,BH g i j ho q3,b',p1,p2⟩
   |row k e sz rows=>
    obtain⟨q1,q2,v,cs,bs,q3,q4,q5,q6,q7⟩:=pK;cases k with
    |ho p n=>exact trivial
    |_=>
    refine⟨q1,q2,v,cs,bs,by rw[hk2 i j ho];exact q3,q4,q5,fun g hg=>BH g i j ho (q6 g hg),?_⟩
    first
    |exact⟨q7.1,fun b hb=>⟨BH b i j ho (q7.2.1 b hb).1,(q7.2.1 b hb).2⟩,q7.2.2⟩
    |exact fun b hb=>oF b (q7 b hb)
 ·intro b hb;exact hs.own b (fun h=>hb (oF b h))
 ·intro b hb hx;obtain⟨h1,h2⟩:=hs.old b hb hx;simp only[Θ'];rw[bG h2];exact⟨h1,h2⟩
 ·intro b hb;refine hs.mine b ?_;simp only[Θ']at hb;split at hb<;>omega
 ·intro b hb;have hb':ρ b≠0:=fun h=>hb (by simp[ρ',h])
  obtain⟨h1,h2⟩:=hu.free b hb';exact⟨oF b h1,h2⟩
 ·intro j e sz rows hj;obtain⟨i,ho,⟨_,h⟩|⟨y,hH,h⟩⟩:=key j _ hj
  ·cases h
  ·have hy:y=.row .uq e sz rows:=by
    cases y with
    |row k2 e2 EH dF=>cases k2<;>simp only[Ob.rn,reduceCtorEq]at h<;>exact h.symm
    |_=>cases h
   subst hy;obtain⟨v,cs,bs,q1,q2,q3,q4,q5⟩:=hu.rows i e sz rows hH;refine⟨v,cs,bs,by rw[hk2 i j ho];exact q1,q2,q3,q4,fun b hb=>?_⟩;simp only[ρ'];rw[q5 b hb,ar (by omega),pR,Ey hnd ho]
 ·intro j x hj;obtain⟨i,ho,⟨_,h⟩|⟨y,hH,h⟩⟩:=key j _ hj
  ·subst h;trivial
  ·have hm:=hu.more i y hH;have Nn:∀b,ρ b=i+1->ρ' b=j+1:=fun b hb=>by
    simp only[ρ'];rw[hb,ar (by omega),pR,Ey hnd ho]
   subst h;cases y with
   |tk rows=>
    obtain⟨v,bs,q1,q2,q3,q4⟩:=hm;exact⟨v,bs,by rw[hk2 i j ho];exact q1,q2,q3,fun b hb=>Nn b (q4 b hb)⟩
   |tf e sz rows=>
    obtain⟨v,bs,q1,q2,q0,q3,q4⟩:=hm;exact⟨v,bs,by rw[hk2 i j ho];exact q1,q2,q0,q3,fun b hb=>Nn b (q4 b hb)⟩
   |row k e sz rows=>
    cases k with
    |mv n=>
     obtain⟨v,cs,bs,q1,q2,q3,q4,q5⟩:=hm;exact⟨v,cs,bs,by rw[hk2 i j ho];exact q1,q2,q3,q4,fun b hb=>Nn b (q5 b hb)⟩
    |_=>trivial
   |_=>trivial
end
end Go.Cx
namespace Go.Cx
open Go.RowKit
abbrev Rw:=Nat×List (List D)
def Rw.ob(x:Rw)(v:Option Value):Ob:=.nF x.1 x.2 v
def vu(w:World)(κ:Nat->Option Value):Nat->List Rw->aH->Prop
 |_,[],us=>us=[]
 |n,x::xs,us=>∃v bs Mn,κ n=some v/\(∀r∈x.2,r.length=x.1)/\Rd w v (.sl x.2) bs/\us=bs++Mn/\vu w κ (n+1) xs Mn
def Lm(P:Program)(f:FuncId)(ds:aG)(ins outs:List Rw)(d:D):Prop:=
 (∃fn,P.funcs[f]?=some fn/\fn.body.isSome=true/\(fn.name== "runtime.NumGoroutine")=false)/\outs.length=ins.length/\d.flat=true/\
 ∀(w:World) (κ:Nat->Option Value) (args:aq) (us:aH),B0 w (fun b=>b∈us)->args.length=ds.length->(∀(i:Nat) d,ds[i]?=some d->∃v,args[i]?=some v/\kF w κ v d [])->
  (∀i,ins.length<=i->κ i=none)->(∀(i:Nat) u,κ i=some u->u.oneCell'=true)->vu w κ 0 ins us->us.Nodup->(∀b∈us,Wr w b)->
  Calls P f args.toArray w (fun e w'=>∃v Mn,e=.returned v/\Rd w' v d []/\vu w' κ 0 outs Mn/\Mn.Nodup/\(∀b∈Mn,(b∈us\/w.heap.size<=b)/\Wr w' b)/\
   w'.os=w.os/\w'.tape=w.tape/\w'.output=w.output/\w.heap.size<=w'.heap.size/\∀b,b<w.heap.size->b∉us->w'.heap[b]?=w.heap[b]?)
section
variable{P:Program}{Γ:lY}{Q:Exit->St->Prop}{st:St}{κ κ':Nat->Option Value}{Θ Θ':Nat->Nat}{a:Act}{w w':World}{all:Array Oper}{rest:List Oper}
theorem vu.parts:∀ {xs:List Rw} {n:Nat} {us:aH},vu w κ n xs us->∃L:List aH,L.length=xs.length/\us=L.flatten/\∀(i:Nat) x bs,xs[i]?=some x->L[i]?=some bs->∃v,κ (n+i)=some v/\(∀r∈x.2,r.length=x.1)/\Rd w v (.sl x.2) bs:=by
 intro xs
 induction xs with
 |nil=>intro n us h;exact⟨[],rfl,by simpa[vu]using h,by simp⟩
 |cons y ys ih=>
  intro n us h;obtain⟨v,bs,Mn,h1,h2,h3,rfl,h5⟩:=h;obtain⟨L,q1,rfl,q3⟩:=ih h5;refine⟨bs::L,by simp[q1],by simp,?_⟩;intro i x b hx hb;cases i with
  |zero=>simp at hx hb;subst hx;subst hb;exact⟨v,h1,h2,h3⟩
  |succ i=>
   simp at hx hb;obtain⟨v',r1,r2,r3⟩:=q3 i x b hx hb;exact⟨v',by rw[<-r1];congr 1;omega,r2,r3⟩
theorem vu.of:∀ {xs:List Rw} {n:Nat} {L:List aH},L.length=xs.length->(∀(i:Nat) x bs,xs[i]?=some x->L[i]?=some bs->∃v,κ (n+i)=some v/\(∀r∈x.2,r.length=x.1)/\Rd w v (.sl x.2) bs)->vu w κ n xs L.flatten:=by
 intro xs
 induction xs with
 |nil=>
  intro n L hl _;have:L=[]:=bn (by simpa using hl);subst this;rfl
 |cons y ys ih=>
  intro n L hl h;cases L with
  |nil=>simp at hl
  |cons bs L=>
   obtain⟨v,h1,h2,h3⟩:=h 0 y bs rfl rfl;refine⟨v,bs,L.flatten,h1,h2,h3,by simp,ih (by simpa using hl) ?_⟩;intro i x b hx hb;obtain⟨v',r1,r2,r3⟩:=h (i+1) x b (by simpa using hx) (by simpa using hb);exact⟨v',by rw[<-r1];congr 1;omega,r2,r3⟩
theorem cN.forget(hs:cN Γ st κ Θ a w)(ms:aH):cN Γ ⟨st.σ,kill st.H ms⟩ κ (fun b=>if ms.any (fun m=>Θ b==m+2)then st.H.length+2 else Θ b) a w:=by
 have h0:∀b,Θ b=0->(if ms.any (fun m=>Θ b==m+2)then st.H.length+2 else Θ b)=0:=by
  intro b hb;rw[ar,hb];intro h;obtain⟨m,_,hm⟩:=bt.1 h;simp[hb]at hm
 have hk:∀(j:Nat) o,(kill st.H ms)[j]?=some o->o=.gone\/(j∉ms/\st.H[j]?=some o):=fun j o h=>iv h
 have hold:∀b j,j∉ms->Θ b=j+2->(if ms.any (fun m=>Θ b==m+2)then st.H.length+2 else Θ b)=j+2:=by
  intro b j hj hb;rw[ar,hb];intro h;obtain⟨m,hm,he⟩:=bt.1 h;simp only[hb,bX]at he;exact hj (by
   have:j=m:=by omega
   rw[this];exact hm)
 obtain⟨ρ,hu⟩:=hs.kx;refine⟨hs.defers,hs.size,fun i hi=>hs.jN i (by simpa[dH]using hi),hs.j9,?_,?_,?_,?_,?_,hs.stays,ρ,?_,?_,?_⟩
 ·intro t;obtain⟨bs,hr,hz⟩:=hs.slot t;exact⟨bs,hr,fun b hb=>h0 b (hz b hb)⟩
 ·intro j o hj;rcases hk j o hj with rfl|⟨hn,hj'⟩
  ·trivial
  ·have pK:=hs.ob j o hj';cases o with
   |gone=>trivial
   |tk rows=>
    obtain⟨v,bs,q1,q2,q3⟩:=pK;exact⟨v,bs,q1,q2,fun b hb=>h0 b (q3 b hb)⟩
   |tf e sz rows=>
    obtain⟨v,bs,q1,q2,q3⟩:=pK;exact⟨v,bs,q1,q2,fun b hb=>h0 b (q3 b hb)⟩
   |box cells=>
    obtain⟨g,cs,T,q1,q2,q3,bs,q4,q5⟩:=pK;exact⟨g,cs,T,q1,q2,hold g j hn q3,bs,q4,fun b hb=>h0 b (q5 b hb)⟩
   |B1 cells u=>
    obtain⟨q0,g,cs,T,q1,q2,q3,bs,q4,q5⟩:=pK;exact⟨q0,g,cs,T,q1,q2,hold g j hn q3,bs,q4,fun b hb=>h0 b (q5 b hb)⟩
   |row k e sz rows=>
    obtain⟨q1,q2,v,cs,bs,q3,q4,q5,q6,q7⟩:=pK;refine⟨q1,q2,v,cs,bs,q3,q4,q5,fun g hg=>hold g j hn (q6 g hg),?_⟩;cases k with
    |cl=>exact⟨q7.1,fun b hb=>⟨hold b j hn (q7.2.1 b hb).1,(q7.2.1 b hb).2⟩,q7.2.2⟩
    |sh=>exact fun b hb=>h0 b (q7 b hb)
    |uq=>exact fun b hb=>h0 b (q7 b hb)
    |mv n=>exact fun b hb=>h0 b (q7 b hb)
    |ho p n=>exact fun b hb=>h0 b (q7 b hb)
   |nF sz rows u=>
    obtain⟨q1,q0,v,bs,q2,q3,q4,q5⟩:=pK;exact⟨q1,q0,v,bs,q2,q3,q4,fun b hb=>⟨hold b j hn (q5 b hb).1,(q5 b hb).2⟩⟩
   |hole sz rows u p n=>
    obtain⟨q1,q0,v,bs,q2,q3,q4,q5⟩:=pK;exact⟨q1,q0,v,bs,q2,q3,q4,fun b hb=>⟨hold b j hn (q5 b hb).1,(q5 b hb).2⟩⟩
   |mp kv=>
    obtain⟨g,es,c,q1,q2,q3,q4⟩:=pK;exact⟨g,es,c,q1,q2,hold g j hn q3,q4⟩
 ·intro b hb;refine hs.own b fun h=>hb ?_
  exact h0 b h
 ·intro b hb hx;obtain⟨h1,h2⟩:=hs.old b hb hx;have:(if ms.any (fun m=>Θ b==m+2)then st.H.length+2 else Θ b)=Θ b:=by
   rw[ar];intro h;obtain⟨m,_,hm⟩:=bt.1 h;simp only[bX]at hm;omega
  show(if ms.any (fun m=>Θ b==m+2)then st.H.length+2 else Θ b)=_/\(if ms.any (fun m=>Θ b==m+2)then st.H.length+2 else Θ b)<=1;rw[this];exact⟨h1,h2⟩
 ·intro b hb;refine hs.mine b ?_;by_cases h:ms.any (fun m=>Θ b==m+2)=true
  ·obtain⟨m,_,hm⟩:=bt.1 h;simp only[bX]at hm;omega
  ·simp only[h]at hb;simpa using hb
 ·intro b hb;obtain⟨h1,h2⟩:=hu.free b hb;exact⟨h0 b h1,h2⟩
 ·intro id e sz rows hj;rcases hk id _ hj with h|⟨_,h⟩
  ·cases h
  ·exact hu.rows id e sz rows h
 ·intro id o hj;rcases hk id _ hj with h|⟨_,h⟩
  ·subst h;trivial
  ·exact hu.more id o h
def lv(H:ai)(m:Nat):Option Value:=match H[m]? with|some (.nF _ _ v)=>v|_=>none
def CZ:ai->aH->List Rw->ai
 |H,m::ms,x::xs=>CZ (H.set m (x.ob (lv H m))) ms xs
 |H,_,_=>H
theorem zM:∀(H:ai) (ms:aH) (xs:List Rw),(CZ H ms xs).length=H.length:=by
 intro H ms
 induction ms generalizing H with
 |nil=>intro xs;cases xs<;>rfl
 |cons m ms ih=>intro xs;cases xs with|nil=>rfl|cons x xs=>simp[CZ,ih]
theorem JE:∀ {H:ai} {ms:aH} {xs:List Rw} {j:Nat} {y:Ob},ms.Nodup->xs.length=ms.length->(CZ H ms xs)[j]?=some y->(∃(i:Nat) (x:Rw),ms[i]?=some j/\xs[i]?=some x/\y=x.ob (lv H j))\/(j∉ms/\H[j]?=some y):=by
 intro H ms
 induction ms generalizing H with
 |nil=>intro xs j y _ _ h;cases xs<;>exact .inr ⟨by simp,h⟩
 |cons m ms ih=>
  intro xs j y hnd hl h;cases xs with
  |nil=>simp at hl
  |cons x xs=>
   obtain⟨n1,n2⟩:=fO.1 hnd;rcases ih n2 (by simpa using hl) h with⟨i,z,h1,h2,h3⟩|⟨h1,h2⟩
   ·refine .inl ⟨i+1,z,by simpa using h1,by simpa using h2,?_⟩;rw[h3];have hne:m≠j:=fun e=>n1 (by rw[e];exact aD h1)
    simp only[lv,bH hne]
   ·rcases pG j y h2 with⟨rfl,rfl⟩|⟨h3,h4⟩
    ·exact .inl ⟨0,x,rfl,rfl,rfl⟩
    ·exact .inr ⟨by simp[h1,h3],h4⟩
def Ac(H:ai):aH->Option (List Rw)
 | []=>some []
 |m::ms=>match H[m]?,Ac H ms with|some (.nF sz rows _),some xs=>some ((sz,rows)::xs)|_,_=>none
theorem Ep{H:ai}:∀ {ms:aH} {xs:List Rw},Ac H ms=some xs->xs.length=ms.length/\∀(i m:Nat) x,ms[i]?=some m->xs[i]?=some x->∃v,H[m]?=some (x.ob v):=by
 intro ms
 induction ms with
 |nil=>intro xs h;cases h;simp
 |cons m ms ih=>
  intro xs h;simp only[Ac]at h;split at h
  ·rename_i sz rows u ys h1 h2;cases h;obtain⟨q1,q2⟩:=ih h2;refine⟨by simp[q1],?_⟩;intro i m' x hm hx;cases i with
   |zero=>simp at hm hx;subst hm;subst hx;exact⟨u,h1⟩
   |succ i=>exact q2 i m' x (by simpa using hm) (by simpa using hx)
  ·cases h
def D.vz(d:D):Bool:=match d with
 | .acc _=>true
 |d=>d.flat
def D.bare(d:D):Bool:=match d with
 | .agg cs=>cs.all D.vz
 |d=>d.vz
theorem oz.zi{v:Value}{d:D}{bs:aH}(h:oz w κ v d bs)(hf:d.vz=true):bs=[]:=by
 cases h with
 |pure h=>
  refine h.flat ?_;cases h<;>exact hf
 |_=>rfl
theorem dA.zi{vs:aq}{ds:aG}{bs:aH}(h:dA w κ vs ds bs)(hf:ds.all D.vz=true):bs=[]:=by
 induction h with
 |nil=>rfl
 |cons v vs d ds b1 b2 h1 h2 _ ih=>
  simp only[ck,aM]at hf;rw[h2.zi hf.1,ih hf.2];rfl
theorem kF.FQ{v:Value}{d:D}{bs:aH}(h:kF w κ v d bs)(hf:d.bare=true):bs=[]:=by
 cases h with
 |v h=>
  cases h with
  |cell h=>
   cases h with
   |pure h=>
    cases h with
    |agg cs ds _ h=>exact dA.zi (dA.sx (κ:=κ) h) hf
    |_=>first|rfl|exact absurd hf (by simp[D.bare,D.vz,D.flat])
   |_=>rfl
  |agg cs ds bs h=>exact h.zi hf
 |fy=>simp[D.bare,D.vz,D.flat]at hf
theorem D.Hs(o:aH){c:D}(h:c.vz=true):(c.G1 o).vz=true:=by
 cases c with
 |acc m=>simp only[D.G1];cases pos o m<;>rfl
 |_=>first|exact h| (simp[D.vz,D.flat]at h)
theorem D.FR(o:aH){d:D}(h:d.bare=true):(d.G2 o).bare=true:=by
 cases d with
 |agg cs=>
  simp only[D.G2,D.Md,D.bare,wj]at h⊢;rw[aO]at h⊢;intro c hcm;exact D.Hs o (h c hcm)
 |acc m=>simp only[D.G2,D.Md,D.G1];cases pos o m<;>rfl
 |_=>first|exact h| (simp[D.bare,D.vz,D.flat]at h)
theorem DK{L:List aH}(h:L.flatten.Nodup):∀(i j:Nat) x y b,L[i]?=some x->L[j]?=some y->b∈x->b∈y->i=j:=by
 intro i j x y b hi hj hx hy;have:=mo (f:=fun l:aH=>l) (l:=L) (by simpa[List.flatMap_id]using h);exact this i j x y b hi hj hx hy
theorem EV{L:List aH}(h:L.flatten.Nodup):∀x∈L,x.Nodup:=by
 induction L with
 |nil=>intro x hx;cases hx
 |cons y L ih=>
  intro x hx;simp only[cw]at h;obtain⟨h1,h2,_⟩:=aZ.1 h;rcases aY.1 hx with rfl|hx
  ·exact h1
  ·exact ih h2 x hx
theorem BK:∀ {L:List aH},(∀x∈L,x.Nodup)->(∀(i j:Nat) x y b,L[i]?=some x->L[j]?=some y->b∈x->b∈y->i=j)->L.flatten.Nodup:=by
 intro L
 induction L with
 |nil=>intro _ _;simp
 |cons y L ih=>
  intro h1 h2;simp only[cw];refine aZ.2 ⟨h1 y (by simp),ih (fun x hx=>h1 x (by simp[hx])) (fun i j x z b hi hj hx hz=>?_),?_⟩
  ·have:=h2 (i+1) (j+1) x z b (by simpa using hi) (by simpa using hj) hx hz;omega
  ·intro b hb c hc e;subst e;obtain⟨x,hx,rG⟩:=cu.1 hc;obtain⟨j,hj⟩:=fY hx;have:=h2 0 (j+1) y x b rfl (by simpa using hj) hb rG;omega
theorem HV{o:Oper}{f t:Nat}{xs:Array Operand}{ts:Array TypeId}{ms:aH}{ins outs:List Rw}{d:D}(hop:o.op=.call {callee:=.value (.func f),args:=xs,argTypes:=ts})(hd:o.dst=some t)(hg:o.guard=none)
 (ht:t<Γ.nt) (hnd:ms.Nodup) (hins:Ac st.H ms=some ins) (hb:((xs.toList.map st.ev).all D.bare)=true) (iM:Lm P f ((xs.toList.map st.ev).map (D.G2 ms)) ins outs d)
 (h:AO P Γ all rest Q ⟨(t,d)::st.σ,CZ st.H ms outs⟩):AO P Γ all (o::rest) Q st:=by
 intro κ Θ a w hs;obtain⟨GW,Uh⟩:=Ep hins;obtain⟨hfn,hol,hfl,PI⟩:=iM;let κc:Nat->Option Value:=fun j=>(ms[j]?).bind κ
 have hkc:∀(i m:Nat),ms[i]?=some m->κc i=κ m:=fun i m h=>by simp[κc,h]
 have pK:∀(i m:Nat) x,ms[i]?=some m->ins[i]?=some x->∃v bs,κ m=some v/\(∀r∈x.2,r.length=x.1)/\Rd w v (.sl x.2) bs/\bs.Nodup/\∀b∈bs,Θ b=m+2/\Wr w b:=by
  intro i m x hm hx;obtain⟨u,hu⟩:=Uh i m x hm hx;obtain⟨q1,_,v,bs,q2,q3,q4,q5⟩:=hs.ob m _ hu;exact⟨v,bs,q2,q1,q3,q4,q5⟩
 have hL:∃L:List aH,L.length=ins.length/\∀(i m:Nat) x bs,ms[i]?=some m->ins[i]?=some x->L[i]?=some bs->(∃v,κ m=some v/\(∀r∈x.2,r.length=x.1)/\Rd w v (.sl x.2) bs)/\bs.Nodup/\∀b∈bs,Θ b=m+2/\Wr w b:=by
  have key:∀(ms:aH) (ins:List Rw),ins.length=ms.length->(∀(i m:Nat) x,ms[i]?=some m->ins[i]?=some x->∃v bs,κ m=some v/\(∀r∈x.2,r.length=x.1)/\Rd w v (.sl x.2) bs/\bs.Nodup/\∀b∈bs,Θ b=m+2/\Wr w b)->
   ∃L:List aH,L.length=ins.length/\∀(i m:Nat) x bs,ms[i]?=some m->ins[i]?=some x->L[i]?=some bs->(∃v,κ m=some v/\(∀r∈x.2,r.length=x.1)/\Rd w v (.sl x.2) bs)/\bs.Nodup/\∀b∈bs,Θ b=m+2/\Wr w b:=by
   intro ms
   induction ms with
   |nil=>intro ins hl _;exact⟨[],by simpa using hl.symm,by simp⟩
   |cons m ms ih=>
    intro ins hl pK;cases ins with
    |nil=>simp at hl
    |cons x ins=>
     obtain⟨L,q1,q2⟩:=ih ins (by simpa using hl) (fun i m' x' hm hx=>pK (i+1) m' x' (by simpa using hm) (by simpa using hx));obtain⟨v,bs,r1,r2,r3,r4,r5⟩:=pK 0 m x rfl rfl;refine⟨bs::L,by simp[q1],?_⟩;intro i m' x' b hm hx hb;cases i with
     |zero=>simp at hm hx hb;subst hm;subst hx;subst hb;exact⟨⟨v,r1,r2,r3⟩,r4,r5⟩
     |succ i=>exact q2 i m' x' b (by simpa using hm) (by simpa using hx) (by simpa using hb)
  exact key ms ins GW pK
 obtain⟨L,T7,NI⟩:=hL;have NX:∀(i:Nat) bs,L[i]?=some bs->∃m x,ms[i]?=some m/\ins[i]?=some x:=by
  intro i bs hb';have hlt:=(aB.1 hb').1;exact⟨_,_,aN (by omega),aN (by omega)⟩
 have hmem:∀b∈L.flatten,∃m∈ms,Θ b=m+2:=by
  intro b hb';obtain⟨x,hx,rG⟩:=cu.1 hb';obtain⟨i,hi⟩:=fY hx;obtain⟨m,y,h1,h2⟩:=NX i x hi;exact⟨m,aD h1,((NI i m y x h1 h2 hi).2.2 b rG).1⟩
 have lF:L.flatten.Nodup:=by
  refine BK (fun x hx=>?_) (fun i j x y b hi hj hx hy=>?_)
  ·obtain⟨i,hi⟩:=fY hx;obtain⟨m,y,h1,h2⟩:=NX i x hi;exact(NI i m y x h1 h2 hi).2.1
  ·obtain⟨m1,y1,h1,h2⟩:=NX i x hi;obtain⟨m2,y2,h3,h4⟩:=NX j y hj;have e1:=((NI i m1 y1 x h1 h2 hi).2.2 b hx).1;have e2:=((NI j m2 y2 y h3 h4 hj).2.2 b hy).1;have:m1=m2:=by omega
   subst this;exact Bd hnd i j m1 h1 h3
 have NV:vu w κc 0 ins L.flatten:=vu.of T7 (fun i x bs hx hb'=>by
  obtain⟨m,y,h1,h2⟩:=NX i bs hb';rw[hx]at h2;cases h2;obtain⟨⟨v,q1,q2,q3⟩,_⟩:=NI i m x bs h1 hx hb';exact⟨v,by rw[bq,hkc i m h1];exact q1,q2,q3⟩)
 have hwr:∀b∈L.flatten,Wr w b:=by
  intro b hb';obtain⟨x,hx,rG⟩:=cu.1 hb';obtain⟨i,hi⟩:=fY hx;obtain⟨m,y,h1,h2⟩:=NX i x hi;exact((NI i m y x h1 h2 hi).2.2 b rG).2
 have hargs:∀(i:Nat) d,((xs.toList.map st.ev).map (D.G2 ms))[i]?=some d->∃v,(xs.toList.map a.eval)[i]?=some v/\kF w κc v d []:=by
  intro i d wi;rw[b9,b9]at wi;cases hx:xs.toList[i]? with
  |none=>rw[hx]at wi;cases wi
  |some x=>
   rw[hx]at wi;simp only[bZ,aQ]at wi;subst wi;refine⟨a.eval x,by rw[b9,hx];rfl,?_⟩;obtain⟨bs,r,hz⟩:=hs.ev x;have I6:(st.ev x).bare=true:=aO.1 hb _ (cQ.2 ⟨x,aD hx,rfl⟩);obtain⟨b',r',_⟩:=kF.rn (o:=ms) (κ':=κc) (Θ:=fun _=>0) (Θ':=fun _=>0) (fun i j v h1 h2=>by simp[κc,CY h1,h2]) (fun _ _=>rfl) r (fun _ _=>rfl);have:=r'.FQ (D.FR ms I6);subst this;exact r'
 have Ei:B0 w fun b=>b∈L.flatten:=by
  obtain⟨B,v1,v2⟩:=hs.OO;refine⟨B,v1,fun b hB=>⟨(v2 b hB).2.1,fun hb'=>?_⟩⟩;obtain⟨x,hx,rG⟩:=cu.1 hb';obtain⟨i,hi⟩:=fY hx;obtain⟨m,y,h1,h2⟩:=NX i x hi;have e1:=((NI i m y x h1 h2 hi).2.2 b rG).1;rcases hs.mine b (by omega)with q|q
  ·have:=(v2 b hB).1;omega
  ·exact(v2 b hB).2.2 q
 have hc:=PI w κc (xs.toList.map a.eval) L.flatten Ei (by simp) hargs (fun i hi=>by simp[κc,bR (by omega:ms.length<=i)]) (fun i u hu=>by
  simp only[κc]at hu;cases hm:ms[i]? with
  |none=>rw[hm]at hu;cases hu
  |some m=>rw[hm]at hu;exact hs.j9 m u hu) NV lF hwr
 refine wpList_plain hg fun K hK=>?_
 unfold Oper.wp;rw[nH hop hfn,Oper.upon_enter];have e:xs.map a.eval=(xs.toList.map a.eval).toArray:=by rw[<-eB,fW]
 rw[e];refine hc.mono ?_;rintro e w' ⟨v,Mn,rfl,hv,hl',vm,BC,k1,k2,k3,k4,k5⟩;show K (a.put o.dst v) w';rw[hd];obtain⟨L',UK,rfl,RU⟩:=hl'.parts;have Un:∀(i:Nat) bs,L'[i]?=some bs->∃m x,ms[i]?=some m/\outs[i]?=some x:=by
  intro i bs hb';have hlt:=(aB.1 hb').1;exact⟨_,_,aN (by omega),aN (by omega)⟩
 have hs1:=hs.forget ms;let Θ1:Nat->Nat:=fun b=>if ms.any (fun m=>Θ b==m+2)then st.H.length+2 else Θ b
 have Po:∀b,b∈L.flatten->Θ1 b=st.H.length+2:=by
  intro b hb';obtain⟨m,hm,he⟩:=hmem b hb';simp only[Θ1];rw[bG (bt.2 ⟨m,hm,by simp[he]⟩)]
 let Θ2:Nat->Nat:=fun b=>match ix (fun x:aH=>x.contains b) L' with|some i=>(match ms[i]? with|some m=>m+2|none=>1)|none=>if Θ1 b=st.H.length+2 then 1 else Θ1 b
 have Sb:∀(i m:Nat) bs b,ms[i]?=some m->L'[i]?=some bs->b∈bs->Θ2 b=m+2:=by
  intro i m bs b hm hi hb';have:ix (fun x:aH=>x.contains b) L'=some i:=uh hi (by simpa using hb') (fun j y hj hy=>DK vm j i y bs b hj hi (by simpa using hy) hb');simp only[Θ2,this,hm]
 have Ia:∀b,b∉L'.flatten->Θ2 b=if Θ1 b=st.H.length+2 then 1 else Θ1 b:=by
  intro b hb';simp only[Θ2];cases h:ix (fun x:aH=>x.contains b) L' with
  |none=>rfl
  |some i=>
   obtain⟨x,hx,hp⟩:=p9 h;exact absurd (cu.2 ⟨x,aD hx,by simpa using hp⟩) hb'
 have hlt':∀b∈L'.flatten,b<w'.heap.size:=fun b hb'=>by
  obtain⟨cs,T,hx⟩:=(BC b hb').2;exact(aX.1 hx).1
 have kk:eT w w' Θ1 Θ2 (st.H.length+2):=by
  refine⟨by omega,k1,k2,k3,k4,fun b hlt hne=>k5 b hlt fun hb'=>hne (Po b hb'),fun b hlt hne=>?_,fun b hb'=>?_⟩
  ·by_cases hin:b∈L'.flatten
   ·rcases(BC b hin).1 with h'|h'
    ·exact absurd (Po b h') hne
    ·omega
   ·rw[Ia b hin,ar hne]
  ·by_cases hin:b∈L'.flatten
   ·exact hlt' b hin
   ·rw[Ia b hin]at hb';refine bw (hs1.own b ?_) k4;intro h0;have h0':Θ1 b=0:=h0;rw[h0']at hb';rw[ar (by omega)]at hb';exact hb' rfl
 have hm2:∀b,2<=Θ2 b->oy Γ b:=by
  intro b hb';by_cases hin:b∈L'.flatten
  ·rcases(BC b hin).1 with h'|h'
   ·obtain⟨m,_,he⟩:=hmem b h';exact hs.mine b (by omega)
   ·exact .inl (eg hs.base h')
  ·rw[Ia b hin]at hb';split at hb'
   ·omega
   ·exact hs1.mine b hb'
 obtain⟨ρ,hu⟩:=hs1.kx;have Ni:=hs1.iw kk (κ':=κ) (fun _ _ h=>h) hu;have PT:(kill st.H ms).length=st.H.length:=dH _ _;have hpk:∀(j:Nat) y,(CZ st.H ms outs)[j]?=some y->(∃(i:Nat) (x:Rw),ms[i]?=some j/\outs[i]?=some x/\y=x.ob (lv st.H j))\/(j∉ms/\(kill st.H ms)[j]?=some y):=by
  intro j y hj;rcases JE hnd (by omega) hj with h'|⟨h1,h2⟩
  ·exact .inl h'
  ·exact .inr ⟨h1,by rw[cR h1];exact h2⟩
 have AT:∀(j:Nat) y,(CZ st.H ms outs)[j]?=some y->j+2≠st.H.length+2:=fun j y hj=>by
  have:=(aB.1 hj).1;rw[zM]at this;omega
 have hs2:cN Γ ⟨st.σ,CZ st.H ms outs⟩ κ Θ2 a w':=by
  refine hs1.step kk hm2 (fun _ _ h=>h) (fun i hi=>hs.jN i (by rw[zM]at hi;exact hi)) hs.j9 ?_ ⟨ρ,Ni.1,?_,?_⟩
  ·intro j y hj;have hjl:=AT j y hj;rcases hpk j y hj with⟨i,x,h1,h2,rfl⟩|⟨_,h2⟩
   ·right;right
    have OZ:∃bs,L'[i]?=some bs:=⟨_,aN (by have:=(aB.1 h2).1;omega)⟩
    obtain⟨bs,OZ⟩:=OZ;obtain⟨v',q1,q2,q3⟩:=RU i x bs h2 OZ;rw[bq,hkc i j h1]at q1;refine⟨q2,fun x hx=>?_,v',bs,q1,q3,EV vm bs (aD OZ),fun b hb'=>⟨Sb i j bs b h1 OZ hb',(BC b (cu.2 ⟨bs,aD OZ,hb'⟩)).2⟩⟩;unfold lv at hx;split at hx
    ·rename_i Vt Ta u0 PB;subst hx;obtain⟨_,q0,_⟩:=hs.ob j _ PB;exact q0 x rfl
    ·cases hx
   ·exact .inr (.inl ⟨hjl,h2⟩)
  ·intro id e' sz' cU hj;have hjl:=AT id _ hj;rcases hpk id _ hj with⟨i,x,h1,h2,h3⟩|⟨_,h2⟩
   ·simp[Rw.ob]at h3
   ·exact Ni.2.1 id e' sz' cU hjl h2
  ·intro id y hj;have hjl:=AT id _ hj;rcases hpk id _ hj with⟨i,x,h1,h2,h3⟩|⟨_,h2⟩
   ·subst h3;exact Az.ux rfl
   ·exact Ni.2.2 id y hjl h2
 have hrs:kF w' κ v d []:=.of hv;exact hK _ _ (h κ Θ2 _ w' (hs2.set (t:=t) ht hrs (by simp)))
def Ob.close:Ob->Ob
 | .row _ _ sz rows=>.nF sz rows none
 |o=>o
theorem cN.Gd(hs:cN Γ st κ Θ a w)(hb:Below w.heap.size w w')(L:ic)(hL:∀x∈L,x.ok w')(hnd:(L.flatMap Fs.bl).Nodup)(hfr:∀b∈L.flatMap Fs.bl,w.heap.size<=b/\Wr w' b)(hvs:∀x∈L,x.sh=true->x.vs=[]):
 ∃κ' Θ',cN Γ ⟨st.σ,st.H++(L.map Fs.ob).map Ob.close⟩ κ' Θ' a w'/\Names κ' st.H.length L:=by
 let n:=st.H.length
 let κ':Nat->Option Value:=fun j=>if j<n\/n+L.length<=j then κ j else(L[j-n]?).map Fs.v
 let Θ':Nat->Nat:=fun b=>match ix (fun x:Fs=>x.bl.contains b) L with|some i=>n+i+2|none=>Θ b
 have hu1:∀(i j:Nat) x y b,L[i]?=some x->L[j]?=some y->b∈x.bl->b∈y.bl->i=j:=fun i j x y b=>mo hnd i j x y b
 have hts:∀(i:Nat) x b,L[i]?=some x->b∈x.bl->Θ' b=n+i+2:=by
  intro i x b hi HH;have:ix (fun x:Fs=>x.bl.contains b) L=some i:=uh hi (by simpa using HH) (fun j y hj hy=>hu1 j i y x b hj hi (by simpa using hy) HH);simp only[Θ',this]
 have hno:∀b,b∉L.flatMap Fs.bl->Θ' b=Θ b:=by
  intro b hb';simp only[Θ'];cases h:ix (fun x:Fs=>x.bl.contains b) L with
  |none=>rfl
  |some i=>
   obtain⟨x,hx,hp⟩:=p9 h;exact absurd (bV.2 ⟨x,aD hx,by simpa using hp⟩) hb'
 have hold:∀b,b<w.heap.size->Θ' b=Θ b:=fun b hlt=>hno b (fun h=>by have:=(hfr b h).1;omega)
 have hn:∀(j:Nat) v,κ j=some v->κ' j=some v:=by
  intro j v hj;have:j<n:=by
   rcases cY j n with h|h
   ·exact h
   ·have:=hs.jN j h;rw[hj]at this;cases this
  simp only[κ'];rw[bG (.inl this)];exact hj
 have mY:Names κ' n L:=by
  intro i x hx;have hlt:=(aB.1 hx).1;simp only[κ'];rw[ar (by omega),cC,hx];rfl
 have hlen:(st.H++(L.map Fs.ob).map Ob.close).length=n+L.length:=by simp[n]
 have k:eT w w' Θ Θ' (n+L.length+2):=by
  refine⟨by omega,hb.os,hb.tape,hb.output,hb.size,fun b hlt _=>hb.block b hlt,fun b hlt _=>hold b hlt,fun b h=>?_⟩;by_cases hin:b∈L.flatMap Fs.bl
  ·obtain⟨cs,T,hx⟩:=(hfr b hin).2;exact(aX.1 hx).1
  ·rw[hno b hin]at h;exact bw (hs.own b h) hb.size
 have hm:∀b,2<=Θ' b->oy Γ b:=by
  intro b h;by_cases hin:b∈L.flatMap Fs.bl
  ·exact .inl (eg hs.base (hfr b hin).1)
  ·rw[hno b hin]at h;exact hs.mine b h
 have key:∀(j:Nat) y,(st.H++(L.map Fs.ob).map Ob.close)[j]?=some y->(∃i x,j=n+i/\L[i]?=some x/\y=.nF x.sz x.rows none)\/(j<n/\st.H[j]?=some y):=by
  intro j y hj;by_cases hlt:j<st.H.length
  ·rw[aS hlt]at hj;exact .inr ⟨hlt,hj⟩
  ·rw[aV (by omega),b9,b9]at hj;cases hx:L[j-st.H.length]? with
   |none=>simp[hx]at hj
   |some x=>simp[hx]at hj;exact .inl ⟨j-st.H.length,x,by omega,hx,hj.symm⟩
 have AT:∀(j:Nat) y,(st.H++(L.map Fs.ob).map Ob.close)[j]?=some y->j+2≠n+L.length+2:=fun j y hj=>by
  have:=(aB.1 hj).1;omega
 obtain⟨ρ,hu⟩:=hs.kx;have lF:=hs.iw k hn hu;refine⟨κ',Θ',hs.step k hm hn (fun i hi=>?_) (fun i u n8=>?_) (fun j y hj=>?_) ⟨ρ,lF.1,fun id e sz rows hj=>?_,fun id y hj=>?_⟩,mY⟩
 ·rw[hlen]at hi;simp only[κ'];rw[bG (by omega)];exact hs.jN i (by omega)
 ·simp only[κ']at n8;split at n8
  ·exact hs.j9 i u n8
  ·cases hx:L[i-n]? with
   |none=>simp[hx]at n8
   |some x=>simp[hx]at n8;subst n8;exact(hL x (aD hx)).2.2.2.2
 ·have hjl:=AT j y hj;rcases key j y hj with⟨i,x,rfl,hx,rfl⟩|⟨hlt,hy⟩
  ·right;right
   obtain⟨q1,q2,q3,q4,_⟩:=hL x (aD hx);have yd:x.bl.Nodup:=by
    have:∀(l:ic),(l.flatMap Fs.bl).Nodup->∀x∈l,x.bl.Nodup:=by
     intro l
     induction l with
     |nil=>intro _ x hx;cases hx
     |cons z r ih=>
      intro hnd x hx;simp only[gD]at hnd;obtain⟨n1,n2,_⟩:=aZ.1 hnd;rcases aY.1 hx with rfl|hx
      ·exact n1
      ·exact ih n2 x hx
    exact this L hnd x (aD hx)
   have Fe:∃bb,Rd w' x.v (.sl x.rows) bb/\bb.Nodup/\∀b∈bb,b∈x.bl:=by
    unfold Fs.rs at q4;cases SN:x.sh with
    |false=>rw[SN]at q4;exact⟨x.bl,kN q2 q3 q4.rd,yd,fun _ h=>h⟩
    |true=>
     rw[SN,hvs x (aD hx) SN]at q4;exact⟨_,kN q2 q3 q4.rd,by cases x.v.ownBlock<;>simp,fun b hb'=>aF.2 (.inl (by simpa using hb'))⟩
   obtain⟨bb,r1,r2,r3⟩:=Fe;exact⟨q2,by simp,x.v,bb,mY i x hx,r1,r2,fun b hb'=>⟨hts i x b hx (r3 b hb'),(hfr b (bV.2 ⟨x,aD hx,r3 b hb'⟩)).2⟩⟩
  ·exact .inr (.inl ⟨hjl,hy⟩)
 ·have hjl:=AT id _ hj;rcases key id _ hj with⟨i,x,_,_,h⟩|⟨hlt,hy⟩
  ·cases h
  ·exact lF.2.1 id e sz rows hjl hy
 ·have hjl:=AT id _ hj;rcases key id _ hj with⟨i,x,_,_,h⟩|⟨hlt,hy⟩
  ·subst h;exact Az.ux rfl
  ·exact lF.2.2 id y hjl hy
theorem HO{o:Oper}{f t:Nat}{xs:Array Operand}{ts:Array TypeId}{ds:aG}{ms:aH}{d:D}(hop:o.op=.call {callee:=.value (.func f),args:=xs,argTypes:=ts})(hd:o.dst=some t)(hg:o.guard=none)
 (ht:t<Γ.nt) (hds:vo st.H (xs.toList.map st.ev)=some (ds,ms)) (hown:d.Ak=true) (iM:Good P f ds d)
 (h:AO P Γ all rest Q ⟨(t,(ir st.H.length d).1)::st.σ,st.H++(ir st.H.length d).2.map Ob.close⟩):AO P Γ all (o::rest) Q st:=by
 intro κ Θ a w hs;obtain⟨bs,hargs,hz⟩:=zx hs hds;let Θc:Nat->Nat:=fun b=>if Θ b=0\/ms.any (fun m=>Θ b==m+2)then 0 else 1
 have zD:∀b,Seen Θ ms b->Θc b=0:=by
  intro b h;simp only[Θc];rw[bG];rcases h with h|⟨m,h1,h2⟩
  ·exact .inl h
  ·exact .inr (bt.2 ⟨m,h1,by simp[h2]⟩)
 have hc:=iM.2 w Θc _ bs hs.Om hargs (fun b hb=>zD b (hz b hb)) (fun b hb=>hs.own b (fun e=>hb (zD b (.inl e)))) (fun b=>by simp only[Θc];split<;>omega);refine wpList_plain hg fun K hK=>?_
 unfold Oper.wp;rw[nH hop iM.1,Oper.upon_enter];have e:xs.map a.eval=(xs.toList.map a.eval).toArray:=by rw[<-eB,fW]
 rw[e];refine hc.mono ?_;rintro e w' ⟨v,bs',tb,ub,rfl,hb,hr,zl,htb,hnd,hfr,hsub⟩;show K (a.put o.dst v) w';rw[hd];obtain⟨L,q1,q2,q3,q4,q6,q5⟩:=hr.inst st.H.length;have tR:bs'=[]:=hr.own hown;obtain⟨κ',Θ',hs',hnm⟩:=hs.Gd hb L q2 (q3▸hnd) (fun b hb'=>hfr b (q3▸hb')) (fun x hx hx'=>by have:=q6 x hx hx';rw[tR]at this;exact jt.2 fun b hb'=>by cases this b hb');obtain⟨b0,HF,AU⟩:=q5 κ' hnm;rw[q1]at hs';refine hK _ _ (h κ' Θ' _ w' (hs'.set (t:=t) ht HF fun b hb'=>?_));have hb':=AU b hb';rw[tR]at hb';cases hb'
end
end Go.Cx
namespace Go.Cx
open Go.RowKit
section
variable{P:Program}{Γ:lY}{Q:Exit->St->Prop}{st:St}{κ κ':Nat->Option Value}{Θ Θ':Nat->Nat}{a:Act}{w w':World}{all:Array Oper}{rest:List Oper}
theorem cN.F1(hs:cN Γ st κ Θ a w)(ms:aH){H':ai}(h1:w'.os=w.os)(h2:w'.tape=w.tape)(h3:w'.output=w.output)(h4:w.heap.size<=w'.heap.size)
 (AQ:∀b,b<w.heap.size->(∀m∈ms,Θ b≠m+2)->w'.heap[b]?=w.heap[b]?) (Nb:∀b,b<w.heap.size->(∀m∈ms,Θ b≠m+2)->Θ' b=Θ b) (hown:∀b,Θ' b≠0->b<w'.heap.size)
 (hm:∀b,2<=Θ' b->oy Γ b) (hn:∀(j:Nat) v,κ j=some v->κ' j=some v) (PU:∀i,H'.length<=i->κ' i=none) (hk1:∀(i:Nat) u,κ' i=some u->u.oneCell'=true)
 (pK:∀(j:Nat) y,H'[j]?=some y->y=.gone\/(j∉ms/\st.H[j]?=some y)\/(mh w' κ' Θ' j y/\y.FE=false)):cN Γ ⟨st.σ,H'⟩ κ' Θ' a w':=by
 have hs1:=hs.forget ms;have hin:∀b,(ms.any (fun m=>Θ b==m+2))=false->∀m∈ms,Θ b≠m+2:=by
  intro b h m hm' he;have:ms.any (fun m=>Θ b==m+2)=true:=bt.2 ⟨m,hm',by simp[he]⟩;rw[h]at this;cases this
 have hlt2:∀b,(if ms.any (fun m=>Θ b==m+2)then st.H.length+2 else Θ b)≠st.H.length+2->(ms.any (fun m=>Θ b==m+2))=false:=by
  intro b h;cases hc:ms.any (fun m=>Θ b==m+2)with
  |false=>rfl
  |true=>simp[hc]at h
 have kk:eT w w' (fun b=>if ms.any (fun m=>Θ b==m+2)then st.H.length+2 else Θ b) Θ' (st.H.length+2):=by
  refine⟨by omega,h1,h2,h3,h4,fun b hb hne=>AQ b hb (hin b (hlt2 b hne)),fun b hb hne=>?_,hown⟩;have hc:=hlt2 b hne;rw[Nb b hb (hin b hc)];simp[hc]
 obtain⟨ρ,hu⟩:=hs1.kx;have lF:=hs1.iw kk hn hu;refine hs1.step kk hm hn PU hk1 (fun j y hj=>?_) ⟨ρ,lF.1,fun id e sz rows hj=>?_,fun id y hj=>?_⟩
 ·rcases pK j y hj with h|⟨h,hy⟩|⟨h,_⟩
  ·exact .inl h
  ·have:=(aB.1 hy).1;exact .inr (.inl ⟨by omega,by rw[cR h];exact hy⟩)
  ·exact .inr (.inr h)
 ·rcases pK id _ hj with h|⟨h,hy⟩|⟨_,h⟩
  ·cases h
  ·have:=(aB.1 hy).1;exact lF.2.1 id e sz rows (by omega) (by rw[cR h];exact hy)
  ·simp[Ob.FE]at h
 ·rcases pK id _ hj with h|⟨h,hy⟩|⟨_,h⟩
  ·subst h;trivial
  ·have:=(aB.1 hy).1;exact lF.2.2 id y (by omega) (by rw[cR h];exact hy)
  ·exact Az.plain h
theorem Rd.OK{v:Value}{rows:List aG}{bs:aH}(h:Rd w v (.sl rows) bs):(∃q c,v=.slice q rows.length c)/\rows.length<=maxLen:=by
 cases h with
 |oB=>exact⟨⟨_,_,rfl⟩,by simp⟩
 |iU=>exact⟨⟨_,_,rfl⟩,by simp⟩
 |sl b off cap sz _ cs bs hb h1 h2=>exact⟨⟨_,_,rfl⟩,by omega⟩
theorem KE{o:Oper}{t T id sz:Nat}{x:Operand}{rows:List aG}{u:Option Value}(hop:o.op=.call {callee:=.builtin .len,args:= #[x],argTypes:= #[T]})(hd:o.dst=some t)(hg:o.guard=none)(ht:t<Γ.nt)
 (hT:(vJ P T).isSome=true) (hx:st.ev x=.acc id) (hH:st.H[id]?=some (.nF sz rows u)) (h:AO P Γ all rest Q ⟨(t,.int .i64 rows.length)::st.σ,st.H⟩):AO P Γ all (o::rest) Q st:=by
 intro κ Θ a w hs;obtain⟨b1,r1,_⟩:=hs.ev x;rw[hx]at r1;obtain⟨hk,_⟩:=r1.mQ;obtain⟨_,_,v,bs,hk2,hrd,_⟩:=hs.ob id _ hH;rw[hk]at hk2;cases hk2;obtain⟨⟨q,c,hv⟩,wW⟩:=hrd.OK;obtain⟨⟨e,sz'⟩,hT⟩:=cT.1 hT;obtain⟨hu,_,_⟩:=jA hT;refine wpList_plain hg fun K hK=>?_
 unfold Oper.wp;have hrun:(execOp a.eval o).run P w=.ok (.value (.int .i64 rows.length)) w:=by
  simp only[execOp,hop,resolve,invoke,builtin,j7,ax,bI,hv];simp[Builtin.len_,run_underlying hu,goInt]
 rw[hrun,Oper.upon_value,hd];exact hK _ _ (h κ Θ _ w (hs.set (d:=.int .i64 rows.length) (bs:=[]) ht (.of (.int _ _ (CT wW))) (by simp)))
theorem My{o:Oper}{t T id sz e m:Nat}{x i:Operand}{rows:List aG}{u:Option Value}{k:IntKind}{n:Int}(hop:o.op=.indexAddr T x i)(hd:o.dst=some t)(hg:o.guard=none)(ht:t<Γ.nt)
 (hT:vJ P T=some (e,sz)) (hx:st.ev x=.acc id) (hi:st.ev i=.int k n) (hH:st.H[id]?=some (.nF sz rows u)) (hn:n=(m:Int)) (hm:m<rows.length) (h:AO P Γ all rest Q ⟨(t,.op id m sz 0)::st.σ,st.H⟩):AO P Γ all (o::rest) Q st:=by
 intro κ Θ a w hs;obtain⟨b1,r1,_⟩:=hs.ev x;obtain⟨b2,r2,_⟩:=hs.ev i;rw[hx]at r1;rw[hi]at r2;have hiv:=r2.jc;obtain⟨hk,_⟩:=r1.mQ;obtain⟨_,_,v,bs,hk2,hrd,_⟩:=hs.ob id _ hH;rw[hk]at hk2;cases hk2;obtain⟨hu,yc,xV⟩:=jA hT;have hsz:=lT (P:=P) yc w;subst hn;generalize Fo:a.eval x=vx at hrd hk;cases hrd with
 |oB=>simp at hm
 |iU=>simp at hm
 |sl b off cap sz' _ cs bs hb hcap wW hrl hc hrs=>
  have hn':0<=(m:Int)/\(m:Int)<(rows.length:Int):=⟨by omega,by omega⟩
  refine wpList_plain hg fun K hK=>?_
  unfold Oper.wp;have hrun:(execOp a.eval o).run P w=.ok (.value (.pointer (some ⟨b,off+(m*sz+0),none⟩))) w:=by
   simp only[execOp,hop,Fo,hiv];simp[Instr.indexAt,asIntOf,run_underlying hu,hn',hm,hsz,xV,Addr.add_lit]
  rw[hrun,Oper.upon_value,hd];exact hK _ _ (h κ Θ _ w (hs.set (d:=.op id m sz 0) (bs:=[]) ht (oz.op id m sz 0 b off _ _ hk).Bq (by simp)))
theorem zj{rows:List aG}{sz i off:Nat}{r:aG}{d:D}(hrl:∀r∈rows,r.length=sz)(hr:rows[i]?=some r)(hd:r[off]?=some d):rows.flatten[i*sz+off]?=some d/\off<sz/\i*sz+off<rows.length*sz:=by
 have h1:=hrl r (aD hr);have h2:=(aB.1 hd).1;have hmid:=uV hrl hr;have hlt:=(aB.1 hr).1;have hle:(i+1)*sz<=rows.length*sz:=cx _ hlt;rw[eR,j3]at hle;refine⟨?_,by omega,by omega⟩;rw[<-hmid,bU,bG (by omega),cW]at hd;exact hd
theorem HW{o:Oper}{t T id i sz off:Nat}{x:Operand}{rows:List aG}{r:aG}{d:D}{u:Option Value}(hop:o.op=.load T x)(hd:o.dst=some t)(hg:o.guard=none)(ht:t<Γ.nt)
 (hT:pH P T=some false) (hx:st.ev x=.op id i sz off) (hH:st.H[id]?=some (.nF sz rows u)) (hr:rows[i]?=some r) (hc:r[off]?=some d) (hfl:d.flat=true) (h:AO P Γ all rest Q ⟨(t,d)::st.σ,st.H⟩):AO P Γ all (o::rest) Q st:=by
 intro κ Θ a w hs;obtain⟨b1,r1,_⟩:=hs.ev x;rw[hx]at r1;obtain⟨g,o0,len,KU,hk,hv⟩:=r1.uw;obtain⟨hrl,_,v,bs,hk2,hrd,_⟩:=hs.ob id _ hH;rw[hk]at hk2;cases hk2;obtain⟨hf,_,_⟩:=zj hrl hr hc;cases hrd with
 |iU=>simp at hr
 |sl _ _ _ sz' _ cs ns hb hcap wW zZ hcs hrs=>
  obtain⟨c,b',h1,h2,h3,h4⟩:=hrs.at hf;have L:=gP (P:=P) (w:=w) hT (o:=i*sz+off) hcs;have hb':=h3.flat hfl;subst hb';refine wpList_plain hg fun K hK=>?_
  unfold Oper.wp;have hrun:(execOp a.eval o).run P w=.ok (.value c) w:=by
   simp only[execOp,hop,hv];simp[L.2 rfl c h1]
  rw[hrun,Oper.upon_value,hd];exact hK _ _ (h κ Θ _ w (hs.set (d:=d) (bs:=[]) ht (.of h3) (by simp)))
theorem gG.Q8{vs:aq}{ds:aG}{bs:aH}(h:gG w vs ds bs){p:Nat}{d:D}(hd:ds[p]?=some d):
 ∃c b1 b2 b3,vs[p]?=some c/\c.oneCell'=true/\Rd w c d b2/\bs=b1++(b2++b3)/\∀(e:D) (b4:aH),Rd w c e b4->gG w vs (ds.set p e) (b1++(b4++b3)):=by
 obtain⟨l,r,rfl,hl⟩:=Bb hd;obtain⟨v1,v2,c1,c2,rfl,rfl,k1,k2⟩:=h.split;cases k2 with
 |cons c vs _ _ b2 b3 h1 h2 h3=>
  have hl1:v1.length=p:=by rw[k1.length];exact hl
  refine⟨c,c1,b2,b3,by rw[aV (by omega),hl1];simp,h1,h2,rfl,fun e b4 he=>?_⟩;have e1:(l++d::r).set p e=l++e::r:=by rw[nK _ _ (by omega),hl];simp
  rw[e1];exact k1.app (.cons _ _ _ _ _ _ h1 he h3)
theorem xQ{rows:List aG}{sz i off:Nat}{r:aG}{d e:D}(hrl:∀r∈rows,r.length=sz)(hr:rows[i]?=some r)(hd:r[off]?=some d):(rows.set i (r.set off e)).flatten=rows.flatten.set (i*sz+off) e:=by
 have hlt:=(aB.1 hd).1;have h1:=hrl r (aD hr);have:=uW (rows:=rows) (sz:=sz) (i:=i) (off:=off) (row:=r) (ds:=[e]) hrl hr (by simp;omega);have e1:r.set off e=r.take off++[e]++r.drop (off+[e].length):=by
  apply jU;intro j;rw[dX];simp only[cF,tD,aR,bC,bq];by_cases hj:j<off
  ·rw[ar (by omega),aS (by simp;omega),bU,bG hj]
  ·rw[aV (by simp;omega),bD,cv (by omega)];by_cases he:off=j
   ·subst he;simp[hlt]
   ·rw[ar he];obtain⟨m,hm⟩:∃m,j-off=m+1:=⟨j-off-1,by omega⟩
    rw[hm,fX,cW]
    congr 1;omega
 rw[e1,this];have hfl:=iL hrl;obtain⟨hf,_,hlt2⟩:=zj hrl hr hd;apply jU;intro j;rw[dX];simp only[cF,tD,aR,bC,bq];by_cases hj:j<i*sz+off
 ·rw[ar (by omega),aS (by rw[bD];omega),bU,bG hj]
 ·rw[aV (by rw[bD];omega),bD,cv (by omega)];by_cases he:i*sz+off=j
  ·subst he;rw[bG rfl,bG (by omega),lW];rfl
  ·rw[ar he];obtain⟨m,hm⟩:∃m,j-(i*sz+off)=m+1:=⟨j-(i*sz+off)-1,by omega⟩
   rw[hm,fX,cW]
   congr 1;omega
theorem zu{rows:List aG}{sz i:Nat}{r:aG}(hrl:∀r∈rows,r.length=sz)(hr:r.length=sz):∀x∈rows.set i r,x.length=sz:=by
 intro x hx;rcases mD hx with hx|rfl
 ·exact hrl x hx
 ·exact hr
theorem HY{o:Oper}{t T id i sz off EH:Nat}{x:Operand}{rows dF:List aG}{r:aG}{u:Option Value}(hop:o.op=.load T x)(hd:o.dst=some t)(hg:o.guard=none)(ht:t<Γ.nt)
 (hT:pH P T=some false) (hx:st.ev x=.op id i sz off) (hH:st.H[id]?=some (.nF sz rows u)) (hr:rows[i]?=some r) (hc:r[off]?=some (.sl dF)) (h2:∀q∈dF,q.length=EH)
 (h:AO P Γ all rest Q ⟨(t,.acc st.H.length)::st.σ,st.H.set id (.hole sz (rows.set i (r.set off .any)) u (i*sz+off) st.H.length)++[.nF EH dF none]⟩):AO P Γ all (o::rest) Q st:=by
 intro κ Θ a w hs;obtain⟨b1,r1,_⟩:=hs.ev x;rw[hx]at r1;obtain⟨g,o0,len,KU,hk,hv⟩:=r1.uw;obtain⟨hrl,Ki,v,bs,hk2,hrd,hnd,tR⟩:=hs.ob id _ hH;rw[hk]at hk2;cases hk2;obtain⟨hf,hoff,_⟩:=zj hrl hr hc;cases hrd with
 |iU=>simp at hr
 |sl _ _ _ sz' _ cs ns hb hcap wW zZ hcs hrs=>
  obtain⟨c,c1,c2,c3,h1,h1c,h3,rfl,k9⟩:=hrs.Q8 hf;have L:=gP (P:=P) (w:=w) hT (o:=i*sz+off) hcs;have PR:id<st.H.length:=(aB.1 hH).1;have hnew:=k9 .any [] (.any c);have vm:=hnd;simp only[fO,aF,yH]at vm;obtain⟨⟨hg1,Ff,Rs⟩,yd⟩:=vm;obtain⟨n1,n2,n3⟩:=aZ.1 yd;obtain⟨n4,n5,n6⟩:=aZ.1 n2;let Θ':Nat->Nat:=fun b=>if b∈c2 then st.H.length+2 else Θ b
  have hs':cN Γ ⟨st.σ,st.H.set id (.hole sz (rows.set i (r.set off .any)) u (i*sz+off) st.H.length)++[.nF EH dF none]⟩ (oG κ st.H.length (some c)) Θ' a w:=by
   have hn:=nj (hs.jN _ (b8 _)) (some c);have BH:∀b∈c2,Θ b=id+2:=fun b hb'=>(tR b (by simp[hb'])).1
   refine hs.F1 [id] rfl rfl rfl (b8 _) (fun _ _ _=>rfl) (fun b _ hne=>?_) (fun b hb'=>?_) (fun b hb'=>?_) hn (fun j hj=>?_) (fun j y hy=>?_) (fun j y hj=>?_)
   ·simp only[Θ'];rw[ar];intro hin;exact hne id (by simp) (BH b hin)
   ·simp only[Θ']at hb';split at hb'
    ·rename_i hin;exact hs.own b (by rw[BH b hin];omega)
    ·exact hs.own b hb'
   ·simp only[Θ']at hb';split at hb'
    ·rename_i hin;exact hs.mine b (by rw[BH b hin];omega)
    ·exact hs.mine b hb'
   ·simp only[af,jO,aR,bC]at hj;unfold oG;rw[ar (by omega)];exact hs.jN j (by omega)
   ·unfold oG at hy;split at hy
    ·cases hy;exact h1c
    ·exact hs.j9 j y hy
   ·rcases rV j y hj with⟨hjl,rfl⟩|⟨hjl,hy⟩
    ·right;right
     have hjn:j=st.H.length:=by rw[hjl];simp
     subst hjn;refine⟨⟨h2,by simp,c,c2,gQ _ _ _,h3,n4,fun b hb'=>⟨by simp[Θ',hb'],(tR b (by simp[hb'])).2⟩⟩,rfl⟩
    ·rcases pG j y hy with⟨rfl,rfl⟩|⟨hne,hy'⟩
     ·right;right
      refine⟨⟨zu hrl (by rw[jO];exact hrl r (aD hr)),fun z hz=>hn _ _ (Ki z hz),_,g::(c1++([]++c3)),hn _ _ hk,⟨g,o0,KU,cs,c1++([]++c3),by simp,hb,by simpa using hcap,wW,hcs,?_,rfl,c,h1,gQ _ _ _⟩,?_,fun b hb'=>?_⟩,rfl⟩
      ·rw[xQ hrl hr hc];exact hnew
      ·simp only[dN,fO,aF,yH];exact⟨⟨hg1,Rs⟩,aZ.2 ⟨n1,n5,fun x hx y hy e=>n3 x hx y (by simp[hy]) e⟩⟩
      ·have PF:b∈g::(c1++(c2++c3)):=by
        simp only[dN,aY,aF]at hb'⊢;rcases hb' with h|h|h<;>simp[h]
       refine⟨?_,(tR b PF).2⟩;simp only[Θ'];rw[ar,(tR b PF).1];intro hin;simp only[dN,aY,aF]at hb';rcases hb' with h|h|h
       ·subst h;exact Ff hin
       ·exact n3 b h b (by simp[hin]) rfl
       ·exact n6 b hin b h rfl
     ·exact .inr (.inl ⟨by simpa using hne,hy'⟩)
  refine wpList_plain hg fun K hK=>?_
  unfold Oper.wp;have hrun:(execOp a.eval o).run P w=.ok (.value c) w:=by
   simp only[execOp,hop,hv];simp[L.2 rfl c h1]
  rw[hrun,Oper.upon_value,hd];exact hK _ _ (h _ _ _ w (hs'.set (d:=.acc st.H.length) (bs:=[]) ht (oz.acc st.H.length c (gQ _ _ _)).Bq (by simp)))
theorem HX{id n i sz off EH:Nat}{rows dF:List aG}{r:aG}{d:D}{u u2:Option Value}(hH:st.H[id]?=some (.hole sz rows u (i*sz+off) n))(hN:st.H[n]?=some (.nF EH dF u2))(hr:rows[i]?=some r)(hc:r[off]?=some d)
 (h:AO P Γ all rest Q ⟨st.σ,(st.H.set n .gone).set id (.nF sz (rows.set i (r.set off (.sl dF))) u)⟩):AO P Γ all rest Q st:=by
 intro κ Θ a w hs;obtain⟨hrl,Ki,v,bs,hk,⟨b,o0,cap,cs,ns,rfl,h1,h2,h3,h4,h5,rfl,c,h6,h7⟩,hnd,tR⟩:=hs.ob id _ hH;obtain⟨Uv,_,v2,Jy,hk2,SF,S7,I8⟩:=hs.ob n _ hN;rw[h7]at hk2;cases hk2;obtain⟨hf,hoff,_⟩:=zj hrl hr hc;obtain⟨c',c1,c2,c3,q1,Vr,q3,rfl,k9⟩:=h5.Q8 hf;rw[h6]at q1;cases q1;have hnew:=k9 (.sl dF) Jy SF;have hne:n≠id:=fun e=>by subst e;rw[hH]at hN;cases hN
 have PR:id<st.H.length:=(aB.1 hH).1;have vm:=hnd;simp only[fO,aF,yH]at vm;obtain⟨⟨hg1,Ff,Rs⟩,yd⟩:=vm;obtain⟨n1,n2,n3⟩:=aZ.1 yd;obtain⟨n4,n5,n6⟩:=aZ.1 n2;have NS:∀x∈Jy,∀y∈b::(c1++(c2++c3)),x≠y:=by
  intro x hx y hy e;subst e;have e1:=(I8 x hx).1;have e2:=(tR x hy).1;omega
 let Θ':Nat->Nat:=fun x=>if x∈Jy then id+2 else if Θ x=n+2 then 1 else Θ x
 refine h κ Θ' a w (hs.F1 [id,n] rfl rfl rfl (b8 _) (fun _ _ _=>rfl) (fun x _ TK=>?_) (fun x hx=>?_) (fun x hx=>?_) (fun _ _ h=>h) (fun j hj=>hs.jN j (by simpa using hj)) hs.j9 (fun j y hj=>?_))
 ·simp only[Θ'];rw[ar (fun hin=>TK n (by simp) (I8 x hin).1),ar (TK n (by simp))]
 ·simp only[Θ']at hx;split at hx
  ·rename_i hin;exact hs.own x (by rw[(I8 x hin).1];omega)
  ·split at hx
   ·rename_i he;exact hs.own x (by rw[he];omega)
   ·exact hs.own x hx
 ·simp only[Θ']at hx;split at hx
  ·rename_i hin;exact hs.mine x (by rw[(I8 x hin).1];omega)
  ·split at hx
   ·omega
   ·exact hs.mine x hx
 ·rcases pG j y hj with⟨rfl,rfl⟩|⟨xS,hy⟩
  ·right;right
   refine⟨⟨zu hrl (by rw[jO];exact hrl r (aD hr)),Ki,_,b::(c1++(Jy++c3)),hk,?_,?_,fun x hx=>?_⟩,rfl⟩
   ·have hl:(rows.set i (r.set off (.sl dF))).length=rows.length:=by simp
    have:=Rd.sl (w:=w) b o0 cap sz (rows.set i (r.set off (.sl dF))) cs (c1++(Jy++c3)) h1 (by rw[hl];exact h2) h3 (zu hrl (by rw[jO];exact hrl r (aD hr))) h4 (by rw[xQ hrl hr hc];exact hnew);rw[hl]at this;exact this
   ·simp only[fO,aF,yH];refine⟨⟨hg1,fun hin=>NS b hin b (by simp) rfl,Rs⟩,aZ.2 ⟨n1,aZ.2 ⟨S7,n5,fun x hx y hy e=>NS x hx y (by simp[hy]) e⟩,fun x hx y hy e=>?_⟩⟩;rcases aF.1 hy with hy|hy
    ·exact NS y hy x (by simp[hx]) e.symm
    ·exact n3 x hx y (by simp[hy]) e
   ·by_cases hin:x∈Jy
    ·exact⟨by simp[Θ',hin],(I8 x hin).2⟩
    ·have PF:x∈b::(c1++(c2++c3)):=by
      simp only[aY,aF]at hx⊢;rcases hx with h|h|h|h
      ·simp[h]
      ·simp[h]
      ·exact absurd h hin
      ·simp[h]
     refine⟨?_,(tR x PF).2⟩;have e1:=(tR x PF).1;simp only[Θ'];rw[ar hin,ar (by omega),e1]
  ·rcases pG j y hy with⟨rfl,rfl⟩|⟨hj2,hy'⟩
   ·exact .inl rfl
   ·exact .inr (.inl ⟨by simp[xS,hj2],hy'⟩)
theorem gG.setCells{vs:aq}{ds es:aG}{us:aq}{bs:aH}(h:gG w vs ds bs)(p:Nat)(hp:p+es.length<=ds.length)(hu:gG w us es []):
 ∃b',gG w (vs.take p++us++vs.drop (p+us.length)) (ds.take p++es++ds.drop (p+es.length)) b'/\(∀b∈b',b∈bs)/\(bs.Nodup->b'.Nodup):=by
 have e:ds=ds.take p++((ds.drop p).take es.length++(ds.drop p).drop es.length):=by rw[bK,bK]
 rw[e]at h;obtain⟨v1,v2,b1,b2,rfl,rfl,k1,k2⟩:=h.split;obtain⟨v3,v4,b3,b4,rfl,rfl,k3,k4⟩:=k2.split;have l1:v1.length=p:=by rw[k1.length];simp;omega
 have l3:v3.length=es.length:=by rw[k3.length];simp;omega
 have lu:=hu.length;have t1:(v1++(v3++v4)).take p=v1:=eY l1;have t2:(v1++(v3++v4)).drop (p+us.length)=v4:=by
  rw[<-dP,dM l1,lu,dM l3]
 rw[t1,t2];rw[dP]at k4;refine⟨b1++[]++b4,(k1.app hu).app k4,fun b hb=>?_,fun hnd=>?_⟩
 ·simp only[dw,aF]at hb⊢;rcases hb with h|h<;>simp[h]
 ·obtain⟨n1,n2,n3⟩:=aZ.1 hnd;obtain⟨_,n5,_⟩:=aZ.1 n2;simp only[dw];exact aZ.2 ⟨n1,n5,fun x hx y hy e=>n3 x hx y (by simp[hy]) e⟩
theorem GG{o:Oper}{T id i sz off:Nat}{x y:Operand}{rows:List aG}{r ds:aG}{u:Option Value}(hop:o.op=.store T x y)(hd:o.dst=none)(hg:o.guard=none)
 (hx:st.ev x=.op id i sz off) (hH:st.H[id]?=some (.nF sz rows u)) (hr:rows[i]?=some r) (hc:(st.ev y).cellsOf=some ds) (hfl:ds.all D.flat=true) (hT:Ck P T=true) (hl:ds.length=oX P T) (hpos:0<ds.length) (hfit:off+ds.length<=sz)
 (h:AO P Γ all rest Q ⟨st.σ,st.H.set id (.nF sz (rows.set i (r.take off++ds++r.drop (off+ds.length))) u)⟩):AO P Γ all (o::rest) Q st:=by
 intro κ Θ a w hs;obtain⟨b1,r1,_⟩:=hs.ev x;obtain⟨b2,r2,_⟩:=hs.ev y;rw[hx]at r1;obtain⟨g,o0,len,KU,hk,hv⟩:=r1.uw;obtain⟨hrl,Ki,v,bs,hk2,hrd,hnd,tR⟩:=hs.ob id _ hH;rw[hk]at hk2;cases hk2;have EX:=rM hs.j9 r2 hc;have hl1:=EX.length;have Rp:ds.all D.Cu=true:=by
  rw[aO]at hfl⊢;intro d wi;have:=hfl d wi;cases d<;>first|rfl| (simp[D.flat]at this)
 have PJ:=EX.pure Rp;have EF:=PJ.flat hfl;subst EF;have hrow:=hrl r (aD hr);have hilt:=(aB.1 hr).1;have NT:(i+1)*sz<=rows.length*sz:=cx _ hilt;rw[eR,j3]at NT;cases hrd with
 |iU=>simp at hr
 |sl _ _ _ sz' _ cs ns hb hcap wW zZ hcs hrs=>
  obtain⟨TG,Uf⟩:=tR g (by simp);obtain⟨cur,Tb,GS⟩:=Uf;have PN:=iL hrl;have hcl:cs.length=rows.length*sz:=by rw[hrs.length,PN]
  have AS:∀j c,cs[j]?=some c->cur[o0+j]?=some c:=by
   intro j c hj;have:=hcs j c hj;simpa[World.cell?,GS]using this
  have PM:o0+(i*sz+off)+(a.eval y).cells.size<=cur.size:=by
   have e1:(a.eval y).cells.size=ds.length:=by rw[<-hl1];simp
   rw[e1];have:=AS (i*sz+off+ds.length-1) cs[i*sz+off+ds.length-1] (aN (by omega));have:=(aX.1 this).1;omega
  have Ng:(a.eval y).cells.size=oX P T:=by rw[<-hl,<-hl1];simp
  have hst:=uz (P:=P) (T:=T) (off:=o0+(i*sz+off)) GS Ng (cT.1 hT) PM EX.one;have hne:(a.eval y).cells.toList.length=ds.length:=hl1;let zT:Array Value:=(cur.toList.take (o0+(i*sz+off))++(a.eval y).cells.toList++cur.toList.drop (o0+(i*sz+off)+(a.eval y).cells.toList.length)).toArray
  have hw':∀x,x≠g->(w.setRow g zT).heap[x]?=w.heap[x]?:=fun x hx=>setRow_other w g x _ hx
  have hsame:∀x,x<w.heap.size->(∀m∈[id],Θ x≠m+2)->(w.setRow g zT).heap[x]?=w.heap[x]?:=fun x _ hx=>hw' x (fun e=>hx id (by simp) (by rw[e];exact TG))
  simp only[fO]at hnd;have SI:gG (w.setRow g zT) cs rows.flatten ns:=hrs.keep fun b hb'=>hw' b (fun e=>hnd.1 (e▸hb'))
  have Re:gG (w.setRow g zT) (a.eval y).cells.toList ds []:=PJ.keep (by simp);obtain⟨ns',q1,q2,q3⟩:=SI.setCells (i*sz+off) (by rw[PN];omega) Re;have hfs:=uW (ds:=ds) (off:=off) hrl hr hfit;have PX:(rows.set i (r.take off++ds++r.drop (off+ds.length))).length=rows.length:=by simp
  have Pg:∀z∈rows.set i (r.take off++ds++r.drop (off+ds.length)),z.length=sz:=zu hrl (by simp;omega);have hcell:∀j c,(cs.take (i*sz+off)++(a.eval y).cells.toList++cs.drop (i*sz+off+(a.eval y).cells.toList.length))[j]?=some c->(w.setRow g zT).cell? ⟨g,o0+j,none⟩=some c:=by
   intro j c hj;have Ud:(w.setRow g zT).heap[g]?=some (.cells zT Tb (0,0)):=setRow_heap w g cur _ Tb _ GS;simp only[World.cell?,Ud];show zT[o0+j]?=some c;simp only[zT,eH,cF]at hj⊢;have hcz:o0+(i*sz+off)<=cur.toList.length:=by simp;omega
   by_cases xS:j<i*sz+off
   ·rw[aS (by simp;omega),bU,bG xS]at hj;rw[aS (by rw[bD];omega),bU,bG (by omega)];have:=AS j c hj;simpa using this
   ·rw[aV (by rw[bD];omega),bD,cv (by omega)]at hj;rw[aV (by rw[bD];omega),bD,cv hcz];rw[show o0+j-(o0+(i*sz+off))=j-(i*sz+off)from by omega];by_cases hj2:j-(i*sz+off)<(a.eval y).cells.toList.length
    ·rw[aS hj2]at hj⊢;exact hj
    ·rw[aV (by omega),cW]at hj⊢;have:=AS _ c hj;rw[<-gh]at this;rw[<-this];congr 1;omega
  refine wpList_plain hg fun K hK=>?_
  unfold Oper.wp;have hrun:(execOp a.eval o).run P w=.ok .skip (w.setRow g zT):=by
   simp only[execOp,hop,hv];simp[hst,zT]
  rw[hrun,Oper.upon_skip,hd];refine hK _ _ (h κ Θ _ _ (hs.F1 [id] rfl rfl rfl (by simp) hsame (fun _ _ _=>rfl) (fun b hb'=>by simpa using hs.own b hb') hs.mine (fun _ _ h=>h) (fun j hj=>hs.jN j (by simpa using hj)) hs.j9 (fun j z hj=>?_)));rcases pG j z hj with⟨rfl,rfl⟩|⟨xS,hz⟩
  ·right;right
   refine⟨⟨Pg,Ki,_,g::ns',hk,?_,?_,fun b hb'=>?_⟩,rfl⟩
   ·have:=Rd.sl (w:=w.setRow g zT) g o0 KU sz (rows.set i (r.take off++ds++r.drop (off+ds.length))) _ ns' (by simpa using hb) (by rw[PX];exact hcap) wW Pg hcell (by rw[hfs];exact q1);rw[PX]at this;exact this
   ·simp only[fO];exact⟨fun hin=>hnd.1 (q2 g hin),q3 hnd.2⟩
   ·rcases aY.1 hb' with rfl|hin
    ·exact⟨TG,⟨_,Tb,setRow_heap w b cur _ Tb _ GS⟩⟩
    ·have hm:=tR b (by simp[q2 b hin]);refine⟨hm.1,?_⟩;obtain⟨xs,T',hxs⟩:=hm.2;exact⟨xs,T',(hw' b (fun e=>hnd.1 (e▸q2 b hin))).trans hxs⟩
  ·exact .inr (.inl ⟨by simpa using xS,hz⟩)
end
end Go.Cx
namespace Go.Cx
open Go.RowKit
def Ll(P:Program)(f:FuncId)(ds:aG)(e sz:Nat)(rows cU:List aG):Prop:=
 (∃fn,P.funcs[f]?=some fn/\fn.body.isSome=true/\(fn.name== "runtime.NumGoroutine")=false)/\
 ∀(w:World) (κ:Nat->Option Value) (args:aq) (v:Value) (cs:aq),B0 w (fun b=>v.ownBlock=some b)->args.length=ds.length->(∀(i:Nat) d,ds[i]?=some d->∃u,args[i]?=some u/\kF w κ u d [])->
  κ 0=some v->(∀i,1<=i->κ i=none)->v.oneCell'=true->0<sz->(∀r∈rows,r.length=sz)->w.ownsRow 0 e sz v rows.length cs->gG w cs rows.flatten []->
  Calls P f args.toArray w (fun x w'=>∃v' cs',x=.returned v'/\v'.oneCell'=true/\(∀r∈cU,r.length=sz)/\w'.ownsRow 0 e sz v' cU.length cs'/\gG w' cs' cU.flatten []/\(∀g,v'.ownBlock=some g->w.heap.size<=g\/v.ownBlock=some g)/\
   w'.os=w.os/\w'.tape=w.tape/\w'.output=w.output/\w.heap.size<=w'.heap.size/\∀b,b<w.heap.size->v.ownBlock≠some b->w'.heap[b]?=w.heap[b]?)
section
variable{P:Program}{Γ:lY}{Q:Exit->St->Prop}{st:St}{κ κ':Nat->Option Value}{Θ Θ':Nat->Nat}{a:Act}{w w':World}{all:Array Oper}{rest:List Oper}
theorem HT{o:Oper}{f t id:Nat}{xs:Array Operand}{ts:Array TypeId}{e sz:Nat}{rows cU:List aG}(hop:o.op=.call {callee:=.value (.func f),args:=xs,argTypes:=ts})(hd:o.dst=some t)(hg:o.guard=none)
 (ht:t<Γ.nt) (hH:st.H[id]?=some (.row .uq e sz rows)) (Ro:Jq e=true) (hfl:rows.flatten.all D.flat=true) (hb:((xs.toList.map st.ev).all D.bare)=true) (iM:Ll P f ((xs.toList.map st.ev).map (D.G2 [id])) e sz rows cU)
 (h:AO P Γ all rest Q ⟨(t,.acc st.H.length)::st.σ,kill st.H [id]++[.row .uq e sz cU]⟩):AO P Γ all (o::rest) Q st:=by
 intro κ Θ a w hs;obtain⟨hsz,hrl,v,cs,bs,hk,hown,hrd,uf,_⟩:=hs.ob id _ hH;have tR:=hrd.flat hfl;subst tR;have GV:id<st.H.length:=(aB.1 hH).1;let κc:Nat->Option Value:=fun j=>if j=0 then some v else none
 have Ei:B0 w fun b=>v.ownBlock=some b:=by
  obtain⟨B,v1,v2⟩:=hs.OO;refine⟨B,v1,fun b hB=>⟨(v2 b hB).2.1,fun hb'=>?_⟩⟩;have e1:=uf b hb';rcases hs.mine b (by omega)with q|q
  ·have:=(v2 b hB).1;omega
  ·exact(v2 b hB).2.2 q
 have hargs:∀(i:Nat) d,((xs.toList.map st.ev).map (D.G2 [id]))[i]?=some d->∃u,(xs.toList.map a.eval)[i]?=some u/\kF w κc u d []:=by
  intro i d wi;rw[b9,b9]at wi;cases hx:xs.toList[i]? with
  |none=>rw[hx]at wi;cases wi
  |some x=>
   rw[hx]at wi;simp only[bZ,aQ]at wi;subst wi;refine⟨a.eval x,by rw[b9,hx];rfl,?_⟩;obtain⟨bs,r,hz⟩:=hs.ev x;have I6:(st.ev x).bare=true:=aO.1 hb _ (cQ.2 ⟨x,aD hx,rfl⟩);obtain⟨b',r',_⟩:=kF.rn (o:=[id]) (κ':=κc) (Θ:=fun _=>0) (Θ':=fun _=>0) (fun i j u h1 h2=>by
    have h3:=CY h1;cases j with
    |zero=>simp at h3;subst h3;rw[hk]at h2;simpa[κc]using h2
    |succ j=>simp at h3) (fun _ _=>rfl) r (fun _ _=>rfl)
   have:=r'.FQ (D.FR [id] I6);subst this;exact r'
 have hc:=iM.2 w κc (xs.toList.map a.eval) v cs Ei (by simp) hargs (by simp[κc]) (fun i hi=>by simp only[κc];rw[ar (by omega)]) (hs.j9 id v hk) hsz hrl hown hrd;refine wpList_plain hg fun K hK=>?_
 unfold Oper.wp;rw[nH hop iM.1,Oper.upon_enter];have e0:xs.map a.eval=(xs.toList.map a.eval).toArray:=by rw[<-eB,fW]
 rw[e0];refine hc.mono ?_;rintro x w' ⟨v',cs',rfl,hone,zZ,xT,BG,GQ,h1,h2,h3,h4,AQ⟩;show K (a.put o.dst v') w';rw[hd];let n:=st.H.length
 let Θ':Nat->Nat:=fun b=>if some b=v'.ownBlock then n+2 else Θ b
 have K3:∀g,v'.ownBlock=some g->Θ g=id+2\/w.heap.size<=g:=by
  intro g GU;rcases GQ g GU with h|h
  ·exact .inr h
  ·exact .inl (uf g h)
 have k:eT w w' Θ Θ' (id+2):=by
  refine⟨by omega,h1,h2,h3,h4,fun b hb hne=>AQ b hb (fun e=>hne (uf b e)),fun b hb hne=>?_,fun b hb=>?_⟩
  ·simp only[Θ'];rw[ar];intro e;rcases K3 b e.symm with h|h
   ·exact hne h
   ·omega
  ·simp only[Θ']at hb;split at hb
   ·rename_i e;exact(xT.lt b e.symm).2
   ·exact bw (hs.own b hb) h4
 have hm:∀b,2<=Θ' b->oy Γ b:=by
  intro b hb;simp only[Θ']at hb;split at hb
  ·rename_i e;rcases K3 b e.symm with h|h
   ·exact hs.mine b (by omega)
   ·exact .inl (eg hs.base h)
  ·exact hs.mine b hb
 have hn:=nj (hs.jN n (b8 _)) (some v');obtain⟨ρ,hu⟩:=hs.kx;have lF:=hs.iw k hn hu;have key:∀(j:Nat) y,(kill st.H [id]++[.row .uq e sz cU])[j]?=some y->(j=n/\y=.row .uq e sz cU)\/(j≠n/\(y=.gone\/(j∉[id]/\st.H[j]?=some y))):=by
  intro j y hj;rcases rV j y hj with⟨h1,h2⟩|⟨h1,h2⟩
  ·rw[dH]at h1;exact .inl ⟨h1,h2⟩
  ·rw[dH]at h1;exact .inr ⟨h1,iv h2⟩
 have hs':cN Γ ⟨st.σ,kill st.H [id]++[.row .uq e sz cU]⟩ (oG κ n (some v')) Θ' a w':=by
  refine hs.step k hm hn ?_ ?_ ?_ ⟨ρ,lF.1,fun j e' sz' dF hj=>?_,fun j y hj=>?_⟩
  ·intro i hi;simp only[af,aR,bC,dH]at hi;unfold oG;rw[ar (by omega)];exact hs.jN i (by omega)
  ·intro i y hy;unfold oG at hy;split at hy
   ·cases hy;exact hone
   ·exact hs.j9 i y hy
  ·intro j y hj;rcases key j y hj with⟨rfl,rfl⟩|⟨_,hy|⟨hjk,hy⟩⟩
   ·exact .inr (.inr ⟨hsz,zZ,v',cs',[],gQ _ _ _,xT,BG,fun g GU=>by simp only[Θ'];rw[bG GU.symm],by simp⟩)
   ·exact .inl hy
   ·exact .inr (.inl ⟨fun e=>hjk (by simp;omega),hy⟩)
  ·rcases key j _ hj with⟨rfl,hy⟩|⟨_,hy|⟨hjk,hy⟩⟩
   ·simp only[Ob.row.injEq,pS]at hy;obtain⟨rfl,rfl,rfl⟩:=hy;exact⟨v',cs',[],gQ _ _ _,xT,.of BG (rS (xz Ro)),by simp,by simp⟩
   ·cases hy
   ·exact lF.2.1 j e' sz' dF (fun e=>hjk (by simp;omega)) hy
  ·rcases key j _ hj with⟨rfl,hy⟩|⟨_,hy|⟨hjk,hy⟩⟩
   ·subst hy;exact Az.ux rfl
   ·subst hy;trivial
   ·exact lF.2.2 j y (fun e=>hjk (by simp;omega)) hy
 refine hK _ _ (h _ _ _ _ (hs'.set (t:=t) (d:=.acc n) (bs:=[]) ht ?_ (by simp)));exact(oz.acc n _ (gQ _ _ _)).Bq
end
end Go.Cx
namespace Go.Cx
open Go.RowKit
def jB(P:Program)(f:FuncId)(cells cells':aG)(ds:aG)(d:D):Prop:=
 (∃fn,P.funcs[f]?=some fn/\fn.body.isSome=true/\(fn.name== "runtime.NumGoroutine")=false)/\
 ∀(w:World) (Θ:Nat->Nat) (g:Nat) (cs:Array Value) (T:TypeId) (args:aq) (bs ts us:aH),
  B0 w (fun b=>b=g\/b∈ts)->w.heap[g]?=some (.cells cs T (0,0))->qi w (.agg cs::args) (.agg cells::ds) bs ts us->
  (∀b∈bs,Θ b=0)->(∀b,Θ b≠0->b<w.heap.size)->(∀b,Θ b<=1)->Θ g=1->(∀b∈ts,Θ b=1/\b∈us/\b≠g)->us.Nodup->(∀b∈us,(b∉ts->Θ b=0)/\Wr w b)->
  Calls P f (.pointer (some ⟨g,0,none⟩)::args).toArray w (fun e w'=>∃v cs' T' b2 t2 u2 b3 t3 u3,e=.returned v/\w'.os=w.os/\w'.tape=w.tape/\w'.output=w.output/\w.heap.size<=w'.heap.size/\
   (∀b,b<w.heap.size->b≠g->b∉ts->w'.heap[b]?=w.heap[b]?)/\w'.heap[g]?=some (.cells cs' T' (0,0))/\(cs.size=3->cs'.size=3/\cs'[0]?=cs[0]?)/\
   qZ w' v d b2 t2 u2/\lM w' cs'.toList cells' b3 t3 u3/\(∀b∈b3++b2,(b<w.heap.size->Θ b=0\/b∈ts)/\b≠g/\b∉t3++t2)/\(u3++u2).Nodup/\
   (∀b∈u3++u2,(w.heap.size<=b\/b∈us)/\b≠g/\Wr w' b)/\∀b∈t3++t2,b∈u3++u2/\(w.heap.size<=b\/b∈ts))
section
variable{P:Program}{Γ:lY}{Q:Exit->St->Prop}{st:St}{κ κ':Nat->Option Value}{Θ Θ':Nat->Nat}{a:Act}{w w':World}{all:Array Oper}{rest:List Oper}
theorem vK.Ho{cs:Array Value}{ds:aG}{bs ts us:aH}(h:vK w (.agg cs) (.agg ds) bs ts us):lM w cs.toList ds bs ts us:=by
 generalize hv:Value.agg cs=v at h;cases h with
 |cell h=>
  cases h with
  |pure h=>
   cases h with
   |agg l _ _ h=>cases hv;simpa using lM.sx h
 |agg l _ _ _ _ h=>cases hv;simpa using h
theorem A7.Ho{cs:Array Value}{ds:aG}{bs:aH}(h:A7 w κ (.agg cs) (.agg ds) bs):dA w κ cs.toList ds bs:=by
 generalize hv:Value.agg cs=v at h;cases h with
 |cell h=>
  cases h with
  |pure h=>
   cases h with
   |agg l _ _ h=>cases hv;simpa using dA.sx h
 |agg l _ _ h=>cases hv;simpa using h
theorem tj.shown{v:Value}{d:D}{bs ts us:aH}(h:tj w v d bs ts us):∃b,Rd w v d.K5 b:=by
 cases h with
 |pure h=>
  have e:d.K5=d:=by cases h<;>rfl
  exact⟨_,e.symm▸h⟩
 |fr e sz rows cs ns h1 h2 h3 h4 h5=>exact⟨_,kN h2 h3 h4.rd⟩
 |fs e sz rows cs ns h1 h2 h3 h4 h5=>exact⟨_,kN h2 h3 h4⟩
theorem lM.shown{vs:aq}{ds:aG}{bs ts us:aH}(h:lM w vs ds bs ts us):∃b,gG w vs (ds.map D.K5) b:=by
 induction h with
 |nil=>exact⟨_,.nil⟩
 |cons v vs d ds b1 b2 t1 t2 u1 u2 h1 h2 _ ih=>
  obtain⟨b,q⟩:=h2.shown;obtain⟨b',q'⟩:=ih;exact⟨_,.cons _ _ _ _ _ _ h1 q q'⟩
theorem vK.shown{v:Value}{d:D}{bs ts us:aH}(h:vK w v d bs ts us):n7 d.K6:=by
 cases h with
 |cell h=>
  by_cases lE:∃ds,d=.agg ds
  ·obtain⟨ds,rfl⟩:=lE;cases h with
   |pure h=>cases h with
    |agg cs _ _ h=>
     obtain⟨b,q⟩:=(lM.sx h).shown;exact⟨w,_,_,.agg _ _ _ q⟩
  ·have e:d.K6=d.K5:=by cases d<;>first|rfl|exact absurd ⟨_,rfl⟩ lE
   rw[e];obtain⟨b,q⟩:=h.shown;exact⟨w,_,_,q⟩
 |agg cs ds bs ts us h=>
  obtain⟨b,q⟩:=h.shown;exact⟨w,_,_,.agg _ _ _ q⟩
theorem qi.shown{vs:aq}{ds:aG}{bs ts us:aH}(h:qi w vs ds bs ts us):∀d∈ds.map D.K6,n7 d:=by
 induction h with
 |nil=>intro d hd;cases hd
 |cons v vs d ds b1 b2 t1 t2 u1 u2 h2 _ ih=>
  intro x hx;rcases aY.1 hx with rfl|hx
  ·exact h2.shown
  ·exact ih x hx
def zQ(L:ic)(b:Nat):Option Nat:=ix (fun x:Fs=>x.v.ownBlock==some b) L
def l9(L:ic)(b:Nat):Option Nat:=ix (fun x:Fs=>x.ns.contains b) L
theorem xy{L:ic}(hnd:(L.flatMap Fs.bl).Nodup){i:Nat}{x:Fs}{b:Nat}(hi:L[i]?=some x)(hb:x.v.ownBlock=some b):zQ L b=some i:=
 uh hi (by simp[hb]) (fun j y hj hy=>by
  simp only[bX]at hy;exact mo hnd j i y x b hj hi (by simp[Fs.bl,hy]) (by simp[Fs.bl,hb]))
theorem FB{L:ic}{b i:Nat}(h:zQ L b=some i):b∈L.flatMap Fs.ts:=by
 obtain⟨x,hx,hp⟩:=p9 h;exact bV.2 ⟨x,aD hx,by simp only[bX]at hp;simp[Fs.ts,hp]⟩
theorem nW{L:ic}{b:Nat}(h:b∉L.flatMap Fs.ts):zQ L b=none:=by
 cases hb:zQ L b with
 |none=>rfl
 |some i=>exact absurd (FB hb) h
theorem sD{L:ic}(hnd:(L.flatMap Fs.bl).Nodup){i:Nat}{x:Fs}{b:Nat}(hi:L[i]?=some x)(hb:b∈x.ns):l9 L b=some i:=
 uh hi (by simpa using hb) (fun j y hj hy=>mo hnd j i y x b hj hi (by simp only[Fs.bl];exact aF.2 (.inr (by simpa using hy))) (by simp only[Fs.bl];exact aF.2 (.inr hb)))
theorem lZ{L:ic}{b i:Nat}(h:l9 L b=some i):∃x,L[i]?=some x/\b∈x.ns:=by
 obtain⟨x,hx,hp⟩:=p9 h;exact⟨x,hx,by simpa using hp⟩
theorem tr{L:ic}{b:Nat}(h:b∈L.flatMap Fs.ts):b∈L.flatMap Fs.bl:=by
 obtain⟨x,hx,rG⟩:=bV.1 h;exact bV.2 ⟨x,hx,by simp only[Fs.bl,Fs.ts]at rG⊢;exact aF.2 (.inl rG)⟩
theorem kR{L:ic}{i b:Nat}{x:Fs}(h:L[i]?=some x)(hb:b∈x.ns):b∈L.flatMap Fs.bl:=
 bV.2 ⟨x,aD h,by simp only[Fs.bl];exact aF.2 (.inr hb)⟩
theorem DB{L:ic}(hnd:(L.flatMap Fs.bl).Nodup):∀x∈L,x.bl.Nodup:=by
 induction L with
 |nil=>intro x hx;cases hx
 |cons z r ih=>
  intro x hx;simp only[gD]at hnd;obtain⟨n1,n2,_⟩:=aZ.1 hnd;rcases aY.1 hx with rfl|hx
  ·exact n1
  ·exact ih n2 x hx
theorem sQ{L:ic}(hnd:(L.flatMap Fs.bl).Nodup){i b:Nat}{x:Fs}(h:L[i]?=some x)(hb:b∈x.ns):b∉L.flatMap Fs.ts:=by
 intro ht;obtain⟨y,hy,hby⟩:=bV.1 ht;obtain⟨j,hj⟩:=fY hy;have:=mo hnd j i y x b hj h (by simp only[Fs.bl,Fs.ts]at hby⊢;exact aF.2 (.inl hby)) (by simp only[Fs.bl];exact aF.2 (.inr hb));subst this;rw[hj]at h;cases h;have yd:=DB hnd x hy;simp only[Fs.bl]at yd;exact(aZ.1 yd).2.2 b hby b hb rfl
theorem xe{L:ic}(hnd:(L.flatMap Fs.bl).Nodup){i:Nat}{x:Fs}(h:L[i]?=some x):x.ns.Nodup:=by
 have:=DB hnd x (aD h);simp only[Fs.bl]at this;exact(aZ.1 this).2.1
def Hi(P:Program)(fn:Func)(v0:Value)(cells':aG)(d:D)(e:Exit)(st:St):Prop:=
 (e=.ret\/e=.normal)/\∃nz Lu C8 es ms qs,w9 P st fn.results.toList=some Lu/\st.H[0]?=some (.B1 C8 v0)/\
  qO st.H nz (.agg C8::Lu)=some (.agg cells'::es,ms,qs)/\ms.Nodup/\qs.Nodup/\(∀m∈qs,m∉ms)/\zK es=d
theorem Hi.out{fn:Func}{v0:Value}{cells':aG}{d:D}{e:Exit}{a':Act}{w':World}{B2:St}{κ0:Nat->Option Value}{Θ0:Nat->Nat}(hs0:cN Γ B2 κ0 Θ0 a' w')(Nd:Hi P fn v0 cells' d e B2):
 (e=.ret\/e=.normal)/\a'.defers=[]/\FL Γ w'/\∃v g cs' T b2 t2 u2 b3 t3 u3,(results fn a'.tmps).run P w'=.ok v w'/\G0 v0=.pointer (some ⟨g,0,none⟩)/\w'.heap[g]?=some (.cells cs' T (0,0))/\(∀c,uj v0=some c->cs'.size=3/\cs'[0]?=some c)/\
  qZ w' v d b2 t2 u2/\lM w' cs'.toList cells' b3 t3 u3/\(∀b∈b3++b2,(b<Γ.W0.heap.size->¬Γ.X b->Γ.Θ0 b=0)/\b≠g/\b∉t3++t2)/\(u3++u2).Nodup/\
  (∀b∈u3++u2,FJ Γ b/\b≠g/\Wr w' b)/\∀b∈t3++t2,b∈u3++u2/\oy Γ b:=by
 obtain⟨ue,nz,Lu,C8,es,ms,qs,hres,PB,M4,BE,zX,Kg,rfl⟩:=Nd;obtain⟨ρ0,Nh⟩:=hs0.kx;have tS:=oA M4;obtain⟨Θ1,ρ1,hs1,hu1,hm1,hz1,HG⟩:=cN.xa ms hs0 Nh BE (fun m hm=>by
  obtain⟨e,sz,rows,hH⟩:=tS.1 m hm;exact⟨_,e,sz,rows,hH,rfl⟩)
 obtain⟨vs,bs',m1,m2,m3,m4,m5⟩:=vI hs0 hres;have hq:∀m e sz rows,B2.H[m]?=some (.row .uq e sz rows)->∃v cs ns,κ0 m=some v/\0<sz/\(∀r∈rows,r.length=sz)/\w'.ownsRow 0 e sz v rows.length cs/\ng w' (mX e) 0 cs rows.flatten ns/\ns.Nodup/\(∀b∈ns,ρ1 b=m+1)/\∀g,v.ownBlock=some g->Θ1 g=m+2:=by
  intro m e sz rows hH;have hnm:m∉ms:=fun hm=>by
   obtain⟨e',sz',cU,vG⟩:=tS.1 m hm;rw[hH]at vG;cases vG
  have C9:(kill B2.H ms)[m]?=some (.row .uq e sz rows):=by rw[cR hnm];exact hH
  obtain⟨v,cs,ns,r1,r2,r3,r4,r5⟩:=hu1.rows m e sz rows C9;obtain⟨p1,p2,v2,_,_,p3,_,_,p4,_⟩:=hs1.ob m _ C9;rw[r1]at p3;cases p3;exact⟨v,cs,ns,r1,p1,p2,r2,r3,r4,r5,p4⟩
 have UF:0∉ms:=fun hm=>by
  obtain⟨e',sz',cU,vG⟩:=tS.1 0 hm;rw[PB]at vG;cases vG
 have UG:0∉qs:=fun hm=>by
  obtain⟨_,e',sz',cU,vG⟩:=tS.2 0 hm;rw[PB]at vG;cases vG
 obtain⟨Oe,g,cs',T,hk0,hg,CI,bb,NM,hbz⟩:=hs1.ob 0 _ (show(kill B2.H ms)[0]?=_ by rw[cR UF];exact PB);have PS:∀c,uj v0=some c->cs'.size=3/\cs'[0]?=some c:=fun c hc=>Oe.2 c hc g cs' T hk0 hg
 have Oe:=Oe.1;have e0:G0 v0=.pointer (some ⟨g,0,none⟩):=by rw[Oe]at hk0;exact mP hk0
 have CI:Θ1 g=2:=CI;have qJ:∀m e sz rows,m∉ms->B2.H[m]?=some (.row .sh e sz rows)->∃v cs ns,κ0 m=some v/\0<sz/\(∀r∈rows,r.length=sz)/\w'.ownsRow 0 e sz v rows.length cs/\gG w' cs rows.flatten ns/\(∀b∈ns,Θ1 b=0)/\∀g,v.ownBlock=some g->Θ1 g=m+2:=by
  intro m e sz rows hnm hH;obtain⟨p1,p2,v2,cs,ns,p3,p4,p5,p6,p7⟩:=hs1.ob m _ (show(kill B2.H ms)[m]?=_ by rw[cR hnm];exact hH);exact⟨v2,cs,ns,p3,p1,p2,p4,p5,p7,p6⟩
 obtain⟨c,tt,uu,ud,qo⟩:=rX (w:=w') (vs:=.agg cs'::vs) (fun b hb=>(hu1.free b hb).1) hq qJ hs0.j9 M4 Kg zX (by simp;omega) (fun i d hd=>by
  cases i with
  |zero=>
   simp at hd;subst hd;have:=A7.agg _ _ _ NM;exact⟨_,bb,rfl,.v (by simpa using this),hbz⟩
  |succ i=>
   obtain⟨v,b,k1,k2,k3⟩:=m4 i d (by simpa using hd);exact⟨v,b,by simpa using k1,k2,fun x hx=>hz1 x (m5 x (k3 x hx))⟩) hm1
 cases ud with
 |cons _ _ _ _ b3 b2 t3 t2 u3 u2 I7 mM=>
 have CD:∃v,(results fn a'.tmps).run P w'=.ok v w'/\qZ w' v (zK es) b2 t2 u2:=by
  have hrun:(results fn a'.tmps).run P w'=.ok (if h:vs.toArray.size=1 then vs.toArray[0]else .tuple vs.toArray) w':=by
   rw[results_eq,jM];simp[m1]
  cases mM with
  |nil=>exact⟨.tuple #[],by simpa using hrun,.fy [] [] [] [] [] .nil⟩
  |cons v vs d es b1 b2 t1 t2 u1 u2 hv mM=>
   cases mM with
   |nil=>
    simp only[dw];exact⟨v,by simpa using hrun,.v hv⟩
   |cons v2 vs d2 es b3 b4 t3 t4 u3 u4 hv2 mM=>exact⟨.tuple (v::v2::vs).toArray,by simpa using hrun,.fy _ _ _ _ _ (.cons _ _ _ _ _ _ _ _ _ _ hv (.cons _ _ _ _ _ _ _ _ _ _ hv2 mM))⟩
 obtain⟨v,IS,DR⟩:=CD;have uf:∀b∈t3++t2,Wr w' b:=by
  intro b hb;rcases aF.1 hb with hb|hb
  ·exact A9 I7 b hb
  ·exact A8 DR b hb
 refine⟨ue,hs0.defers,hs0.stays,v,g,cs',T,b2,t2,u2,b3,t3,u3,IS,e0,hg,PS,DR,I7.Ho,fun b hb=>⟨fun hlt hx=>?_,fun e=>?_,fun ht=>?_⟩,qo.nd,fun b hb=>?_,fun b hb=>?_⟩
 ·have:=qo.zero b hb;rw[<-(hs1.old b hlt hx).1];exact this
 ·have:=qo.zero b hb;subst e;omega
 ·obtain⟨⟨m,_,hΘ⟩,_⟩:=qo.top b ht;have:=qo.zero b hb;omega
 ·rcases qo.mem b hb with h|⟨m,hm,hρ⟩
  ·obtain⟨⟨m,hm,hΘ⟩,_⟩:=qo.top b h;refine⟨.inl (hs1.mine b (by omega)),fun e=>?_,uf b h⟩;subst e;rw[CI]at hΘ;have:m=0:=by omega
   subst this;exact UG hm
  ·have:=hu1.free b (by omega);refine⟨this.2.1,fun e=>?_,this.2.2⟩;have h0:=this.1;subst e;omega
 ·obtain⟨⟨m,hm,hΘ⟩,h2⟩:=qo.top b hb;exact⟨h2,hs1.mine b (by omega)⟩
theorem sA.len{vs:aq}{ds:aG}{bs:aH}(h:sA w κ vs ds bs):vs.length=ds.length:=by
 induction h with
 |nil=>rfl
 |cons v vs d ds b1 b2 h1 _ ih=>simp[ih]
def Ox(Γ:lY)(u:Value)(rows:List aG):Prop:=
 (∀b,¬Γ.U b)/\∃c bs,uj u=some c/\Rd Γ.W0 c (.sl rows) bs/\∀b∈bs,b<Γ.W0.heap.size/\¬Γ.X b/\Γ.Θ0 b=0
theorem jB.of{f:FuncId}{fn:Func}{c:Code}{cells cells' oO ds Cr:aG}{obs:ai}{d:D}(hf:P.funcs[f]?=some fn)(hb:fn.body=some c)(hn:(fn.name== "runtime.NumGoroutine")=false)
 (hI:rB 1 (.agg cells::ds)=(.agg oO::Cr,obs)) (hl:Cr.length+1<=fn.ntmps)
 (h:(∀x∈(D.agg cells::ds).map D.K6,n7 x)->∀(v0:Value) (Γ:lY),Γ.nt=fn.ntmps->(obs=[]->oO.length=3->∀rows,oO[0]?=some (.sl rows)->Ox Γ v0 rows)->AW P Γ c (Hi P fn v0 cells' d) ⟨pV 0 (.ptr 0 0::Cr),.B1 oO v0::obs⟩):jB P f cells cells' ds d:=by
 refine⟨⟨fn,hf,by simp[hb],hn⟩,?_⟩;intro w Θ g cs T args bs ts us hvs hg hargs hz hown h1 hg1 hts hnd lF;have Eh:=hargs.shown;obtain⟨L,q1,q2,rfl,rfl,q6,q5⟩:=hargs.inst 1;rw[hI]at q1 q5;have q1:L.map Fs.ob=obs:=q1;refine calls_of_wp hf hb ?_;let v0:Value:=.pointer (some ⟨g,0,none⟩)
 let u0:Value:=if cs.size=3 then .tuple ⟨[v0,cs.toList.headD undef]⟩else v0
 let κ0:Nat->Option Value:=fun i=>if i=0 then some v0 else(L[i-1]?).map Fs.v
 let Θ0:Nat->Nat:=fun b=>if b=g then 2 else match zQ L b with|some i=>i+3|none=>Θ b
 let ρ0:Nat->Nat:=fun b=>match l9 L b with|some i=>i+2|none=>0
 let Γ:lY:=⟨w,Θ0,fun b=>b=g\/b∈L.flatMap Fs.ts,fn.ntmps,fun b=>b∈L.flatMap Fs.bl,hvs⟩
 have TH:g<w.heap.size:=(aX.1 hg).1;have hk0:κ0 0=some v0:=rfl;have NU:∀i x,L[i]?=some x->κ0 (i+1)=some x.v:=fun i x hx=>by simp[κ0,hx]
 have hnm:Names κ0 1 L:=fun i x hx=>by rw[Nat.add_comm];exact NU i x hx
 obtain⟨P6,hrd,hb0⟩:=q5 κ0 hnm;have hlen:=hrd.len;have M5:∀(i:Nat) x b,L[i]?=some x->x.v.ownBlock=some b->b∈L.flatMap Fs.ts:=fun i x b hx hb'=>bV.2 ⟨x,aD hx,by simp[Fs.ts,hb']⟩
 have Ej:∀(i:Nat) x b,L[i]?=some x->x.v.ownBlock=some b->Θ0 b=i+3:=by
  intro i x b hx hb';have:=(hts b (M5 i x b hx hb')).2.2;simp only[Θ0,xy hnd hx hb'];rw[ar this]
 have DU:∀b,Θ b=0->Θ0 b=0:=by
  intro b h0;have e1:b≠g:=fun e=>by subst e;omega
  have e2:b∉L.flatMap Fs.ts:=fun e=>by have:=(hts b e).1;omega
  simp only[Θ0,nW e2];rw[ar e1,h0]
 have IN:∀(i:Nat) x b,L[i]?=some x->b∈x.ns->Θ0 b=0:=fun i x b hx hb'=>DU b ((lF b (kR hx hb')).1 (sQ hnd hx hb'))
 have qL:∀b,Θ0 b≠Θ b->b=g\/b∈L.flatMap Fs.ts:=by
  intro b hne;by_cases e:b=g
  ·exact .inl e
  ·refine .inr (cO fun ht=>hne ?_);simp only[Θ0,nW ht];rw[ar e]
 have Eb:∀(j:Nat) o,obs[j]?=some o->∃x,L[j]?=some x/\o=x.ob:=by
  intro j o hj;rw[<-q1,b9]at hj;cases hx:L[j]? with
  |none=>simp[hx]at hj
  |some x=>simp[hx]at hj;exact⟨x,rfl,hj.symm⟩
 have IQ:obs.length=L.length:=by rw[<-q1];simp
 have I7:∃b',dA w κ0 cs.toList oO b'/\∀b∈b',Θ0 b=0:=by
  obtain⟨v,b',k1,k2,k3⟩:=hrd.at (i:=0) (d:=.agg oO) rfl;simp at k1;subst k1;exact⟨b',k2.Ho,fun b hb'=>DU b (hz b (hb0 b (k3 b hb')))⟩
 have hpt:G0 u0=v0:=by simp only[u0];split<;>rfl
 have hkp:∀c,uj u0=some c->cs.size=3/\cs[0]?=some c:=by
  intro c hc;simp only[u0]at hc;split at hc
  ·rename_i h3;refine⟨h3,?_⟩;simp only[uj,aQ]at hc;have HD:cs.toList.length=3:=by simpa using h3
   rw[<-gh];cases hcl:cs.toList with
   |nil=>rw[hcl]at HD;simp at HD
   |cons x xs=>rw[hcl]at hc;simp only[List.headD_cons]at hc;subst hc;rfl
  ·cases hc
 have PV:cs.size=3->∃c,uj u0=some c/\cs[0]?=some c:=by
  intro h3;have:uj u0=some (cs.toList.headD undef):=by simp only[u0];rw[bG h3];rfl
  exact⟨_,this,(hkp _ this).2⟩
 have hs:cN Γ ⟨pV 0 (.ptr 0 0::Cr),.B1 oO u0::obs⟩ κ0 Θ0 {tmps:=(v0::args).toArray++Array.replicate (fn.ntmps-(v0::args).toArray.size) undef,defers:=[]} w:=by
  refine⟨rfl,?_,fun i hi=>?_,?_,?_,?_,?_,?_,?_,⟨rfl,rfl,rfl,b8 _,fun _ _ _=>rfl⟩,⟨ρ0,?_,?_,?_⟩⟩
  ·simp only[aR]at hlen;simp[Γ];omega
  ·simp only[aR]at hi;simp only[κ0];rw[ar (by omega),bR (by omega)];rfl
  ·intro id u hu;simp only[κ0]at hu;split at hu
   ·cases hu;rfl
   ·cases hx:L[id-1]? with
    |none=>simp[hx]at hu
    |some x=>simp[hx]at hu;subst hu;exact(q2 x (aD hx)).2.2.2.2
  ·intro t;rw[xY];simp only[oI,th,s8];have Fg:∀v,(v0::args)[t]?=some v->((v0::args).toArray++Array.replicate (fn.ntmps-(v0::args).toArray.size) undef).getD t undef=v:=by
    intro v hv;have hlt:=(aB.1 hv).1;rw[bM,dO (by simpa using hlt)];simp only[eH,hv,lX]
   cases t with
   |zero=>
    refine⟨[],?_,by simp⟩;rw[Fg v0 rfl];exact .v (.cell (.ptr 0 0 g hk0))
   |succ s=>
    rw[fX];cases hd:Cr[s]? with
    |none=>exact⟨[],.of (.any _),by simp⟩
    |some x=>
     obtain⟨v,b',k1,k2,k3⟩:=hrd.at (i:=s+1) (d:=x) (by simpa using hd);rw[Fg v (by simpa using k1)];exact⟨b',.v k2,fun b hb'=>DU b (hz b (hb0 b (k3 b hb')))⟩
  ·intro j o hj;cases j with
   |zero=>
    simp at hj;subst hj;obtain⟨b',k1,k2⟩:=I7;refine⟨⟨by rw[hpt];exact hk0,fun c hc g2 Qx T2 hk2 Ff=>?_⟩,g,cs,T,hk0,hg,by simp[Θ0],b',k1,k2⟩;have e3:Value.pointer (some ⟨g,0,none⟩)=.pointer (some ⟨g2,0,none⟩):=mP (hk0.symm.trans hk2);cases e3;rw[hg]at Ff;cases Ff;exact hkp c hc
   |succ j=>
    obtain⟨x,hx,rfl⟩:=Eb j o (by simpa using hj);exact Fs.rel (q2 x (aD hx)) (NU j x hx) (fun b hb'=>Ej j x b hx hb') (fun b hb'=>IN j x b hx hb') fun hs' b hb'=>DU b (hz b (q6 x (aD hx) hs' b hb'))
  ·intro b hb';by_cases e:Θ0 b=Θ b
   ·exact hown b (by rw[<-e];exact hb')
   ·rcases qL b e with rfl|ht
    ·exact TH
    ·exact hown b (by have:=(hts b ht).1;omega)
  ·intro b hlt hx;refine⟨rfl,?_⟩;have e:Θ0 b=Θ b:=cO fun e=>hx (qL b e)
   rw[e];exact h1 b
  ·intro b hb';refine .inr (qL b fun e=>?_);have:=h1 b;omega
  ·intro b hb';cases Fe:l9 L b with
   |none=>simp[ρ0,Fe]at hb'
   |some i=>
    obtain⟨x,hx,rG⟩:=lZ Fe;exact⟨IN i x b hx rG,.inr (kR hx rG),(lF b (kR hx rG)).2⟩
  ·intro id e sz rows hj;cases id with
   |zero=>simp at hj
   |succ j=>
    obtain⟨x,hx,GX⟩:=Eb j _ (by simpa using hj);obtain⟨hsh,rfl,rfl,rfl⟩:=Fs.Au GX.symm;have p4:=(q2 x (aD hx)).uq hsh;obtain⟨p1,p2,p3,_,_⟩:=q2 x (aD hx);exact⟨x.v,x.cs,x.ns,NU j x hx,p3,p4,xe hnd hx,fun b hb'=>by simp[ρ0,sD hnd hx hb']⟩
  ·intro id o hj;cases id with
   |zero=>simp at hj;subst hj;trivial
   |succ j=>
    obtain⟨x,hx,GX⟩:=Eb j _ (by simpa using hj);subst GX;exact Fs.plain x
 have hold:obs=[]->oO.length=3->∀rows,oO[0]?=some (.sl rows)->Ox Γ u0 rows:=by
  intro ho HD rows HF;have hL:L=[]:=bn (by rw[<-IQ,ho];rfl);refine⟨fun b hb'=>by simp[Γ,hL]at hb',?_⟩;obtain⟨b',k1,k2⟩:=I7;obtain⟨v,b1,p1,_,p3,p4⟩:=k1.at HF;obtain⟨c,q6,q7⟩:=PV (by have:=k1.length;rw[HD]at this;simpa using this);have:v=c:=by
   rw[gh,q7]at p1;cases p1;rfl
  subst this;have Pf:Rd w v (.sl rows) b1:=by cases p3 with|pure h=>exact h
  refine⟨v,b1,q6,Pf,fun b hb'=>⟨Pf.lt b hb',fun hx=>?_,k2 b (p4 b hb')⟩⟩;have h0:=k2 b (p4 b hb');rcases hx with rfl|hx
  ·simp[Θ0]at h0
  ·simp[hL]at hx
 refine wp_mono (h Eh u0 Γ rfl hold _ _ _ _ hs) ?_;rintro x a' w' ⟨B2,κ1,Θ1,hs0,Nd⟩;obtain⟨ue,hdf,hst,v,g',cs',T',b2,t2,u2,b3,t3,u3,hrun,e0,hg',Uj,hres,Rf,Ra,vm,n8,ht'⟩:=Hi.out hs0 Nd;obtain rfl:g=g':=by
  have e1:Value.pointer (some ⟨g,0,none⟩)=.pointer (some ⟨g',0,none⟩):=hpt.symm.trans e0;cases e1;rfl
 have post:a'.defers=[]/\∃v',(results fn a'.tmps).run P w'=.ok v' w'/\∃v cs' T' b2 t2 u2 b3 t3 u3,Ending.returned v'=.returned v/\w'.os=w.os/\w'.tape=w.tape/\w'.output=w.output/\w.heap.size<=w'.heap.size/\
  (∀b,b<w.heap.size->b≠g->b∉L.flatMap Fs.ts->w'.heap[b]?=w.heap[b]?)/\w'.heap[g]?=some (.cells cs' T' (0,0))/\(cs.size=3->cs'.size=3/\cs'[0]?=cs[0]?)/\
  qZ w' v d b2 t2 u2/\lM w' cs'.toList cells' b3 t3 u3/\(∀b∈b3++b2,(b<w.heap.size->Θ b=0\/b∈L.flatMap Fs.ts)/\b≠g/\b∉t3++t2)/\(u3++u2).Nodup/\
  (∀b∈u3++u2,(w.heap.size<=b\/b∈L.flatMap Fs.bl)/\b≠g/\Wr w' b)/\∀b∈t3++t2,b∈u3++u2/\(w.heap.size<=b\/b∈L.flatMap Fs.ts):=by
  refine⟨hdf,v,hrun,v,cs',T',b2,t2,u2,b3,t3,u3,rfl,hst.os,hst.tape,hst.output,hst.size,fun b hlt hne hnt=>hst.block b hlt (fun hx=>hx.elim hne hnt),hg',(fun h3=>by obtain⟨c,q6,q7⟩:=PV h3;obtain⟨q8,q9⟩:=Uj c q6;exact⟨q8,q9.trans q7.symm⟩),hres,Rf,fun b hb'=>?_,vm,fun b hb'=>?_,fun b hb'=>?_⟩
  ·obtain⟨k1,k2,k3⟩:=Ra b hb';refine⟨fun hlt=>?_,k2,k3⟩;by_cases ht:b∈L.flatMap Fs.ts
   ·exact .inr ht
   ·refine .inl ?_;have:=k1 hlt (fun hx=>hx.elim k2 ht);have e:Θ0 b=Θ b:=cO fun e=>(qL b e).elim k2 ht
    rw[<-e];exact this
  ·obtain⟨k1,k2,k3⟩:=n8 b hb';refine⟨?_,k2,k3⟩;rcases k1 with(k1|k1|k1)|k1
   ·exact .inl k1
   ·exact absurd k1 k2
   ·exact .inr (tr k1)
   ·exact .inr k1
  ·obtain⟨k1,k2⟩:=ht' b hb';refine⟨k1,?_⟩;have:=(n8 b k1).2.1;rcases k2 with k2|k2|k2
   ·exact .inl k2
   ·exact absurd k2 this
   ·exact .inr k2
 rcases ue with rfl|rfl
 ·exact post
 ·exact post
theorem HU{o:Oper}{f t id:Nat}{xs:Array Operand}{ty:Array TypeId}{x0:Operand}{xr:List Operand}{ob:Ob}{yN cells cells' ds:aG}{d:D}{nz:List (List (Option (Nat×Nat)))}{ms qs:aH}
 (hop:o.op=.call {callee:=.value (.func f),args:=xs,argTypes:=ty}) (hd:o.dst=some t) (hg:o.guard=none) (ht:t<Γ.nt)
 (hxs:xs.toList=x0::xr) (hx0:st.ev x0=.ptr id 0) (hH:st.H[id]?=some ob) (pK:ob.FW=some yN)
 (ue:qO st.H nz (.agg yN::xr.map st.ev)=some (.agg cells::ds,ms,qs)) (BE:ms.Nodup) (zX:qs.Nodup) (Kg:∀m∈qs,m∉ms) (iM:jB P f cells cells' ds d)
 (h:AO P Γ all rest Q ⟨(t,(ir (st.H.length+(iN st.H.length cells').2.length) d).1)::st.σ,
  (kill st.H (ms++qs)).set id (ob.re (iN st.H.length cells').1)++((iN st.H.length cells').2++(ir (st.H.length+(iN st.H.length cells').2.length) d).2)⟩):AO P Γ all (o::rest) Q st:=by
 intro κ Θ a w hs;have tS:=oA ue;obtain⟨ρ,hu⟩:=hs.kx;obtain⟨Θ1,ρ1,hs1,hu1,hm1,hz1,HG⟩:=cN.xa ms hs hu BE (fun m hm=>by
  obtain⟨e,sz,rows,hH⟩:=tS.1 m hm;exact⟨_,e,sz,rows,hH,rfl⟩)
 have GV:id<st.H.length:=(aB.1 hH).1;have TJ:∀k e sz rows,st.H[id]?≠some (.row k e sz rows):=fun k e sz rows e1=>by rw[hH]at e1;cases e1;cases pK
 have Rx:id∉ms:=fun hm=>by obtain⟨e',sz',cU,vG⟩:=tS.1 id hm;exact TJ _ _ _ _ vG
 have Ry:id∉qs:=fun hm=>by obtain⟨_,e',sz',cU,vG⟩:=tS.2 id hm;exact TJ _ _ _ _ vG
 have C9:(kill st.H ms)[id]?=some ob:=by rw[cR Rx];exact hH
 have NZ:=hs1.ob id _ C9;obtain⟨g,cs,T,hk0,GS,CI,bb,NM,hbz⟩:=NZ.cs pK;have TH:g<w.heap.size:=(aX.1 GS).1;have hq:∀m e sz rows,st.H[m]?=some (.row .uq e sz rows)->∃v cs ns,κ m=some v/\0<sz/\(∀r∈rows,r.length=sz)/\w.ownsRow 0 e sz v rows.length cs/\ng w (mX e) 0 cs rows.flatten ns/\ns.Nodup/\(∀b∈ns,ρ1 b=m+1)/\∀g,v.ownBlock=some g->Θ1 g=m+2:=by
  intro m e sz rows hH;have hnm:m∉ms:=fun hm=>by
   obtain⟨e',sz',cU,vG⟩:=tS.1 m hm;rw[hH]at vG;cases vG
  have C9:(kill st.H ms)[m]?=some (.row .uq e sz rows):=by rw[cR hnm];exact hH
  obtain⟨v,cs,ns,r1,r2,r3,r4,r5⟩:=hu1.rows m e sz rows C9;obtain⟨p1,p2,v2,_,_,p3,_,_,p4,_⟩:=hs1.ob m _ C9;rw[r1]at p3;cases p3;exact⟨v,cs,ns,r1,p1,p2,r2,r3,r4,r5,p4⟩
 have qJ:∀m e sz rows,m∉ms->st.H[m]?=some (.row .sh e sz rows)->∃v cs ns,κ m=some v/\0<sz/\(∀r∈rows,r.length=sz)/\w.ownsRow 0 e sz v rows.length cs/\gG w cs rows.flatten ns/\(∀b∈ns,Θ1 b=0)/\∀g,v.ownBlock=some g->Θ1 g=m+2:=by
  intro m e sz rows hnm hH;obtain⟨p1,p2,v2,cs,ns,p3,p4,p5,p6,p7⟩:=hs1.ob m _ (show(kill st.H ms)[m]?=_ by rw[cR hnm];exact hH);exact⟨v2,cs,ns,p3,p1,p2,p4,p5,p7,p6⟩
 obtain⟨bs,ts,us,ud,qo⟩:=rX (w:=w) (vs:=.agg cs::xr.map a.eval) (fun b hb=>(hu1.free b hb).1) hq qJ hs.j9 ue Kg zX (by simp) (fun i d hd=>by
  cases i with
  |zero=>
   simp at hd;subst hd;have:=A7.agg _ _ _ NM;exact⟨_,bb,rfl,.v (by simpa using this),hbz⟩
  |succ i=>
   rw[fX,b9]at hd;cases hx:xr[i]? with
   |none=>rw[hx]at hd;cases hd
   |some x=>
    rw[hx]at hd;simp only[bZ,aQ]at hd;subst hd;obtain⟨b,r,z⟩:=hs.ev x;exact⟨a.eval x,b,by simp[hx],r,fun y hy=>hz1 y (z y hy)⟩) hm1
 let Θc:Nat->Nat:=fun b=>if Θ1 b=0 then 0 else 1
 have qL:∀b,Θc b=0↔Θ1 b=0:=fun b=>by simp only[Θc];split<;>simp_all
 have xU:∀b∈ts,∃m∈qs,Θ1 b=m+2:=fun b hb=>(qo.top b hb).1
 have SU:∀b∈ts,b≠g:=fun b hb e=>by
  obtain⟨m,hm,hΘ⟩:=xU b hb;subst e;rw[CI]at hΘ;exact Ry (by
   have:id=m:=by omega
   rw[this];exact hm)
 have Ei:B0 w fun b=>b=g\/b∈ts:=by
  obtain⟨B,v1,v2⟩:=hs1.OO;refine⟨B,v1,fun b hB=>⟨(v2 b hB).2.1,fun hb'=>?_⟩⟩;have hm:oy Γ b:=by
   rcases hb' with rfl|hb'
   ·exact hs1.mine b (by omega)
   ·obtain⟨m,hm,hΘ⟩:=xU b hb';exact hs1.mine b (by omega)
  rcases hm with q|q
  ·have:=(v2 b hB).1;omega
  ·exact(v2 b hB).2.2 q
 have hwr:∀b∈us,Wr w b:=by
  intro b hb;rcases qo.mem b hb with h|⟨m,hm,hρ⟩
  ·exact yJ ud b h
  ·exact(hu1.free b (by omega)).2.2
 have hc:=iM.2 w Θc g cs T (xr.map a.eval) bs ts us Ei GS ud (fun b hb=>(qL b).2 (qo.zero b hb)) (fun b hb=>hs1.own b (fun e=>hb ((qL b).2 e))) (fun b=>by simp only[Θc];split<;>omega)
  (by simp only[Θc];rw[ar (by omega)]) (fun b hb=>by
   obtain⟨m,hm,hΘ⟩:=xU b hb;exact⟨by simp only[Θc];rw[ar (by omega)],(qo.top b hb).2,SU b hb⟩) qo.nd (fun b hb=>⟨fun hnt=>by
   rcases qo.mem b hb with h|⟨m,hm,hρ⟩
   ·exact absurd h hnt
   ·exact(qL b).2 (hu1.free b (by omega)).1,hwr b hb⟩)
 refine wpList_plain hg fun K hK=>?_
 unfold Oper.wp;rw[nH hop iM.1,Oper.upon_enter];have e0:xs.map a.eval=(.pointer (some ⟨g,0,none⟩)::xr.map a.eval).toArray:=by
  obtain⟨b0,r0,_⟩:=hs.ev x0;rw[hx0]at r0;obtain⟨g',hk',hv⟩:=r0.pF;rw[hk0]at hk';cases hk';rw[<-j6,eB,hxs];simp[hv]
 rw[e0];refine hc.mono ?_;rintro x w' ⟨v,cs',T',b2,t2,u2,b3,t3,u3,rfl,k1,k2,k3,k4,Em,kg,MC,Nz,VC,kb,K4,ku,kt⟩;show K (a.put o.dst v) w';rw[hd];let N:=st.H.length
 have hs2:=hs1.forget (id::qs);have RW:(kill st.H ms).length=N:=dH _ _;simp only[RW]at hs2;let Θ2:Nat->Nat:=fun b=>if(id::qs).any (fun m=>Θ1 b==m+2)then N+2 else Θ1 b
 have hs2:cN Γ ⟨st.σ,kill (kill st.H ms) (id::qs)⟩ κ Θ2 a w:=hs2;have AV:∀b,Θ1 b=0->Θ2 b=0:=fun b hb=>by
  simp only[Θ2];rw[ar,hb];intro h;obtain⟨m,_,hm⟩:=bt.1 h;simp[hb]at hm
 have ug:∀b,b=g\/b∈ts->Θ2 b=N+2:=by
  intro b hb;simp only[Θ2];rw[bG];rcases hb with rfl|hb
  ·exact bt.2 ⟨id,by simp,by simp[CI]⟩
  ·obtain⟨m,hm,hΘ⟩:=xU b hb;exact bt.2 ⟨m,by simp[hm],by simp[hΘ]⟩
 have K1:pU Γ (kill (kill st.H ms) (id::qs)) κ Θ2 w ρ1:=by
  refine⟨fun b hb=>?_,fun j e sz rows hj=>?_,fun j o hj=>?_⟩
  ·obtain⟨q1,q2⟩:=hu1.free b hb;exact⟨AV b q1,q2⟩
  ·rcases iv hj with h|⟨_,h⟩
   ·cases h
   ·exact hu1.rows j e sz rows h
  ·rcases iv hj with h|⟨_,h⟩
   ·subst h;trivial
   ·exact hu1.more j o h
 obtain⟨Lb,a1,a2,a3,a4,a6,a5⟩:=VC.inst N;obtain⟨Ld,c1,c2,c3,c4,c6,c5⟩:=Nz.inst (N+(iN N cells').2.length);have RT:Lb.length=(iN N cells').2.length:=by rw[<-a1];simp
 let L:=Lb++Ld
 have Fe:u3++u2=L.flatMap Fs.bl:=by simp[L,a3,c3]
 have SR:t3++t2=L.flatMap Fs.ts:=by simp[L,a4,c4]
 rw[Fe]at K4 ku kt;rw[SR]at kt kb;have CA:∀x∈L,x.ok w':=fun x hx=>by
  rcases aF.1 hx with hx|hx
  ·exact a2 x hx
  ·exact c2 x hx
 have RV:∀x∈L,x.sh=true->∀b∈x.vs,b∈b3++b2:=fun x hx hs' b hb=>by
  rcases aF.1 hx with hx|hx
  ·exact aF.2 (.inl (a6 x hx hs' b hb))
  ·exact aF.2 (.inr (c6 x hx hs' b hb))
 let κ':Nat->Option Value:=fun j=>if j<N then κ j else(L[j-N]?).map Fs.v
 let Θ':Nat->Nat:=fun b=>if b=g then id+2 else match zQ L b with|some i=>N+i+2|none=>if Θ2 b=N+2 then 0 else Θ2 b
 let ρ':Nat->Nat:=fun b=>match l9 L b with|some i=>N+i+1|none=>ρ1 b
 have hgt:g∉L.flatMap Fs.bl:=fun h=>(ku g h).2.1 rfl
 have Pn:Θ' g=id+2:=by simp[Θ']
 have CH:∀(i:Nat) x b,L[i]?=some x->x.v.ownBlock=some b->Θ' b=N+i+2:=by
  intro i x b hx hb;have hb':b∈L.flatMap Fs.ts:=bV.2 ⟨x,aD hx,by simp[Fs.ts,hb]⟩;have hne:b≠g:=fun e=>hgt (e▸tr hb')
  simp only[Θ',xy K4 hx hb];rw[ar hne]
 have qK:∀b,b≠g->b∉L.flatMap Fs.ts->Θ' b=if Θ2 b=N+2 then 0 else Θ2 b:=by
  intro b h1 h2;simp only[Θ',nW h2];rw[ar h1]
 have hzero:∀b,w.heap.size<=b->Θ2 b=0:=fun b hge=>by
  cases h:Θ2 b with
  |zero=>rfl
  |succ m=>exact absurd (hs2.own b (by omega)) (by omega)
 have GY:∀b∈b3++b2,Θ' b=0:=by
  intro b hb;obtain⟨p1,p2,p3⟩:=kb b hb;rw[qK b p2 p3];by_cases hlt:b<w.heap.size
  ·rcases p1 hlt with h|h
   ·rw[AV b ((qL b).1 h)];simp
   ·rw[bG (ug b (.inr h))]
  ·rw[hzero b (by omega)];simp
 have IP:∀(i:Nat) x b,L[i]?=some x->b∈x.ns->Θ' b=0:=by
  intro i x b hx hb;have hmem:=kR hx hb;rw[qK b (ku b hmem).2.1 (sQ K4 hx hb)];rcases(ku b hmem).1 with h|h
  ·rw[hzero b h];simp
  ·rcases qo.mem b h with h|⟨m,hm,hρ⟩
   ·rw[bG (ug b (.inr h))]
   ·rw[AV b (hu1.free b (by omega)).1];simp
 have hn:∀(j:Nat) v,κ j=some v->κ' j=some v:=by
  intro j v hj;have:j<N:=cO fun h=>by rw[hs.jN j (by omega)]at hj;cases hj
  simp only[κ'];rw[bG this];exact hj
 have mY:Names κ' N L:=by
  intro i x hx;simp only[κ'];rw[ar (by omega),cC,hx];rfl
 have IK:∀b∈L.flatMap Fs.ts,oy Γ b:=by
  intro b hb;rcases(kt b hb).2 with h|h
  ·exact .inl (eg hs.base h)
  ·obtain⟨m,hm,hΘ⟩:=xU b h;exact hs1.mine b (by omega)
 have k:eT w w' Θ2 Θ' (N+2):=by
  refine⟨by omega,k1,k2,k3,k4,fun b hlt hne=>Em b hlt (fun e=>hne (ug b (.inl e))) (fun e=>hne (ug b (.inr e))),fun b hlt hne=>?_,fun b hb=>?_⟩
  ·rw[qK b (fun e=>hne (ug b (.inl e))) (fun e=>?_),ar hne];rcases(kt b e).2 with h|h
   ·omega
   ·exact hne (ug b (.inr h))
  ·by_cases e:b=g
   ·subst e;omega
   ·by_cases ht':b∈L.flatMap Fs.ts
    ·obtain⟨x,T,hx⟩:=(ku b (tr ht')).2.2;exact(aX.1 hx).1
    ·rw[qK b e ht']at hb;split at hb
     ·exact absurd rfl hb
     ·exact bw (hs2.own b hb) k4
 have hm:∀b,2<=Θ' b->oy Γ b:=by
  intro b hb;by_cases e:b=g
  ·subst e;exact hs1.mine b (by omega)
  ·by_cases ht':b∈L.flatMap Fs.ts
   ·exact IK b ht'
   ·rw[qK b e ht']at hb;split at hb
    ·omega
    ·exact hs2.mine b hb
 have lF:=hs2.iw k hn K1;have wT:((kill st.H (ms++qs)).set id (ob.re (iN N cells').1)).length=N:=by simp[dH,N]
 have Pz:∀(a_ bs:aH) (H:ai),kill H (a_++bs)=kill (kill H a_) bs:=by
  intro a_
  induction a_ with
  |nil=>intro bs H;rfl
  |cons x a_ ih=>intro bs H;simp only[eC,kill,ih]
 have S8:(iN N cells').2++(ir (N+(iN N cells').2.length) d).2=L.map Fs.ob:=by simp[L,a1,c1]
 have key:∀(j:Nat) y,((kill st.H (ms++qs)).set id (ob.re (iN N cells').1)++L.map Fs.ob)[j]?=some y->(∃i x,j=N+i/\L[i]?=some x/\y=x.ob)\/(j=id/\y=ob.re (iN N cells').1)\/(j≠id/\j<N/\(y=.gone\/(kill (kill st.H ms) (id::qs))[j]?=some y)):=by
  intro j y hj;by_cases hlt:j<N
  ·rw[aS (by rw[wT];exact hlt)]at hj;rcases pG j y hj with⟨rfl,rfl⟩|⟨h1,h2⟩
   ·exact .inr (.inl ⟨rfl,rfl⟩)
   ·refine .inr (.inr ⟨h1,hlt,?_⟩);rcases iv h2 with h|⟨h3,h4⟩
    ·exact .inl h
    ·refine .inr ?_;simp only[aF,yH]at h3;rw[cR (by simp[h1,h3.2]),cR h3.1];exact h4
  ·rw[aV (by omega),wT,b9]at hj;cases hx:L[j-N]? with
   |none=>simp[hx]at hj
   |some x=>simp[hx]at hj;exact .inl ⟨j-N,x,by omega,hx,hj.symm⟩
 have hs':cN Γ ⟨st.σ,(kill st.H (ms++qs)).set id (ob.re (iN N cells').1)++L.map Fs.ob⟩ κ' Θ' a w':=by
  have zE:∀(j:Nat) y,(kill (kill st.H ms) (id::qs))[j]?=some y->y≠ .gone->∀b,ρ1 b=j+1->ρ' b=j+1:=by
   intro j y hy SZ b No;have hjk:j∉id::qs:=by
    rcases iv hy with h|h
    ·exact absurd h SZ
    ·exact h.1
   have hnb:l9 L b=none:=by
    cases hi:l9 L b with
    |none=>rfl
    |some i=>
     exfalso;obtain⟨x,hx,rG⟩:=lZ hi;obtain⟨z0,_,RJ,U6,Nj⟩:=hu1.free b (by omega);rcases(ku b (kR hx rG)).1 with h|h
     ·have:=(aX.1 Nj).1;omega
     ·rcases qo.mem b h with h|⟨m,hm',hρ⟩
      ·obtain⟨m,hm',hΘ⟩:=xU b h;omega
      ·exact hjk (by
        have:j=m:=by omega
        rw[this];simp[hm'])
   simp only[ρ',hnb];exact No
  refine hs2.step k hm hn ?_ ?_ ?_ ⟨ρ',?_,?_,?_⟩
  ·intro i hi;simp only[af,wT,bL]at hi;simp only[κ'];rw[ar (by omega),bR (by omega)];rfl
  ·intro i u n8;simp only[κ']at n8;split at n8
   ·exact hs.j9 i u n8
   ·cases hx:L[i-N]? with
    |none=>simp[hx]at n8
    |some x=>simp[hx]at n8;subst n8;exact(CA x (aD hx)).2.2.2.2
  ·intro j y hj;rcases key j y hj with⟨i,x,rfl,hx,rfl⟩|⟨rfl,rfl⟩|⟨hji,hjl,hy|hy⟩
   ·exact .inr (.inr (Fs.rel (CA x (aD hx)) (mY i x hx) (fun g' hg'=>CH i x g' hx hg') (fun b hb'=>IP i x b hx hb') fun hs' b hb'=>GY b (RV x (aD hx) hs' b hb')))
   ·obtain⟨b5,r5,s5⟩:=a5 κ' mY.left;refine .inr (.inr (mh.QK pK NZ (hn _) (fun c0 u0 U8 c hc g2 Qx T2 hk2 Ff=>by
     subst U8;rw[hn _ _ hk0]at hk2;cases hk2;rw[kg]at Ff;cases Ff;obtain⟨z1,z2⟩:=NZ.1.2 c hc g cs T hk0 GS;exact⟨(MC z1).1,(MC z1).2.trans z2⟩) ⟨g,cs',T',hn _ _ hk0,kg,Pn,b5,r5,fun b hb=>GY b (by simp[s5 b hb])⟩))
   ·exact .inl hy
   ·exact .inr (.inl ⟨by omega,hy⟩)
  ·intro b hb;cases BC:l9 L b with
   |some i=>
    obtain⟨x,hx,rG⟩:=lZ BC;have hmem:=kR hx rG;refine⟨IP i x b hx rG,?_,(ku b hmem).2.2⟩;rcases(ku b hmem).1 with h|h
    ·exact .inl (.inl (eg hs.base h))
    ·rcases qo.mem b h with h|⟨m,hm',hρ⟩
     ·obtain⟨m,hm',hΘ⟩:=xU b h;exact .inl (hs1.mine b (by omega))
     ·exact(hu1.free b (by omega)).2.1
   |none=>
    simp only[ρ',BC]at hb;exact lF.1 b hb
  ·intro j e sz rows hj;rcases key j _ hj with⟨i,x,rfl,hx,hy⟩|⟨rfl,hy⟩|⟨hji,hjl,hy|hy⟩
   ·obtain⟨hsh,rfl,rfl,rfl⟩:=Fs.Au hy.symm;have q4:=(CA x (aD hx)).uq hsh;obtain⟨q1,q2,q3,_,_⟩:=CA x (aD hx);exact⟨x.v,x.cs,x.ns,mY i x hx,q3,q4,xe K4 hx,fun b hb'=>by simp only[ρ',sD K4 hx hb']⟩
   ·cases ob<;>simp[Ob.re]at hy
   ·cases hy
   ·obtain⟨v',c',bs',r1,r2,r3,r4,r5⟩:=lF.2.1 j e sz rows (by omega) hy;exact⟨v',c',bs',r1,r2,r3,r4,fun b hb'=>zE j _ hy (by simp) b (r5 b hb')⟩
  ·intro j y hj;rcases key j _ hj with⟨i,x,rfl,hx,hy⟩|⟨rfl,hy⟩|⟨hji,hjl,hy|hy⟩
   ·subst hy;exact Fs.plain x
   ·subst hy;cases ob<;>exact Az.ux rfl
   ·subst hy;trivial
   ·by_cases hg:y=.gone
    ·subst hg;trivial
    ·exact(lF.2.2 j y (by omega) hy).re (zE j y hy hg)
 rw[S8]at h;obtain⟨b6,r6,s6⟩:=c5 κ' (by rw[<-RT];exact mY.right);exact hK _ _ (h _ _ _ _ (hs'.set (t:=t) ht r6 fun b hb=>GY b (by simp[s6 b hb])))
def wo(P:Program)(f:FuncId)(ds cells:aG):Prop:=
 (∃fn,P.funcs[f]?=some fn/\fn.body.isSome=true/\(fn.name== "runtime.NumGoroutine")=false)/\
 ∀(w:World) (Θ:Nat->Nat) (args:aq) (bs:aH),B0 w (fun _=>False)->FK w args ds bs->(∀b∈bs,Θ b=0)->(∀b,Θ b≠0->b<w.heap.size)->(∀b,Θ b<=1)->
  Calls P f args.toArray w (fun e w'=>∃g cs T bs',e=.returned (.pointer (some ⟨g,0,none⟩))/\Below w.heap.size w w'/\w.heap.size<=g/\w'.heap[g]?=some (.cells cs T (0,0))/\gG w' cs.toList cells bs'/\
   ∀b∈bs',(b<w.heap.size->Θ b=0)/\b≠g)
def Oy(P:Program)(fn:Func)(cells:aG)(e:Exit)(st:St):Prop:=
 (e=.ret\/e=.normal)/\∃j,w9 P st fn.results.toList=some [.ptr j 0]/\st.H[j]?=some (.box cells)/\cells.all D.Cu=true
theorem wo.of{f:FuncId}{fn:Func}{c:Code}{ds cells:aG}(hf:P.funcs[f]?=some fn)(hb:fn.body=some c)(hn:(fn.name== "runtime.NumGoroutine")=false)
 (hl:ds.length<=fn.ntmps) (h:(∀d∈ds,n7 d)->∀Γ:lY,Γ.nt=fn.ntmps->AW P Γ c (Oy P fn cells) ⟨pV 0 ds,[]⟩):wo P f ds cells:=by
 refine⟨⟨fn,hf,by simp[hb],hn⟩,?_⟩;intro w Θ args bs hvs hargs hz hown h1;obtain⟨hlen,GQ⟩:=hargs.at;refine calls_of_wp hf hb ?_;let Γ:lY:=⟨w,Θ,fun _=>False,fn.ntmps,fun _=>False,hvs⟩
 have hs:cN Γ ⟨pV 0 ds,[]⟩ (fun _=>none) Θ {tmps:=args.toArray++Array.replicate (fn.ntmps-args.toArray.size) undef,defers:=[]} w:=by
  refine⟨rfl,?_,fun _ _=>rfl,by simp,?_,by simp,hown,fun b _ _=>⟨rfl,h1 b⟩,fun b hb=>by have:=h1 b;omega,⟨rfl,rfl,rfl,b8 _,fun _ _ _=>rfl⟩,⟨fun _=>0,by simp,by simp,by simp⟩⟩
  ·simp[Γ];omega
  ·intro t;rw[xY];simp only[oI,th,s8];cases hd:ds[t]? with
   |none=>exact⟨[],.of (.any _),by simp⟩
   |some x=>
    obtain⟨v,b,k1,k2,k3⟩:=GQ t x hd;refine⟨b,?_,fun y hy=>hz y (k3 y hy)⟩;have hlt:t<args.length:=(aB.1 k1).1;have:(args.toArray++Array.replicate (fn.ntmps-args.toArray.size) undef).getD t undef=v:=by
     rw[bM,dO (by simpa using hlt)];simp[k1]
    rw[this];exact .of k2
 refine wp_mono (h hargs.QO Γ rfl _ _ _ _ hs) ?_;rintro e a' w' ⟨B2,κ0,Θ0,hs0,ue,j,hres,hH,hp⟩;obtain⟨vs,bs',m1,m2,m3,m4,m5⟩:=vI hs0 hres;obtain⟨v,b,n1,n2,_⟩:=m4 0 _ rfl;obtain⟨g,hk,hv⟩:=n2.pF;obtain⟨g',cs,T,hk',hg,hΘ,bb,NM,hbz⟩:=hs0.ob j _ hH;rw[hk]at hk';cases hk';have SX:vs=[v]:=by
  simp only[aR,bC]at m3
  match vs,m2,n1 with
  | [],_,n1=>simp at n1
  | [x],_,n1=>simp at n1;rw[n1]
  |x::y::r,m2,_=>simp only[aR]at m2;omega
 have hrun:(results fn a'.tmps).run P w'=.ok (.pointer (some ⟨g,0,none⟩)) w':=by
  rw[results_eq,jM];simp[m1,SX,hv]
 have AP:Below w.heap.size w w':=⟨hs0.stays.os,hs0.stays.tape,hs0.stays.output,hs0.stays.size,fun b hb=>hs0.stays.block b hb (fun h=>h)⟩
 have Ru:w.heap.size<=g:=by
  rcases hs0.mine g (by omega)with q|q
  ·exact q
  ·exact q.elim
 have post:a'.defers=[]/\∃v,(results fn a'.tmps).run P w'=.ok v w'/\∃g cs T bs',Ending.returned v=.returned (.pointer (some ⟨g,0,none⟩))/\Below w.heap.size w w'/\w.heap.size<=g/\w'.heap[g]?=some (.cells cs T (0,0))/\gG w' cs.toList cells bs'/\
  ∀b∈bs',(b<w.heap.size->Θ b=0)/\b≠g:=by
  refine⟨hs0.defers,_,hrun,g,cs,T,bb,rfl,AP,Ru,hg,NM.pure hp,fun b hb'=>⟨fun hlt=>?_,fun e=>?_⟩⟩
  ·exact(hs0.old b hlt (fun h=>h)).1.symm.trans (hbz b hb')
  ·have:=hbz b hb';subst e;omega
 rcases ue with rfl|rfl
 ·exact post
 ·exact post
theorem HS{o:Oper}{f t:Nat}{xs:Array Operand}{ts:Array TypeId}{ds cells:aG}(hop:o.op=.call {callee:=.value (.func f),args:=xs,argTypes:=ts})(hd:o.dst=some t)(hg:o.guard=none)
 (ht:t<Γ.nt) (hds:vo st.H (xs.toList.map st.ev)=some (ds,[])) (iM:wo P f ds cells)
 (h:AO P Γ all rest Q ⟨(t,.ptr st.H.length 0)::st.σ,st.H++[.box cells]⟩):AO P Γ all (o::rest) Q st:=by
 intro κ Θ a w hs;obtain⟨bs,hargs,hz⟩:=zx hs hds;have oF:∀b∈bs,Θ b=0:=fun b hb=>(hz b hb).elim id (fun⟨m,h1,_⟩=>by cases h1)
 let Θc:Nat->Nat:=fun b=>if Θ b=0 then 0 else 1
 have qL:∀b,Θc b=0↔Θ b=0:=fun b=>by simp only[Θc];split<;>simp_all
 have hc:=iM.2 w Θc _ bs hs.Om hargs (fun b hb=>(qL b).2 (oF b hb)) (fun b hb=>hs.own b (fun e=>hb ((qL b).2 e))) (fun b=>by simp only[Θc];split<;>omega);refine wpList_plain hg fun K hK=>?_
 unfold Oper.wp;rw[nH hop iM.1,Oper.upon_enter];have e:xs.map a.eval=(xs.toList.map a.eval).toArray:=by rw[<-eB,fW]
 rw[e];refine hc.mono ?_;rintro e w' ⟨g,cs,T,bs',rfl,hb,hge,hg',hrd,NM⟩;show K (a.put o.dst (.pointer (some ⟨g,0,none⟩))) w';rw[hd];let Θ':Nat->Nat:=fun b=>if b=g then st.H.length+2 else Θ b
 have k:eT w w' Θ Θ' (st.H.length+2):=by
  refine⟨by omega,hb.os,hb.tape,hb.output,hb.size,fun b hlt _=>hb.block b hlt,fun b hlt _=>?_,fun b hb'=>?_⟩
  ·simp only[Θ'];rw[ar (by omega)]
  ·simp only[Θ']at hb';split at hb'
   ·rename_i e;subst e;exact(aX.1 hg').1
   ·exact bw (hs.own b hb') hb.size
 have hbz:∀b∈bs',Θ' b=0:=by
  intro b hb';obtain⟨h1,h2⟩:=NM b hb';simp only[Θ'];rw[ar h2];by_cases hlt:b<w.heap.size
  ·exact(qL b).1 (h1 hlt)
  ·cases h:Θ b with
   |zero=>rfl
   |succ m=>exact absurd (hs.own b (by omega)) hlt
 have hs':=hs.push (o:=.box cells) (v:=.pointer (some ⟨g,0,none⟩)) rfl k (hs.pL (fun b hb'=>by
  simp only[Θ']at hb';split at hb'
  ·rename_i e;subst e;exact .inr hge
  ·exact .inl hb')) ⟨g,cs,T,gQ _ _ _,hg',by simp[Θ'],bs',dA.sx hrd,hbz⟩ rfl
 refine hK _ _ (h _ _ _ _ (hs'.set (t:=t) (d:=.ptr st.H.length 0) (bs:=[]) ht ?_ (by simp)));exact(oz.ptr st.H.length 0 g (gQ _ _ _)).Bq
theorem KD{o:Oper}{T t id e e' sz h:Nat}{kk:IntKind}{x hi:Operand}{rows:List aG}(hop:o.op=.slice T x none (some hi) none)(hd:o.dst=some t)(hg:o.guard=none)(ht:t<Γ.nt)
 (hT:vJ P T=some (e',sz)) (hx:st.ev x=.acc id) (hH:st.H[id]?=some (.row .uq e sz rows)) (hhi:st.ev hi=.int kk (h:Int)) (hle:h<=rows.length)
 (hn:AO P Γ all rest Q ⟨(t,.acc st.H.length)::st.σ,kill st.H [id]++[.row .uq e sz (rows.take h)]⟩):AO P Γ all (o::rest) Q st:=by
 intro κ Θ a w hs;obtain⟨hsz,hrl,v,cs0,P6,hk,M3,Ut,uf,oF⟩:=hs.ob id _ hH;obtain⟨ρ,hu⟩:=hs.kx;obtain⟨v2,cs,bs,hk2,hown,hrd,hnd,hρ⟩:=hu.rows id e sz rows hH;rw[hk]at hk2;cases hk2;obtain⟨bx,rx,_⟩:=hs.ev x;rw[hx]at rx;obtain⟨PW,_⟩:=rx.mQ;have Fo:a.eval x=v:=by rw[hk]at PW;cases PW;rfl
 let v':Value:=match v with| .slice q _ cap=>.slice q h cap|u=>u
 have hc:o8 rows.length ((none:Option Operand).map st.ev) ((some hi).map st.ev)=some (0,h):=by
  simp[o8,hhi,hle]
 have hrun:∃q cap,v=.slice q rows.length cap/\v'=.slice q h cap/\(execOp a.eval o).run P w=.ok (.value v') w:=by
  obtain⟨n8,yc,xV⟩:=jA hT;have main:∀(q:Option Addr) (cap:Nat),(∀b off sp,q=some ⟨b,off,sp⟩->off=0/\sp=none)->v=.slice q rows.length cap->rows.length<=cap->(execOp a.eval o).run P w=.ok (.value (.slice q h cap)) w:=by
   intro q cap Pd hq hcap;obtain⟨hr,hl,hh⟩:=Cc (P:=P) (isSlice:=true) (cap:=cap) hs hcap hc;have UP:(if cap=0 then q else q.map (·.add (0*sz)))=q:=by
    split
    ·rfl
    ·cases q with
     |none=>rfl
     |some ad=>simp[Addr.add]
   simp only[oJ,bZ]at hr;simp only[execOp,hop,Fo,hq];simp[Instr.sliceAt,Instr.slice,run_underlying n8,hr,lT (P:=P) yc w];intro hc0;cases q with
   |none=>rfl
   |some ad=>simp[Addr.add]
  rcases hown.2 with⟨rfl,h0⟩|⟨g,cap,cur,rfl,_,CE,hnc,hcm,hcs,htk⟩
  ·exact⟨none,0,by rw[h0],rfl,main none 0 (by simp) (by rw[h0]) (by omega)⟩
  ·exact⟨some ⟨g,0,none⟩,cap,rfl,rfl,main _ _ (by simp) rfl hnc⟩
 obtain⟨q,cap,R4,Kj,hrun⟩:=hrun;have pK:v'.ownBlock=v.ownBlock:=by rw[Kj,R4];cases q<;>rfl
 have hone:v'.oneCell'=true:=by
  have:=hs.j9 id v hk;rw[R4]at this;rw[Kj];exact this
 have hsplit:∃cs' bs',w.ownsRow 0 e sz v' (rows.take h).length cs'/\ng w (mX e) 0 cs' (rows.take h).flatten bs'/\bs'.Nodup/\∀b∈bs',b∈bs:=by
  have e1:rows.flatten=(rows.take h).flatten++(rows.drop h).flatten:=by rw[<-fB,bK]
  have BG:=hrd;rw[e1]at BG;obtain⟨c1,c2,b1,b2,rfl,rfl,k1,k2⟩:=BG.split;have htl:(rows.take h).length=h:=by rw[bD];omega
  have hc1:c1.length=h*sz:=by rw[k1.length,iL (fun r hr=>hrl r (bQ hr)),htl]
  refine⟨c1,b1,?_,k1,(aZ.1 hnd).1,fun b hb=>by simp[hb]⟩;rw[htl];refine⟨hc1,?_⟩;rcases hown.2 with⟨Oe,h0⟩|⟨g,cap',cur,hvs,UR,CE,hnc,hcm,hcs,htk⟩
  ·left
   have:h=0:=by omega
   subst this;have e3:=Oe.symm.trans R4;simp only[Value.slice.injEq]at e3;exact⟨by rw[Kj,<-e3.1,<-e3.2.2],rfl⟩
  ·right
   have e3:=hvs.symm.trans R4;simp only[Value.slice.injEq]at e3;refine⟨g,cap',cur,by rw[Kj,<-e3.1,<-e3.2.2],UR,CE,by omega,hcm,hcs,?_⟩;have h3:(cur.toList.take (rows.length*sz)).take (h*sz)=(c1++c2).take (h*sz):=by rw[htk]
   rw[lH,cv (cx _ hle)]at h3;rw[h3];exact eY hc1
 obtain⟨cs',bs',p1,p2,p3,p4⟩:=hsplit;refine wpList_plain hg fun K hK=>?_
 unfold Oper.wp;rw[hrun,Oper.upon_value,hd];let n:=st.H.length
 have GV:id<n:=(aB.1 hH).1;let Θ':Nat->Nat:=fun b=>if some b=v'.ownBlock then n+2 else Θ b
 let ρ':Nat->Nat:=fun b=>if ρ b=id+1 then n+1 else ρ b
 have K3:∀g,v'.ownBlock=some g->Θ g=id+2:=fun g GU=>uf g (pK▸GU)
 have k:eT w w Θ Θ' (id+2):=by
  refine⟨by omega,rfl,rfl,rfl,b8 _,fun _ _ _=>rfl,fun b hb hne=>?_,fun b hb=>?_⟩
  ·simp only[Θ'];rw[ar fun e=>hne (K3 b e.symm)]
  ·simp only[Θ']at hb;split at hb
   ·rename_i e;exact hs.own b (by rw[K3 b e.symm];omega)
   ·exact hs.own b hb
 have hm:∀b,2<=Θ' b->oy Γ b:=by
  intro b hb;simp only[Θ']at hb;split at hb
  ·rename_i e;exact hs.mine b (by rw[K3 b e.symm];omega)
  ·exact hs.mine b hb
 have NY:=nj (hs.jN n (b8 _)) (some v');have lF:=hs.iw k NY hu;have zl:∀b∈bs',Θ' b=0:=by
  intro b hb;have h1:=(hu.free b (by rw[hρ b (p4 b hb)];omega)).1;simp only[Θ'];rw[ar fun e=>by have:=K3 b e.symm;omega];exact h1
 have key:∀(j:Nat) y,(kill st.H [id]++[.row .uq e sz (rows.take h)])[j]?=some y->(j=n/\y=.row .uq e sz (rows.take h))\/(j≠n/\(y=.gone\/(j∉[id]/\st.H[j]?=some y))):=by
  intro j y hj;rcases rV j y hj with⟨h1,h2⟩|⟨h1,h2⟩
  ·rw[dH]at h1;exact .inl ⟨h1,h2⟩
  ·rw[dH]at h1;exact .inr ⟨h1,iv h2⟩
 have hs':cN Γ ⟨st.σ,kill st.H [id]++[.row .uq e sz (rows.take h)]⟩ (oG κ n (some v')) Θ' a w:=by
  refine hs.step k hm NY ?_ ?_ ?_ ⟨ρ',fun b hb=>?_,fun j e2 EH dF hj=>?_,fun j y hj=>?_⟩
  ·intro i hi;simp only[af,aR,bC,dH]at hi;unfold oG;rw[ar (by omega)];exact hs.jN i (by omega)
  ·intro i y hy;unfold oG at hy;split at hy
   ·cases hy;exact hone
   ·exact hs.j9 i y hy
  ·intro j y hj;rcases key j y hj with⟨rfl,rfl⟩|⟨_,hy|⟨hjk,hy⟩⟩
   ·exact .inr (.inr ⟨hsz,fun r hr=>hrl r (bQ hr),v',cs',bs',gQ _ _ _,p1,p2.rd,fun g GU=>by simp only[Θ'];rw[bG GU.symm],zl⟩)
   ·exact .inl hy
   ·exact .inr (.inl ⟨fun e=>hjk (by simp;omega),hy⟩)
  ·refine lF.1 b fun h0=>hb ?_
   simp only[ρ'];rw[ar (by omega)];exact h0
  ·rcases key j _ hj with⟨rfl,hy⟩|⟨_,hy|⟨hjk,hy⟩⟩
   ·simp only[Ob.row.injEq,pS]at hy;obtain⟨rfl,rfl,rfl⟩:=hy;exact⟨v',cs',bs',gQ _ _ _,p1,p2,p3,fun b hb=>by simp only[ρ'];rw[bG (hρ b (p4 b hb))]⟩
   ·cases hy
   ·obtain⟨v3,c3,b3,q1,q2,q3,q4,q5⟩:=lF.2.1 j e2 EH dF (fun e=>hjk (by simp;omega)) hy;refine⟨v3,c3,b3,q1,q2,q3,q4,fun b hb=>?_⟩;have hne:j≠id:=fun e=>hjk (by simp[e])
    simp only[ρ'];rw[ar (by rw[q5 b hb];omega)];exact q5 b hb
  ·rcases key j _ hj with⟨rfl,hy⟩|⟨_,hy|⟨hjk,hy⟩⟩
   ·subst hy;exact Az.ux rfl
   ·subst hy;trivial
   ·refine(lF.2.2 j y (fun e=>hjk (by simp;omega)) hy).re fun b hb=>?_
    have hne:j≠id:=fun e=>hjk (by simp[e])
    simp only[ρ'];rw[ar (by omega)];exact hb
 refine hK _ _ (hn _ _ _ _ (hs'.set (t:=t) (d:=.acc n) (bs:=[]) ht ?_ (by simp)));exact(oz.acc n _ (gQ _ _ _)).Bq
end
end Go.Cx
namespace Go.Cx
open Go.RowKit
section
variable{P:Program}{Γ:lY}{Q:Exit->St->Prop}{st:St}{κ κ':Nat->Option Value}{Θ Θ':Nat->Nat}{a:Act}{w w':World}{all:Array Oper}{rest:List Oper}
theorem cN.O5(hs:cN Γ st κ Θ a w):
 cN Γ ⟨st.σ,st.H++[.mp []]⟩ (oG κ st.H.length (some (.map (some w.heap.size)))) (fun b=>if b=w.heap.size then st.H.length+2 else Θ b) a (w.alloc (.map #[] 0)):=by
 have k:=eT.alloc hs (.map #[] 0) (tag:=st.H.length+2) (by omega);refine hs.push rfl k (hs.pL (fun b hb=>by by_cases e:b=w.heap.size<;>simp_all)) ?_ rfl;exact⟨w.heap.size,#[],0,by simp[oG],heap_alloc_new w _,by simp,rfl,by simp⟩
theorem EJ{o:Oper}{T t:Nat}(hop:o.op=.makeMap T none)(hd:o.dst=some t)(hg:o.guard=none)(ht:t<Γ.nt)
 (h:AO P Γ all rest Q ⟨(t,.acc st.H.length)::st.σ,st.H++[.mp []]⟩):AO P Γ all (o::rest) Q st:=by
 intro κ Θ a w hs;have hs':=hs.O5;refine wpList_plain hg fun K hK=>?_
 unfold Oper.wp;have hrun:(execOp a.eval o).run P w=.ok (.value (.map (some w.heap.size))) (w.alloc (.map #[] 0)):=by
  simp[execOp,hop,Instr.makeMap,newObj];rfl
 rw[hrun,Oper.upon_value,hd];refine hK _ _ (h _ _ _ _ (hs'.set (t:=t) (d:=.acc st.H.length) (bs:=[]) ht ?_ (by simp)));exact(oz.acc st.H.length _ (gQ _ _ _)).Bq
theorem oa.push{es:List MapEntry}{kv:List (D×D)}{k v:D}{u x:Value}(h:oa w es kv)(hk:Rd w u k [])(hv:Rd w x v [])(c:Nat):oa w (es++[{key:=u,val:=x,born:=c}]) (kv++[(k,v)]):=by
 refine⟨by simp[h.1],fun j e p h1 h2=>?_⟩;by_cases hj:j<es.length
 ·rw[aS hj]at h1;rw[aS (by rw[<-h.1];exact hj)]at h2;exact h.2 j e p h1 h2
 ·rw[aV (by omega)]at h1;rw[aV (by rw[<-h.1];omega),<-h.1]at h2;have e0:j-es.length=0:=by
   have:=(aB.1 h1).1;simp at this;omega
  rw[e0]at h1 h2;simp at h1 h2;subst h1;subst h2;exact⟨hk,hv⟩
theorem oa.put{es:List MapEntry}{kv:List (D×D)}{k v:D}{u x:Value}(h:oa w es kv)(hk:Rd w u k [])(hv:Rd w x v [])(i:Nat){es':List MapEntry}(hl:es'.length=es.length)
 (he:∀(j:Nat) e,es'[j]?=some e->(j=i/\e.key=u/\e.val=x)\/(j≠i/\es[j]?=some e)):oa w es' (kv.set i (k,v)):=by
 refine⟨by simp[hl,h.1],fun j e p h1 h2=>?_⟩;rcases he j e h1 with⟨rfl,h3,h4⟩|⟨hne,h3⟩
 ·have hlt:j<kv.length:=by
   have:=(aB.1 h2).1;simpa using this
  rw[cI hlt]at h2;cases h2;rw[h3,h4];exact⟨hk,hv⟩
 ·rw[bH (kE hne)]at h2;exact h.2 j e p h3 h2
theorem O0{kd:TypeDesc}{k v:D}{u:Value}(BD:ye kd k=true)(hu:Rd w u k []):∀ {es:List MapEntry} {kv kv':List (D×D)} (i:Nat),oa w es kv->Ba k v kv=some kv'->
 (Instr.findNow kd u es i=some none/\kv'=kv++[(k,v)])\/∃j x e,Instr.findNow kd u es i=some (some (i+j,x))/\es[j]?=some e/\e.key=u/\kv'=kv.set j (k,v):=by
 intro es
 induction es with
 |nil=>
  intro kv kv' i hr h;cases kv with
  |nil=>cases h;exact .inl ⟨rfl,rfl⟩
  |cons p kv=>exact absurd hr.1 (by simp)
 |cons e es ih=>
  intro kv kv' i hr h;cases kv with
  |nil=>exact absurd hr.1 (by simp)
  |cons p kv=>
   obtain⟨r1,r2,r3⟩:=hr.cons;simp only[Ba]at h;split at h
   ·rename_i hq;cases h;have:=zm BD hu r1 hq;exact .inr ⟨0,e.val,e,by simp[Instr.findNow,this.1],rfl,this.2 rfl,rfl⟩
   ·rename_i hq;have BF:=(zm BD hu r1 hq).1;cases hk:Ba k v kv with
    |none=>rw[hk]at h;cases h
    |some Vq=>
     rw[hk]at h;cases h;rcases ih (i+1) r3 hk with⟨h1,h2⟩|⟨j,x,e',h1,h2,h3,h4⟩
     ·exact .inl ⟨by simpa[Instr.findNow,BF]using h1,by rw[h2];rfl⟩
     ·exact .inr ⟨j+1,x,e',by simp only[Instr.findNow,BF];rw[h1];congr 3;omega,by simpa using h2,h3,by rw[h4];rfl⟩
   ·cases h
theorem Cf{kd:TypeDesc}{u:Value}(h:MapKept.IsKey kd u)(n:Nat):Instr.sameBits n u u=true:=by
 cases kd<;>cases u<;>simp[MapKept.IsKey]at h<;>simp[Instr.sameBits]
 all_goals first
  |exact(MapKept.bytes_beq _ _).2 rfl
  |rfl
def D.scalar:D->Bool
 | .str _=>true
 | .int _ _=>true
 | .bool _=>true
 |_=>false
theorem E5{v:Value}{d:D}{bs:aH}(hd:d.scalar=true)(hu:kF w κ v d bs):Rd w v d []:=by
 cases d<;>simp[D.scalar]at hd
 all_goals cases hu with|v h=>cases h with|cell h=>cases h with|pure h=>cases h<;>(constructor<;>assumption)
theorem By{o:Oper}{T id:Nat}{x i y:Operand}{kd:TypeDesc}{dz:D}{kv kv':List (D×D)}(hop:o.op=.mapUpdate T x i y)(hd:o.dst=none)(hg:o.guard=none)
 (hT:Jm P T=some (kd,dz)) (hx:st.ev x=.acc id) (hH:st.H[id]?=some (.mp kv)) (BD:ye kd (st.ev i)=true) (hsc:(st.ev y).scalar=true) (hput:Ba (st.ev i) (st.ev y) kv=some kv')
 (h:AO P Γ all rest Q ⟨st.σ,st.H.set id (.mp kv')⟩):AO P Γ all (o::rest) Q st:=by
 intro κ Θ a w hs;obtain⟨g,es,c,q1,q2,q3,q4⟩:=hs.ob id _ hH;obtain⟨bs,r,_⟩:=hs.ev x;rw[hx]at r;obtain⟨hk,_⟩:=r.mQ;rw[q1]at hk;have Nl:a.eval x=.map (some g):=(mP hk).symm;obtain⟨bi,ri,_⟩:=hs.ev i;obtain⟨Vj,ry,_⟩:=hs.ev y;have hu:=BZ BD ri;have hv:=E5 hsc ry;obtain⟨kt,et,z,t1,t2,t3,t4⟩:=Aq hT;have hik:=DY BD hu;have NQ:=MapKept.run_checkKey (P:=P) (w:=w) t2 hik false 9999;have Rt:g<w.heap.size:=(aX.1 q2).1;have GV:id<st.H.length:=(aB.1 hH).1;have hrun:∃es' c',(execOp a.eval o).run P w=.ok .skip {w with heap:=w.heap.setIfInBounds g (.map es' c')}/\oa w es'.toList kv':=by
  rcases O0 BD hu 0 q4 hput with⟨hn,rfl⟩|⟨j,x',e,hn,he,Qz,rfl⟩
  ·have IC:=MapKept.run_findKey (P:=P) (w:=w) t2 hn;refine⟨es.push {key:=a.eval i,val:=a.eval y,born:=c},c+1,?_,?_⟩
   ·simp[execOp,hop,Nl,Instr.mapUpdate,run_underlying t1,MapKept.run_getObj_map q2,NQ,IC,MapKept.run_setObj_map _ q2]
   ·rw[Array.toList_push];exact q4.push hu hv c
  ·rw[bq]at hn;have IC:=MapKept.run_findKey (P:=P) (w:=w) t2 hn;have TE:es[j]?=some e:=by simpa using he
   have hst:(Instr.keyThatStays (((es[j]?).map (·.key)).getD (a.eval i)) (a.eval i)).run P w=.ok (a.eval i) w:=by
    rw[TE];simp[Instr.keyThatStays,Qz,Cf hik]
   refine⟨es.modify j fun e=> {e with key:=a.eval i,val:=a.eval y},c,?_,?_⟩
   ·simp[execOp,hop,Nl,Instr.mapUpdate,run_underlying t1,MapKept.run_getObj_map q2,NQ,IC,hst,MapKept.run_setObj_map _ q2]
   ·refine q4.put hu hv j (by simp) fun m e' hm=>?_
    rw[gh,nI]at hm;by_cases S6:j=m
    ·subst S6;rw[bG rfl,TE]at hm;cases hm;exact .inl ⟨rfl,rfl,rfl⟩
    ·rw[ar S6]at hm;exact .inr ⟨kE S6,by simpa using hm⟩
 obtain⟨es',c',hr,SG⟩:=hrun;have Na:∀b,b≠g->(w.heap.setIfInBounds g (.map es' c'))[b]?=w.heap[b]?:=fun b hb=>by simp[kE hb]
 have k:eT w {w with heap:=w.heap.setIfInBounds g (.map es' c')} Θ Θ (id+2):=by
  refine⟨by omega,rfl,rfl,rfl,by simp,fun b hb hne=>Na b fun e=>hne (e▸q3),fun _ _ _=>rfl,fun b hb=>?_⟩;simpa using hs.own b hb
 have hs':cN Γ ⟨st.σ,st.H.set id (.mp kv')⟩ κ Θ a {w with heap:=w.heap.setIfInBounds g (.map es' c')}:=by
  obtain⟨ρ,n8⟩:=hs.kx;have lF:=hs.iw k (fun _ _ h=>h) n8;refine hs.step k hs.mine (fun _ _ h=>h) (fun i hi=>hs.jN i (by simpa using hi)) hs.j9 ?_ ⟨ρ,lF.1,fun j e sz rows hj=>?_,fun j y hj=>?_⟩
  ·intro j y' hj;by_cases e:j=id
   ·subst e;rw[cI GV]at hj;cases hj;exact .inr (.inr ⟨g,es',c',q1,by simp[Rt],q3,SG.stay⟩)
   ·rw[bH (kE e)]at hj;exact .inr (.inl ⟨by omega,hj⟩)
  ·by_cases e':j=id
   ·subst e';rw[cI GV]at hj;cases hj
   ·rw[bH (kE e')]at hj;exact lF.2.1 j e sz rows (by omega) hj
  ·by_cases e':j=id
   ·subst e';rw[cI GV]at hj;cases hj;trivial
   ·rw[bH (kE e')]at hj;exact lF.2.2 j y (by omega) hj
 refine wpList_plain hg fun K hK=>?_
 unfold Oper.wp;rw[hr,Oper.upon_skip,hd];exact hK _ _ (h _ _ _ _ hs')
end
end Go.Cx
